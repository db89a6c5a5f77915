/-
  A part of the proof.
-/
import Derived.Test.YtijnokbblmbpkaaGreatDoorH10
import Derived.Test.YtijnokbblmbpkaaGreatDoorH5
import Derived.Test.YtijnokbblmbpkaaGreatDoorH4
import Derived.Test.YtijnokbblmbpkaaGreatDoorH7
import Derived.Test.YtijnokbblmbpkaaGreatDoorH6
import Derived.KernelRfl
import Derived.Test.YtijnokbblmbpkaaGreatDoorProg
import Derived.Shelf.SlMaps.Clone
import Derived.Shelf.Lay
import Derived.Test.YtijnokbblmbpkaaGreatDoorH9
import Derived.Test.YtijnokbblmbpkaaGreatDoorH3
set_option linter.all false
set_option maxHeartbeats 20000000
set_option maxRecDepth 100000
namespace Go.Proofs.YtijnokbblmbpkaaGreatDoor
open Go Go.V
def aab {U Vs q w L M}(s:Sat w (L++M))(m:kC.own q 9∈L)(j:∀x∈WK U Vs,x∈M):q∉U.map UC.q:=by
 intro g;obtain⟨u,A,rfl⟩:=QO.1 g;have d:=s.nodup;rw[QC,QW]at d;have h:kC.own u.q 9∈WK U Vs:=Zw _ (QN.2 ⟨u,A,QL ..⟩);exact d.2.2 _ (QO.2 ⟨_,m,rfl⟩) _ (QO.2 ⟨_,j _ h,rfl⟩) rfl
def Ba(X:Fix)(vk l1 l2 l3 l4 l5:Value)(vn:Value)(a5 ae:List ByteArray)(av tv:Value)(bI:dU X.S av a5)(bL:dU X.S tv ae)(ak:List Nd)(a:Option Addr)(Z bk ko:Nat)(ks:Nat->List Value)(GA:ak.length < 1073741824)(ha:0 < ak.length->a=some ⟨bk,ko,none⟩)(hm:∀i,i < ak.length->∀y∈kA bk (ko+i*11) (ks i),y∈X.S)(hr:∀i x,ak[i]? =some x->jD X.S x (ks i))(aR:∀i x,ak[i]? =some x->qq X x (ks i))(p:Int)
 (st:ai) (us:Value) (bM:List Value) (U:List UC) (Vs:List aC) (T:List kC) (j:lf st us bM U Vs T) (o:Int) (ho:-1<=o/\o < st.a7.length) (a6:List Nat) (b:Nat) (es:Array MapEntry) (c:Nat) (hs:zX st Vs a6 es c) (H7:∀v∈a6,∃i:Nat,o=i/\st.ah v∈st.line i) (bn:yP st (cW a5 ae (kf ak))):
 jr Tryz.prog 49 [kE X.wq,.agg #[vk,vn,l1,l2,l3,l4,l5,av,tv,.slice a ak.length Z,.int .i64 p],kN (oC U o),.map (some b)]
  [kA X.wq 0 [.map (some X.fb),.map (some X.gb),us],aj us (U.map λu=>kN (some u.q)) bM,[.obj X.fb (.map X.bS X.fc)],[.obj X.gb (.map X.bW X.gc)],WK U Vs,T,[.obj b (.map es c)],X.S]
  (λv dl=>∃Z5 Y6 Y pG T',(lf (iD X.F X.G a5 ae ak p st a6 o) Z5 Y6 Y pG T'/\U.map UC.q <+:Y.map UC.q/\Vs.map aC.q <+:pG.map aC.q/\∃w,Y[st.a7.length]? =some w/\v=kE w.q)/\
    dl=[kA X.wq 0 [.map (some X.fb),.map (some X.gb),Z5],aj Z5 (Y.map λu=>kN (some u.q)) Y6,[.obj X.fb (.map X.bS X.fc)],[.obj X.gb (.map X.bW X.gc)],WK Y pG,T',[.obj b (.map es c)],X.S])
  (λch dl=>∃q e p',(iD X.F X.G a5 ae ak p st a6 o).f=some (e,p')/\ch=qQ q/\dl=[X.S,jT q e p']):=by
 obtain⟨ua,uc,re⟩:=j.sl.form;have aM:=j.sl;subst re;have UL:=bI;have GP:=bL;obtain⟨aa,Nu,rfl,oU,eS⟩:=bI;obtain⟨ta,ON,rfl,sr,N8⟩:=bL;have S9:=j.rep.ul;have hUl:U.length=(U.map λu=>kN (some u.q)).length:=by simp
 obtain⟨r1,r2,r3⟩:=bn;simp only[cW]at r1 r2 r3;obtain⟨Q,hpa⟩:∃Q,kN (oC U o)=.pointer Q:=by cases oC U o<;>exact⟨_,rfl⟩
 rw[hpa];refine jr.intro low49 Zn9 ?_;refine af ?_;refine kZ Zr (λq5=>?_);simp only[Value.cells];refine af ?_;refine lN (λd=>?_);refine af ?_;refine st_boxO Zr (λq=>?_);simp only[Value.cells];refine VO.know (φ:=q∉U.map UC.q) (λw F lD=>?_) (λur=>?_)
 .refine aab (Vs:=Vs) (L:=_) (M:=_) (by rw[Vd,vj]at lD;exact lD) (QL ..) (λx J=>?_);simp[J]
 refine VO.imp (H':=[[.own q 9],kA q 0 [vi 0,vi 0,vi 0,.pointer Q,vi U.length,Nz,.map (some d),Nz,Nz],[.obj d (.map #[] 0)],kA q5 0 [vk,vn,l1,l2,l3,l4,l5,.slice aa a5.length Nu,.slice ta ae.length ON,.slice a ak.length Z,vi p],
  kA X.wq 0 [.map (some X.fb),.map (some X.gb),.slice ua U.length uc],aj (.slice ua U.length uc) (U.map λu=>kN (some u.q)) bM,xf1 X,xg1 X,WK U Vs,T,[.obj b (.map es c)],X.S]) (ap.perm Zs) ?_
 refine af ?_;refine kJ (λk9=>?_);refine af ?_;refine kV (out:=[kE q]) Zr Zr (λr=>?_);refine kX (k:=U.length) (m:=1) (xs:=U.map λu=>kN (some u.q)) (sp:=bM) (ys:=[kE q]) Zr Zr aM ZK Zr ?_ rfl Zr Zr Zd Zo (λbZ bf ax=>?_)
 .exact l9
 obtain⟨s,B,rfl⟩:=ax.form;have cf:(U.map λu=>kN (some u.q))++[kE q]=(U++[CS q a5.length (oC U o) st.a7.length d]).map λu=>kN (some u.q):=by simp[kN,CS]
 rw[cf]at ax|-;refine af ?_;have hR1:di (st.aF o a5.length) (U++[CS q a5.length (oC U o) st.a7.length d]) Vs:=j.rep.aF ho ur;obtain⟨g,N⟩:∃g,g=U++[CS q a5.length (oC U o) st.a7.length d]:=⟨_,rfl⟩;have Ia:(g.map UC.q)[st.a7.length]? =some q:=by
  rw[N,QC,Vl (by rw[Q6,S9];exact Qs _),Q6,S9,Qy];rfl
 have H8:(st.aF o a5.length).a5.getD st.a7.length 0=a5.length:=by
  show(st.a5++[a5.length]).getD st.a7.length 0=a5.length;rw[Vh,<- j.rep.wf.al,Vl (Qs _),Qy];rfl
 have ZS:(st.aF o a5.length).a7.length=st.a7.length+1:=by unfold ai.aF;simp
 have hwk1:(WK g Vs).Perm ([.own q 9]++(kA q 0 [vi a5.length,vi 0,vi 0,.pointer Q,vi U.length,Nz,.map (some d),Nz,Nz]++([.obj d (.map #[] 0)]++WK U Vs))):=by
  rw[N];refine(Zj U Vs _).trans ?_;have e:(CS q a5.length (oC U o) st.a7.length d).atoms=.own q 9::(kA q 0 [vi a5.length,vi 0,vi 0,.pointer Q,vi U.length,Nz,.map (some d),Nz,Nz]++[.obj d (.map #[] 0)]):=by
   unfold UC.atoms UC.row CS;simp only[hpa,S9,aj,QV];rfl
  rw[e];simp
 rw[<- N]at hR1 ax|-;refine VO.imp (H':=[kA k9 0 [kE q],WK g Vs,[.obj b (.map es c)],X.S,kA q5 0 [vk,vn,l1,l2,l3,l4,l5,.slice aa a5.length Nu,.slice ta ae.length ON,.slice a ak.length Z,vi p],kA X.wq 0 [.map (some X.fb),.map (some X.gb),.slice s (U.length+1) B],aj (.slice s (U.length+1) B) (g.map λu=>kN (some u.q)) bf,xf1 X,xg1 X,T]) ?_ ?_
 .refine ap.cut (M:=[kA k9 0 [kE q],[.own q 9],kA q 0 [vi a5.length,vi 0,vi 0,.pointer Q,vi U.length,Nz,.map (some d),Nz,Nz],[.obj d (.map #[] 0)],WK U Vs,[.obj b (.map es c)],X.S,kA q5 0 [vk,vn,l1,l2,l3,l4,l5,.slice aa a5.length Nu,.slice ta ae.length ON,.slice a ak.length Z,vi p],kA X.wq 0 [.map (some X.fb),.map (some X.gb),.slice s (U.length+1) B],aj (.slice s (U.length+1) B) (g.map λu=>kN (some u.q)) bf,xf1 X,xg1 X,T]) ZI (ap.perm ?_);have h:=λR=>(vZ R hwk1).symm
  simp only[vj]at h;simp only[Vd,Ve,vm];exact vY _ (h _)
 have Ay:zX (st.aF o a5.length) Vs a6 es c:=hs.more (Qf _) (Qf _) j.rep.vl;have iK:∀e:Nat×Int,(bq a5 ae p st a6 o).1.f=some e->(iD X.F X.G a5 ae ak p st a6 o).f=some e:=λe C=>by
  rw[wu];exact(wa X.F X.G ak _ _ _).f e C
 have UM:∀e:Nat×Int,(kO st.a7.length true true p a5 0 (st.aF o a5.length) a6).1.f=some e->(iD X.F X.G a5 ae ak p st a6 o).f=some e:=λe C=>iK e (tV st.a7.length false true p ae 0 _ _ C)
 refine kM (pE X.S st.a7.length a5.length true true p a5 (.slice aa a5.length Nu) UL (.func (.func 109) #[] #[kE k9]) (λ_ A=>A=kA k9 0 [kE q]) (st.aF o a5.length) g Vs (mk_arg _ st.a7.length a5.length q k9 Ia Zo) hR1 (by rw[ZS];omega) H8 j.ok (by show st.vars.length+a5.length<_;omega) _ rfl a6 b es c Ay) Zr ZP (λv dl hv=>?_) (λch dl hz=>?_);rotate_left
 .obtain⟨KQ,q1,rfl,rfl⟩:=hz;exact⟨[X.S,jT q1 180 p],ZI,q1,180,p,UM _ KQ,rfl,rfl⟩
 obtain⟨b2,HZ,c2,U2,V2,A2,⟨Gv,rfl,NU,lY,mo,sj,Al,rfl⟩,rfl⟩:=hv;simp only[aE];refine af ?_;obtain⟨g1,g2,g3,g4⟩:=jO st.a7.length true true p a5 0 (st.aF o a5.length) a6;refine kM (pE X.S st.a7.length a5.length false true p ae (.slice ta ae.length ON) GP (.func (.func 110) #[] #[kE k9]) (λ_ A=>A=kA k9 0 [kE q]) _ U2 V2 (mk_temp _ st.a7.length a5.length q k9 ae.length (by rw[lY];exact Ia)) NU (by rw[g1,ZS];omega) (by rw[g2];exact H8) Gv (by rw[g4];show st.vars.length+a5.length+ae.length<_;omega) _ rfl _ b2 HZ c2 Al) Zr ZP (λv dl hv=>?_) (λch dl hz=>?_);rotate_left
 .obtain⟨KQ,q1,rfl,rfl⟩:=hz;exact⟨[X.S,jT q1 180 p],ZI,q1,180,p,iK _ KQ,rfl,rfl⟩
 obtain⟨b3,es3,c3,U3,V3,A3,⟨hf3,rfl,H,Mg,NX,hp3,Wi,rfl⟩,rfl⟩:=hv;simp only[aE];obtain⟨d1,d2,d3,d4⟩:=jO st.a7.length false true p ae 0 (kO st.a7.length true true p a5 0 (st.aF o a5.length) a6).1 (kO st.a7.length true true p a5 0 (st.aF o a5.length) a6).2;have aW:kO st.a7.length false true p ae 0 (kO st.a7.length true true p a5 0 (st.aF o a5.length) a6).1 (kO st.a7.length true true p a5 0 (st.aF o a5.length) a6).2=bq a5 ae p st a6 o:=rfl;have xD:∀v∈(bq a5 ae p st a6 o).2,(bq a5 ae p st a6 o).1.ah v∈(bq a5 ae p st a6 o).1.line st.a7.length:=λv hv=>by
  have hwf3:Wf (bq a5 ae p st a6 o).1:=H.wf;have S8:(bq a5 ae p st a6 o).1.a7=(st.aF o a5.length).a7:=d1.trans g1;have I:=hwf3.line (u:=st.a7.length) (by rw[S8,ZS];omega);have oj:st.a7.length∈(bq a5 ae p st a6 o).1.line st.a7.length:=by rw[I];exact QL ..
  have Mb:∀v∈a6,v<(st.aF o a5.length).vars.length:=λv hv=>hs.lt v hv
  have Ae:∀v∈(kO st.a7.length true true p a5 0 (st.aF o a5.length) a6).2,v<(kO st.a7.length true true p a5 0 (st.aF o a5.length) a6).1.vars.length:=λv hv=>(zm _ _ _ _ _ _ _ _ Mb v hv).1
  obtain⟨_,hk⟩:=zm st.a7.length false true p ae 0 _ _ Ae v hv;rcases hk with⟨sg,Ca⟩|hk
  .obtain⟨_,tA⟩:=zm st.a7.length true true p a5 0 _ _ Mb v sg;rcases tA with⟨hk4,hk5⟩|tA
   .obtain⟨i,hi1,Gx⟩:=H7 v hk4;have C:(bq a5 ae p st a6 o).1.ah v=st.ah v:=Ca.trans hk5;have S0:(bq a5 ae p st a6 o).1.a7.getD st.a7.length (-1)=o:=by
     rw[S8];show(st.a7++[o]).getD st.a7.length (-1)=o;exact zCR
    rw[S0,if_neg Zo,show o.toNat=i by omega]at I;have hli:(bq a5 ae p st a6 o).1.line i=st.line i:=by
     have:=j.rep.wf.sF (n:=a5.length) ho i Zo;rw[<- this];unfold ai.line;rw[S8]
    rw[C,I,hli];exact QK _ Gx
   .have C:(bq a5 ae p st a6 o).1.ah v=st.a7.length:=Ca.trans tA;rw[C];exact oj
  .have C:(bq a5 ae p st a6 o).1.ah v=st.a7.length:=hk;rw[C];exact oj
 rw[aW]at hf3 H Wi d1 d2 d3 d4;have ZD:lf (bq a5 ae p st a6 o).1 (.slice s (U.length+1) B) bf U3 V3 T:=by
  have hqq:U3.map UC.q=g.map UC.q:=Mg.trans lY;have hbb:U3.map UC.body=g.map UC.body:=NX.trans mo;have Cc:U3.length=U.length+1:=by
   have:=congrArg List.length hqq;rw[Q6,Q6,N,Vz]at this;exact this
  have D:∀W:List UC,(W.map λu=>kN (some u.q))=(W.map UC.q).map λb=>kN (some b):=λW=>by rw[QF];rfl
  refine⟨H,hf3,?_,λi w hw=>?_⟩
  .rw[Cc,D,hqq,<- D];exact ax
  .have cM:(g.map UC.body)[i]? =some w.body:=by rw[<- hbb,Vu,hw];rfl
   have L3:(bq a5 ae p st a6 o).1.a8=st.a8++[[]]:=d3.trans g3;rw[L3];rw[Vu]at cM;obtain⟨w1,O,hwb⟩:=X5.1 cM;rw[N,Vi]at O;split at O
   .rename_i hi;rw[dt (by rw[j.rep.wf.bl,<- S9];exact hi),<- hwb];exact(j.bod i w1 O).more (λx J=>J) (sj.trans hp3)
   .rename_i hi;have H6:=(Vt.1 O).1;simp only[QA]at H6;have e:i=st.a8.length:=by rw[j.rep.wf.bl];omega
    have e2:i-U.length=0:=by omega
    rw[e2]at O;have hw1':CS q a5.length (oC U o) st.a7.length d=w1:=by simpa using O
    rw[<- hwb,<- hw1',e,Vh,Vl (Qs _),Qy];exact xZ.nil _ _
 have oi:yP (bq a5 ae p st a6 o).1 (kf ak):=by
  have h1:yE st (bq a5 ae p st a6 o).1 (1+(a5.length+ae.length)):=(uD st o a5.length).trans ((w7 _ _ _ _ _ _ _ _).trans (w7 _ _ _ _ _ _ _ _));obtain⟨K,k2,k3⟩:=h1;exact⟨Zo,Zo,Zo⟩
 obtain⟨w3,ss,hwq3⟩:∃w,U3[st.a7.length]? =some w/\w.q=q:=mZ rfl (by rw[Mg,lY];exact Ia);have aw:=A5 X ak a Z bk ko ks GA ha hm hr aR _ _ _ _ _ _ ZD st.a7.length w3 ss _ b3 es3 c3 Wi xD oi;rw[hwq3]at aw;have Mi:(U3.map λu=>kN (some u.q))=g.map λu=>kN (some u.q):=by
  have D:∀W:List UC,(W.map λu=>kN (some u.q))=(W.map UC.q).map λb=>kN (some b):=λW=>by rw[QF];rfl
  rw[D,Mg.trans lY,<- D]
 have hend:∀(ng:Value) (dR:List Value) (U4:List UC) (V4:List aC) (T4:List kC) (rows:List (List Value)) (uV:List Value) (B5:List kC) (va:Option Addr) (vc:Nat) (w4:UC),lf (kQ X.F X.G ak (bq a5 ae p st a6 o).1 (bq a5 ae p st a6 o).2 st.a7.length).2 ng dR U4 V4 T4->ke 13 (.slice va (kQ X.F X.G ak (bq a5 ae p st a6 o).1 (bq a5 ae p st a6 o).2 st.a7.length).1.length vc) (kQ X.F X.G ak (bq a5 ae p st a6 o).1 (bq a5 ae p st a6 o).2 st.a7.length).1.length rows.flatten uV->zz B5 (V4.map aC.q) (kQ X.F X.G ak (bq a5 ae p st a6 o).1 (bq a5 ae p st a6 o).2 st.a7.length).1 rows->U4[st.a7.length]? =some w4->w4.q=q->U3.map UC.q <+:U4.map UC.q->V3.map aC.q <+:V4.map aC.q->
  lf (iD X.F X.G a5 ae ak p st a6 o) ng dR (U4.set st.a7.length {w4 with body:=.slice va (kQ X.F X.G ak (bq a5 ae p st a6 o).1 (bq a5 ae p st a6 o).2 st.a7.length).1.length vc}) V4 (T4++(aj (.slice va (kQ X.F X.G ak (bq a5 ae p st a6 o).1 (bq a5 ae p st a6 o).2 st.a7.length).1.length vc) rows.flatten uV++B5))/\U.map UC.q <+:(U4.set st.a7.length {w4 with body:=.slice va (kQ X.F X.G ak (bq a5 ae p st a6 o).1 (bq a5 ae p st a6 o).2 st.a7.length).1.length vc}).map UC.q/\Vs.map aC.q <+:V4.map aC.q/\(∃w,(U4.set st.a7.length {w4 with body:=.slice va (kQ X.F X.G ak (bq a5 ae p st a6 o).1 (bq a5 ae p st a6 o).2 st.a7.length).1.length vc})[st.a7.length]? =some w/\kE q=kE w.q)/\
  ((U4.set st.a7.length {w4 with body:=.slice va (kQ X.F X.G ak (bq a5 ae p st a6 o).1 (bq a5 ae p st a6 o).2 st.a7.length).1.length vc}).map λu=>kN (some u.q))=U4.map λu=>kN (some u.q):=λng dR U4 V4 T4 rows uV B5 va vc w4 K k2 k3 k4 k5 k6 k7=>by
  have KS:=zu (w':={w4 with body:=.slice va (kQ X.F X.G ak (bq a5 ae p st a6 o).1 (bq a5 ae p st a6 o).2 st.a7.length).1.length vc}) k4 rfl;have D:∀W:List UC,(W.map λu=>kN (some u.q))=(W.map UC.q).map λb=>kN (some b):=λW=>by rw[QF];rfl
  have E:((U4.set st.a7.length {w4 with body:=.slice va (kQ X.F X.G ak (bq a5 ae p st a6 o).1 (bq a5 ae p st a6 o).2 st.a7.length).1.length vc}).map λu=>kN (some u.q))=U4.map λu=>kN (some u.q):=by rw[D,KS,<- D]
  refine⟨?_,?_,(sj.trans hp3).trans k7,⟨{w4 with body:=.slice va (kQ X.F X.G ak (bq a5 ae p st a6 o).1 (bq a5 ae p st a6 o).2 st.a7.length).1.length vc},by rw[Vx];simp[(Vt.1 k4).1],by rw[<- k5]⟩,E⟩
  .rw[wu];refine⟨K.rep.body k4 _ _,K.ok,by rw[E,Q9];exact K.sl,λi w hw=>?_⟩;rcases mX k4 hw with⟨rfl,rfl⟩|⟨cz,uy⟩
   .have I5:=K.rep.wf.bl;have GA:=(Vt.1 k4).1;rw[K.rep.ul]at GA;have e:((kQ X.F X.G ak (bq a5 ae p st a6 o).1 (bq a5 ae p st a6 o).2 st.a7.length).2.a8.set st.a7.length (kQ X.F X.G ak (bq a5 ae p st a6 o).1 (bq a5 ae p st a6 o).2 st.a7.length).1).getD st.a7.length []=(kQ X.F X.G ak (bq a5 ae p st a6 o).1 (bq a5 ae p st a6 o).2 st.a7.length).1:=by
     rw[Vh,Vx];simp[I5,GA]
    show xZ _ _ (.slice va (kQ X.F X.G ak (bq a5 ae p st a6 o).1 (bq a5 ae p st a6 o).2 st.a7.length).1.length vc) (((kQ X.F X.G ak (bq a5 ae p st a6 o).1 (bq a5 ae p st a6 o).2 st.a7.length).2.a8.set st.a7.length (kQ X.F X.G ak (bq a5 ae p st a6 o).1 (bq a5 ae p st a6 o).2 st.a7.length).1).getD st.a7.length []);rw[e];exact(ns_made k2 k3).more (λx J=>QI _ J) (Qf _)
   .have e:((kQ X.F X.G ak (bq a5 ae p st a6 o).1 (bq a5 ae p st a6 o).2 st.a7.length).2.a8.set st.a7.length (kQ X.F X.G ak (bq a5 ae p st a6 o).1 (bq a5 ae p st a6 o).2 st.a7.length).1).getD i []=(kQ X.F X.G ak (bq a5 ae p st a6 o).1 (bq a5 ae p st a6 o).2 st.a7.length).2.a8.getD i []:=by
     rw[Vh,Vh,Vx,if_neg (λe=>cz e.symm)]
    show xZ _ _ w.body (((kQ X.F X.G ak (bq a5 ae p st a6 o).1 (bq a5 ae p st a6 o).2 st.a7.length).2.a8.set st.a7.length (kQ X.F X.G ak (bq a5 ae p st a6 o).1 (bq a5 ae p st a6 o).2 st.a7.length).1).getD i []);rw[e];exact(K.bod i w uy).more (λx J=>Zw _ J) (Qf _)
  .rw[KS];refine List.IsPrefix.trans ?_ k6;rw[Mg.trans lY,N,QC];exact Qe _ _
 unfold tI at aw;rw[Mi]at aw;refine af ?_;cases ZN:(kQ X.F X.G ak (bq a5 ae p st a6 o).1 (bq a5 ae p st a6 o).2 st.a7.length).2.f with
 |some e=>
  refine VC.seq (VC.EF ⟨⟨[_,_,_,_,_,_],_,_,_,_,rfl,?_⟩,⟨[_,_,_,_,_],_,_,_,_,rfl,?_⟩,trivial⟩)
  .refine⟨?_,?_,?_,trivial⟩
   all_goals
    exact zC4
  .refine⟨?_,trivial⟩;exact zC4
 |none=>
  refine VC.seq (VC.draws ⟨?_,?_,trivial⟩)
  .exact zA4
  .exact zA4
def InlR(pn:PN)(a n:Nat)(v:Value)(qs:List Nat)(B:List kC):Prop:=∃ws,v=.tuple #[.agg ws.toArray,dh ((qs.drop a).take n)]/\AX B qs pn ws
def Jm(X:Fix)(vk Q Y Z l4 l5:Value)(vn:Value)(k:Nat)(s:ByteArray)(lit:Lt)(a5 ae:List ByteArray)(av tv:Value)(bI:dU X.S av a5)(bL:dU X.S tv ae)(ak:List Nd)(a:Option Addr)(J bk ko:Nat)(ks:Nat->List Value)(GA:ak.length < 1073741824)(ha:0 < ak.length->a=some ⟨bk,ko,none⟩)(hm:∀i,i < ak.length->∀y∈kA bk (ko+i*11) (ks i),y∈X.S)(hr:∀i x,ak[i]? =some x->jD X.S x (ks i))(aR:∀i x,ak[i]? =some x->qq X x (ks i))(p:Int)
 (st:ai) (us:Value) (D:List Value) (U:List UC) (Vs:List aC) (T:List kC) (hS:lf st us D U Vs T) (i:Nat) (u:UC) (hu:U[i]? =some u) (a6:List Nat) (b:Nat) (es:Array MapEntry) (c:Nat) (hs:zX st Vs a6 es c) (H7:∀v∈a6,st.ah v∈st.line i) (bn:yP st (cW a5 ae (kf ak))):
 tI X 231 [kE X.wq,.agg #[vk,vn,Q,Y,Z,l4,l5,av,tv,.slice a ak.length J,.int .i64 p],kE u.q,.map (some b)] st (zW X.F X.G (.mk k s lit a5 ae ak p) st a6 i).2 us D U Vs T b es c (InlR (zW X.F X.G (.mk k s lit a5 ae ak p) st a6 i).1 st.vars.length a5.length):=by
 have UL:=bI;have GP:=bL;obtain⟨N,K,rfl,oU,eS⟩:=bI;obtain⟨ta,L,rfl,sr,N8⟩:=bL;obtain⟨r1,r2,r3⟩:=bn;simp only[cW]at r1 r2 r3;have cm:i<st.a7.length:=by have:=(Vt.1 hu).1;rw[hS.rep.ul]at this;exact this
 have huq:(U.map UC.q)[i]? =some u.q:=by rw[Vu,hu];rfl
 rw[fB];simp only;obtain⟨d,Dw⟩:∃d,d=kO i true false p a5 0 st a6:=⟨_,rfl⟩;obtain⟨D2,Dx⟩:∃D2,D2=kO i false false p ae 0 d.1 d.2:=⟨_,rfl⟩;rw[<- Dw,<- Dx];have E:∀e:Nat×Int,D2.1.f=some e->(kQ X.F X.G ak D2.1 D2.2 i).2.f=some e:=λe he=>(wa X.F X.G ak _ _ _).f e he
 have UM:∀e:Nat×Int,d.1.f=some e->(kQ X.F X.G ak D2.1 D2.2 i).2.f=some e:=λe he=>E e (by rw[Dx];exact tV _ _ _ _ _ _ _ _ he)
 refine jr.intro low231 Zn9 ?_;refine af ?_;refine kZ Zr (λq5=>?_);simp only[Value.cells];refine af ?_;refine kZ Zr (λg=>?_);simp only[Value.cells];refine af ?_;refine kJ (λq8=>?_);refine af ?_;refine kJ (λm=>?_);refine af ?_;refine kJ (λC=>?_);refine af ?_;obtain⟨g1,g2,g3,g4⟩:=jO i true false p a5 0 st a6;rw[<- Dw]at g1 g2 g3 g4;obtain⟨d1,d2,d3,d4⟩:=jO i false false p ae 0 d.1 d.2;rw[<- Dx]at d1 d2 d3 d4;have mw:=pE X.S i (st.a5.getD i 0) true false p a5 (.slice N a5.length K) UL (.func (.func 251) #[] #[kE g,kE m]) (λps A=>A=kA g 0 [kE u.q]++kA m 0 [dh ps]) st U Vs (W9 _ i _ u.q g m a5.length huq) hS.rep cm rfl hS.ok Zo (kA g 0 [kE u.q]++kA m 0 [.pointer none]) rfl a6 b es c hs;rw[<- Dw]at mw;have unf:jv Nz Nz =[.int .u8 14,.string ⟨#[]⟩,.int .u8 0,vi 0,.int .u64 0,.string ⟨#[]⟩,Nz,Nz,vi 0,.bool false,Nz,Nz,Nz]:=rfl;refine VO.imp (H':=[kA g 0 [kE u.q]++kA m 0 [.pointer none],WK U Vs,[.obj b (.map es c)],X.S,kA C 0 (jv Nz Nz),kA q8 0 (rZ1 e0),kA q5 0 [vk,vn,Q,Y,Z,l4,l5,.slice N a5.length K,.slice ta ae.length L,.slice a ak.length J,vi p],kA X.wq 0 (xm1 X us),aj us (U.map λu=>kN (some u.q)) D,xf1 X,xg1 X,T]) (ap.cut (M:=[kA g 0 [kE u.q],kA m 0 [.pointer none],WK U Vs,[.obj b (.map es c)],X.S,kA C 0 (jv Nz Nz),kA q8 0 (rZ1 e0),kA q5 0 [vk,vn,Q,Y,Z,l4,l5,.slice N a5.length K,.slice ta ae.length L,.slice a ak.length J,vi p],kA X.wq 0 (xm1 X us),aj us (U.map λu=>kN (some u.q)) D,xf1 X,xg1 X,T]) (by unfold e0;rw[unf];exact bH) (ap.perm Zs)) ?_;refine kM mw Zr ZP (λv dl H=>?_) (λch dl hz=>?_);rotate_left
 .obtain⟨KQ,q1,rfl,rfl⟩:=hz;exact⟨[X.S,jT q1 180 p],ZI,q1,180,p,UM _ KQ,rfl,rfl⟩
 obtain⟨b2,HZ,c2,U2,V2,A2,⟨Gv,rfl,NU,lY,mo,sj,Al,rfl⟩,rfl⟩:=H;simp only[aE];obtain⟨I,hps1⟩:∃I,I=(V2.map aC.q).drop Vs.length:=⟨_,rfl⟩;rw[<- hps1];have lE:=pE X.S i (st.a5.getD i 0) false false p ae (.slice ta ae.length L) GP (.func (.func 252) #[] #[kE g,kE C]) (Tp u.q g C) d.1 U2 V2 (mk_body _ i _ u.q g C ae.length (by rw[lY];exact huq) Zo) NU (by rw[g1];exact cm) (by rw[g2]) Gv (by rw[g4];omega) (kA g 0 [kE u.q]++(kA C 0 (jv Nz Nz)++[])) ⟨Nz,[],.nil,rfl⟩ d.2 b2 HZ c2 Al;rw[<- Dx]at lE;refine VO.imp (H':=[kA g 0 [kE u.q],kA m 0 [dh I],WK U2 V2,[.obj b2 (.map HZ c2)],[.obj b (.map es c)],X.S,kA C 0 (jv Nz Nz),kA q8 0 (rZ1 e0),kA q5 0 [vk,vn,Q,Y,Z,l4,l5,.slice N a5.length K,.slice ta ae.length L,.slice a ak.length J,vi p],kA X.wq 0 (xm1 X us),aj us (U.map λu=>kN (some u.q)) D,xf1 X,xg1 X,T]) (ap.cut (M:=[kA g 0 [kE u.q]++kA m 0 [dh I],WK U2 V2,[.obj b2 (.map HZ c2)],[.obj b (.map es c)],X.S,kA C 0 (jv Nz Nz),kA q8 0 (rZ1 e0),kA q5 0 [vk,vn,Q,Y,Z,l4,l5,.slice N a5.length K,.slice ta ae.length L,.slice a ak.length J,vi p],kA X.wq 0 (xm1 X us),aj us (U.map λu=>kN (some u.q)) D,xf1 X,xg1 X,T]) ZI (ap.perm Zs)) ?_;refine af ?_;refine VO.imp (H':=[kA g 0 [kE u.q]++(kA C 0 (jv Nz Nz)++[]),WK U2 V2,[.obj b2 (.map HZ c2)],X.S,[.obj b (.map es c)],kA m 0 [dh I],kA q8 0 (rZ1 e0),kA q5 0 [vk,vn,Q,Y,Z,l4,l5,.slice N a5.length K,.slice ta ae.length L,.slice a ak.length J,vi p],kA X.wq 0 (xm1 X us),aj us (U.map λu=>kN (some u.q)) D,xf1 X,xg1 X,T]) (ap.cut (M:=[kA g 0 [kE u.q],kA C 0 (jv Nz Nz),WK U2 V2,[.obj b2 (.map HZ c2)],X.S,[.obj b (.map es c)],kA m 0 [dh I],kA q8 0 (rZ1 e0),kA q5 0 [vk,vn,Q,Y,Z,l4,l5,.slice N a5.length K,.slice ta ae.length L,.slice a ak.length J,vi p],kA X.wq 0 (xm1 X us),aj us (U.map λu=>kN (some u.q)) D,xf1 X,xg1 X,T]) ZI (ap.perm Zs)) ?_;refine kM lE Zr ZP (λv dl H=>?_) (λch dl hz=>?_);rotate_left
 .obtain⟨KQ,q1,rfl,rfl⟩:=hz;exact⟨[X.S,jT q1 180 p],ZI,q1,180,p,E _ KQ,rfl,rfl⟩
 obtain⟨b3,es3,c3,U3,V3,A3,⟨hf3,rfl,hR3,Mg,NX,hp3,Wi,hJ3⟩,rfl⟩:=H;obtain⟨tv0,lS,bV,rfl⟩:=hJ3;simp only[aE];obtain⟨Fb,hps2⟩:∃Fb,Fb=(V3.map aC.q).drop V2.length:=⟨_,rfl⟩;rw[<- hps2]at bV|-;obtain⟨YV,YW,rfl⟩:=bV.form;refine VO.imp (H':=[kA g 0 [kE u.q],kA C 0 (jv (.slice YV Fb.length YW) (.slice none 0 0)),aj (.slice YV Fb.length YW) (Fb.map λb=>kN (some b)) lS,WK U3 V3,[.obj b3 (.map es3 c3)],X.S,[.obj b (.map es c)],kA m 0 [dh I],kA q8 0 [.int .u8 0,.string e0,.int .u8 0,vi 0,.int .u64 0,.string e0,.slice none 0 0,.slice none 0 0,vi 0,.bool false,.slice none 0 0,.slice none 0 0,.slice none 0 0],kA q5 0 [vk,vn,Q,Y,Z,l4,l5,.slice N a5.length K,.slice ta ae.length L,.slice a ak.length J,vi p],kA X.wq 0 (xm1 X us),aj us (U.map λu=>kN (some u.q)) D,xf1 X,xg1 X,T]) (ap.cut (M:=[kA g 0 [kE u.q]++(kA C 0 (jv (.slice YV Fb.length YW) (.slice none 0 0))++aj (.slice YV Fb.length YW) (Fb.map λb=>kN (some b)) lS),WK U3 V3,[.obj b3 (.map es3 c3)],X.S,[.obj b (.map es c)],kA m 0 [dh I],kA q8 0 [.int .u8 0,.string e0,.int .u8 0,vi 0,.int .u64 0,.string e0,.slice none 0 0,.slice none 0 0,vi 0,.bool false,.slice none 0 0,.slice none 0 0,.slice none 0 0],kA q5 0 [vk,vn,Q,Y,Z,l4,l5,.slice N a5.length K,.slice ta ae.length L,.slice a ak.length J,vi p],kA X.wq 0 (xm1 X us),aj us (U.map λu=>kN (some u.q)) D,xf1 X,xg1 X,T]) ZI (ap.perm Zs)) ?_;have KT:∀W:List UC,(W.map λu=>kN (some u.q))=(W.map UC.q).map λb=>kN (some b):=λW=>by rw[QF];rfl
 have hqq:U3.map UC.q=U.map UC.q:=Mg.trans lY;have Mi:(U3.map λu=>kN (some u.q))=U.map λu=>kN (some u.q):=by rw[KT,hqq,<- KT]
 have ZD:lf D2.1 us D U3 V3 T:=by
  have Cc:U3.length=U.length:=by have:=congrArg List.length hqq;rwa [Q6,Q6]at this
  refine⟨hR3,hf3,by rw[Cc,Mi];exact hS.sl,λj w hw=>?_⟩;have cM:(U.map UC.body)[j]? =some w.body:=by rw[<- NX.trans mo,Vu,hw];rfl
  rw[Vu]at cM;obtain⟨w1,mw,hwb⟩:=X5.1 cM;rw[d3,g3,<- hwb];exact(hS.bod j w1 mw).more (λx hx=>hx) (sj.trans hp3)
 have xD:∀v∈D2.2,D2.1.ah v∈D2.1.line i:=λv H=>by
  have O:D2.1.line i=st.line i:=by unfold ai.line;rw[d1,g1]
  have oj:i∈st.line i:=by rw[hS.rep.wf.line Zo];exact QL ..
  have Ae:∀v∈d.2,v<d.1.vars.length:=λv H=>by rw[Dw]at H|-;exact(zm _ _ _ _ _ _ _ _ hs.lt v H).1
  rw[O];rw[Dx]at H|-;obtain⟨_,hk⟩:=zm i false false p ae 0 _ _ Ae v H;rcases hk with⟨sg,Ca⟩|hk
  .rw[Ca];rw[Dw]at sg|-;obtain⟨_,tA⟩:=zm i true false p a5 0 _ _ hs.lt v sg;rcases tA with⟨hk4,hk5⟩|tA
   .rw[hk5];exact H7 v hk4
   .rw[tA];exact oj
  .rw[hk];exact oj
 have oi:yP D2.1 (kf ak):=by
  have h1:yE st D2.1 (a5.length+ae.length):=by
   rw[Dx,Dw];exact(w7 _ _ _ _ _ _ _ _).trans (w7 _ _ _ _ _ _ _ _)
  obtain⟨k1,k2,k3⟩:=h1;exact⟨Zo,Zo,Zo⟩
 obtain⟨w3,ss,hwq3⟩:∃w,U3[i]? =some w/\w.q=u.q:=mZ rfl (by rw[hqq];exact huq);have aw:=A5 X ak a J bk ko ks GA ha hm hr aR _ _ _ _ _ _ ZD i w3 ss _ b3 es3 c3 Wi xD oi;rw[hwq3]at aw;unfold tI at aw;rw[Mi]at aw;refine af ?_;refine kM aw Zr ZP (λv dl H=>?_) (λch dl hz=>?_);rotate_left
 .obtain⟨q1,e1,p1,cM,rfl,rfl⟩:=hz;exact⟨[X.S,jT q1 e1 p1],ZI,q1,e1,p1,cM,rfl,rfl⟩
 obtain⟨ng,dR,U4,V4,T4,B4,⟨hS4,Rt,GJ,rows,uV,B5,nH,dB,rfl⟩,rfl⟩:=H;simp only[aE];obtain⟨va,vc,rfl⟩:=nH.form;have fj:V2.length=st.vars.length+a5.length:=by rw[NU.vl,g4]
 have O:V3.length=d.1.vars.length+ae.length:=by rw[hR3.vl,d4]
 have hps2':((V4.map aC.q).drop d.1.vars.length).take ae.length=Fb:=by
  rw[drop_take GJ (by rw[Q6];exact O),hps2,NU.vl]
 have hps1':((V4.map aC.q).drop st.vars.length).take a5.length=I:=by
  rw[drop_take (hp3.trans GJ) (by rw[Q6];exact fj),hps1,hS.rep.vl]
 have eB:InlR (.mk 14 e0 fD ((List.range' d.1.vars.length ae.length).map wM) 0 false (kQ X.F X.G ak D2.1 D2.2 i).1) st.vars.length a5.length (.tuple #[.agg (jv (.slice YV Fb.length YW) (.slice va (kQ X.F X.G ak D2.1 D2.2 i).1.length vc)).toArray,dh I]) (V4.map aC.q) (aj (.slice va (kQ X.F X.G ak D2.1 D2.2 i).1.length vc) rows.flatten uV++(B5++aj (.slice YV Fb.length YW) (Fb.map λb=>kN (some b)) lS)):=by
  refine⟨_,by rw[hps1'],?_⟩;have hle:d.1.vars.length+ae.length<=(V4.map aC.q).length:=by
   have:=GJ.length_le;rw[Q6,O]at this;exact this
  have:=CM (k:=14) (nm:=e0) (lit:=fD) (refs:=(List.range' d.1.vars.length ae.length).map wM) (cg:=0) (fP:=false) (rv:=Nz) (vv:=.slice YV Fb.length YW) (B:=B5++aj (.slice YV Fb.length YW) (Fb.map λb=>kN (some b)) lS) nH (dB.more (λx hx=>Zw _ hx) (Qf _)) (zT _) (by rw[Hp];exact jd.nil _) (by
   rw[MQ,Ni hle,hps2'];exact(lJ rfl bV).more (λx hx=>QI _ hx)) (MR hle)
  exact this
 unfold jv;refine af ?_;apply VC.seq;refine VC.draws ⟨?_,?_,trivial⟩
 .exact zAU
 .exact zAU
def Kt(S x vs)(h:jD S x vs):aq pg9 136 [.agg vs.toArray] [S] (λv dl=>v=.bool (jV x)/\dl=[S]):=by
 obtain⟨e1,e2,e3,e4,e5,e6,e7,a1,c1,a2,c2,a3,c3,bk,o,us,rfl,_⟩:=w9 h;refine aq.intro low136 Zn9 ?_;refine af ?_;refine kZ Zr (λq=>?_);simp only[Value.cells];unfold jV;refine af ?_;by_cases hk:x.kind=7
 .rw[A0 ((x.kind:Int)=7),Zt hk,vV];refine af ?_;rw[show decide ((x.a5.length:Int)=0)=decide (x.a5.length=0)from decide_eq_decide.2 Zo];exact zEB
 .rw[A1 ((x.kind:Int)=7),Zf hk,vM];exact zEB
def xj(S x vs)(h:jD S x vs):aq pg9 70 [.agg vs.toArray] [S] (λv dl=>(∃f t:Nat,v=.tuple #[vi f,vi t,.bool (z5 x)]/\(z5 x=true->f=jL (kd x.name)/\t=lR (kd x.name)))/\dl=[S]):=by
 obtain⟨O,Q,T,U,W,X,Y,K,M,L,N,a3,c3,bk,o,us,rfl,gO,bI,bL,hk8,ha,J,hr,lW⟩:=w9 h;have F:∀b:Bool,b=false->z5 x=b->∃f t:Nat,(Value.tuple #[vi 0,vi 0,.bool false]:Value)=.tuple #[vi f,vi t,.bool (z5 x)]/\(z5 x=true->f=jL (kd x.name)/\t=lR (kd x.name)):=λb hb h'=>⟨0,0,by rw[h',hb];rfl,λA=>by rw[h',hb]at A;cases A⟩
 refine aq.intro low70 Zn9 ?_;refine VC.join (α:=Nat) (bg:=λq=>[(1,kE q)]) (Hf:=λq=>[kA q 0 (rN x.kind x.name O Q T U W X Y K x.a5.length M L x.ae.length N a3 x.ak.length c3 x.at_),S]) (I:=λ_=>True) ?_ (λq _=>?_)
 .refine af ?_;exact zDM
 refine VC.join (α:=Unit) (bg:=λ_=>[(1,kE q)]) (Hf:=λ_=>[kA q 0 (rN x.kind x.name O Q T U W X Y K x.a5.length M L x.ae.length N a3 x.ak.length c3 x.at_),S]) (I:=λ_=>x.kind=4/\0<x.ak.length/\jR x.ak=false) ?_ (λ_ hI=>?_)
 .refine af ?_;by_cases G:x.kind=4;rotate_left
  .rw[A1 ((x.kind:Int)=4)];refine af ?_;exact kG (dl:=[S]) (.inr rfl) (.tmp Zr (.tmp Zr zT1)) ⟨F _ rfl (by unfold z5 fA;simp[G]),rfl⟩ ZI
  rw[A0 ((x.kind:Int)=4)];refine af ?_;by_cases EQ:x.ak.length=0
  .rw[A0 ((x.ak.length:Int)=0)];refine af ?_;have sh:x.ak=[]:=vy EQ;refine kG (dl:=[S]) (.inr rfl) (.tmp Zr (.tmp Zr zT1)) ⟨F _ rfl ?_,rfl⟩ ZI;exact zF8
  obtain rfl:=ha Zo;rw[A1 ((x.ak.length:Int)=0)];obtain⟨r,sq⟩:∃r,x.ak[0]? =some r:=⟨_,Zg Zo⟩;obtain⟨r1,r2,r3,r4,r5,r6,r7,p1,d1,p2,d2,p3,d3,O6,o2,Dl,Mj,_⟩:=w9 (hr 0 r sq);have f0:kC.cell bk o (.int .u8 r.kind)∈S:=J 0 Zo _ (by rw[Mj];exact kI.2 ⟨0,_,rfl,Zs⟩);have f1:kC.cell bk (o+1) (.string r.name)∈S:=J 0 Zo _ (by rw[Mj];exact kI.2 ⟨1,_,rfl,Zs⟩);have E:jR x.ak=kg r:=zCK
  refine af ?_;by_cases Jg:r.kind=2
  .rw[A0 ((r.kind:Int)=2)];refine af ?_;by_cases hrn:r.name=⟨#[115,117,112,101,114]⟩
   .rw[Zt hrn];refine af ?_;refine kG (dl:=[S]) (.inr rfl) (.tmp Zr (.tmp Zr zT1)) ⟨F _ rfl ?_,rfl⟩ ZI;have:kg r=true:=by unfold kg;rw[Zt Jg,Zt (ze.2 hrn)];rfl
    unfold z5 fA;rw[E,this];simp
   rw[Zf hrn];have C:kg r=false:=by unfold kg;rw[Zf (λe=>hrn (ze.1 e))];simp
   refine af ?_;exact⟨(),⟨G,Zo,by rw[E];exact C⟩,ZU,ZI⟩
  .rw[A1 ((r.kind:Int)=2)];have C:kg r=false:=by unfold kg;rw[Zf Jg];rfl
   refine af ?_;exact⟨(),⟨G,Zo,by rw[E];exact C⟩,ZU,ZI⟩
 obtain⟨G,EQ,E⟩:=hI;obtain rfl:=ha EQ;refine VC.join (α:=Unit) (bg:=λ_=>[(1,kE q),(5,vi 1),(6,vi 2)]) (Hf:=λ_=>[kA q 0 (rN x.kind x.name O Q T U W X Y K x.a5.length M L x.ae.length N (some ⟨bk,o,none⟩) x.ak.length c3 x.at_),S]) (I:=λ_=>True) ?_ (λ_ _=>?_)
 .exact Ds
 refine VC.join (α:=Nat) (bg:=λn=>[(1,kE q),(5,vi (jL n)),(6,vi (lR n))]) (Hf:=λ_=>[kA q 0 (rN x.kind x.name O Q T U W X Y K x.a5.length M L x.ae.length N (some ⟨bk,o,none⟩) x.ak.length c3 x.at_),S]) (I:=λn=>kd x.name=n/\(n=1∨n=2∨n=3∨n=4)) ?_ (λn hn=>?_)
 .refine af ?_;by_cases g0:x.name=⟨#[105,102,84,114,117,101,58]⟩
  .rw[Zt g0];refine af ?_;exact⟨1,⟨by rw[g0];decide,Zd⟩,ZU,ZI⟩
  rw[Zf g0];refine af ?_;by_cases Z:x.name=⟨#[105,102,70,97,108,115,101,58]⟩
  .rw[Zt Z];refine af ?_;exact⟨1,⟨by rw[Z];decide,Zd⟩,ZU,ZI⟩
  rw[Zf Z];refine af ?_;by_cases g2:x.name=⟨#[97,110,100,58]⟩
  .rw[Zt g2];refine af ?_;exact⟨1,⟨by rw[g2];decide,Zd⟩,ZU,ZI⟩
  rw[Zf g2];refine af ?_;by_cases g3:x.name=⟨#[111,114,58]⟩
  .rw[Zt g3];refine af ?_;exact⟨1,⟨by rw[g3];decide,Zd⟩,ZU,ZI⟩
  rw[Zf g3];refine af ?_;by_cases g4:x.name=⟨#[105,102,84,114,117,101,58,105,102,70,97,108,115,101,58]⟩
  .rw[Zt g4];refine af ?_;exact⟨2,⟨by rw[g4];decide,Zd⟩,ZU,ZI⟩
  rw[Zf g4];refine af ?_;by_cases g5:x.name=⟨#[105,102,70,97,108,115,101,58,105,102,84,114,117,101,58]⟩
  .rw[Zt g5];refine af ?_;exact⟨2,⟨by rw[g5];decide,Zd⟩,ZU,ZI⟩
  rw[Zf g5];refine af ?_;by_cases g6:x.name=⟨#[119,104,105,108,101,84,114,117,101,58]⟩
  .rw[Zt g6];refine af ?_;exact⟨3,⟨by rw[g6];decide,Zd⟩,ZU,ZI⟩
  rw[Zf g6];refine af ?_;by_cases g7:x.name=⟨#[119,104,105,108,101,70,97,108,115,101,58]⟩
  .rw[Zt g7];refine af ?_;exact⟨3,⟨by rw[g7];decide,Zd⟩,ZU,ZI⟩
  rw[Zf g7];refine af ?_;by_cases g8:x.name=⟨#[119,104,105,108,101,84,114,117,101]⟩
  .rw[Zt g8];refine af ?_;exact⟨4,⟨by rw[g8];decide,Zd⟩,ZU,ZI⟩
  rw[Zf g8];refine af ?_;by_cases g9:x.name=⟨#[119,104,105,108,101,70,97,108,115,101]⟩
  .rw[Zt g9];refine af ?_;exact⟨4,⟨by rw[g9];decide,Zd⟩,ZU,ZI⟩
  rw[Zf g9];refine af ?_;by_cases d:x.name=⟨#[116,111,58,100,111,58]⟩
  .rw[Zt d];have m:kd x.name=5:=by rw[d];decide
   have H:z5 x=yi 5 x.ak:=by unfold z5 fA;rw[m,E,Zt G];rfl
   have og:∀b:Bool,yi 5 x.ak=b->∃f t:Nat,(Value.tuple #[vi 2,vi 3,.bool b]:Value)=.tuple #[vi f,vi t,.bool (z5 x)]/\(z5 x=true->f=jL (kd x.name)/\t=lR (kd x.name)):=λb hb=>⟨2,3,by rw[H,hb];rfl,λ_=>by rw[m];exact⟨rfl,rfl⟩⟩
   refine af ?_;by_cases B:x.ak.length=3;rotate_left
   .rw[A1 ((x.ak.length:Int)=3)];refine af ?_;refine kG (dl:=[S]) (.inr rfl) (.tmp Zr (.tmp Zr zT1)) ⟨og _ ?_,rfl⟩ ZI;cases e:yi 5 x.ak with
    |false=>rfl
    |true=>
     exfalso;unfold yi at e;simp only at e;split at e
     .rename_i lX;rw[lX]at B;exact B rfl
     .cases e
   rw[A0 ((x.ak.length:Int)=3)];obtain⟨y,D⟩:∃y,x.ak[2]? =some y:=⟨_,Zg Zo⟩;obtain⟨r1,r2,r3,r4,r5,r6,r7,p1,d1,p2,d2,p3,d3,O6,o2,Dl,Ru,_⟩:=w9 (hr 2 y D);have f0:kC.cell bk (o+22) (.int .u8 y.kind)∈S:=J 2 Zo _ (by rw[Ru];exact kI.2 ⟨0,_,rfl,Zs⟩);have f7:kC.cell bk (o+29) (.slice p1 y.a5.length d1)∈S:=J 2 Zo _ (by rw[Ru];exact kI.2 ⟨7,_,rfl,Zs⟩);have dw:yi 5 x.ak=(decide (y.kind=7)&&decide (y.a5.length=1)):=by
    match lX:x.ak,B with
    |[a,b,c],_=>
     rw[lX]at D;obtain rfl:c=y:=by simpa using D
     rfl
   refine af ?_;by_cases hy7:y.kind=7
   .rw[A0 ((y.kind:Int)=7)];refine af ?_;rw[show decide ((y.a5.length:Int)=1)=decide (y.a5.length=1)from decide_eq_decide.2 Zo];refine af ?_;refine kG (dl:=[S]) (.inr rfl) (.tmp Zr (.tmp Zr zT1)) ⟨og _ ?_,rfl⟩ ZI;rw[dw,Zt hy7,vV]
   .rw[A1 ((y.kind:Int)=7)];refine af ?_;refine kG (dl:=[S]) (.inr rfl) (.tmp Zr (.tmp Zr zT1)) ⟨og _ ?_,rfl⟩ ZI;rw[dw,Zf hy7,vM]
  rw[Zf d];refine af ?_;refine kG (dl:=[S]) (.inr rfl) (.tmp Zr (.tmp Zr zT1)) ⟨F _ rfl ?_,rfl⟩ ZI;have m:kd x.name=0:=by
   unfold kd;rw[if_neg (by rintro(e|e|e|e)<;>contradiction),if_neg (by rintro(e|e)<;>contradiction),if_neg (by rintro(e|e)<;>contradiction),if_neg (by rintro(e|e)<;>contradiction)];exact if_neg d
  unfold z5 fA;rw[m];simp[yi]
 obtain⟨m,g⟩:=hn;have H:z5 x=yi n x.ak:=by unfold z5 fA;rw[m,E,Zt G];rfl
 have UX:jL n<lR n/\lR n<=3:=by rcases g with rfl|rfl|rfl|rfl<;>decide
 refine af ?_;by_cases hlen:x.ak.length=lR n;rotate_left
 .rw[A1 ((x.ak.length:Int)=(lR n:Int))];refine af ?_;refine kG (dl:=[S]) (.inr rfl) (.tmp Zr (.tmp Zr zT1)) ⟨F _ rfl ?_,rfl⟩ ZI;rw[H];cases e:yi n x.ak with
  |false=>rfl
  |true=>exact absurd (Av g e) hlen
 rw[A0 ((x.ak.length:Int)=(lR n:Int))];refine af ?_;refine Yy Zr Zr Zr rfl rfl (l:=jL n) (h:=lR n) ⟨Zo,Zo⟩ ?_;rw[if_neg (show ¬c3=jL n by omega)];refine af ?_;refine VC.loop (α:=Nat) (bg:=λs=>[(5,vi (jL n)),(6,vi (lR n)),(82,.slice (some ⟨bk,o+jL n*11,none⟩) (lR n-jL n) (c3-jL n)),(83,vi ((lR n-jL n:Nat):Int)),(84,vi s)]) (Hf:=λ_=>[S]) (I:=λs=>s<=lR n-jL n/\∀j y,jL n<=j->j<jL n+s->x.ak[j]? =some y->jV y=true) (μ:=λs=>lR n-jL n-s) 0
  ⟨X0 _,λj y h1 A=>by omega⟩ ZU ZI ?_
 rintro i ⟨hi,mr⟩
 refine af ?_;by_cases aI:i<lR n-jL n;rotate_left
 .rw[A1 ((i:Int) < ((lR n - jL n:Nat):Int))];refine af ?_;refine kG (dl:=[S]) (.inr rfl) (.tmp (v:=vi (jL n)) Zr (.tmp (v:=vi (lR n)) Zr (.tmp (v:=.bool true) Zr .nil))) ⟨⟨jL n,lR n,?_,λ_=>by rw[m];exact⟨rfl,rfl⟩⟩,rfl⟩ ZI;rw[H,fit_of g hlen (λj y h1 A=>mr j y h1 (by have:=(Vt.1 A).1;omega) A)];rfl
 rw[A0 ((i:Int) < ((lR n - jL n:Nat):Int))];obtain⟨y,D⟩:∃y,x.ak[jL n+i]? =some y:=⟨_,Zg Zo⟩;have cA:=J (jL n+i) Zo;have bQ:=hr (jL n+i) y D;rw[show o+(jL n+i)*11=o+(jL n*11+i*11) by omega]at cA;generalize us (jL n+i)=kj at cA bQ;have KU:=Kt S y kj bQ;obtain⟨Z,g2,g3,g4,g5,g6,g7,g8,g9,d,g11,g12,g13,g14,g15,g16,rfl⟩:=yv bQ;refine af ?_;refine kR Zr (λz hz=>by have h9:=cA z hz;simp[h9]) rfl ?_;refine af ?_;refine kJ (λq8=>?_);refine af ?_;refine kH KU Zr ZP (λv dl hv=>?_);obtain⟨rfl,rfl⟩:=hv;simp only[aE];cases hp:jV y with
 |false=>
  refine af ?_;refine kG (dl:=[S]) (.inr rfl) (.tmp Zr (.tmp Zr zT1)) ⟨F _ rfl ?_,rfl⟩ ZI;rw[H];exact Gk g (Nat.le_add_right _ _) D hp
 |true=>
  refine af ?_;refine⟨i+1,⟨Zo,λj z h1 A B=>?_⟩,Zo,ZU,ZI⟩;by_cases hj:j<jL n+i
  .exact mr j z h1 hj B
  .have e:j=jL n+i:=by omega
   rw[e,D]at B;rw[<- X8 B];exact hp
def sA(S x vs)(h:jD S x vs):aq pg9 26 [.agg vs.toArray] [S] (λv dl=>v=.bool (z5 x)/\dl=[S]):=by
 have C:=xj S x vs h;obtain⟨g1,g2,g3,g4,g5,g6,g7,g8,g9,d,g,j,m,s,A,B,rfl⟩:=yv h;refine aq.intro low26 Zn9 ?_;refine af ?_;refine kZ Zr (λq=>?_);simp only[Value.cells];refine af ?_;refine kH C Zr ZP (λv dl D=>?_);obtain⟨⟨f,t,rfl,_⟩,rfl⟩:=D;simp only[aE];exact zEB
def Cu {A x vs}(h:yc A x vs):∃(e:Option Addr) (c:Nat),vs=[cv x.kind,vi x.n,uv x.bits,.string x.text,.slice e x.ci.length c]:=by
 cases h with
 |mk wf ha hm hr=>exact⟨_,_,rfl⟩
def Sp(A):∀(N:Nat) (x:Lt),x.size<=N->x.size<=274877906944->∀vs,yc A x vs->aq pg9 208 [.agg vs.toArray] [A] (λv dl=>∃ws B,v=.agg ws.toArray/\iY x ws B/\dl=[A,B]):=by
 intro N
 induction N with
 |zero=>intro x W;have:=x.size_pos;omega
 |succ N ih=>
  intro x W hb vs h;cases h with
  |@mk k n b t ci a c bk o us wf ha hm hr=>
  simp only[Lt.size]at W hb;have L8:=Ym ci;refine aq.intro low208 Zn9 ?_;refine af ?_;refine kZ Zr (λq=>?_);simp only[Value.cells];refine kJ (λF=>?_);refine af ?_;refine VC.loop (α:=Nat×Value×List (List Value)×List Value×List kC) (bg:=λs=>[(1,kE q),(2,kE F),(9,.slice a ci.length c),(10,vi ci.length),(11,vi s.1)]) (Hf:=λs=>[kA q 0 [cv k,vi n,uv b,.string t,s.2.1],aj s.2.1 s.2.2.1.flatten s.2.2.2.1,s.2.2.2.2,kA F 0 [.int .u8 0,vi 0,.int .u64 0,.string ⟨#[]⟩,Nz],A])
   (I:=λs=>s.1<=ci.length/\ke 5 s.2.1 s.1 s.2.2.1.flatten s.2.2.2.1/\l7 (ci.take s.1) s.2.2.1 s.2.2.2.2) (μ:=λs=>ci.length-s.1) (0,Nz,[],[],[]) ⟨X0 _,.nil,l7.nil⟩ ZU (ap.cut (M:=[kA q 0 [cv k,vi n,uv b,.string t,Nz],kA F 0 [.int .u8 0,vi 0,.int .u64 0,.string ⟨#[]⟩,Nz],A]) ZI (ap.perm A4)) ?_
  rintro⟨j,sv,rows,sp,B⟩ ⟨i1,E,i3⟩
  simp only at i1 E i3;dsimp only;obtain⟨G,H,rfl⟩:=E.form;refine af ?_;by_cases hj:j<ci.length;rotate_left
  .rw[A1 ((j:Int) < (ci.length:Int))];have gh:j=ci.length:=by omega
   subst gh;rw[Qk]at i3;have X:=iY.of E i3 wf;refine af ?_;exact⟨.inr rfl,[.agg #[cv k,vi n,uv b,.string t,.slice G ci.length H]],[A,aj (.slice G ci.length H) rows.flatten sp++B],.az (us:=[cv k,vi n,uv b,.string t,.slice G ci.length H]) Zr Zr zSb .nil,ap.cut (M:=[A,aj (.slice G ci.length H) rows.flatten sp,B]) ZI (ap.perm Zs),⟨_,_,rfl,X,rfl⟩⟩
  obtain rfl:=ha Zo;rw[A0 ((j:Int) < (ci.length:Int))];obtain⟨y,D⟩:∃y,ci[j]? =some y:=⟨_,Zg hj⟩;have Z:=hm j hj;have S:=hr j y D;have eU:=Lt.aJ (Zv D);have Y:=ih y Zo Zo (us j) S;generalize us j=uj at*;obtain⟨e1,c1,rfl⟩:=Cu S;refine af ?_;refine kR Zr (λz hz=>by have h9:=Z z hz;simp[h9]) rfl ?_;refine af ?_;refine kJ (λq5=>?_);refine af ?_;refine VC.draws ⟨?_,?_,trivial⟩
  all_goals
   refine af ?_;refine kH Y Zr ZP (λv dl hv=>?_);obtain⟨ws,Q,rfl,U,rfl⟩:=hv;simp only[aE];have K:=U.rd;obtain⟨g,d,rfl⟩:=Cu K;have C:=i3.snoc U;rw[show ci.take j++[y]=ci.take (j+1) by rw[Qi,D];rfl]at C;refine af ?_;refine kV (out:=[cv y.kind,vi y.n,uv y.bits,.string y.text,.slice g y.ci.length d]) Zr Zr (λr=>?_);refine kX (k:=j) (m:=1) (xs:=rows.flatten) (sp:=sp) (ys:=[cv y.kind,vi y.n,uv y.bits,.string y.text,.slice g y.ci.length d]) Zr Zr E ZK Zr ?_ rfl Zr Zr Zd Zo (λbZ T J=>?_)
   .exact l9
   have cf:rows.flatten++[cv y.kind,vi y.n,uv y.bits,.string y.text,.slice g y.ci.length d]=(rows++[[cv y.kind,vi y.n,uv y.bits,.string y.text,.slice g y.ci.length d]]).flatten:=by simp
   rw[cf]at J|-;obtain⟨L,O,rfl⟩:=J.form;refine af ?_;refine⟨(j+1,.slice L (j+1) O,rows++[[cv y.kind,vi y.n,uv y.bits,.string y.text,.slice g y.ci.length d]],T,B++Q),⟨by simp only;omega,J,C⟩,by simp only;omega,ZU,?_⟩;simp only;refine ap.cut (M:=[kA q 0 [cv k,vi n,uv b,.string t,.slice L (j+1) O],aj (.slice L (j+1) O) (rows++[[cv y.kind,vi y.n,uv y.bits,.string y.text,.slice g y.ci.length d]]).flatten T,B,Q,kA F 0 [.int .u8 0,vi 0,.int .u64 0,.string ⟨#[]⟩,Nz],A]) ZI (ap.perm Zs)
def rD(k:Int)(nm:ByteArray)(vv kv:Value):List Value:=[.int .u8 k,.string nm,.int .u8 0,.int .i64 0,.int .u64 0,.string e0,Nz,Nz,.int .i64 0,.bool false,Nz,vv,kv]
structure SpS where
 j:Nat
 st:ai
 us:Value
 bM:List Value
 U:List UC
 V:List aC
 T:List kC
 sv:Value
 rows:List (List Value)
 sp:List Value
 B:List kC
 Ic:List PN
 vv:Value
 nI:List Nat
 pD:List Value
 rs:List wY
structure Z9 (X:Fix)(nm:ByteArray)(l:List Nd)(st:ai)(a6:List Nat)(i:Nat)(q:Nat)(Uq Vq:List Nat)(s:SpS):Prop where
 j:s.j<=l.length
 u:∃w,s.U[i]? =some w/\w.q=q
 ok:lf s.st s.us s.bM s.U s.V s.T
 gr:Gr st s.st
 pU:Uq <+:s.U.map UC.q
 pV:Vq <+:s.V.map aC.q
 room:yP s.st (kf (l.drop s.j))
 e3:(ku X.F X.G nm l 0 st a6 i).2.2=(ku X.F X.G nm (l.drop s.j) s.j s.st a6 i).2.2
 e1:(ku X.F X.G nm l 0 st a6 i).1=s.Ic++(ku X.F X.G nm (l.drop s.j) s.j s.st a6 i).1
 e2:(ku X.F X.G nm l 0 st a6 i).2.1=s.rs++(ku X.F X.G nm (l.drop s.j) s.j s.st a6 i).2.1
 pl:s.Ic.length=s.j
 sl:ke 13 s.sv s.j s.rows.flatten s.sp
 rw:zz s.B (s.V.map aC.q) s.Ic s.rows
 vsl:ke 1 s.vv s.nI.length (s.nI.map λb=>kN (some b)) s.pD
 raw:∀r∈s.rs,∃v,r=wM v/\v<(s.V.map aC.q).length
 nI:s.nI=s.rs.map λr=>(s.V.map aC.q).getD r.index.toNat 0
 few:s.rs.length<=s.j
def xd {U d:List UC}{i:Nat}{w:UC}(s:U[i]? =some w)(h:U.map UC.q <+:d.map UC.q):∃w',d[i]? =some w'/\w'.q=w.q:=by
 obtain⟨t,m⟩:=h;have g:(U.map UC.q)[i]? =some w.q:=by rw[Vu,s];rfl
 have j:(d.map UC.q)[i]? =some w.q:=by rw[<- m,Vj (Vt.1 g).1];exact g
 rw[Vu]at j;exact X5.1 j
def Fe {qs d:List Nat}{rs:List wY}(h:∀r∈rs,∃v,r=wM v/\v < qs.length)(hq:qs <+:d):(∀r∈rs,∃v,r=wM v/\v < d.length)/\(rs.map λr=>d.getD r.index.toNat 0)=rs.map λr=>qs.getD r.index.toNat 0:=by
 refine⟨λr g=>let⟨v,h1,h2⟩:=h r g;⟨v,h1,Qv h2 hq.length_le⟩,QD λr g=>?_⟩;obtain⟨v,rfl,hv⟩:=h r g;exact zEG
def Se {qs rs}(h:∀r∈rs,∃v,r=wM v/\v < qs.length):fk rs=rs/\zS rs=[]/\yb qs rs:=by
 refine⟨V7.2 λr d=>?_,V6.2 λr d=>?_,.inl λr d=>?_,λr d _=>h r d⟩
 .obtain⟨v,rfl,_⟩:=h r d;rfl
 .obtain⟨v,rfl,_⟩:=h r d;simp[wM]
 .obtain⟨v,rfl,_⟩:=h r d;rfl
section
variable {X:Fix} {nm:ByteArray} {l:List Nd} {st:ai} {a6:List Nat} {i q:Nat} {Uq Vq:List Nat} {s:SpS}
def Z9.out(h:Z9 X nm l st a6 i q Uq Vq s){y:Nd}(hy:l[s.j]? =some y)(aW:zc nm s.j=false){Q:Value}{Z:List Value}{m:List UC}{g:List aC}{S O:List kC}(hS:lf (jF X.F X.G y s.st a6 i).2 Q Z m g S)(Y:s.U.map UC.q <+:m.map UC.q)(K:s.V.map aC.q <+:g.map aC.q)
 {ws:List Value} {M:PN} (oV:M=(jF X.F X.G y s.st a6 i).1) (hn:AX O (g.map aC.q) M ws) {T:Value} {W:List Value} (aM:ke 13 T (s.j+1) (s.rows++[ws]).flatten W):
 Z9 X nm l st a6 i q Uq Vq ⟨s.j+1,(jF X.F X.G y s.st a6 i).2,Q,Z,m,g,S,T,s.rows++[ws],W,s.B++O,s.Ic++[M],s.vv,s.nI,s.pD,s.rs⟩:=by
 subst oV;have aI:=(Vt.1 hy).1;have Aw:l.drop s.j=y::l.drop (s.j+1):=zD4
 obtain⟨h1,h2,h3,h4,h5,h6,H,I,J,N,I3,SW,A,C,D,E,h17⟩:=h;rw[Aw]at H I J N;simp only[kf]at H;rw[zP _ _ _ _ _ _ _ _ _ aW]at I J N;have hl:=(dD X.F X.G _ y (Qs _) s.st a6 i).1;obtain⟨w,hw,rV⟩:=h2;obtain⟨w',uy,d⟩:=xd hw Y;obtain⟨r1,r2⟩:=Fe D K;exact⟨aI,⟨w',uy,d.trans rV⟩,hS,h4.trans (wt X.F X.G _ y (Qs _) s.st a6 i).1,h5.trans Y,h6.trans K,H.less hl,I,by rw[J];simp,N,by simp[I3],aM,(A.more (λx L=>Zw _ L) K).snoc (hn.more (λx L=>QI _ L) (Qf _)),C,r1,E.trans r2.symm,by simp only;omega⟩
def Z9.inn(h:Z9 X nm l st a6 i q Uq Vq s){y:Nd}(hy:l[s.j]? =some y)(aW:zc nm s.j=true){Y:Value}{lU:List Value}{C:List UC}{d:List aC}{Z W:List kC}(hS:lf (zW X.F X.G y s.st a6 i).2 Y lU C d Z)(hU:s.U.map UC.q <+:C.map UC.q)(N:s.V.map aC.q <+:d.map aC.q)
 {ws:List Value} {S:PN} (oV:S=(zW X.F X.G y s.st a6 i).1) (hn:AX W (d.map aC.q) S ws) {bZ:Value} {bf:List Value} (aM:ke 13 bZ (s.j+1) (s.rows++[ws]).flatten bf)
 {g:Value} {D:List Value} {m:List Nat} (O:(kd nm≠5/\g=s.vv/\D=s.pD/\m=s.nI)∨(kd nm=5/\s.st.vars.length<(d.map aC.q).length/\m=s.nI++[(d.map aC.q).getD s.st.vars.length 0]/\ke 1 g m.length (m.map λb=>kN (some b)) D)):
 Z9 X nm l st a6 i q Uq Vq ⟨s.j+1,(zW X.F X.G y s.st a6 i).2,Y,lU,C,d,Z,bZ,s.rows++[ws],bf,s.B++W,s.Ic++[S],g,m,D,s.rs++(if kd nm=5 then [wM s.st.vars.length]else [])⟩:=by
 subst oV;have aI:=(Vt.1 hy).1;have Aw:l.drop s.j=y::l.drop (s.j+1):=zD4
 obtain⟨h1,h2,h3,h4,h5,h6,K,L,M,T,I3,SW,E,H,I,J,h17⟩:=h;rw[Aw]at K L M T;simp only[kf]at K;rw[yF _ _ _ _ _ _ _ _ _ aW]at L M T;have hl:=(dD X.F X.G _ y (Qs _) s.st a6 i).2;obtain⟨w,hw,rV⟩:=h2;obtain⟨w',uy,A⟩:=xd hw hU;obtain⟨r1,r2⟩:=Fe I N;refine⟨aI,⟨w',uy,A.trans rV⟩,hS,h4.trans (wt X.F X.G _ y (Qs _) s.st a6 i).2,h5.trans hU,h6.trans N,K.less hl,L,by rw[M];simp,?_,by simp[I3],aM,(E.more (λx Q=>Zw _ Q) N).snoc (hn.more (λx Q=>QI _ Q) (Qf _)),?_,?_,?_,?_⟩
 .rw[T];simp only;split<;>simp
 .rcases O with⟨_,rfl,rfl,rfl⟩|⟨_,_,_,k⟩
  .exact H
  .exact k
 .intro r hr;rcases QH.1 hr with hr|hr
  .exact r1 r hr
  .rcases O with⟨k,_⟩|⟨k,k2,_⟩
   .rw[if_neg k]at hr;cases hr
   .rw[if_pos k,QU]at hr;exact⟨_,hr,k2⟩
 .show m=_;rw[QC,r2,<- J];rcases O with⟨k,_,_,k2⟩|⟨k,_,k2,_⟩
  .rw[if_neg k,k2];simp
  .rw[if_pos k,k2];show _=s.nI++[(d.map aC.q).getD ((s.st.vars.length:Int)).toNat 0];rw[vW]
 .exact zEO
def Z9.fin(h:Z9 X nm l st a6 i q Uq Vq s)(M:s.j=l.length):lf (ku X.F X.G nm l 0 st a6 i).2.2 s.us s.bM s.U s.V s.T/\
 AX (aj s.sv s.rows.flatten s.sp++(s.B++aj s.vv (s.nI.map λb=>kN (some b)) s.pD)) (s.V.map aC.q) (.mk (zB nm) (yA nm) fD (ku X.F X.G nm l 0 st a6 i).2.1 0 false (ku X.F X.G nm l 0 st a6 i).1) (rD (zB nm:Nat) (yA nm) s.vv s.sv):=by
 obtain⟨h1,h2,L,h4,h5,h6,h7,I,C,E,J,H,d,g,m,A,K⟩:=h;rw[M,List.drop_length,ku]at I C E;simp only[vm]at C E;rw[I,C,E];refine⟨L,?_⟩;obtain⟨N,O,P⟩:=Se m;rw[<- J]at H;have:=CM (k:=zB nm) (nm:=yA nm) (lit:=fD) (refs:=s.rs) (cg:=0) (fP:=false) (rv:=Nz) (vv:=s.vv) (B:=s.B++aj s.vv (s.nI.map λb=>kN (some b)) s.pD) H (d.more (λx D=>Zw _ D) (Qf _)) (zT _) (by rw[O];exact jd.nil _) (by
  rw[N,<- A];exact(lJ rfl g).more (λx D=>QI _ D)) P
 exact this
end
def NR(F G nm a6 u):∀(l:List Nd) (i:Nat) (st:ai),Gr st (ku F G nm l i st a6 u).2.2:=by
 intro l
 induction l with
 |nil=>intro i st;rw[ku];exact Gr.refl _
 |cons y q ihq=>
  intro i st;obtain⟨d,g⟩:=wt F G _ y (Qs _) st a6 u;cases hi:zc nm i with
  |true=>rw[yF _ _ _ _ _ _ _ _ _ hi];exact g.trans (ihq _ _)
  |false=>rw[zP _ _ _ _ _ _ _ _ _ hi];exact d.trans (ihq _ _)
def Wz {nm ak}(d:yi (kd nm) ak=true){i y}(m:ak[i]? =some y)(g:zc nm i=true):(kd nm=5/\y.a5.length=1)∨(kd nm≠5/\y.a5.length=0):=by
 have A:=(Vt.1 m).1;rw[Cj d A]at g;simp only[vG,decide_eq_true_eq]at g;have j:=sV nm;generalize kd nm=n at d g j;have hn:n=0∨n=5∨(n=1∨n=2∨n=3∨n=4):=by omega
 rcases hn with rfl|rfl|hn
 .cases d
 .obtain⟨h1,b,q,h3,s⟩:=P2 d;simp only[jL,lR]at g;obtain rfl:i=2:=by omega
  rw[m]at q;rw[X8 q];exact .inl ⟨rfl,s⟩
 .cases hp:jV y with
  |true=>exact .inr ⟨Zo,(C0 hp).2⟩
  |false=>
   have:=Gk hn g.1 m hp;rw[d]at this;cases this
def WD(F G y st a6 u):st.vars.length+y.a5.length<=(zW F G y st a6 u).2.vars.length:=by
 cases y with
 |mk k s lit a5 ae ak p=>
 rw[fB];obtain⟨f1,f2,f3,f4⟩:=jO u true false p a5 0 st a6;have g:=zv u false false p ae 0 (kO u true false p a5 0 st a6).1 (kO u true false p a5 0 st a6).2;have d:=wa F G ak (kO u false false p ae 0 (kO u true false p a5 0 st a6).1 (kO u true false p a5 0 st a6).2).1 (kO u false false p ae 0 (kO u true false p a5 0 st a6).1 (kO u true false p a5 0 st a6).2).2 u;have h1:=g.vars.length_le;have h2:=d.vars.length_le;show st.vars.length+a5.length<=_;simp only;omega
def Hl:∀l:List Nd,l.length<=Nd.ay l:=by
 intro l
 induction l with
 |nil=>exact Qs _
 |cons x r ih=>have:=x.size_pos;simp only[Nd.ay,Q0];omega
def HF(X:Fix)(l1 l2 l3 l4 l5 vk av tv:Value)(s:ByteArray)(ak:List Nd)(a:Option Addr)(ac bk ko:Nat)(ks:Nat->List Value)(GA:ak.length < 1073741824)(ha:0 < ak.length->a=some ⟨bk,ko,none⟩)(hm:∀i,i < ak.length->∀y∈kA bk (ko+i*11) (ks i),y∈X.S)(hr:∀i x,ak[i]? =some x->jD X.S x (ks i))(N:Nat)(hN:Nd.ay ak<=N)(hN2:N < 1073741824)(iL:rC ak=true)(aR:∀x,x.size<=N->ML x=true->∀vs,jD X.S x vs->qq X x vs)(p:Int)(dw:yi (kd s) ak=true)
 (st:ai) (us:Value) (Z:List Value) (U:List UC) (Vs:List aC) (T:List kC) (hS:lf st us Z U Vs T) (i:Nat) (u:UC) (hu:U[i]? =some u) (a6:List Nat) (b:Nat) (es:Array MapEntry) (c:Nat) (hs:zX st Vs a6 es c) (H7:∀v∈a6,st.ah v∈st.line i) (bn:yP st (kf ak)):
 tI X 207 [kE X.wq,.agg #[vk,.string s,l1,l2,l3,l4,l5,av,tv,.slice a ak.length ac,.int .i64 p],vi (jL (kd s)),vi (lR (kd s)),kE u.q,.map (some b)] st (ku X.F X.G s ak 0 st a6 i).2.2 us Z U Vs T b es c (PartR (.mk (zB s) (yA s) fD (ku X.F X.G s ak 0 st a6 i).2.1 0 false (ku X.F X.G s ak 0 st a6 i).1)):=by
 have Am:kd s=1∨kd s=2∨kd s=3∨kd s=4∨kd s=5:=by
  have h1:=sV s;have h2:kd s≠0:=λe=>by rw[e]at dw;cases dw
  omega
 have hto:s=nmTo↔kd s=5:=by
  constructor
  .rintro rfl;decide
  .intro h;unfold kd at h
   repeat' split at h
   all_goals first|omega|assumption
 refine jr.intro low207 Zn9 ?_;refine VC.join (α:=Nat×Nat) (bg:=λq=>[(0,kE X.wq),(2,vi (jL (kd s))),(3,vi (lR (kd s))),(4,kE u.q),(5,.map (some b)),(7,kE q.1),(12,kE q.2)]) (Hf:=λq=>[kA q.2 0 (rD 0 e0 Nz Nz),kA q.1 0 [vk,.string s,l1,l2,l3,l4,l5,av,tv,.slice a ak.length ac,vi p],kA X.wq 0 (xm1 X us),aj us (U.map λu=>kN (some u.q)) Z,xf1 X,xg1 X,WK U Vs,T,[.obj b (.map es c)],X.S]) (I:=λ_=>True) ?_ ?_
 .refine af ?_;refine kZ Zr (λq7=>?_);simp only[Value.cells];refine kJ (λdN=>?_);refine af ?_;exact⟨(q7,dN),trivial,ZU,by unfold rD e0;exact bH⟩
 rintro⟨q7,dN⟩ _
 dsimp only;refine VC.join (α:=Nat) (bg:=λKY=>[(0,kE X.wq),(2,vi (jL (kd s))),(3,vi (lR (kd s))),(4,kE u.q),(5,.map (some b)),(7,kE q7),(12,kE dN),(13,kE KY)]) (Hf:=λKY=>[kA KY 0 (rD 11 s Nz Nz),kA dN 0 (rD 0 e0 Nz Nz),kA q7 0 [vk,.string s,l1,l2,l3,l4,l5,av,tv,.slice a ak.length ac,vi p],kA X.wq 0 (xm1 X us),aj us (U.map λu=>kN (some u.q)) Z,xf1 X,xg1 X,WK U Vs,T,[.obj b (.map es c)],X.S]) (I:=λ_=>True) ?_ (λKY _=>?_)
 .refine af ?_;refine kJ (λKY=>?_);refine af ?_;exact⟨KY,trivial,ZU,by unfold rD e0;exact bH⟩
 refine VC.join (α:=Unit) (bg:=λ_=>[(0,kE X.wq),(2,vi (jL (kd s))),(3,vi (lR (kd s))),(4,kE u.q),(5,.map (some b)),(7,kE q7),(12,kE dN),(13,kE KY)]) (Hf:=λ_=>[kA KY 0 (rD (zB s:Nat) (yA s) Nz Nz),kA dN 0 (rD 0 e0 Nz Nz),kA q7 0 [vk,.string s,l1,l2,l3,l4,l5,av,tv,.slice a ak.length ac,vi p],kA X.wq 0 (xm1 X us),aj us (U.map λu=>kN (some u.q)) Z,xf1 X,xg1 X,WK U Vs,T,[.obj b (.map es c)],X.S]) (I:=λ_=>True) ?_ (λ_ _=>?_)
 .unfold rD;refine af ?_;rcases Am with h|h|h|h|h
  .exact zBT
  .exact zBT
  .exact zCL
  .exact zCL
  .have hf:jL (kd s)=2:=by rw[h];rfl
   have e1:zB s=13:=by simp[zB,h]
   have e2:yA s=e0:=by simp[yA,h]
   rw[e1,e2];rw[A1 ((jL (kd s):Int)=0)];refine af ?_;rw[show decide (s=⟨#[116,111,58,100,111,58]⟩)=true from Zt (hto.2 h)];refine af ?_;exact⟨(),trivial,ZU,by simp only[e0];exact ap.refl _⟩
 refine af ?_;refine VC.loop (α:=SpS) (bg:=λp=>[(0,kE X.wq),(2,vi (jL (kd s))),(3,vi (lR (kd s))),(4,kE u.q),(5,.map (some b)),(12,kE dN),(13,kE KY),(36,.slice a ak.length ac),(37,vi ak.length),(38,vi p.j)])
  (Hf:=λp=>[kA KY 0 (rD (zB s:Nat) (yA s) p.vv p.sv),kA dN 0 (rD 0 e0 Nz Nz),kA X.wq 0 [.map (some X.fb),.map (some X.gb),p.us],aj p.us (p.U.map λu=>kN (some u.q)) p.bM,xf1 X,xg1 X,WK p.U p.V,p.T,[.obj b (.map es c)],X.S,aj p.sv p.rows.flatten p.sp,p.B,aj p.vv (p.nI.map λb=>kN (some b)) p.pD]) (I:=Z9 X s ak st a6 i u.q (U.map UC.q) (Vs.map aC.q)) (μ:=λp=>ak.length-p.j) ⟨0,st,us,Z,U,Vs,T,Nz,[],[],[],[],Nz,[],[],[]⟩
  ⟨X0 _,⟨u,hu,rfl⟩,hS,Gr.refl st,Qf _,Qf _,bn,rfl,rfl,rfl,rfl,.nil,zz.nil _ _,.nil,Zs,rfl,Qs _⟩ ZU (ap.cut (M:=[kA KY 0 (rD (zB s:Nat) (yA s) Nz Nz),kA dN 0 (rD 0 e0 Nz Nz),kA X.wq 0 (xm1 X us),aj us (U.map λu=>kN (some u.q)) Z,xf1 X,xg1 X,WK U Vs,T,[.obj b (.map es c)],X.S]) ZI (ap.perm A4)) ?_
 rintro⟨j,d,J,pN,A,K,Y,sv,rows,sp,B,Ic,vv,nI,pD,rs⟩ g
 have gh:j<=ak.length:=g.j;obtain⟨Q,W,gP⟩:∃Q W,sv=.slice Q j W:=g.sl.form;obtain⟨pa,pc,ES⟩:∃pa pc,vv=.slice pa nI.length pc:=g.vsl.form;obtain⟨w,hw,rV⟩:∃w,A[i]? =some w/\w.q=u.q:=g.u;subst gP;subst ES;dsimp only;unfold rD;refine af ?_;by_cases aI:j<ak.length;rotate_left
 .rw[A1 ((j:Int) < (ak.length:Int))];obtain⟨f1,f2⟩:=g.fin (by show j=ak.length;omega);refine af ?_;refine jU ⟨.inr rfl,_,[kA X.wq 0 (xm1 X J),aj J (A.map λu=>kN (some u.q)) pN,xf1 X,xg1 X,WK A K,Y,[.obj b (.map es c)],X.S,aj (.slice Q j W) rows.flatten sp++(B++aj (.slice pa nI.length pc) (nI.map λb=>kN (some b)) pD)],.az (us:=rD (zB s:Nat) (yA s) (.slice pa nI.length pc) (.slice Q j W)) Zr Zr zSb .nil,?_,⟨J,pN,A,K,Y,_,⟨f1,g.pU,g.pV,_,rfl,f2⟩,rfl⟩⟩;refine ap.cut (M:=[kA X.wq 0 (xm1 X J),aj J (A.map λu=>kN (some u.q)) pN,xf1 X,xg1 X,WK A K,Y,[.obj b (.map es c)],X.S,aj (.slice Q j W) rows.flatten sp,B,aj (.slice pa nI.length pc) (nI.map λb=>kN (some b)) pD]) ZI (ap.perm Zs)
 rw[A0 ((j:Int) < (ak.length:Int))];obtain rfl:=ha Zo;obtain⟨y,hy⟩:∃y,ak[j]? =some y:=⟨_,Zg aI⟩;have cA:=hm j aI;have bQ:=hr j y hy;have Wv:y.size<=N:=by have:=Nd.aJ (Zv hy);omega
 have Wu:=yu iL (Zv hy);have hoy:=aR y Wv Wu;have hiq:=Cj dw aI;generalize ks j=kj at*;refine af ?_;obtain⟨e1,e2,e3,e4,e5,e6,e7,a1,c1,a2,c2,a3,c3,O6,o2,Dl,rfl,gO,bI,bL,hk8,Gp,rT,de,hcp2⟩:=w9 bQ;refine kR Zr (λz hz=>by have h9:=cA z hz;simp[h9]) rfl ?_;refine jB ?_;refine kJ (λq15=>?_);refine jB ?_;apply VC.seq;refine VC.join (α:=Unit) (bg:=λ_=>[(0,kE X.wq),(2,vi (jL (kd s))),(3,vi (lR (kd s))),(4,kE u.q),(5,.map (some b)),(12,kE dN),(13,kE KY),(15,kE q15),(36,.slice (some ⟨bk,ko,none⟩) ak.length ac),(37,vi ak.length),(38,vi j),(50,.bool (!zc s j))])
  (Hf:=λ_=>[kA q15 0 (rN y.kind y.name e1 e2 e3 e4 e5 e6 e7 a1 y.a5.length c1 a2 y.ae.length c2 a3 y.ak.length c3 y.at_),kA KY 0 [.int .u8 (zB s:Nat),.string (yA s),.int .u8 0,vi 0,.int .u64 0,.string e0,Nz,Nz,vi 0,.bool false,Nz,.slice pa nI.length pc,.slice Q j W],kA dN 0 (rZ1 e0),kA X.wq 0 (xm1 X J),aj J (A.map λu=>kN (some u.q)) pN,xf1 X,xg1 X,WK A K,Y,[.obj b (.map es c)],X.S,aj (.slice Q j W) rows.flatten sp,B,aj (.slice pa nI.length pc) (nI.map λb=>kN (some b)) pD]) (I:=λ_=>True) ?_ (λ_ _=>?_)
 .rw[hiq];refine af ?_;by_cases c1:(j:Int)<(jL (kd s):Int)
  .rw[Zt c1,A1 (jL (kd s)<=j)];refine af ?_;exact⟨(),trivial,ZU,ap.refl _⟩
  .rw[Zf c1,A0 (jL (kd s)<=j)];refine af ?_;by_cases c2:(lR (kd s):Int)<=(j:Int)
   .rw[Zt c2,A1 (j < lR (kd s))];refine af ?_;exact⟨(),trivial,ZU,ap.refl _⟩
   .rw[Zf c2,A0 (j < lR (kd s))];refine af ?_;exact⟨(),trivial,ZU,ap.refl _⟩
 have qY:yP d (kf (ak.drop j)):=g.room;have Aw:ak.drop j=y::ak.drop (j+1):=zD4
 rw[Aw]at qY;simp only[kf]at qY;have Ra:lf d J pN A K Y:=g.ok;have Ac:Gr st d:=g.gr;have hpV:Vs.map aC.q <+:K.map aC.q:=g.pV;have cm:i<st.a7.length:=by have:=(Vt.1 hu).1;rw[hS.rep.ul]at this;exact this
 have Ay:=hs.more Ac.vars hpV hS.rep.vl;have L:∀v∈a6,d.ah v∈d.line i:=λv hv=>by
  obtain⟨k1,k2⟩:=uU Ac hS.rep.wf Ra.rep.wf cm (hs.lt v hv);rw[k1,k2];exact H7 v hv
 have H:ke 13 (.slice Q j W) j rows.flatten sp:=g.sl;have hvsl0:ke 1 (.slice pa nI.length pc) nI.length (nI.map λb=>kN (some b)) pD:=g.vsl;have hfew:rs.length<=j:=g.few;have hptl:nI.length=rs.length:=by have e:nI=_:=g.nI;rw[e,Q6]
 have D:(ku X.F X.G s ak 0 st a6 i).2.2=(ku X.F X.G s (ak.drop j) j d a6 i).2.2:=g.e3;rw[Aw]at D;cases aW:zc s j with
 |false=>
  rw[zP _ _ _ _ _ _ _ _ _ aW]at D;simp only[vQ];have N6:=hoy _ bQ d J pN A K Y Ra i w hw a6 b es c Ay L (qY.mono Zo);rw[rV]at N6;refine jB ?_;cases ZN:(jF X.F X.G y d a6 i).2.f with
  |some e=>
   have iK:∀x,(jF X.F X.G y d a6 i).2.f=some x->(ku X.F X.G s ak 0 st a6 i).2.2.f=some x:=λx hx=>by rw[D];exact(NR _ _ _ _ _ _ _ _).f _ hx
   refine VC.seq (VC.EF ⟨⟨[_,_,_,_,_,_],_,_,_,_,rfl,?_⟩,⟨[_,_,_,_,_],_,_,_,_,rfl,?_⟩,trivial⟩)
   .refine⟨?_,?_,trivial⟩
    all_goals
     refine af ?_;refine kM N6 Zr ZP (λv dl hv=>?_) (λch dl hz=>?_)
     .exact zCG
     .exact zC6
   .refine⟨?_,?_,?_,?_,trivial⟩
    all_goals
     refine af ?_;refine kM N6 Zr ZP (λv dl hv=>?_) (λch dl hz=>?_)
     .exact zCG
     .exact zC6
  |none=>
   refine VC.seq (VC.draws ⟨?_,?_,trivial⟩)
   all_goals
    refine af ?_;refine kM N6 Zr ZP (λv dl hv=>?_) (λch dl hz=>?_);rotate_left
    .obtain⟨q1,SV,p1,cM,rfl,rfl⟩:=hz;rw[ZN]at cM;cases cM
    obtain⟨pM,lU,U2,V2,T2,B2,⟨Ky,Ah,Ai,ws,rfl,E⟩,rfl⟩:=hv;simp only[aE];obtain⟨pn,O⟩:∃pn,pn=(jF X.F X.G y d a6 i).1:=⟨_,rfl⟩;rw[<- O]at E;obtain⟨f1,f2,f3,f4,f5,f6,f7,r1,r2,r3,p1,p2,p3,k1,k2,k3,Az⟩:=mO E;subst Az;refine af ?_;refine kV (out:=[.int .u8 pn.kind,.string pn.name,.int .u8 f1,vi f2,.int .u64 f3,.string f4,.slice f5 f6 f7,.slice r1 r2 r3,vi pn.cg,.bool pn.super,Nz,.slice p1 p2 p3,.slice k1 k2 k3]) Zr Zr (λr=>?_);refine af ?_;refine kX (k:=j) (m:=1) (xs:=rows.flatten) (sp:=sp) (ys:=[.int .u8 pn.kind,.string pn.name,.int .u8 f1,vi f2,.int .u64 f3,.string f4,.slice f5 f6 f7,.slice r1 r2 r3,vi pn.cg,.bool pn.super,Nz,.slice p1 p2 p3,.slice k1 k2 k3]) Zr Zr H ZK Zr ?_ rfl Zr Zr Zd Zo (λbZ bf C=>?_)
    .exact l9
    have cf:rows.flatten++([.int .u8 pn.kind,.string pn.name,.int .u8 f1,vi f2,.int .u64 f3,.string f4,.slice f5 f6 f7,.slice r1 r2 r3,vi pn.cg,.bool pn.super,Nz,.slice p1 p2 p3,.slice k1 k2 k3]:List Value)=(rows++[([.int .u8 pn.kind,.string pn.name,.int .u8 f1,vi f2,.int .u64 f3,.string f4,.slice f5 f6 f7,.slice r1 r2 r3,vi pn.cg,.bool pn.super,Nz,.slice p1 p2 p3,.slice k1 k2 k3]:List Value)]).flatten:=by simp
    rw[cf]at C|-;obtain⟨dZ,ed,rfl⟩:=C.form;have og:=g.out hy aW Ky Ah Ai O E C;exact zAM
 |true=>
  rw[yF _ _ _ _ _ _ _ _ _ aW]at D;simp only[Bool.not_true];have iK:∀x,(zW X.F X.G y d a6 i).2.f=some x->(ku X.F X.G s ak 0 st a6 i).2.2.f=some x:=λx hx=>by rw[D];exact(NR _ _ _ _ _ _ _ _).f _ hx
  have Gs:cV y=cW y.a5 y.ae (kf y.ak):=by cases y;rfl
  have hys2:y.size=1+Nd.ay y.ak:=by cases y;rfl
  have hyk:rC y.ak=true:=by
   cases y;simp only[ML,vG]at Wu;exact Wu.2
  have cS:=Hl y.ak;have eB:=Jm X (.int .u8 y.kind) (.int .u8 e1) (vi e2) (.int .u64 e3) (.string e4) (.slice e5 e6 e7) (.string y.name) y.kind y.name y.lit y.a5 y.ae (.slice a1 y.a5.length c1) (.slice a2 y.ae.length c2) bI bL y.ak a3 c3 O6 o2 Dl Zo Gp rT de
   (λi' x' p7=>aR x' (by have:=Nd.aJ (Zv p7);omega) (yu hyk (Zv p7)) _ (de i' x' p7)) y.at_ d J pN A K Y Ra i w hw a6 b es c Ay L (by rw[<- Gs];exact qY.mono Zo)
  rw[<- Nd.eta y,rV]at eB;rcases Wz dw hy aW with⟨h5,oU⟩|⟨h5,oU⟩
  .skip
   refine af ?_;refine kM eB Zr ZP (λv dl hv=>?_) (λch dl hz=>?_);rotate_left
   .exact zC6
   obtain⟨pM,lU,U2,V2,T2,B2,⟨Ky,Ah,Ai,ws,hv,E⟩,rfl⟩:=hv;simp only[aE];obtain⟨pn,O⟩:∃pn,pn=(zW X.F X.G y d a6 i).1:=⟨_,rfl⟩;rw[<- O]at E;obtain⟨f1,f2,f3,f4,f5,f6,f7,r1,r2,r3,p1,p2,p3,k1,k2,k3,Az⟩:=mO E;subst Az;have DO:d.vars.length<(V2.map aC.q).length:=by
    have h1:=WD X.F X.G y d a6 i;rw[Q6,Ky.rep.vl];omega
   have xD:dh (((V2.map aC.q).drop d.vars.length).take y.a5.length)=kE ((V2.map aC.q).getD d.vars.length 0):=by
    rw[oU,vt DO,Vh,Zg DO];rfl
   rw[xD]at hv;subst hv;refine af ?_;refine kJ (λq16=>?_);refine af ?_;refine kV (out:=[.int .u8 pn.kind,.string pn.name,.int .u8 f1,vi f2,.int .u64 f3,.string f4,.slice f5 f6 f7,.slice r1 r2 r3,vi pn.cg,.bool pn.super,Nz,.slice p1 p2 p3,.slice k1 k2 k3]) Zr Zr (λr=>?_);refine af ?_;refine kX (k:=j) (m:=1) (xs:=rows.flatten) (sp:=sp) (ys:=[.int .u8 pn.kind,.string pn.name,.int .u8 f1,vi f2,.int .u64 f3,.string f4,.slice f5 f6 f7,.slice r1 r2 r3,vi pn.cg,.bool pn.super,Nz,.slice p1 p2 p3,.slice k1 k2 k3]) Zr Zr H ZK Zr ?_ rfl Zr Zr Zd Zo (λbZ bf C=>?_)
   .exact l9
   have cf:rows.flatten++([.int .u8 pn.kind,.string pn.name,.int .u8 f1,vi f2,.int .u64 f3,.string f4,.slice f5 f6 f7,.slice r1 r2 r3,vi pn.cg,.bool pn.super,Nz,.slice p1 p2 p3,.slice k1 k2 k3]:List Value)=(rows++[([.int .u8 pn.kind,.string pn.name,.int .u8 f1,vi f2,.int .u64 f3,.string f4,.slice f5 f6 f7,.slice r1 r2 r3,vi pn.cg,.bool pn.super,Nz,.slice p1 p2 p3,.slice k1 k2 k3]:List Value)]).flatten:=by simp
   rw[cf]at C|-;obtain⟨dZ,ed,rfl⟩:=C.form;refine af ?_;refine kV (out:=[kE ((V2.map aC.q).getD d.vars.length 0)]) Zr Zr (λrr2=>?_);refine af ?_;refine kX (k:=nI.length) (m:=1) (xs:=nI.map λb=>kN (some b)) (sp:=pD) (ys:=[kE ((V2.map aC.q).getD d.vars.length 0)]) Zr Zr hvsl0 ZK Zr ?_ rfl Zr Zr Zd Zo (λvv' Y9 Wq=>?_)
   .exact l9
   have hfv:(nI.map λb=>kN (some b))++[kE ((V2.map aC.q).getD d.vars.length 0)]=(nI++[(V2.map aC.q).getD d.vars.length 0]).map λb=>kN (some b):=by simp[kN]
   rw[hfv]at Wq|-;obtain⟨pa',pc',rfl⟩:=Wq.form;have og:=g.inn hy aW Ky Ah Ai O E C (.inr ⟨h5,DO,rfl,by rw[Vz];exact Wq⟩);refine af ?_;refine⟨_,og,by simp only;omega,ZU,?_⟩;simp only;refine ap.cut (M:=[kA KY 0 [.int .u8 (zB s:Nat),.string (yA s),.int .u8 0,vi 0,.int .u64 0,.string e0,.slice none 0 0,.slice none 0 0,vi 0,.bool false,.slice none 0 0,.slice pa' (nI.length+1) pc',.slice dZ (j+1) ed],kA dN 0 [.int .u8 0,.string e0,.int .u8 0,vi 0,.int .u64 0,.string e0,.slice none 0 0,.slice none 0 0,vi 0,.bool false,.slice none 0 0,.slice none 0 0,.slice none 0 0],kA X.wq 0 (xm1 X pM),aj pM (U2.map λu=>kN (some u.q)) lU,xf1 X,xg1 X,WK U2 V2,T2,[.obj b (.map es c)],X.S,aj (.slice dZ (j+1) ed) (rows++[([.int .u8 pn.kind,.string pn.name,.int .u8 f1,vi f2,.int .u64 f3,.string f4,.slice f5 f6 f7,.slice r1 r2 r3,vi pn.cg,.bool pn.super,.slice none 0 0,.slice p1 p2 p3,.slice k1 k2 k3]:List Value)]).flatten bf,B,aj (.slice pa' (nI.length+1) pc') ((nI++[(V2.map aC.q).getD d.vars.length 0]).map λb=>kN (some b)) Y9,B2]) ZI (ap.perm ?_);simp only[Vd,Ve,vm,vj]
   repeat (first|exact vY _ QZ|refine vY _ ?_)
  .skip
   refine af ?_;refine kM eB Zr ZP (λv dl hv=>?_) (λch dl hz=>?_);rotate_left
   .exact zC6
   obtain⟨pM,lU,U2,V2,T2,B2,⟨Ky,Ah,Ai,ws,hv,E⟩,rfl⟩:=hv;simp only[aE];obtain⟨pn,O⟩:∃pn,pn=(zW X.F X.G y d a6 i).1:=⟨_,rfl⟩;rw[<- O]at E;obtain⟨f1,f2,f3,f4,f5,f6,f7,r1,r2,r3,p1,p2,p3,k1,k2,k3,Az⟩:=mO E;subst Az;have xD:dh (((V2.map aC.q).drop d.vars.length).take y.a5.length)=.pointer none:=by
    rw[oU];rfl
   rw[xD]at hv;subst hv;refine af ?_;refine kJ (λq16=>?_);refine af ?_;refine kV (out:=[.int .u8 pn.kind,.string pn.name,.int .u8 f1,vi f2,.int .u64 f3,.string f4,.slice f5 f6 f7,.slice r1 r2 r3,vi pn.cg,.bool pn.super,Nz,.slice p1 p2 p3,.slice k1 k2 k3]) Zr Zr (λr=>?_);refine af ?_;refine kX (k:=j) (m:=1) (xs:=rows.flatten) (sp:=sp) (ys:=[.int .u8 pn.kind,.string pn.name,.int .u8 f1,vi f2,.int .u64 f3,.string f4,.slice f5 f6 f7,.slice r1 r2 r3,vi pn.cg,.bool pn.super,Nz,.slice p1 p2 p3,.slice k1 k2 k3]) Zr Zr H ZK Zr ?_ rfl Zr Zr Zd Zo (λbZ bf C=>?_)
   .exact l9
   have cf:rows.flatten++([.int .u8 pn.kind,.string pn.name,.int .u8 f1,vi f2,.int .u64 f3,.string f4,.slice f5 f6 f7,.slice r1 r2 r3,vi pn.cg,.bool pn.super,Nz,.slice p1 p2 p3,.slice k1 k2 k3]:List Value)=(rows++[([.int .u8 pn.kind,.string pn.name,.int .u8 f1,vi f2,.int .u64 f3,.string f4,.slice f5 f6 f7,.slice r1 r2 r3,vi pn.cg,.bool pn.super,Nz,.slice p1 p2 p3,.slice k1 k2 k3]:List Value)]).flatten:=by simp
   rw[cf]at C|-;obtain⟨dZ,ed,rfl⟩:=C.form;have og:=g.inn hy aW Ky Ah Ai O E C (.inl ⟨h5,rfl,rfl,rfl⟩);exact zAM
structure PaS where
 k:Nat
 nm:ByteArray
 lit:Lt
 l1:Value
 l2:Value
 l3:Value
 l4:Value
 l5:Value
 refs:List wY
 rv:Value
 vv:Value
 l:List Nd
 a:Option Addr
 ac:Nat
 bk:Nat
 o:Nat
 ks:Nat->List Value
 st:ai
 us:Value
 bM:List Value
 U:List UC
 V:List aC
 T:List kC
 B:List kC
structure PaI (X:Fix)(x:Nd)(N:Nat)(st:ai)(a6:List Nat)(i:Nat)(Uq Vq:List Nat)(s:PaS):Prop where
 eq:jF X.F X.G x st a6 i=(.mk s.k s.nm s.lit s.refs 0 false (if x.kind=5 then we (jR x.ak) (kQ X.F X.G s.l s.st a6 i).1 else(kQ X.F X.G s.l s.st a6 i).1),(kQ X.F X.G s.l s.st a6 i).2)
 lt:yc s.B s.lit [s.l1,s.l2,s.l3,s.l4,s.l5]
 rr:jd s.B s.rv (zS s.refs)
 pr:zH s.B s.vv ((fk s.refs).map λr=>(s.V.map aC.q).getD r.index.toNat 0)
 rok:yb (s.V.map aC.q) s.refs
 rz:zS s.refs=[]->s.rv=Nz
 ok:lf s.st s.us s.bM s.U s.V s.T
 gr:Gr st s.st
 pU:Uq <+:s.U.map UC.q
 pV:Vq <+:s.V.map aC.q
 room:yP s.st (kf s.l)
 ha:0<s.l.length->s.a=some ⟨s.bk,s.o,none⟩
 hm:∀j,j<s.l.length->∀y∈kA s.bk (s.o+j*11) (s.ks j),y∈X.S
 hr:∀j y,s.l[j]? =some y->jD X.S y (s.ks j)
 sz:Nd.ay s.l<=N
 okl:rC s.l=true
 ne:x.kind=5->0<s.l.length
def raw_ref {F G st a6 nm u p put}(h:(jx F G st a6 nm u p put).1.kind=99):∃v∈a6,(jx F G st a6 nm u p put).1=wM v:=by
 unfold jx at h|-;split at h
 .have:=Hu nm;simp only at h;omega
 .rename_i d;rw[if_neg d];split at h
  .rename_i v g;exact⟨v,ud g,rfl⟩
  .split at h
   .simp at h
   .simp at h
def R9(X)(hX:Tt X)(N)(hN2:N < 1073741824)(ih:∀x,x.size<=N->ML x=true->∀vs,jD X.S x vs->qq X x vs)(x)(hx:x.size<=N+1)(aR:ML x=true)(vs)(h:jD X.S x vs):qq X x vs:=by
 intro st us H U Vs T hS i u hu a6 b es c hs H7 bn;have h':=h;obtain⟨e1,e2,e3,e4,e5,e6,e7,O,Y,Q,Z,m,c3,bk,J,ks,rfl,gO,bI,bL,hk8,ha,hm,K,lW⟩:=w9 h;have Jl:x.size=1+Nd.ay x.ak:=by cases x;rfl
 have Gs:cV x=cW x.a5 x.ae (kf x.ak):=by cases x;rfl
 have hokk:okK x.kind x.ak=true/\x.lit.size<=274877906944/\rC x.ak=true:=zFR
 obtain⟨sg,hlb,iL⟩:=hokk;unfold okK at sg;simp only[vG,vS,vP,decide_eq_true_eq,decide_eq_false_iff_not]at sg;obtain⟨⟨⟨hk12,hk5⟩,hk19⟩,hk4⟩:=sg;have hlen:=Hl x.ak;have DN:Nd.ay x.ak<=N:=by omega
 have eX:yP st (kf x.ak):=bn.mono (by rw[Gs];unfold cW;omega);have hsb:st.dg.length<1073741824:=by obtain⟨_,k,_⟩:=bn;omega
 have cm:i<st.a7.length:=by have:=(Vt.1 hu).1;rw[hS.rep.ul]at this;exact this
 refine jr.intro low172 Zn9 ?_;refine VC.join (α:=Nat×Nat) (bg:=λq=>[(0,kE X.wq),(2,kE u.q),(3,.map (some b)),(5,kE q.1),(8,kE q.2)]) (Hf:=λq=>[kA q.1 0 (rN x.kind x.name e1 e2 e3 e4 e5 e6 e7 O x.a5.length Y Q x.ae.length Z m x.ak.length c3 x.at_),kA q.2 0 (rZ1 e0),kA X.wq 0 (xm1 X us),aj us (U.map λu=>kN (some u.q)) H,xf1 X,xg1 X,WK U Vs,T,[.obj b (.map es c)],X.S]) (I:=λ_=>True) ?_ ?_
 .refine af ?_;refine kZ Zr (λD=>?_);simp only[Value.cells];refine kJ (λC=>?_);refine af ?_;exact⟨(D,C),trivial,ZU,by unfold e0;exact bH⟩
 rintro⟨D,C⟩ _
 dsimp only;refine VC.join (α:=Unit) (bg:=λ_=>[(0,kE X.wq),(2,kE u.q),(3,.map (some b)),(5,kE D),(8,kE C)]) (Hf:=λ_=>[kA D 0 (rN x.kind x.name e1 e2 e3 e4 e5 e6 e7 O x.a5.length Y Q x.ae.length Z m x.ak.length c3 x.at_),kA C 0 (rZ1 e0),kA X.wq 0 (xm1 X us),aj us (U.map λu=>kN (some u.q)) H,xf1 X,xg1 X,WK U Vs,T,[.obj b (.map es c)],X.S]) (I:=λ_=>z5 x=false) ?_ (λ_ aW=>?_)
 .refine af ?_;refine kH (xj X.S x _ h') Zr ZP (λv dl L=>?_);obtain⟨⟨f,t,rfl,UX⟩,rfl⟩:=L;simp only[aE];cases aW:z5 x with
  |false=>
   exact Ds
  |true=>
   obtain⟨rfl,rfl⟩:=UX aW;have dw:yi (kd x.name) x.ak=true:=by
    unfold z5 fA at aW;simp only[vG]at aW;exact aW.2
   have hP:=yf X.F X.G x.kind x.name x.lit x.a5 x.ae x.ak x.at_ st a6 i aW;rw[<- Nd.eta x]at hP;have pY:=HF X (.int .u8 e1) (vi e2) (.int .u64 e3) (.string e4) (.slice e5 e6 e7) (.int .u8 x.kind) (.slice O x.a5.length Y) (.slice Q x.ae.length Z) x.name x.ak m c3 bk J ks Zo ha hm K N Zo hN2 iL ih x.at_ dw st us H U Vs T hS i u hu a6 b es c hs H7 eX;refine af ?_;refine kM pY Zr ZP (λv dl L=>?_) (λch dl hz=>?_);rotate_left
   .exact zET
   obtain⟨pM,lU,U2,E,T2,B2,⟨Ky,Ah,Ai,ws,rfl,hn⟩,rfl⟩:=L;simp only[aE];obtain⟨pn,oV⟩:∃pn,pn=(jF X.F X.G x st a6 i).1:=⟨_,rfl⟩;have Cd:AX B2 (E.map aC.q) pn ws:=by rw[oV,hP];exact hn
   obtain⟨f1,f2,f3,f4,f5,f6,f7,r1,r2,r3,p1,p2,p3,k1,k2,k3,Az⟩:=mO Cd;subst Az;refine af ?_;refine jU ⟨.inr rfl,_,[kA X.wq 0 (xm1 X pM),aj pM (U2.map λu=>kN (some u.q)) lU,xf1 X,xg1 X,WK U2 E,T2,[.obj b (.map es c)],X.S,B2],.az (us:=[.int .u8 pn.kind,.string pn.name,.int .u8 f1,vi f2,.int .u64 f3,.string f4,.slice f5 f6 f7,.slice r1 r2 r3,vi pn.cg,.bool pn.super,Nz,.slice p1 p2 p3,.slice k1 k2 k3]) Zr Zr zSb .nil,ZI,⟨pM,lU,U2,E,T2,_,⟨by rw[hP];exact Ky,Ah,Ai,_,rfl,by rw[<- oV];exact Cd⟩,rfl⟩⟩
 refine VC.join (α:=Nat) (bg:=λs=>[(0,kE X.wq),(2,kE u.q),(3,.map (some b)),(5,kE D),(8,kE C),(12,kE s)]) (Hf:=λs=>[kA s 0 (rZ1 e0),kA D 0 (rN x.kind x.name e1 e2 e3 e4 e5 e6 e7 O x.a5.length Y Q x.ae.length Z m x.ak.length c3 x.at_),kA C 0 (rZ1 e0),kA X.wq 0 (xm1 X us),aj us (U.map λu=>kN (some u.q)) H,xf1 X,xg1 X,WK U Vs,T,[.obj b (.map es c)],X.S]) (I:=λ_=>True) ?_ (λs _=>?_)
 .refine af ?_;refine kJ (λs=>?_);refine af ?_;exact⟨s,trivial,ZU,by unfold e0;exact bH⟩
 refine VC.join (α:=Unit) (bg:=λ_=>[(0,kE X.wq),(2,kE u.q),(3,.map (some b)),(5,kE D),(8,kE C),(12,kE s),(13,.slice m x.ak.length c3)]) (Hf:=λ_=>[kA s 0 (rZ1 e0),kA D 0 (rN x.kind x.name e1 e2 e3 e4 e5 e6 e7 O x.a5.length Y Q x.ae.length Z m x.ak.length c3 x.at_),kA C 0 (rZ1 e0),kA X.wq 0 (xm1 X us),aj us (U.map λu=>kN (some u.q)) H,xf1 X,xg1 X,WK U Vs,T,[.obj b (.map es c)],X.S]) (I:=λ_=>True) ?_ (λ_ _=>?_)
 .refine af ?_;exact⟨(),trivial,ZU,ZI⟩
 refine VC.join (α:=Unit) (bg:=λ_=>[(0,kE X.wq),(2,kE u.q),(3,.map (some b)),(5,kE D),(8,kE C),(12,kE s),(13,.slice m x.ak.length c3),(14,.bool (jR x.ak))]) (Hf:=λ_=>[kA s 0 (rZ1 e0),kA D 0 (rN x.kind x.name e1 e2 e3 e4 e5 e6 e7 O x.a5.length Y Q x.ae.length Z m x.ak.length c3 x.at_),kA C 0 (rZ1 e0),kA X.wq 0 (xm1 X us),aj us (U.map λu=>kN (some u.q)) H,xf1 X,xg1 X,WK U Vs,T,[.obj b (.map es c)],X.S]) (I:=λ_=>True) ?_ (λ_ _=>?_)
 .refine af ?_;by_cases EQ:0<x.ak.length;rotate_left
  .rw[A1 ((0:Int) < (x.ak.length:Int))];refine af ?_;have sh:x.ak=[]:=vy Zo;exact⟨(),trivial,by rw[sh];exact Du,ZI⟩
  obtain rfl:=ha Zo;rw[A0 ((0:Int) < (x.ak.length:Int))];obtain⟨r,sq⟩:∃r,x.ak[0]? =some r:=⟨_,Zg Zo⟩;obtain⟨r1,r2,r3,r4,r5,r6,r7,p1,d1,p2,d2,p3,d3,O6,o2,Dl,Mj,_⟩:=w9 (K 0 r sq);have f0:kC.cell bk J (.int .u8 r.kind)∈X.S:=hm 0 Zo _ (by rw[Mj];exact kI.2 ⟨0,_,rfl,Zs⟩);have f1:kC.cell bk (J+1) (.string r.name)∈X.S:=hm 0 Zo _ (by rw[Mj];exact kI.2 ⟨1,_,rfl,Zs⟩);have Am:jR x.ak=kg r:=zCK
  refine af ?_;by_cases Jg:r.kind=2
  .rw[A0 ((r.kind:Int)=2)];refine af ?_;have hse:kg r=decide (r.name=⟨#[115,117,112,101,114]⟩):=by
    unfold kg;rw[Zt Jg,vV];exact decide_eq_decide.2 ze
   exact⟨(),trivial,by rw[Am,hse];exact Du,ZI⟩
  .rw[A1 ((r.kind:Int)=2)];refine af ?_;have hse:kg r=false:=by
    unfold kg;rw[Zf Jg,vM]
   exact⟨(),trivial,by rw[Am,hse];exact Du,ZI⟩
 refine VC.join (α:=PaS) (bg:=λp=>[(0,kE X.wq),(2,kE u.q),(3,.map (some b)),(5,kE D),(8,kE C),(12,kE s),(13,.slice p.a p.l.length p.ac),(14,.bool (jR x.ak))]) (Hf:=λp=>[kA s 0 [.int .u8 p.k,.string p.nm,p.l1,p.l2,p.l3,p.l4,p.l5,p.rv,vi 0,.bool false,Nz,p.vv,Nz],kA D 0 (rN x.kind x.name e1 e2 e3 e4 e5 e6 e7 O x.a5.length Y Q x.ae.length Z m x.ak.length c3 x.at_),kA C 0 (rZ1 e0),kA X.wq 0 [.map (some X.fb),.map (some X.gb),p.us],aj p.us (p.U.map λu=>kN (some u.q)) p.bM,xf1 X,xg1 X,WK p.U p.V,p.T,[.obj b (.map es c)],X.S,p.B]) (I:=PaI X x N st a6 i (U.map UC.q) (Vs.map aC.q)) ?_ ?_
 .skip
  have d:∀(k:Nat) (nm:ByteArray) (l:List Nd) (a:Option Addr) (ac bk J:Nat) (ks:Nat->List Value),jF X.F X.G x st a6 i=(.mk k nm fD [] 0 false (if x.kind=5 then we (jR x.ak) (kQ X.F X.G l st a6 i).1 else(kQ X.F X.G l st a6 i).1),(kQ X.F X.G l st a6 i).2)->
   yP st (kf l)->(0<l.length->a=some ⟨bk,J,none⟩)->(∀j,j<l.length->∀y∈kA bk (J+j*11) (ks j),y∈X.S)->(∀j y,l[j]? =some y->jD X.S y (ks j))->Nd.ay l<=N->rC l=true->(x.kind=5->0<l.length)->
   PaI X x N st a6 i (U.map UC.q) (Vs.map aC.q) ⟨k,nm,fD,.int .u8 0,vi 0,.int .u64 0,.string e0,Nz,[],Nz,Nz,l,a,ac,bk,J,ks,st,us,H,U,Vs,T,[]⟩:=λk nm l a ac bk J ks h1 h2 h3 h4 h5 h6 h7 h8=>
   ⟨h1,zT _,jd.nil _,zH.nil _,yb.nil _,λ_=>rfl,hS,Gr.refl _,Qf _,Qf _,h2,h3,h4,h5,h6,h7,h8⟩
  refine jB ?_;by_cases h1:x.kind=1
  .rw[A0 ((x.kind:Int)=1)];have sh:x.ak=[]:=vy (by rcases hk12 with k|k;exact absurd (.inl h1) k;exact k);have hP:=ig X.F X.G x.kind x.name x.lit x.a5 x.ae x.ak x.at_ st a6 i aW h1;rw[<- Nd.eta x]at hP;refine af ?_;refine kH (Sp X.S _ x.lit (Qs _) hlb _ gO) Zr ZP (λv dl L=>?_);obtain⟨ws,BL,rfl,GH,rfl⟩:=L;simp only[aE];have U0:=GH.rd;obtain⟨lsv,lrows,lsp,lK,rfl,_⟩:=GH.parts;obtain⟨lea,lec,hlsv⟩:=Cu U0;simp only[vp,and_true,true_and]at hlsv;subst hlsv;refine af ?_;refine⟨⟨1,e0,x.lit,cv x.lit.kind,vi x.lit.n,uv x.lit.bits,.string x.lit.text,.slice lea x.lit.ci.length lec,[],.slice none 0 0,.slice none 0 0,x.ak,m,c3,bk,J,ks,st,us,H,U,Vs,T,BL⟩,⟨?_,U0,jd.nil _,zH.nil _,yb.nil _,λ_=>rfl,hS,Gr.refl _,Qf _,Qf _,eX,ha,hm,K,DN,iL,λe=>absurd e Zo⟩,ZU,ap.cut (M:=[kA s 0 [.int .u8 1,.string e0,cv x.lit.kind,vi x.lit.n,uv x.lit.bits,.string x.lit.text,.slice lea x.lit.ci.length lec,.slice none 0 0,vi 0,.bool false,.slice none 0 0,.slice none 0 0,.slice none 0 0],kA D 0 (rN x.kind x.name e1 e2 e3 e4 e5 e6 e7 O x.a5.length Y Q x.ae.length Z m x.ak.length c3 x.at_),kA C 0 [.int .u8 0,.string e0,.int .u8 0,vi 0,.int .u64 0,.string e0,.slice none 0 0,.slice none 0 0,vi 0,.bool false,.slice none 0 0,.slice none 0 0,.slice none 0 0],kA X.wq 0 (xm1 X us),aj us (U.map λu=>kN (some u.q)) H,xf1 X,xg1 X,WK U Vs,T,[.obj b (.map es c)],X.S,BL]) ZI (ap.perm Zs)⟩;simp only;rw[hP,sh,if_neg Zo,kQ]
  rw[A1 ((x.kind:Int)=1)];refine jB ?_;refine VC.join (α:=Unit) (bg:=λ_=>[(0,kE X.wq),(2,kE u.q),(3,.map (some b)),(5,kE D),(8,kE C),(12,kE s),(13,.slice m x.ak.length c3),(14,.bool (jR x.ak)),(52,.int .u8 x.kind),(73,.bool (decide (x.kind=2∨x.kind=3)))]) (Hf:=λ_=>[kA s 0 (rZ1 e0),kA D 0 (rN x.kind x.name e1 e2 e3 e4 e5 e6 e7 O x.a5.length Y Q x.ae.length Z m x.ak.length c3 x.at_),kA C 0 (rZ1 e0),kA X.wq 0 (xm1 X us),aj us (U.map λu=>kN (some u.q)) H,xf1 X,xg1 X,WK U Vs,T,[.obj b (.map es c)],X.S]) (I:=λ_=>True) ?_ (λ_ _=>?_)
  .refine af ?_;by_cases h2:x.kind=2
   .rw[A0 ((x.kind:Int)=2),Zt (show x.kind=2∨x.kind=3 from .inl h2)];exact Ds
   .rw[A1 ((x.kind:Int)=2),show decide (x.kind=2∨x.kind=3)=decide ((x.kind:Int)=3)from decide_eq_decide.2 Zo];exact Ds
  by_cases h23:x.kind=2∨x.kind=3
  .rw[Zt h23];refine jB ?_;refine VC.join (α:=Unit) (bg:=λ_=>[(0,kE X.wq),(2,kE u.q),(3,.map (some b)),(5,kE D),(8,kE C),(12,kE s),(13,.slice m x.ak.length c3),(14,.bool (jR x.ak))]) (Hf:=λ_=>[kA s 0 [.int .u8 x.kind,.string e0,.int .u8 0,vi 0,.int .u64 0,.string e0,Nz,Nz,vi 0,.bool false,Nz,Nz,Nz],kA D 0 (rN x.kind x.name e1 e2 e3 e4 e5 e6 e7 O x.a5.length Y Q x.ae.length Z m x.ak.length c3 x.at_),kA C 0 (rZ1 e0),kA X.wq 0 (xm1 X us),aj us (U.map λu=>kN (some u.q)) H,xf1 X,xg1 X,WK U Vs,T,[.obj b (.map es c)],X.S]) (I:=λ_=>True) ?_ (λ_ _=>?_)
   .refine af ?_;by_cases h3:x.kind=3
    .rw[A0 ((x.kind:Int)=3)];refine af ?_;exact⟨(),trivial,ZU,ap.cut (M:=[kA s 0 [.int .u8 3,.string e0,.int .u8 0,vi 0,.int .u64 0,.string e0,Nz,Nz,vi 0,.bool false,Nz,Nz,Nz],kA D 0 (rN x.kind x.name e1 e2 e3 e4 e5 e6 e7 O x.a5.length Y Q x.ae.length Z m x.ak.length c3 x.at_),kA C 0 (rZ1 e0),kA X.wq 0 (xm1 X us),aj us (U.map λu=>kN (some u.q)) H,xf1 X,xg1 X,WK U Vs,T,[.obj b (.map es c)],X.S]) ZI (ap.perm (by simp[h3]))⟩
    .have h2:x.kind=2:=by omega
     rw[A1 ((x.kind:Int)=3)];refine af ?_;exact⟨(),trivial,ZU,ap.cut (M:=[kA s 0 [.int .u8 2,.string e0,.int .u8 0,vi 0,.int .u64 0,.string e0,Nz,Nz,vi 0,.bool false,Nz,Nz,Nz],kA D 0 (rN x.kind x.name e1 e2 e3 e4 e5 e6 e7 O x.a5.length Y Q x.ae.length Z m x.ak.length c3 x.at_),kA C 0 (rZ1 e0),kA X.wq 0 (xm1 X us),aj us (U.map λu=>kN (some u.q)) H,xf1 X,xg1 X,WK U Vs,T,[.obj b (.map es c)],X.S]) ZI (ap.perm (by simp[h2]))⟩
   have pS:=Nk X.F X.G X.wq X.fb X.gb us X.bS X.bW X.fc X.gc hX.f hX.g x.kind x.name (.int .u8 e1) (vi e2) (.int .u64 e3) (.string e4) (.slice e5 e6 e7) (.slice O x.a5.length Y) (.slice Q x.ae.length Z) (.slice m x.ak.length c3) x.at_ st U Vs hS.rep i u hu hS.ok hsb a6 b es c hs H7;have U0:=sD X.F X.G st a6 x.name i x.at_ (decide (x.kind=3));have Ac:=uk X.F X.G st a6 x.name i x.at_ (decide (x.kind=3));have L3:=gE X.F X.G st a6 x.name i x.at_ (decide (x.kind=3));have U9:=raw_ref (F:=X.F) (G:=X.G) (st:=st) (a6:=a6) (nm:=x.name) (u:=i) (p:=x.at_) (put:=decide (x.kind=3));obtain⟨R,hR⟩:∃R,R=jx X.F X.G st a6 x.name i x.at_ (decide (x.kind=3)):=⟨_,rfl⟩;rw[<- hR]at pS U0 Ac L3 U9;have hP:jF X.F X.G x st a6 i=(.mk x.kind e0 fD [R.1] 0 false (kQ X.F X.G x.ak R.2 a6 i).1,(kQ X.F X.G x.ak R.2 a6 i).2):=by
    rcases h23 with h2|h3
    .have sh:x.ak=[]:=vy (by rcases hk12 with k|k;exact absurd (.inr h2) k;exact k);have hP:=ii X.F X.G x.kind x.name x.lit x.a5 x.ae x.ak x.at_ st a6 i aW h2;rw[<- Nd.eta x]at hP;rw[hP,sh,kQ,hR,h2];rfl
    .have hP:=ij X.F X.G x.kind x.name x.lit x.a5 x.ae x.ak x.at_ st a6 i aW h3;rw[<- Nd.eta x]at hP;rw[hP,hR,h3];rfl
   have oi:yP R.2 (kf x.ak):=yP.less (n:=1) (bn.mono (by rw[Gs];unfold cW;omega)) U0;refine af ?_;refine kM pS Zr ZP (λv dl L=>?_) (λch dl hz=>?_);rotate_left
   .obtain⟨q1,SV,cM,rfl,rfl⟩:=hz;exact⟨[X.S,jT q1 SV x.at_],ZI,q1,SV,x.at_,by rw[hP];exact(wa _ _ _ _ _ _).f _ cM,rfl,rfl⟩
   obtain⟨U2,E,⟨Gv,L,NU,lY,mo,sj⟩,rfl⟩:=L;simp only[aE];have KT:∀W:List UC,(W.map λu=>kN (some u.q))=(W.map UC.q).map λb=>kN (some b):=λW=>by rw[QF];rfl
   have Mi:(U2.map λu=>kN (some u.q))=U.map λu=>kN (some u.q):=by rw[KT,lY,<- KT]
   have Ky:lf R.2 us H U2 E T:=by
    have Cc:U2.length=U.length:=by have:=congrArg List.length lY;rwa [Q6,Q6]at this
    refine⟨NU,Gv,by rw[Cc,Mi];exact hS.sl,λj w hw=>?_⟩;have cM:(U.map UC.body)[j]? =some w.body:=by rw[<- mo,Vu,hw];rfl
    rw[Vu]at cM;obtain⟨w1,mw,hwb⟩:=X5.1 cM;rw[L3,<- hwb];exact(hS.bod j w1 mw).more (λx hx=>hx) (by rw[sj];exact Qf _)
   have xE:E.length=R.2.vars.length:=NU.vl;by_cases h99:R.1.kind=99
   .obtain⟨vv,hve,hvr⟩:=U9 h99;have Wp:vv<(E.map aC.q).length:=by
     rw[Q6,xE];exact Qv (hs.lt vv hve) Ac.vars.length_le
    have hqe:(E.map aC.q).getD vv 0=xP E vv:=by
     have hvlt2:vv<E.length:=by rwa [Q6]at Wp
     unfold xP;rw[Vh,Vh,Vu,Zg hvlt2];rfl
    have og:uQ E R.1=.tuple #[.agg rz.toArray,kE (xP E vv)]:=by
     rw[hvr];rfl
    rw[og]at L;subst L;unfold rz;refine af ?_;refine kJ (λq15=>?_);refine af ?_;refine kV (out:=[kE (xP E vv)]) Zr Zr (λrr=>?_);refine af ?_;refine⟨⟨x.kind,e0,fD,.int .u8 0,vi 0,.int .u64 0,.string e0,Nz,[wM vv],Nz,.slice (some ⟨rr,0,none⟩) 1 1,x.ak,m,c3,bk,J,ks,R.2,us,H,U2,E,T,kA rr 0 [kE (xP E vv)]⟩,
     ⟨?_,zT _,jd.nil _,?_,?_,λ_=>rfl,Ky,Ac,by rw[lY];exact Qf _,by rw[sj];exact Qf _,oi,ha,hm,K,DN,iL,λe=>absurd e Zo⟩,ZU,by simp only[Mi];exact bH⟩
    .simp only;rw[hP,hvr,if_neg Zo]
    .show zH _ _ [(E.map aC.q).getD ((vv:Int)).toNat 0];rw[vW,hqe];refine⟨_,_,rfl,λj q hj=>⟨rr,0,rfl,?_⟩⟩;cases j with
     |zero=>
      obtain rfl:xP E vv=q:=by simpa using hj
      exact kI.2 ⟨0,_,rfl,rfl⟩
     |succ j=>simp at hj
    .exact⟨.inl λr K=>by rw[QU.1 K];rfl,λr K _=>⟨vv,QU.1 K,Wp⟩⟩
   .have og:uQ E R.1=.tuple #[.agg (kS R.1).toArray,.pointer none]:=by
     unfold uQ;rw[if_neg h99]
    rw[og]at L;subst L;unfold kS;refine af ?_;refine kJ (λq15=>?_);refine af ?_;refine kV (out:=[.int .u8 R.1.kind,vi R.1.index,vi R.1.slot,.string R.1.name]) Zr Zr (λrr=>?_);refine af ?_;have mr:zS [R.1]=[R.1]:=by unfold zS;rw[V5,if_pos (Zt h99)];rfl
    have hrw:fk [R.1]=[]:=by unfold fk;rw[V5,if_neg (by simpa using h99)];rfl
    refine⟨⟨x.kind,e0,fD,.int .u8 0,vi 0,.int .u64 0,.string e0,Nz,[R.1],.slice (some ⟨rr,0,none⟩) 1 1,Nz,x.ak,m,c3,bk,J,ks,R.2,us,H,U2,E,T,kA rr 0 (kS R.1)⟩,
     ⟨?_,zT _,?_,?_,?_,λe=>?_,Ky,Ac,by rw[lY];exact Qf _,by rw[sj];exact Qf _,oi,ha,hm,K,DN,iL,λe=>absurd e Zo⟩,ZU,by simp only[Mi];unfold kS;exact bH⟩
    .simp only;rw[hP,if_neg Zo]
    .show jd _ _ (zS [R.1]);rw[mr];refine⟨_,_,rfl,λj q hj=>⟨rr,0,rfl,λy hy=>?_⟩⟩;cases j with
     |zero=>
      obtain rfl:R.1=q:=by simpa using hj
      exact hy
     |succ j=>simp at hj
    .show zH _ _ ((fk [R.1]).map _);rw[hrw];exact zH.nil _
    .exact⟨.inr λr K=>by rw[QU.1 K];exact h99,λr K e=>by rw[QU.1 K]at e;exact absurd e h99⟩
    .have e:zS [R.1]=[]:=e;rw[mr]at e;cases e
  rw[Zf h23];refine jB ?_;by_cases h7:x.kind=7
  .rw[A0 ((x.kind:Int)=7)];have hP:=iq X.F X.G x.kind x.name x.lit x.a5 x.ae x.ak x.at_ st a6 i aW h7;rw[<- Nd.eta x]at hP;have I5:=Ba X (.int .u8 x.kind) (.int .u8 e1) (vi e2) (.int .u64 e3) (.string e4) (.slice e5 e6 e7) (.string x.name) x.a5 x.ae (.slice O x.a5.length Y) (.slice Q x.ae.length Z) bI bL x.ak m c3 bk J ks Zo ha hm K
    (λi' x' p7=>ih x' (by have:=Nd.aJ (Zv p7);omega) (yu iL (Zv p7)) _ (K i' x' p7)) x.at_ st us H U Vs T hS (i:Int) ⟨Zo,Zo⟩ a6 b es c hs (λv L=>⟨i,rfl,H7 v L⟩) (by rw[<- Gs];exact bn)
   have hoq:oC U (i:Int)=some u.q:=by
    unfold oC;rw[if_neg Zo,vW,hu];rfl
   rw[hoq]at I5;refine af ?_;refine kM I5 Zr ZP (λv dl L=>?_) (λch dl hz=>?_);rotate_left
   .exact zET
   obtain⟨pM,lU,U2,E,T2,⟨Ky,Ah,Ai,w,hw,rfl⟩,rfl⟩:=L;simp only[aE];have hnum:w.num=st.a7.length:=(Ky.rep.un _ w hw).2.2.2.1;have f4:kC.cell w.q 4 (vi st.a7.length)∈WK U2 E:=yV hw _ (QK _ (Zw _ (kI.2 ⟨4,_,by unfold UC.row;rw[hnum];rfl,rfl⟩)));refine af ?_;refine jU ⟨.inr rfl,_,[kA X.wq 0 (xm1 X pM),aj pM (U2.map λu=>kN (some u.q)) lU,xf1 X,xg1 X,WK U2 E,T2,[.obj b (.map es c)],X.S,[]],.az (us:=[.int .u8 8,.string e0,.int .u8 0,vi 0,.int .u64 0,.string e0,Nz,Nz,vi st.a7.length,.bool false,Nz,Nz,Nz]) Zr Zr zSb .nil,ap.cut (M:=[kA X.wq 0 (xm1 X pM),aj pM (U2.map λu=>kN (some u.q)) lU,xf1 X,xg1 X,WK U2 E,T2,[.obj b (.map es c)],X.S]) ZI (ap.perm Zs),⟨pM,lU,U2,E,T2,_,⟨by rw[hP];exact Ky,Ah,Ai,_,rfl,?_⟩,rfl⟩⟩;rw[hP];exact CM (k:=8) (nm:=e0) (lit:=fD) (refs:=[]) (cg:=st.a7.length) (fP:=false) (ak:=[]) (rows:=[]) (sv:=Nz) (sp:=[]) (vv:=Nz) (B:=[]) .nil (zz.nil _ _) (zT _) (jd.nil _) (zH.nil _) (yb.nil _)
  rw[A1 ((x.kind:Int)=7)];refine jB ?_;by_cases h8:x.kind=8
  .rw[A0 ((x.kind:Int)=8)];have hP:=ir X.F X.G x.kind x.name x.lit x.a5 x.ae x.ak x.at_ st a6 i aW h8;rw[<- Nd.eta x]at hP;refine af ?_;exact⟨_,d 9 e0 x.ak m c3 bk J ks (by rw[hP,if_neg Zo]) eX ha hm K DN iL (λe=>absurd e Zo),ZU,ap.cut (M:=[kA s 0 [.int .u8 9,.string e0,.int .u8 0,vi 0,.int .u64 0,.string e0,Nz,Nz,vi 0,.bool false,Nz,Nz,Nz],kA D 0 (rN x.kind x.name e1 e2 e3 e4 e5 e6 e7 O x.a5.length Y Q x.ae.length Z m x.ak.length c3 x.at_),kA C 0 (rZ1 e0),kA X.wq 0 (xm1 X us),aj us (U.map λu=>kN (some u.q)) H,xf1 X,xg1 X,WK U Vs,T,[.obj b (.map es c)],X.S]) ZI (ap.perm Zs)⟩
  rw[A1 ((x.kind:Int)=8)];refine jB ?_;by_cases h9:x.kind=9
  .rw[A0 ((x.kind:Int)=9)];have hP:=iu X.F X.G x.kind x.name x.lit x.a5 x.ae x.ak x.at_ st a6 i aW h9;rw[<- Nd.eta x]at hP;refine af ?_;exact⟨_,d 10 e0 x.ak m c3 bk J ks (by rw[hP,if_neg Zo]) eX ha hm K DN iL (λe=>absurd e Zo),ZU,ap.cut (M:=[kA s 0 [.int .u8 10,.string e0,.int .u8 0,vi 0,.int .u64 0,.string e0,Nz,Nz,vi 0,.bool false,Nz,Nz,Nz],kA D 0 (rN x.kind x.name e1 e2 e3 e4 e5 e6 e7 O x.a5.length Y Q x.ae.length Z m x.ak.length c3 x.at_),kA C 0 (rZ1 e0),kA X.wq 0 (xm1 X us),aj us (U.map λu=>kN (some u.q)) H,xf1 X,xg1 X,WK U Vs,T,[.obj b (.map es c)],X.S]) ZI (ap.perm Zs)⟩
  rw[A1 ((x.kind:Int)=9)];refine jB ?_;by_cases h6:x.kind=6
  .rw[A0 ((x.kind:Int)=6)];have hP:=io X.F X.G x.kind x.name x.lit x.a5 x.ae x.ak x.at_ st a6 i aW h6;rw[<- Nd.eta x]at hP;refine jB ?_;refine VC.draws ⟨?_,?_,trivial⟩
   all_goals
    refine af ?_;exact⟨_,d 7 x.name x.ak m c3 bk J ks (by rw[hP,if_neg Zo]) eX ha hm K DN iL (λe=>absurd e Zo),ZU,ap.cut (M:=[kA s 0 [.int .u8 7,.string x.name,.int .u8 0,vi 0,.int .u64 0,.string e0,Nz,Nz,vi 0,.bool false,Nz,Nz,Nz],kA D 0 (rN x.kind x.name e1 e2 e3 e4 e5 e6 e7 O x.a5.length Y Q x.ae.length Z m x.ak.length c3 x.at_),kA C 0 (rZ1 e0),kA X.wq 0 (xm1 X us),aj us (U.map λu=>kN (some u.q)) H,xf1 X,xg1 X,WK U Vs,T,[.obj b (.map es c)],X.S]) ZI (ap.perm Zs)⟩
  rw[A1 ((x.kind:Int)=6)];refine jB ?_;by_cases h5:x.kind=5
  .rw[A0 ((x.kind:Int)=5)];have hP:=im X.F X.G x.kind x.name x.lit x.a5 x.ae x.ak x.at_ st a6 i aW h5;rw[<- Nd.eta x]at hP;refine af ?_;exact⟨_,d 6 e0 x.ak m c3 bk J ks (by rw[hP,if_pos h5]) eX ha hm K DN iL (λe=>by rcases hk5 with k|k;exact absurd e k;exact k),ZU,ap.cut (M:=[kA s 0 [.int .u8 6,.string e0,.int .u8 0,vi 0,.int .u64 0,.string e0,.slice none 0 0,.slice none 0 0,vi 0,.bool false,.slice none 0 0,.slice none 0 0,.slice none 0 0],kA D 0 (rN x.kind x.name e1 e2 e3 e4 e5 e6 e7 O x.a5.length Y Q x.ae.length Z m x.ak.length c3 x.at_),kA C 0 [.int .u8 0,.string e0,.int .u8 0,vi 0,.int .u64 0,.string e0,.slice none 0 0,.slice none 0 0,vi 0,.bool false,.slice none 0 0,.slice none 0 0,.slice none 0 0],kA X.wq 0 (xm1 X us),aj us (U.map λu=>kN (some u.q)) H,xf1 X,xg1 X,WK U Vs,T,[.obj b (.map es c)],X.S]) ZI (ap.perm Zs)⟩
  rw[A1 ((x.kind:Int)=5)];refine jB ?_;have h4:x.kind=4:=by omega
  have pR:0<x.ak.length:=by rcases hk4 with k|k;exact absurd h4 k;exact k
  cases GN:jR x.ak with
  |false=>
   have hP:=il X.F X.G x.kind x.name x.lit x.a5 x.ae x.ak x.at_ st a6 i aW Zo GN;rw[<- Nd.eta x]at hP;refine VC.seq (VC.draws ⟨?_,?_,trivial⟩)
   all_goals
    refine af ?_;exact⟨_,d 4 x.name x.ak m c3 bk J ks (by rw[hP,if_neg Zo]) eX ha hm K DN iL (λe=>absurd e Zo),ZU,ap.cut (M:=[kA s 0 [.int .u8 4,.string x.name,.int .u8 0,vi 0,.int .u64 0,.string e0,Nz,Nz,vi 0,.bool false,Nz,Nz,Nz],kA D 0 (rN x.kind x.name e1 e2 e3 e4 e5 e6 e7 O x.a5.length Y Q x.ae.length Z m x.ak.length c3 x.at_),kA C 0 (rZ1 e0),kA X.wq 0 (xm1 X us),aj us (U.map λu=>kN (some u.q)) H,xf1 X,xg1 X,WK U Vs,T,[.obj b (.map es c)],X.S]) ZI (ap.perm Zs)⟩
  |true=>
   have hP:=eI X.F X.G x.kind x.name x.lit x.a5 x.ae x.ak x.at_ st a6 i aW Zo GN;rw[<- Nd.eta x]at hP;obtain rfl:=ha pR;have sr:x.ak.tail.length=x.ak.length-1:=List.length_tail;have hgt:∀j,x.ak.tail[j]? =x.ak[j+1]?:=λj=>by rw[List.getElem?_tail]
   have hsz2:Nd.ay x.ak.tail<=N/\kf x.ak.tail<=kf x.ak/\rC x.ak.tail=true:=by
    cases hkk2:x.ak with
    |nil=>rw[hkk2]at pR;simp at pR
    |cons y l=>
     rw[hkk2]at DN iL;simp only[Nd.ay]at DN;simp only[rC,vG]at iL;simp only[List.tail_cons,kf];exact⟨Zo,Zo,iL.2⟩
   obtain⟨o',si⟩:∃o',o'=(if c3=1 then J else J+1*11):=⟨_,rfl⟩;refine VC.seq (VC.draws ⟨?_,?_,trivial⟩)
   all_goals
    refine af ?_;refine lQ (l:=1) Zr Zr rfl ⟨Zo,lW⟩ ?_;rw[<- si,show x.ak.length-1=x.ak.tail.length from sr.symm];refine af ?_;exact⟨_,d 5 x.name x.ak.tail (some ⟨bk,o',none⟩) (c3-1) bk (J+11) (λj=>ks (j+1)) (by rw[hP,if_neg Zo]) (eX.mono hsz2.2.1) (λh0=>by rw[si,if_neg Zo]) (λj hj y hy=>hm (j+1) Zo y (by rw[show J+(j+1)*11=J+11+j*11 by omega];exact hy)) (λj y hy=>K (j+1) y (by rw[<- hgt];exact hy)) hsz2.1 hsz2.2.2 (λe=>absurd e Zo),ZU,ap.cut (M:=[kA s 0 [.int .u8 5,.string x.name,.int .u8 0,vi 0,.int .u64 0,.string e0,Nz,Nz,vi 0,.bool false,Nz,Nz,Nz],kA D 0 (rN x.kind x.name e1 e2 e3 e4 e5 e6 e7 O x.a5.length Y Q x.ae.length Z (some ⟨bk,J,none⟩) x.ak.length c3 x.at_),kA C 0 (rZ1 e0),kA X.wq 0 (xm1 X us),aj us (U.map λu=>kN (some u.q)) H,xf1 X,xg1 X,WK U Vs,T,[.obj b (.map es c)],X.S]) ZI (ap.perm Zs)⟩
 rintro⟨k,nm,lit,l1,l2,l3,l4,l5,refs,rv,vv,l,a,ac,bk',o',ks',bx,Eh,pN,U1,V1,T1,B⟩ hp
 obtain⟨g1,g2,g3,g4,g5,g6,g7,g8,g9,g10,g11,g12,g13,g14,g15,g16,g17⟩:=hp;simp only at g1 g2 g3 g4 g5 g6 g7 g8 g9 g10 g11 g12 g13 g14 g15 g16 g17;dsimp only;obtain⟨w,hw,rV⟩:=xd hu g9;have hln1:∀v∈a6,bx.ah v∈bx.line i:=λv L=>by
  obtain⟨k1,k2⟩:=uU g8 hS.rep.wf g7.rep.wf cm (hs.lt v L);rw[k1,k2];exact H7 v L
 have GA:=Hl l;have aw:=A5 X l a ac bk' o' ks' Zo g12 g13 g14 (λj y hy=>ih y (by have:=Nd.aJ (Zv hy);omega) (yu g16 (Zv hy)) _ (g14 j y hy)) bx Eh pN U1 V1 T1 g7 i w hw a6 b es c (hs.more g8.vars g10 hS.rep.vl) hln1 g11;rw[rV]at aw;have hlA:=It X.F X.G l bx a6 i;obtain⟨A,hA⟩:∃A,A=kQ X.F X.G l bx a6 i:=⟨_,rfl⟩;rw[<- hA]at aw g1 hlA;obtain⟨ra,rc,Ak⟩:∃ra rc,rv=.slice ra (zS refs).length rc:=let⟨x1,x2,x3,_⟩:=g3;⟨x1,x2,x3⟩;obtain⟨va,vc,ES⟩:∃va vc,vv=.slice va ((fk refs).map λr=>(V1.map aC.q).getD r.index.toNat 0).length vc:=let⟨x1,x2,x3,_⟩:=g4;⟨x1,x2,x3⟩;obtain⟨y1,y2,y3,y4,y5,y6,y7,xD⟩:∃(y1:Nat) (y2:Int) (y3:Nat) (y4:ByteArray) (y5:Option Addr) (y6 y7:Nat),[l1,l2,l3,l4,l5]=[.int .u8 y1,vi y2,.int .u64 y3,.string y4,.slice y5 y6 y7]:=by
  generalize hx:[l1,l2,l3,l4,l5]=lv at g2;cases g2 with
  |mk Tj Gp rT de=>exact⟨_,_,_,_,_,_,_,rfl⟩
 simp only[vp,and_true]at xD;obtain⟨rfl,rfl,rfl,rfl,rfl⟩:=xD;have U5:∀(ng:Value) (dR:List Value) (U4:List UC) (V4:List aC) (T4:List kC) (sv:Value) (rows:List (List Value)) (sp:List Value) (B':List kC) (ps:List PN),V1.map aC.q <+:V4.map aC.q->ke 13 sv ps.length rows.flatten sp->zz B' (V4.map aC.q) ps rows->
  AX (aj sv rows.flatten sp++(B'++B)) (V4.map aC.q) (.mk k nm lit refs 0 false ps) ([cv k,.string nm]++[.int .u8 y1,vi y2,.int .u64 y3,.string y4,.slice y5 y6 y7]++[rv,vi 0,.bool false,Nz,vv,sv]):=λng dR U4 V4 T4 sv rows sp B' ps GK aM bA=>by
  refine CM aM (bA.more (λx hx=>Zw _ hx) (Qf _)) (g2.more λx hx=>QI _ hx) (g3.more λx hx=>QI _ hx) ?_ (g5.more GK) g6;rw[Ff g5 GK];exact g4.more λx hx=>QI _ hx
 subst Ak;subst ES;generalize Rk:(zS refs).length=n1 at*;generalize Cd:((fk refs).map λr=>(V1.map aC.q).getD r.index.toNat 0).length=n2 at*;refine af ?_;refine kM aw Zr ZP (λv dl L=>?_) (λch dl hz=>?_);rotate_left
 .obtain⟨q1,SV,p1,cM,rfl,rfl⟩:=hz;exact⟨[X.S,jT q1 SV p1],ZI,q1,SV,p1,by rw[g1];exact cM,rfl,rfl⟩
 obtain⟨ng,dR,U4,V4,T4,B4,⟨hS4,Rt,GJ,rows,uV,B5,nH,dB,rfl⟩,rfl⟩:=L;simp only[aE];obtain⟨sa,sc,rfl⟩:=nH.form;refine jB ?_;refine VC.join (α:=List (List Value)×List PN) (bg:=λ_=>[(8,kE C),(12,kE s)]) (Hf:=λp=>[kA s 0 [.int .u8 k,.string nm,.int .u8 y1,vi y2,.int .u64 y3,.string y4,.slice y5 y6 y7,.slice ra n1 rc,vi 0,.bool false,Nz,.slice va n2 vc,.slice sa A.1.length sc],kA C 0 (rZ1 e0),kA X.wq 0 (xm1 X ng),aj ng (U4.map λu=>kN (some u.q)) dR,xf1 X,xg1 X,WK U4 V4,T4,[.obj b (.map es c)],X.S,aj (.slice sa A.1.length sc) p.1.flatten uV,B5,B]) (I:=λp=>p.2=(if x.kind=5 then we (jR x.ak) A.1 else A.1)/\ke 13 (.slice sa A.1.length sc) p.2.length p.1.flatten uV/\zz B5 (V4.map aC.q) p.2 p.1) ?_ ?_
 .refine jB ?_;by_cases h5:x.kind=5;rotate_left
  .rw[A1 ((x.kind:Int)=5)];refine af ?_;exact⟨(rows,A.1),⟨by rw[if_neg h5],nH,dB⟩,ZU,ap.cut (M:=[kA s 0 [.int .u8 k,.string nm,.int .u8 y1,vi y2,.int .u64 y3,.string y4,.slice y5 y6 y7,.slice ra n1 rc,vi 0,.bool false,Nz,.slice va n2 vc,.slice sa A.1.length sc],kA C 0 (rZ1 e0),kA X.wq 0 (xm1 X ng),aj ng (U4.map λu=>kN (some u.q)) dR,xf1 X,xg1 X,WK U4 V4,T4,[.obj b (.map es c)],X.S,aj (.slice sa A.1.length sc) rows.flatten uV++B5,B]) ZI (ap.perm Zs)⟩
  rw[A0 ((x.kind:Int)=5)];have EQ:=g17 h5;obtain⟨sb,so,Yi,gP,hscl,hsla⟩:=ET nH Zo;simp only[Value.slice.injEq,true_and]at gP;obtain⟨rfl,rfl⟩:=gP;have hrl:rows.length=A.1.length:=dB.len;obtain⟨so',hso'⟩:∃so',so'=(if sc=1 then so else so+1*13):=⟨_,rfl⟩;refine af ?_;refine lQ (l:=1) Zr Zr rfl ⟨Zo,hscl⟩ ?_;rw[<- hso'];refine af ?_;refine VC.loop (α:=Nat) (bg:=λj=>[(8,kE C),(12,kE s),(14,.bool (jR x.ak)),(144,vi ((A.1.length-1:Nat):Int)),(145,vi j)]) (Hf:=λj=>[kA s 0 [.int .u8 k,.string nm,.int .u8 y1,vi y2,.int .u64 y3,.string y4,.slice y5 y6 y7,.slice ra n1 rc,vi 0,.bool false,Nz,.slice va n2 vc,.slice (some ⟨sb,so,none⟩) A.1.length sc],kA C 0 (rZ1 e0),kA X.wq 0 (xm1 X ng),aj ng (U4.map λu=>kN (some u.q)) dR,xf1 X,xg1 X,WK U4 V4,T4,[.obj b (.map es c)],X.S,kA sb so ((jn (jR x.ak) rows j).flatten++uV),B5,B]) (I:=λj=>j<=A.1.length-1) (μ:=λj=>A.1.length-1-j) 0 (X0 _) ZU (by rw[Ft,<- hsla];exact ap.cut (M:=[kA s 0 [.int .u8 k,.string nm,.int .u8 y1,vi y2,.int .u64 y3,.string y4,.slice y5 y6 y7,.slice ra n1 rc,vi 0,.bool false,Nz,.slice va n2 vc,.slice (some ⟨sb,so,none⟩) A.1.length sc],kA C 0 (rZ1 e0),kA X.wq 0 (xm1 X ng),aj ng (U4.map λu=>kN (some u.q)) dR,xf1 X,xg1 X,WK U4 V4,T4,[.obj b (.map es c)],X.S,aj (.slice (some ⟨sb,so,none⟩) A.1.length sc) rows.flatten uV++B5,B]) ZI (ap.perm Zs)) ?_;intro j hj;refine af ?_;by_cases aI:j<A.1.length-1;rotate_left
  .rw[A1 ((j:Int) < ((A.1.length - 1:Nat):Int))];have hje:j=A.1.length-1:=by omega
   subst hje;refine af ?_;refine⟨(jn (jR x.ak) rows (A.1.length-1),we (jR x.ak) A.1),⟨by rw[if_pos h5],?_,Hn dB _⟩,ZU,by rw[hsla];exact bH⟩;rw[Dh];exact nH.other (by rw[ew (zQ dB.w),ew dB.w,jg])
  rw[A0 ((j:Int) < ((A.1.length - 1:Nat):Int))];obtain⟨r,sq⟩:∃r,rows[j+1]? =some r:=⟨_,Zg Zo⟩;have hrw:=dB.w r (Zv sq);have hsj:(jn (jR x.ak) rows j)[j+1]? =some r:=by rw[wh sq,if_neg Zo]
  have uw:((jn (jR x.ak) rows j).flatten++uV).set ((j+1)*13+9) (.bool (jR x.ak))=(jn (jR x.ak) rows (j+1)).flatten++uV:=by
   have cf:=ew (zQ (b:=jR x.ak) (j:=j) dB.w);rw[jg]at cf;rw[List.set_append_left _ _ (by rw[cf];omega),IZ (zQ dB.w) hsj Zd,sY sq]
  refine af ?_;refine zr (us:=[.bool (jR x.ak)]) Zr Zr Zr Zr Zr (.there (.there (.there (.there (.there (.there (.there (.there (.there (.there (Kv.Yk (i:=(j+1)*13+9) Zo ?_))))))))))) ?_
  .have cf:=ew (zQ (b:=jR x.ak) (j:=j) dB.w);rw[jg]at cf;rw[Vz,cf];omega
  rw[uw];refine af ?_;exact⟨j+1,Zo,Zo,ZU,ZI⟩
 rintro⟨rows5,ps⟩ ⟨KU,hsl5,We⟩
 simp only at KU hsl5 We;dsimp only;rw[<- KU]at g1;have rU:=U5 ng dR U4 V4 T4 _ _ _ _ ps GJ hsl5 We;refine af ?_;refine jU ⟨.inr rfl,_,[kA X.wq 0 (xm1 X ng),aj ng (U4.map λu=>kN (some u.q)) dR,xf1 X,xg1 X,WK U4 V4,T4,[.obj b (.map es c)],X.S,aj (.slice sa A.1.length sc) rows5.flatten uV++(B5++B)],.az (us:=[.int .u8 k,.string nm,.int .u8 y1,vi y2,.int .u64 y3,.string y4,.slice y5 y6 y7,.slice ra n1 rc,vi 0,.bool false,Nz,.slice va n2 vc,.slice sa A.1.length sc]) Zr Zr zSb .nil,ap.cut (M:=[kA X.wq 0 (xm1 X ng),aj ng (U4.map λu=>kN (some u.q)) dR,xf1 X,xg1 X,WK U4 V4,T4,[.obj b (.map es c)],X.S,aj (.slice sa A.1.length sc) rows5.flatten uV,B5,B]) ZI (ap.perm Zs),⟨ng,dR,U4,V4,T4,_,⟨by rw[g1];exact hS4,g9.trans Rt,g10.trans GJ,_,rfl,by rw[g1];exact rU⟩,rfl⟩⟩
def part_ok(X)(j:Tt X):∀N,N<1073741824->∀x,x.size<=N->ML x=true->∀vs,jD X.S x vs->qq X x vs:=by
 intro N
 induction N with
 |zero=>intro _ x d;have:=x.size_pos;omega
 |succ N ih=>exact λhN x d g vs h=>R9 X j N Zo (ih Zo) x d g vs h
def Sh(a b A B):iX pg9 48 [kE a,kE b] .returning .returning [A,B] (λdl=>dl=[A,B]):=by
 refine iX.intro low48 Zn9 .none ?_;refine af ?_;refine qA.seq (qA.oJ ?_);refine af ?_;refine qA.cond (t:=false) Zr (λh=>by cases h) (λ_=>qA.skip ?_);exact kG (dl:=[A,B]) (.inl rfl) .nil rfl ZI
def Fl(d g q e p j m s A):iX pg9 48 [kE d,kE g] (.panicking (qQ q)) (.panicking [{v:=IT q,recovered:=true}]) [kA d 0 [j,m,s],kA g 0 [A],jT q e p] (λdl=>dl=[kA d 0 [.string e0,vi 0,Nz],kA g 0 [IT q],jT q e p]):=by
 refine iX.intro low48 Zn9 .some ?_;unfold IT;refine af ?_;refine qA.seq (qA.oJ ?_);refine af ?_;refine qA.cond (t:=true) Zr (λ_=>qA.oJ ?_) (λh=>by cases h);refine af ?_;exact kG (dl:=[kA d 0 [.string e0,vi 0,Nz],kA g 0 [.iface 80 (kE q)],jT q e p]) (.inl rfl) .nil rfl (by unfold e0;exact bH)
def tM(F G:List ByteArray)(x:Md):List zM×Nat×Int:=if wS x=0 then(lM F G x.a5 x.ae x.body).answer else([],wS x,0)
def ResR(S:List kC)(F G:List ByteArray)(x:Md)(v:Value)(dl:SH):Prop:=
 (∃l Ei B,tM F G x=(l,0,0)/\v=.tuple #[.agg #[.string x.aX,vi x.aH,Ei],.nilIface]/\O0 B Ei l/\dl=[S,B])∨
 (∃e p q,tM F G x=([],e,p)/\e≠0/\v=.tuple #[.agg #[.string e0,.int .i64 0,Nz],.iface 80 (kE q)]/\dl=[S,jT q e p])
def uY {x}(h:wS x=0):∀y∈x.body,kP y≠none:=by
 have g:dX x≠none:=by
  intro e;unfold wS at h;rw[e]at h;cases h
 unfold dX at g;have d:=(sM (sM (wp g).2).2).2;rw[<- jz]at d;exact Ke (Cw d)
def E7 {x}(h:wS x=0)(hw:Nd.ws x.body<=274877906944):rC x.body=true:=On λy d=>Xm y (uY h y d) (by have:=Nd.cQ d;omega)
def l8(S x vs)(h:Io S x vs)(F G fv gv)(hF:dU S fv F)(hG:dU S gv G)(hFl:F.length<=1048576)(hGl:G.length<=1048576)(H:nE x.a5 x.ae x.body<=1048576)(eU:Nd.ay x.body<=1048576)(hw:Nd.ws x.body<=274877906944):
 aq pg9 15 [.agg vs.toArray,fv,gv] [S] (λv dl=>ResR S F G x v dl):=by
 have hchk:=K2 S x vs h;obtain⟨⟨T,U,ta,tc,a,c,bk,o,us,rfl,bI,bL,bz⟩,bR,pW⟩:=h;obtain⟨fa,fc,rfl,cf,ur⟩:=hF;obtain⟨ga,gc,rfl,hgl,Ac⟩:=hG;refine aq.Od low15 Zn9 ?_;simp only[F15,EV,VDP];refine af ?_;refine kZ Zr (λQ=>?_);simp only[Value.cells];refine kJ (λd=>?_);refine kJ (λg=>?_);refine af ?_;refine kH hchk Zr ZP (λv dl hv=>?_);obtain⟨rfl,rfl⟩:=hv;simp only[aE];refine af ?_;have hc255:wS x<256:=by
  unfold wS Ux
  repeat' split
  all_goals omega
 by_cases hc:wS x=0;rotate_left
 .rw[A1 ((wS x:Int)=0)];refine af ?_;refine kZ Zr (λq=>?_);simp only[Value.cells];refine af ?_;refine⟨.inr rfl,[.agg #[.string e0,vi 0,Nz],.iface 80 (kE q)],[S,jT q (wS x) 0],.az (us:=[.string e0,vi 0,Nz]) Zr Zr zSb (.cC Zr Nt .nil),by unfold jT Ol;exact bH,.inr ⟨wS x,0,q,by unfold tM;rw[if_neg hc],hc,rfl,rfl⟩⟩
 rw[A0 ((wS x:Int)=0)];have DH:tM F G x=(lM F G x.a5 x.ae x.body).answer:=by unfold tM;rw[if_pos hc]
 have iL:=E7 hc hw;refine af ?_;refine⟨[kE d,kE g],Zr,?_⟩;refine af ?_;refine lN (λA=>?_);refine af ?_;refine lN (λC=>?_);refine af ?_;refine kZ Zr (λD=>?_);simp only[Value.cells];refine jB ?_;refine VC.join (α:=Array MapEntry×Nat) (bg:=λ_=>[(2,.slice ga G.length gc),(3,kE Q),(6,kE d),(7,kE g),(9,kE D)]) (Hf:=λs=>[kA D 0 [.map (some A),.map (some C),Nz],[.obj A (.map s.1 s.2)],[.obj C (.map #[] 0)],S,kA g 0 [.nilIface],kA d 0 [.string e0,vi 0,Nz],kA Q 0 [.string x.aX,.slice T x.a5.length U,.slice ta x.ae.length tc,vi x.aH,.slice a x.body.length c]]) (I:=λs=>rW F s.1 s.2) ?_ ?_
 .refine af ?_;refine VC.loop (α:=Nat×Array MapEntry×Nat) (bg:=λs=>[(2,.slice ga G.length gc),(3,kE Q),(6,kE d),(7,kE g),(9,kE D),(31,.slice fa F.length fc),(32,vi F.length),(33,vi s.1)]) (Hf:=λs=>[kA D 0 [.map (some A),.map (some C),Nz],[.obj A (.map s.2.1 s.2.2)],[.obj C (.map #[] 0)],S,kA g 0 [.nilIface],kA d 0 [.string e0,vi 0,Nz],kA Q 0 [.string x.aX,.slice T x.a5.length U,.slice ta x.ae.length tc,vi x.aH,.slice a x.body.length c]]) (I:=λs=>s.1<=F.length/\En F s.1 s.2.1 s.2.2) (μ:=λs=>F.length-s.1) (0,#[],0) ⟨X0 _,En.nil F⟩ ZU (by unfold e0;exact bH) ?_
  rintro⟨j,es,c0⟩ ⟨hj,ZO⟩
  simp only at hj ZO;dsimp only;refine af ?_;by_cases aI:j<F.length;rotate_left
  .rw[A1 ((j:Int) < (F.length:Int))];refine af ?_;exact⟨(es,c0),ZO.all Zo,ZU,ZI⟩
  rw[A0 ((j:Int) < (F.length:Int))];obtain⟨s,hs⟩:∃s,F[j]? =some s:=⟨_,Zg aI⟩;obtain⟨b1,o1,rfl,ez,hss⟩:=ur j s hs;obtain⟨m,tB,rT⟩:=ZO.is;refine af ?_;refine zO (E:=yw) (V:=λn:Nat=>vi n) (k:=s) Zr Zr rfl (.there .here) tB ?_;cases hg:jI s m with
  |some i0=>
   refine af ?_;refine⟨(j+1,es,c0),⟨by simp only;omega,⟨m,tB,λnm=>?_⟩⟩,by simp only;omega,ZU,ZI⟩;show jI nm m=(F.take (j+1)).findIdx? _;rw[Bv hs,<- rT];by_cases e:s=nm
   .subst e;rw[hg];rfl
   .rw[if_neg e];simp
  |none=>
   refine af ?_;refine zN (E:=yw) (V:=λn:Nat=>vi n) (k:=s) (v:=j) Zr Zr Zr rfl ZK tB (λcX c' nF=>?_);refine af ?_;refine⟨(j+1,cX,c'),⟨by simp only;omega,⟨js s j m,nF,λnm=>?_⟩⟩,by simp only;omega,ZU,ZI⟩;show jI nm (js s j m)=(F.take (j+1)).findIdx? _;rw[Bv hs,<- rT,wT];by_cases e:s=nm
   .subst e;rw[if_pos rfl,if_pos rfl,hg];rfl
   .rw[if_neg e,if_neg e];simp
 rintro⟨bS,N⟩ N1
 simp only at N1;dsimp only;refine VC.join (α:=Array MapEntry×Nat) (bg:=λ_=>[(3,kE Q),(6,kE d),(7,kE g),(9,kE D)]) (Hf:=λs=>[kA D 0 [.map (some A),.map (some C),Nz],[.obj A (.map bS N)],[.obj C (.map s.1 s.2)],S,kA g 0 [.nilIface],kA d 0 [.string e0,vi 0,Nz],kA Q 0 [.string x.aX,.slice T x.a5.length U,.slice ta x.ae.length tc,vi x.aH,.slice a x.body.length c]]) (I:=λs=>Aq G s.1 s.2) ?_ ?_
 .refine af ?_;refine VC.loop (α:=Nat×Array MapEntry×Nat) (bg:=λs=>[(3,kE Q),(6,kE d),(7,kE g),(9,kE D),(56,.slice ga G.length gc),(57,vi G.length),(58,vi s.1)]) (Hf:=λs=>[kA D 0 [.map (some A),.map (some C),Nz],[.obj A (.map bS N)],[.obj C (.map s.2.1 s.2.2)],S,kA g 0 [.nilIface],kA d 0 [.string e0,vi 0,Nz],kA Q 0 [.string x.aX,.slice T x.a5.length U,.slice ta x.ae.length tc,vi x.aH,.slice a x.body.length c]]) (I:=λs=>s.1<=G.length/\Eo G s.1 s.2.1 s.2.2) (μ:=λs=>G.length-s.1) (0,#[],0) ⟨X0 _,Eo.nil G⟩ ZU ZI ?_
  rintro⟨j,es,c0⟩ ⟨hj,Z⟩
  simp only at hj Z;dsimp only;refine af ?_;by_cases aI:j<G.length;rotate_left
  .rw[A1 ((j:Int) < (G.length:Int))];refine af ?_;exact⟨(es,c0),Z.all Zo,ZU,ZI⟩
  rw[A0 ((j:Int) < (G.length:Int))];obtain⟨s,hs⟩:∃s,G[j]? =some s:=⟨_,Zg aI⟩;obtain⟨b1,o1,rfl,ez,hss⟩:=Ac j s hs;obtain⟨m,tB,rT,hm3⟩:=Z.is;have hms:=hm3 s;refine af ?_;refine zO (E:=yw) (V:=λn:Nat=>vi n) (k:=s) Zr Zr rfl (.there (.there .here)) tB ?_;have xD:oA false (vi 0) ((jI s m).map λn:Nat=>vi n)=vi ((jI s m).getD 0:Nat):=by cases jI s m<;>rfl
  rw[xD];generalize hgn:(jI s m).getD 0=gn at hms;refine af ?_;refine zN (E:=yw) (V:=λn:Nat=>vi n) (k:=s) (v:=gn+1) Zr Zr Zr rfl ZK tB (λcX c' nF=>?_);refine af ?_;refine⟨(j+1,cX,c'),⟨by simp only;omega,⟨js s (gn+1) m,nF,λnm=>?_,λnm=>?_⟩⟩,by simp only;omega,ZU,ZI⟩
  .show decide ((jI nm (js s (gn+1) m)).getD 0=0)=!(G.take (j+1)).any _;rw[UI hs,wT];by_cases e:s=nm
   .subst e;simp
   .rw[if_neg e,Zf e,vU];exact rT nm
  .show(jI nm (js s (gn+1) m)).getD 0<=j+1;rw[wT];by_cases e:s=nm
   .rw[if_pos e];show gn+1<=j+1;omega
   .rw[if_neg e];have:=hm3 nm;omega
 rintro⟨bW,gcl⟩ UY
 simp only at UY;dsimp only;obtain⟨X,W⟩:∃X:Fix,X=⟨F,G,D,A,C,bS,bW,N,gcl,S⟩:=⟨_,rfl⟩;have hXok:Tt X:=by rw[W];exact⟨N1,UY⟩
 have hnl:=Hl x.body;refine af ?_;refine lN (λmb=>?_);have hS0:lf iU Nz [] [] [] []:=⟨⟨ph0.wf,rfl,rfl,.nil,(λi u h=>by simp at h),(λi u h=>by simp at h),(λi u h=>by simp at h),(λi u h=>by simp at h),(λv x y h=>by simp[iU]at h)⟩,rfl,.nil,λi u h=>by simp at h⟩;have I5:=Ba X (.int .u8 0) (.int .u8 0) (vi 0) (.int .u64 0) (.string e0) Nz (.string e0) x.a5 x.ae (.slice T x.a5.length U) (.slice ta x.ae.length tc) (by rw[W];exact bI) (by rw[W];exact bL) x.body a c bk o us Zo bz.at_ (by rw[W];exact bz.mem) (by rw[W];exact bz.rd)
  (λi' x' p7=>part_ok X hXok 1048576 Zo x' (by have:=Nd.aJ (Zv p7);omega) (yu iL (Zv p7)) _ (by rw[W];exact bz.rd i' x' p7)) 0 iU Nz [] [] [] [] hS0 (-1) ⟨Zo,Zd⟩ [] mb #[] 0 ⟨.nil,(λv h=>by cases h),.nil⟩ (λv h=>by cases h) ⟨by show 0+_<_;unfold nE at H;omega,by show 0+_<_;unfold nE at H;omega,by show 0+_<_;unfold nE at H;omega⟩
 rw[W]at I5;simp only at I5;have Wd:iD F G x.a5 x.ae x.body 0 iU [] (-1)=lM F G x.a5 x.ae x.body:=rfl;rw[Wd]at I5;have UN:jr pg9 49 [kE D,.agg #[.int .u8 0,.string e0,.int .u8 0,vi 0,.int .u64 0,.string e0,Nz,.slice T x.a5.length U,.slice ta x.ae.length tc,.slice a x.body.length c,vi 0],.pointer none,.map (some mb)] [kA D 0 [.map (some A),.map (some C),Nz],[.obj A (.map bS N)],[.obj C (.map bW gcl)],[.obj mb (.map #[] 0)],S] _ _:=(I5.conv (R:=[]) (by simp[V.fq,aj,WK]) (λv dl h=>⟨dl,h,by rw[vm];exact ap.refl _⟩) (λch dl h=>⟨dl,h,by rw[vm];exact ap.refl _⟩));have K:=Ot F G x.a5 x.ae x.body;have J:=Sk F G x.a5 x.ae x.body;obtain⟨st,nu⟩:∃st,st=lM F G x.a5 x.ae x.body:=⟨_,rfl⟩;rw[<- nu]at DH K J;simp only[<- nu]at UN;refine kM UN Zr ZP (λv dl hv=>?_) (λch dl hz=>?_);rotate_left
 .obtain⟨q,e,p,hf,rfl,rfl⟩:=hz;have hae:=Iv hf;have he0:e≠0:=by rcases J e p hf with h|h|h<;>omega
  refine⟨[kA d 0 [.string e0,vi 0,Nz],kA g 0 [.nilIface],jT q e p],_,_,_,Fl d g q e p _ _ _ _,rfl,ZP,?_⟩;exact zBM
 obtain⟨Eh,pN,U1,V1,T1,⟨Ra,_,_,w,mw,rfl⟩,rfl⟩:=hv;simp only[aE];obtain⟨l1,l2,l3⟩:=K.less;have Y:Bnds st:=⟨⟨Zo,Zo,λj=>by
  rw[Vh];cases e:st.a5[j]? with
  |none=>simp
  |some a=>have:=K.bw.ar a (Zv e);simp only[X3];omega⟩,λl hl=>by have:=K.bw.bd l hl;omega⟩
 have hsc:=MX st K.ph Y Ra.ok U1 V1 Ra.rep.laid Eh pN Ra.sl T1 Ra.bod D (.map (some A)) (.map (some C)) (.slice T x.a5.length U) (.slice ta x.ae.length tc) (.slice a x.body.length c) x.aX x.aH;refine af ?_;refine kM hsc Zr ZP (λv dl hv=>?_) (λch dl hz=>?_);rotate_left
 .obtain⟨q,hae,rfl,rfl⟩:=hz;obtain⟨e,he⟩:∃e:Nat,e=183:=⟨_,rfl⟩;obtain⟨p,hp⟩:∃p:Int,p=0:=⟨_,rfl⟩;rw[<- he,<- hp]at hae;have he0:e≠0:=by omega
  rw[show jT q 183 0=jT q e p by rw[he,hp]];refine⟨[kA d 0 [.string e0,vi 0,Nz],kA g 0 [.nilIface],jT q e p],_,_,_,Fl d g q e p _ _ _ _,rfl,ZP,?_⟩;exact zBM
 obtain⟨Ei,B,⟨Gp,rfl,O⟩,rfl⟩:=hv;obtain⟨L,M,hue⟩:∃L M,Ei=.slice L ((List.range st.a7.length).map st.aG).length M:=let⟨e1,e2,_,_,_,e3,_⟩:=O;⟨e1,e2,e3⟩;subst hue;generalize hl:(List.range st.a7.length).map st.aG=lu at*;generalize H7:lu.length=ln at*;simp only[aE];refine af ?_;refine⟨.inr rfl,[kA d 0 [.string x.aX,vi x.aH,.slice L ln M],kA g 0 [.nilIface]],_,_,Sh d g _ _,ZP,?_⟩
 rintro dl rfl
 refine⟨.inr rfl,[.agg #[.string x.aX,vi x.aH,.slice L ln M],.nilIface],[S,B],.az (us:=[.string x.aX,vi x.aH,.slice L ln M]) Zr Zr (λy hy=>by simp only[vq,QV,Vd,QH];repeat (first|exact Or.inl hy|refine Or.inr ?_)) (.cC Zr Nt .nil),by simp only[aE];exact bH,.inl ⟨_,_,B,DH.trans Gp,rfl,O,rfl⟩⟩
section
variable (A:List kC)
variable (hE:EtA∈A)
include hE
def TT(k:Nat)(a n:Int)(ha:kC.cell k 1 (vi a)∈A)(g:kC.cell k 2 (.iface 44 (vi n))∈A):aq pg9 16 [flP k] [A] (λv dl=>v=.tuple #[vi n,vi a]/\dl=[A]):=by
 refine aq.intro low16 Zn9 ?_;unfold flP;refine af ?_;refine kJ (λpe=>?_);refine af ?_;refine kJ (λpf=>?_);refine af ?_;refine kH (Np A hE k pf _) Zr ZP (λv dl d=>?_);obtain⟨rfl,rfl⟩:=d;simp only[aE];refine af ?_;refine kH (As_in A hE k n g pe _) Zr ZP (λv dl d=>?_);obtain⟨rfl,rfl⟩:=d;simp only[aE];refine af ?_;refine kG (.inr rfl) (.tmp Zr zT1) ⟨by simp[bU],rfl⟩ ZI
end
noncomputable section
def F73:aP:=aZ (o:=gF pq Tryz.f73 [])
def low73:Zo9 73 [] F73:=Zx9
end
end Go.Proofs.YtijnokbblmbpkaaGreatDoor
namespace Go.Proofs
open Go.Shelf
shelf_lay_g SlLaysW.n5 Slmc 5 at Tryz 72 as Tryz.slcl2
end Go.Proofs
namespace Go.Proofs.YtijnokbblmbpkaaGreatDoor
open Go Go.V
def IG(b es c):aq pg9 72 [.map (some b)] [[.obj b (.map es c)]] (λv dl=>∃d,v=.map (some d)/\dl=[[.obj b (.map es c)],[.obj d (.map es c)]]):=by
 refine⟨by kernel_rfl,λF w hs=>?_⟩;have g:w.heap[b]? =some (.map es c):=(hs.obj (b:=b) (o:=.map es c) Zs).1;refine(AnyW.maps_Clone Tryz.slcl2 b es c w g).mono ?_;exact zBW
def M6 {P n rs Γ H R Z K d s x sv k xs sp a c l A}(B:ev Γ s=some sv)(J:ev Γ x=some (.slice a l.length c))(C:ke 1 sv k xs sp)(D:Tk H (aj sv xs sp) R)(N:dU A (.slice a l.length c) l)(M:∀y∈A,y∈R.flatten)(F:(2*(k+l.length)+192)*16<=2 ^ 48)(h:∀j q,ke 1 j (k+l.length) (xs++l.map Value.string) q->VO P n rs (au d j Γ) (aj j (xs++l.map Value.string) q::R) Z K):VO P n (⟨d,none,.append 9 1 16 [.string ⟨#[]⟩] s x⟩::rs) Γ H Z K:=by
 by_cases hl:0<l.length
 .exact kX (m:=l.length) (ys:=l.map Value.string) B J C D Zr ((Sr N hl).mono M) Zs (by simp[vf,jk]) Zr Zd F h
 .have L:l=[]:=vy Zo;subst L;have G:=h sv sp (by simpa using C);simp only[QG,vm]at G;have I:VO P n rs (au d sv Γ) H Z K:=VO.imp (ap.perm (by simpa using D.perm)) G;have E:ev Γ x=some (.slice a 0 c):=J;cases C with
  |mk h1 h2' h3=>
   cases a with
   |none=>exact kX (m:=0) (ys:=[]) B E (.mk h1 h2' h3) D Zr Zr Zr Zr Zr Zd (by simpa using F) (λj q g=>by simpa using h j q (by simpa using g))
   |some ad=>exact rL B E h3 I
  |nil=>exact Dc B E I
def x9(A j l)(h:dU A j l):aq pg9 73 [j] [A] (λv dl=>∃B,AZ v l B/\dl=[A,B]):=by
 obtain⟨a,c,rfl,H,hr⟩:=h;refine aq.intro low73 Zn9 ?_;have G:∀t∈l,t.size<=140737488355328:=λt I=>by
  obtain⟨i,hi⟩:=Vv I;obtain⟨_,_,_,_,h⟩:=hr i t hi;exact h
 cases a with
 |none=>
  have d:l=[]:=by
   cases l with
   |nil=>rfl
   |cons t l=>obtain⟨_,_,h,_⟩:=hr 0 t rfl;cases h
  subst d;refine af ?_;exact kG (dl:=[A,[]]) (.inr rfl) zT1 ⟨[],⟨[],.nil,rfl,Zs,Zs⟩,rfl⟩ ⟨[],by simp[V.fq]⟩
 |some ad=>
  refine af ?_;refine kV (out:=[]) Zr Zr (λq=>?_);refine af ?_;cases d:l with
  |nil=>
   subst d;refine rL Zr Zr (Qs _) ?_;refine af ?_;exact kG (dl:=[A,[]]) (.inr rfl) zT1 ⟨[],⟨[],.mk rfl rfl (Qs _),rfl,Zs,Zs⟩,rfl⟩ ⟨[],by simp[V.fq,kA]⟩
  |cons t l'=>
   rw[<- d];obtain⟨b,o,g,_⟩:=hr 0 t (by rw[d];rfl);cases g;have C:Src [A].flatten 1 l.length (l.map Value.string) (.slice (some ⟨b,o,none⟩) l.length c):=zD2
   refine kX (k:=0) (m:=l.length) (xs:=[]) (sp:=[]) (ys:=l.map Value.string) Zr Zr (.mk rfl rfl (Qs _)) (show Tk [kA q 0 [],A] (kA q 0 []) [A]from .here) Zr C Zs (by simp[vf,jk]) Zr Zd Zo (λbZ E s=>?_);rw[QV,Qz]at*;obtain⟨D,F,rfl⟩:=s.form;refine af ?_;exact kG (dl:=[A,aj (.slice D l.length F) (l.map Value.string) E]) (.inr rfl) zT1 ⟨_,⟨_,s,rfl,H,G⟩,rfl⟩ ZI
def P7(S C op A d):∀(N:Nat) (x:Nd),x.w<=N->∀vs,jD S x vs->∀(seen out:List ByteArray) (DZ:Array MapEntry) (mc hb:Nat) (nF:Array MapEntry) (hc:Nat) (sv:Value) (sp:List Value),FrOk seen out DZ mc nF hc sv sp->
 seen.length+x.w<=1099511627776->out.length+x.w<=1099511627776->
 aq pg9 71 [.agg vs.toArray,.map (some hb),kE C,kE op,kE A] [kA C 0 [.map (some d)],kA op 0 [sv],kA A 0 [(.func (.func 71) #[] #[kE C,kE op,kE A])],[.obj d (.map DZ mc)],[.obj hb (.map nF hc)],aj (sv) ((out).map Value.string) sp,S]
  (λv dl=>∃O D bZ bf,(v=.tuple #[]/\AV (pI seen out x) O D/\ke 1 bZ (pI seen out x).length ((pI seen out x).map Value.string) bf)/\dl=[kA C 0 [.map (some d)],kA op 0 [bZ],kA A 0 [(.func (.func 71) #[] #[kE C,kE op,kE A])],[.obj d (.map O D)],[.obj hb (.map nF hc)],aj (bZ) ((pI seen out x).map Value.string) bf,S]):=by
 intro N
 induction N with
 |zero=>intro x hx;have:=x.nC;omega
 |succ N ih=>
  intro x hx vs h seen out DZ mc hb nF hc sv sp aR hsw how;obtain⟨U6,xB,aM⟩:=aR;obtain⟨sa,sc,rfl⟩:=aM.form;cases h with
  |@mk k s lit a5 ae ak p lv av tv a cc bk o us wf hl bI bL ha hm hr lW=>
  obtain⟨aa,ac,rfl,hav1,iJ⟩:=id bI;obtain⟨ta,tc,rfl,htv1,iM⟩:=id bL;have xD:=hl;cases hl with
  |@mk k1 n1 b1 t1 ci la lc RI lo MD Tj Gp rT de=>
  simp only[Nd.w]at hx hsw how;obtain⟨mH,hH1,hH2,hH3⟩:=id xB.is;obtain⟨mM,hM1,hM2⟩:=id U6.is;have hgs:=hH2 s;have hms:=hM2 s;obtain⟨s1,Wh⟩:∃s1,s1=(if k=7 then seen++a5++ae else seen):=⟨_,rfl⟩;obtain⟨o1,Rm⟩:∃o1,o1=(if(k=2∨k=3)/\wm s=0/\s∉seen/\s∉out then out++[s]else out):=⟨_,rfl⟩;have ur:pI seen out (.mk k s (.mk k1 n1 b1 t1 ci) a5 ae ak p)=wy s1 o1 ak:=by rw[pI,<- Wh,<- Rm]
  rw[ur];have hs1l:s1.length<=seen.length+a5.length+ae.length:=by
   rw[Wh];split
   .simp only[Vz];omega
   .omega
  have ho1l:o1.length<=out.length+1:=by
   rw[Rm];split
   .simp
   .omega
  obtain⟨fn,Ax⟩:∃fn,fn=(Value.func (.func 71) #[] #[kE C,kE op,kE A]):=⟨_,rfl⟩;have aK:∀(z:Nd) (us:List Value),z∈ak->jD S z us->∀(seen out:List ByteArray) (DZ:Array MapEntry) (mc hb:Nat) (nF:Array MapEntry) (hc:Nat) (sv:Value) (sp:List Value),FrOk seen out DZ mc nF hc sv sp->seen.length+z.w<=1099511627776->out.length+z.w<=1099511627776->
   eo pg9 fn [.agg us.toArray,.map (some hb)] [kA C 0 [.map (some d)],kA op 0 [sv],kA A 0 [fn],[.obj d (.map DZ mc)],[.obj hb (.map nF hc)],aj (sv) ((out).map Value.string) sp,S]
    (λv dl=>∃O D bZ bf,(v=.tuple #[]/\AV (pI seen out z) O D/\ke 1 bZ (pI seen out z).length ((pI seen out z).map Value.string) bf)/\dl=[kA C 0 [.map (some d)],kA op 0 [bZ],kA A 0 [fn],[.obj d (.map O D)],[.obj hb (.map nF hc)],aj (bZ) ((pI seen out z).map Value.string) bf,S]):=λz us L T seen out DZ mc hb nF hc sv sp g1 g2 g3=>by
   have hzw:=Nd.cQ L;rw[Ax];exact eo.cI (first:=#[]) (cap:=#[kE C,kE op,kE A]) (ih z Zo us T seen out DZ mc hb nF hc sv sp g1 g2 g3)
  rw[<- Ax];refine aq.intro low71 Zn9 ?_;simp only[aE];refine jB ?_;refine kZ Zr (λq=>?_);simp only[Value.cells];refine jB ?_;refine VC.join (α:=Array MapEntry×Nat×Value×List Value×Nat×Array MapEntry×Nat×List kC) (bg:=λr=>[(1,.map (some r.2.2.2.2.1)),(4,kE A),(5,kE q)])
   (Hf:=λr=>[kA q 0 (rA k s k1 n1 b1 t1 la ci.length lc aa a5.length ac ta ae.length tc a ak.length cc p),kA C 0 [.map (some d)],kA op 0 [r.2.2.1],kA A 0 [fn],[.obj d (.map r.1 r.2.1)],[.obj r.2.2.2.2.1 (.map r.2.2.2.2.2.1 r.2.2.2.2.2.2.1)],aj (r.2.2.1) ((o1).map Value.string) r.2.2.2.1,S,r.2.2.2.2.2.2.2])
   (I:=λr=>AV o1 r.1 r.2.1/\tF s1 r.2.2.2.2.2.1 r.2.2.2.2.2.2.1/\ke 1 r.2.2.1 o1.length (o1.map Value.string) r.2.2.2.1/\(kC.obj r.2.2.2.2.1 (.map r.2.2.2.2.2.1 r.2.2.2.2.2.2.1)::r.2.2.2.2.2.2.2).Perm (kC.obj hb (.map nF hc)::(if k=7 then [kC.obj r.2.2.2.2.1 (.map r.2.2.2.2.2.1 r.2.2.2.2.2.2.1)]else []))) ?_ ?_
  .refine af ?_;by_cases Ca:k=2
   .subst Ca;exact zAB
   by_cases tA:k=3
   .subst tA;exact zAB
   have DL:o1=out:=by rw[Rm,if_neg (λc=>c.1.elim Ca tA)]
   rw[A1 ((k:Int)=2)];refine af ?_;rw[A1 ((k:Int)=3)];refine af ?_;by_cases hk7:k=7;rotate_left
   .rw[A1 ((k:Int)=7)];have Ji:s1=seen:=by rw[Wh,if_neg hk7]
    refine af ?_;refine⟨(DZ,mc,.slice sa out.length sc,sp,hb,nF,hc,[]),⟨by rw[DL];exact U6,by rw[Ji];exact xB,by rw[DL];exact aM,by rw[if_neg hk7]⟩,ZU,?_⟩;dsimp only;rw[DL];exact bH
   subst hk7;refine af ?_;refine kH (IG hb nF hc) Zr ZP (λv dl hv=>?_);obtain⟨nK,rfl,rfl⟩:=hv;simp only[aE];have hnl:(a5++ae).length=a5.length+ae.length:=Vz;refine jB ?_;refine VC.Fs (α:=Value×List kC) (λr=>[(1,.map (some nK)),(4,kE A),(5,kE q),(47,r.1),(48,vi (a5.length+ae.length:Nat)),(49,vi (0:Nat))])
    (λr=>[kA q 0 (rA 7 s k1 n1 b1 t1 la ci.length lc aa a5.length ac ta ae.length tc a ak.length cc p),r.2,[.obj nK (.map nF hc)],kA C 0 [.map (some d)],kA op 0 [.slice sa out.length sc],kA A 0 [fn],[.obj d (.map DZ mc)],[.obj hb (.map nF hc)],aj (.slice sa out.length sc) ((out).map Value.string) sp,S])
    (λr=>∃xa xc,r.1=.slice xa (a5++ae).length xc/\dU r.2 r.1 (a5++ae)) ⟨?_,?_,trivial⟩ ?_
   .exact zAN
   .exact zAN
   rintro⟨lv,X⟩ ⟨xa,xc,e1,Aj⟩
   simp only at e1 Aj;subst e1;obtain⟨xa',xc',e',hrl,GM⟩:=id Aj;cases e';dsimp only;refine af ?_;refine VC.loop (α:=Nat×Array MapEntry×Nat) (bg:=λr=>[(1,.map (some nK)),(4,kE A),(5,kE q),(47,.slice xa (a5++ae).length xc),(48,vi (a5.length+ae.length:Nat)),(49,vi r.1)])
    (Hf:=λr=>[kA q 0 (rA 7 s k1 n1 b1 t1 la ci.length lc aa a5.length ac ta ae.length tc a ak.length cc p),X,[.obj nK (.map r.2.1 r.2.2)],kA C 0 [.map (some d)],kA op 0 [.slice sa out.length sc],kA A 0 [fn],[.obj d (.map DZ mc)],[.obj hb (.map nF hc)],aj (.slice sa out.length sc) ((out).map Value.string) sp,S])
    (I:=λr=>r.1<=a5.length+ae.length/\tF (seen++(a5++ae).take r.1) r.2.1 r.2.2) (μ:=λr=>a5.length+ae.length-r.1) (0,nF,hc) ⟨X0 _,by rw[Qm,vm];exact xB⟩ ZU ZI ?_
   rintro⟨j,HZ,c2⟩ ⟨hj,G⟩
   simp only at hj G;dsimp only;refine af ?_;by_cases aI:j<a5.length+ae.length;rotate_left
   .rw[A1 ((j:Int) < ((a5.length+ae.length:Nat):Int))];refine af ?_;rw[Ql Zo]at G;refine⟨(DZ,mc,.slice sa out.length sc,sp,nK,HZ,c2,[kC.obj hb (.map nF hc)]),⟨by rw[DL];exact U6,by rw[Wh,if_pos rfl,vj];exact G,by rw[DL];exact aM,List.Perm.swap _ _ _⟩,ZU,?_⟩;dsimp only;rw[DL];exact bH
   rw[A0 ((j:Int) < ((a5.length+ae.length:Nat):Int))];obtain⟨nm,Rl⟩:∃nm,(a5++ae)[j]? =some nm:=⟨_,Zg Zo⟩;obtain⟨xb,xo,rfl,ez,hss⟩:=GM j nm Rl;obtain⟨m2,k1',k2',k3'⟩:=id G.is;have k4:=k3' nm;have k5:=UT (s:=nm) k2' k3';rw[Vz,QB]at k4;refine af ?_;refine zO (E:=yw) (V:=λn:Nat=>vi n) (k:=nm) Zr Zr rfl Zaz k1' ?_;rw[Of];generalize hgn2:(jI nm m2).getD 0=gn2 at k4 k5;refine af ?_;refine zN (E:=yw) (V:=λn:Nat=>vi n) (k:=nm) (v:=gn2+1) Zr Zr Zr rfl ZK k1' (λcX c' hes'=>?_);refine af ?_;refine⟨(j+1,cX,c'),⟨by simp only;omega,?_⟩,by simp only;omega,ZU,ZI⟩;have df:seen++(a5++ae).take (j+1)=seen++(a5++ae).take j++[nm]:=by rw[Qi,Rl,vj];rfl
   rw[df];exact⟨⟨_,hes',k5.1,k5.2⟩⟩
  rintro⟨mes1,mc1,sv1,Fw,Y,Gu,ZH,ex⟩ ⟨g1,g2,g3,g4⟩
  simp only at g1 g2 g3 g4;dsimp only;refine af ?_;refine VC.loop (α:=Nat×Array MapEntry×Nat×Value×List Value) (bg:=λr=>[(1,.map (some Y)),(4,kE A),(59,.slice a ak.length cc),(60,vi ak.length),(61,vi r.1)])
   (Hf:=λr=>[kA C 0 [.map (some d)],kA op 0 [r.2.2.2.1],kA A 0 [fn],[.obj d (.map r.2.1 r.2.2.1)],[.obj Y (.map Gu ZH)],aj (r.2.2.2.1) ((wy s1 o1 (ak.take r.1)).map Value.string) r.2.2.2.2,S,ex])
   (I:=λr=>r.1<=ak.length/\AV (wy s1 o1 (ak.take r.1)) r.2.1 r.2.2.1/\ke 1 r.2.2.2.1 (wy s1 o1 (ak.take r.1)).length ((wy s1 o1 (ak.take r.1)).map Value.string) r.2.2.2.2) (μ:=λr=>ak.length-r.1) (0,mes1,mc1,sv1,Fw) ⟨X0 _,by rw[Qm,wy];exact g1,by rw[Qm,wy];exact g3⟩ ZU (by dsimp only;rw[Qm,wy];exact bH) ?_
  rintro⟨j,W,F,H,Q⟩ ⟨hj,i1,i2⟩
  simp only at hj i1 i2;dsimp only;obtain⟨J,U⟩:∃J,J=wy s1 o1 (ak.take j):=⟨_,rfl⟩;rw[<- U]at i1 i2|-;have ho2l:J.length<=o1.length+Nd.ws (ak.take j):=by rw[U];exact Bx s1 _ _
  refine af ?_;by_cases aI:j<ak.length;rotate_left
  .rw[A1 ((j:Int) < (ak.length:Int))];rw[Ql Zo]at U;rw[<- U];refine af ?_;refine kG (dl:=[kA C 0 [.map (some d)],kA op 0 [H],kA A 0 [fn],[.obj d (.map W F)],[.obj hb (.map nF hc)],aj (H) ((J).map Value.string) Q,S]) (.inl rfl) .nil ⟨W,F,H,Q,⟨rfl,i1,i2⟩,rfl⟩ ?_;refine ap.cut (M:=[kA C 0 [.map (some d)],kA op 0 [H],kA A 0 [fn],[.obj d (.map W F)],aj H (J.map Value.string) Q,S,[.obj Y (.map Gu ZH)],ex]) ZI ?_;refine ap.cut (M:=[kA C 0 [.map (some d)],kA op 0 [H],kA A 0 [fn],[.obj d (.map W F)],aj H (J.map Value.string) Q,S,[.obj hb (.map nF hc)],(if k=7 then [kC.obj Y (.map Gu ZH)]else [])]) (ap.perm ?_) ZI;simp only[Vd,Ve,vm];refine vY _ (vY _ (vY _ (vY _ (vY _ (vY _ ?_)))));exact g4
  rw[A0 ((j:Int) < (ak.length:Int))];obtain rfl:=ha Zo;obtain⟨z,L⟩:∃z,ak[j]? =some z:=⟨_,Zg aI⟩;have T:=hr j z L;have hzm:=hm j aI;have bN:=wf.many;have df:ak.take (j+1)=ak.take j++[z]:=by rw[Qi,L];rfl
  have Az:Nd.ws (ak.take j)+z.w<=Nd.ws ak:=by
   have e:ak=ak.take j++z::ak.drop (j+1):=by
    rw[<- Qj j ak]
    congr 1
    .rw[Qj]
    .rw[Qj,vt aI]
     congr 1
     rw[Zg aI]at L;exact X8 L
   have:=Ho (z::ak.drop (j+1)) (ak.take j);rw[<- e]at this;rw[this];simp only[Nd.ws];omega
  have Z:=aK z (us j) (Zv L) T s1 J W F Y Gu ZH H Q ⟨i1,g2,i2⟩ Zo Zo;generalize us j=uj at T hzm Z;obtain⟨f1,f2,f3,f4,f5,f6,f7,f8,f9,f10,f11,f12,f13,f14,f15,f16,f17,rfl,eU,iL⟩:=eH T;refine af ?_;refine kR Zr (λu hu=>List.mem_flatten.2 ⟨S,Zs,hzm u hu⟩) rfl ?_;refine af ?_;refine kJ (λq9=>?_);refine af ?_;refine eO Zr Z Zr ZP (λv dl hv=>?_);obtain⟨mes3,mc3,sv3,iW,⟨rfl,j1,j2⟩,rfl⟩:=hv;simp only[aE];have K:wy s1 o1 (ak.take (j+1))=pI s1 J z:=by rw[df,EP,U]
  refine af ?_;refine⟨(j+1,mes3,mc3,sv3,iW),⟨by simp only;omega,by simp only;rw[K];exact j1,by simp only;rw[K];exact j2⟩,by simp only;omega,ZU,?_⟩;dsimp only;rw[K];exact bH
def OX(S x vs)(h:jD S x vs)(hw:x.w<=274877906944):aq pg9 27 [.agg vs.toArray] [S] (λv dl=>∃B,AZ v (pI [] [] x) B/\dl=[S,B]):=by
 have F:=NQ [] x [];have Q:=I1 [] 274877906944 x [] hw (λt K=>by cases K);have hd:∀(g op d j:Nat) (G:Array MapEntry) (I s:Nat),AV [] G I->eo pg9 (.func (.func 71) #[] #[kE g,kE op,kE d]) [.agg vs.toArray,.map (some s)] [kA g 0 [.map (some j)],kA op 0 [Nz],kA d 0 [.func (.func 71) #[] #[kE g,kE op,kE d]],[.obj j (.map G I)],[.obj s (.map #[] 0)],aj Nz (([]:List ByteArray).map Value.string) [],S]
  (λv dl=>∃J A H C,(v=.tuple #[]/\AV (pI [] [] x) J A/\ke 1 H (pI [] [] x).length ((pI [] [] x).map Value.string) C)/\dl=[kA g 0 [.map (some j)],kA op 0 [H],kA d 0 [.func (.func 71) #[] #[kE g,kE op,kE d]],[.obj j (.map J A)],[.obj s (.map #[] 0)],aj H ((pI [] [] x).map Value.string) C,S]):=λg op d j G I s hm=>
  eo.cI (first:=#[]) (cap:=#[kE g,kE op,kE d]) (P7 S g op d j _ x (Qs _) vs h [] [] G I s #[] 0 Nz [] ⟨hm,tF.nil,.nil⟩ (by rw[Q7];omega) (by rw[Q7];omega))
 obtain⟨g1,g2,g3,g4,g5,g6,g7,g8,g9,X,Y,Z,g13,g14,g15,g16,rfl⟩:=yv h;refine aq.intro low27 Zn9 ?_;refine af ?_;refine kZ Zr (λq=>?_);simp only[Value.cells];refine af ?_;refine kJ (λop=>?_);refine af ?_;refine lN (λj=>?_);refine af ?_;refine zN (E:=yw) (V:=λn:Nat=>vi n) (k:=CT) (v:=1) Zr Zr Zr rfl ZK .nil (λT c1 h1=>?_);refine af ?_;refine zN (E:=yw) (V:=λn:Nat=>vi n) (k:=o8) (v:=1) Zr Zr Zr rfl ZK h1 (λHZ c2 h2=>?_);refine af ?_;refine zN (E:=yw) (V:=λn:Nat=>vi n) (k:=JI) (v:=1) Zr Zr Zr rfl ZK h2 (λU c3 h3=>?_);refine af ?_;refine zN (E:=yw) (V:=λn:Nat=>vi n) (k:=CU) (v:=1) Zr Zr Zr rfl ZK h3 (λW c4 h4=>?_);refine af ?_;refine zN (E:=yw) (V:=λn:Nat=>vi n) (k:=sO) (v:=1) Zr Zr Zr rfl ZK h4 (λm D h5=>?_);refine af ?_;refine kJ (λg=>?_);refine af ?_;refine kJ (λd=>?_);refine af ?_;refine lN (λs=>?_);refine af ?_;refine VO.imp (H':=[kA g 0 [.map (some j)],kA op 0 [Nz],kA d 0 [(.func (.func 71) #[] #[kE g,kE op,kE d])],[.obj j (.map m D)],[.obj s (.map #[] 0)],aj Nz (([]:List ByteArray).map Value.string) [],S]) ?_ ?_
 .show ap [[.obj s (.map #[] 0)],kA d 0 [(.func (.func 71) #[] #[kE g,kE op,kE d])],kA g 0 [.map (some j)],[.obj j (.map m D)],kA op 0 [Nz],kA q 0 _,S] [kA g 0 [.map (some j)],kA op 0 [Nz],kA d 0 [(.func (.func 71) #[] #[kE g,kE op,kE d])],[.obj j (.map m D)],[.obj s (.map #[] 0)],[],S];exact ap.cut (M:=[kA g 0 [.map (some j)],kA op 0 [Nz],kA d 0 [(.func (.func 71) #[] #[kE g,kE op,kE d])],[.obj j (.map m D)],[.obj s (.map #[] 0)],S]) ZI (ap.perm Zs)
 refine eO Zr (hd g op d j m D s ⟨⟨_,h5,W8⟩⟩) Zr ZP (λv dl hv=>?_);obtain⟨J,A,H,C,⟨rfl,j1,L⟩,rfl⟩:=hv;simp only[aE];obtain⟨N,O,rfl⟩:=id L.form;refine af ?_;exact kG (dl:=[S,aj (.slice N (pI [] [] x).length O) ((pI [] [] x).map Value.string) C]) (.inr rfl) zT1 ⟨_,⟨C,L,rfl,by rw[Q7]at F;omega,λt K=>by have:=Q t K;omega⟩,rfl⟩ ZI
noncomputable section
def F11:aP:=aZ (o:=gF pq Tryz.f11 [])
def low11:Zo9 11 [] F11:=Zx9
end
def u1:List zM:=(tM [] [] m1).1
def an1:(tM [] [] m1).2=(0,0):=by kernel_rfl
def an2:(tM [] [] m2)=([],181,4):=by kernel_rfl
def un1:u1.length=3:=by kernel_rfl
def un2:u1[0]?.map (·.aA)=some 2:=by kernel_rfl
def un3:u1[1]?.map (·.a9.length)=some 2:=by kernel_rfl
def un4:(u1[1]?.bind (·.a9[0]?))=some ⟨5,1,0,e0⟩:=by kernel_rfl
def un5:(u1[2]?.bind (·.a9[1]?))=some ⟨5,0,0,e0⟩:=by kernel_rfl
def un6:u1[2]?.map (·.a9.length)=some 2:=by kernel_rfl
def YZ {B v}(h:O0 B v u1):∃bk o c d o1 q g m s,v=.slice (some ⟨bk,o,none⟩) 3 c/\kC.cell bk (o+4) (vi 2)∈B/\kC.cell bk (o+8) (.slice (some ⟨d,o1,none⟩) 2 q)∈B/\kC.cell bk (o+14) (.slice (some ⟨g,m,none⟩) 2 s)∈B/\
 (∀y∈kA d o1 [.int .u8 5,vi 1,vi 0,.string ⟨#[]⟩],y∈B)/\∀y∈kA g (m+4) [.int .u8 5,vi 0,vi 0,.string ⟨#[]⟩],y∈B:=by
 obtain⟨a,c,bk,o,us,rfl,I,j,C⟩:=h;obtain⟨x0,A,W⟩:=X5.1 un2;obtain⟨L,D,X⟩:=X5.1 un3;obtain⟨M,E,Y⟩:=X5.1 un6;have J:=un4;rw[D]at J;have K:=un5;rw[E]at K;rw[un1]at I j|-;obtain rfl:=I Zd;obtain⟨S,N,r0,p0,_⟩:=C 0 x0 A;obtain⟨T,O,r1,Z,_⟩:=C 1 L D;obtain⟨U,Q,r2,p2,_⟩:=C 2 M E;obtain⟨a1,q,rfl,q1⟩:=Z;obtain⟨a2,s,rfl,q2⟩:=p2;obtain⟨d,o1,rfl,s1⟩:=q1 0 _ J;obtain⟨g,m,rfl,s2⟩:=q2 1 _ K;have F:=j 0 Zd;have G:=j 1 Zd;have H:=j 2 Zd;rw[r0]at F;rw[r1,show L.a9.length=2 from X]at G;rw[r2,show M.a9.length=2 from Y]at H;refine⟨bk,o,c,d,o1,q,g,m,s,rfl,F _ ?_,G _ ?_,H _ ?_,s1,?_⟩
 .exact kI.2 ⟨4,vi 2,by rw[<- W];rfl,Zs⟩
 .exact kI.2 ⟨2,_,rfl,Zs⟩
 .exact kI.2 ⟨2,_,rfl,Zs⟩
 .exact s2
def bl0:Nd:=.mk 7 ⟨#[]⟩ (.mk 0 0 0 ⟨#[]⟩ []) [] [] [] 0
def wh0:Nd:=.mk 4 ⟨#[119,104,105,108,101,84,114,117,101]⟩ (.mk 0 0 0 ⟨#[]⟩ []) [] [] [bl0] 0
def dU.JH(S):dU S Nz []:=⟨none,0,rfl,Zd,λi t h=>by simp at h⟩
def fD(S):yc S (.mk 0 0 0 ⟨#[]⟩ []) [cv 0,vi 0,uv 0,.string ⟨#[]⟩,Nz]:=.mk (a:=none) (c:=0) (bk:=0) (o:=0) (us:=λ_=>[]) ⟨Zd,Zd,Zd,Zd,Zd⟩ (λh=>absurd h Zs) (λi d=>absurd d Zs) (λi x g=>by simp at g)
def z11:List Value:=[.int .u8 7,.string ⟨#[]⟩,.int .u8 0,.int .i64 0,.int .u64 0,.string ⟨#[]⟩,Nz,Nz,Nz,Nz,.int .i64 0]
def bl0_rd(S):jD S bl0 z11:=
 .mk (a:=none) (c:=0) (bk:=0) (o:=0) (us:=λ_=>[]) ⟨Zd,Zd,Zd,Zd⟩ (fD S) (dU.JH S) (dU.JH S) (λh=>absurd h Zs) (λi d=>absurd d Zs) (λi x g=>by simp at g) (Qs _)
def wh0_rd(q c)(g:1<=c):jD (kA q 0 z11) wh0 [.int .u8 4,.string ⟨#[119,104,105,108,101,84,114,117,101]⟩,.int .u8 0,vi 0,.int .u64 0,.string ⟨#[]⟩,Nz,Nz,Nz,.slice (some ⟨q,0,none⟩) 1 c,vi 0]:=
 .mk (a:=some ⟨q,0,none⟩) (c:=c) (bk:=q) (o:=0) (us:=λ_=>z11) (ak:=[bl0]) ⟨Zd,Zd,Zd,Zd⟩ (fD _) (dU.JH _) (dU.JH _) (λ_=>rfl) (λi j y m=>by
  have:i=0:=by simpa using j
  subst this;simpa using m) (λi x d=>by
  cases i with
  |zero=>obtain rfl:bl0=x:=by simpa using d
         exact bl0_rd _
  |succ i=>simp at d) g
def inl_wh:z5 wh0=true:=by kernel_rfl
def inl_b0:(m1.body[0]?).map z5=some false:=by kernel_rfl
def fr_b1:(m1.body[1]?).map (pI [] [])=some [⟨#[117]⟩,⟨#[116]⟩,⟨#[97]⟩]:=by kernel_rfl
def w_m1:Nd.ws m1.body<=274877906944:=Qr Zx9
def w_m2:Nd.ws m2.body<=274877906944:=Qr Zx9
def s_m1:Nd.ay m1.body<=1048576:=Qr Zx9
def s_m2:Nd.ay m2.body<=1048576:=Qr Zx9
def c_m1:nE m1.a5 m1.ae m1.body<=1048576:=Qr Zx9
def c_m2:nE m2.a5 m2.ae m2.body<=1048576:=Qr Zx9
def Res1(S vs)(h:Io S m1 vs):aq pg9 15 [.agg vs.toArray,Nz,Nz] [S] (λv dl=>∃m j d B,v=.tuple #[.agg #[.string m,vi j,d],.nilIface]/\O0 B d u1/\dl=[S,B]):=by
 refine(l8 S m1 vs h [] [] _ _ (dU.JH S) (dU.JH S) (X0 _) (X0 _) c_m1 s_m1 w_m1).mono ?_
 rintro v dl (⟨l,d,B,g,rfl,A,rfl⟩|⟨e,p,q,g,s,_⟩)
 .have:u1=l:=by unfold u1;rw[g]
  rw[this];exact⟨_,_,d,B,rfl,A,rfl⟩
 .have:=an1;rw[g]at this;exact absurd (congrArg Prod.fst this) s
def Res2(S vs)(h:Io S m2 vs):aq pg9 15 [.agg vs.toArray,Nz,Nz] [S] (λv dl=>∃q,v=.tuple #[.agg #[.string e0,vi 0,Nz],.iface 80 (kE q)]/\dl=[S,jT q 181 4]):=by
 refine(l8 S m2 vs h [] [] _ _ (dU.JH S) (dU.JH S) (X0 _) (X0 _) c_m2 s_m2 w_m2).mono ?_
 rintro v dl (⟨l,Ei,B,d,_⟩|⟨e,p,q,d,cz,rfl,rfl⟩)
 .rw[an2]at d;cases d
 .rw[an2]at d;cases d;exact⟨q,rfl,rfl⟩
def nM.more {A B}(h:nM A)(j:∀x∈A,x∈B):nM B:=by
 obtain⟨ev,d,g⟩:=h;exact⟨ev,j _ d,g⟩
def K8(A)(hE:nM A)(hT:EtA∈A):aq pg9 11 [] [A] (λv dl=>v=.bool true/\dl=[A]):=by
 refine aq.intro low11 Zn9 ?_;refine af ?_;refine kH (m1_spec A) Zr ZP (λv dl m=>?_);obtain⟨vs1,F,rfl,tB,rfl⟩:=m;simp only[aE];refine VO.imp (H':=[A++F]) (ap.perm Zs) ?_;have s:Io (A++F) m1 vs1:=(tB.more λz d=>QI _ d).ok (hE.more λz d=>Zw _ d) w_m1;have G:=tB.more (B:=A++F) λz d=>QI _ d
 have K:nM (A++F):=hE.more λz d=>Zw _ d
 have N:EtA∈A++F:=Zw _ hT;have I:∃R,A++F=A++R:=⟨F,rfl⟩;generalize A++F=g at s G K N I|-;clear tB;obtain⟨⟨W,X,ta,tc,a,c,bk,o,us,rfl,bI,bL,D⟩,bR,pW⟩:=G;refine af ?_;refine kJ (λq1=>?_);refine af ?_;refine kJ (λq2=>?_);refine af ?_;refine kH (Res1 g _ s) Zr ZP (λv dl m=>?_);obtain⟨aX,aH,Ei,B,rfl,re,rfl⟩:=m;obtain⟨ub,uo,uc,rb1,ro1,rc1,rb2,ro2,rc2,rfl,Y,Z,k3,T,U⟩:=YZ re;simp only[aE];refine VO.imp (H':=[g++B,kA q1 0 [.string m1.aX,.slice W m1.a5.length X,.slice ta m1.ae.length tc,vi m1.aH,.slice a m1.body.length c]]) (ap.cut (M:=[g,B,kA q1 0 [.string m1.aX,.slice W m1.a5.length X,.slice ta m1.ae.length tc,vi m1.aH,.slice a m1.body.length c]]) ZI (ap.perm Zs)) ?_
 replace Y:kC.cell ub (uo+4) (vi 2)∈g++B:=QI _ Y
 replace Z:=QI g Z
 replace k3:=QI g k3
 replace T:∀y∈kA rb1 ro1 [.int .u8 5,vi 1,vi 0,.string ⟨#[]⟩],y∈g++B:=λy C=>QI g (T y C)
 replace U:∀y∈kA rb2 (ro2+4) [.int .u8 5,vi 0,vi 0,.string ⟨#[]⟩],y∈g++B:=λy C=>QI g (U y C)
 have Ca:∃bk o us,qj (g++B) m1.body a bk o us:=⟨bk,o,us,D.at_,D.many,λi hi y C=>Zw _ (D.mem i hi y C),λi x e=>(D.rd i x e).more λz d=>Zw _ d⟩;have L:nM (g++B):=K.more λz d=>Zw _ d
 have O:EtA∈g++B:=Zw _ N;have J:∃R,g++B=A++R:=by
  obtain⟨R,rfl⟩:=I;exact⟨R++B,vj _ _ _⟩
 clear D s bI bL re;generalize g++B=j at Y Z k3 T U Ca L O J|-;clear K N I;refine af ?_;refine kJ (λq3=>?_);refine af ?_;refine kH (m2_spec j) Zr ZP (λv dl m=>?_);obtain⟨vs2,q,rfl,rT,rfl⟩:=m;simp only[aE];refine VO.imp (H':=[j++q,kA q1 0 [.string m1.aX,.slice W m1.a5.length X,.slice ta m1.ae.length tc,vi m1.aH,.slice a m1.body.length c],kA q3 0 [.string aX,vi aH,.slice (some ⟨ub,uo,none⟩) 3 uc]]) (ap.cut (M:=[j,q,kA q1 0 [.string m1.aX,.slice W m1.a5.length X,.slice ta m1.ae.length tc,vi m1.aH,.slice a m1.body.length c],kA q3 0 [.string aX,vi aH,.slice (some ⟨ub,uo,none⟩) 3 uc]]) ZI (ap.perm Zs)) ?_;have s:Io (j++q) m2 vs2:=(rT.more λz d=>QI _ d).ok (L.more λz d=>Zw _ d) w_m2;obtain⟨⟨aa2,ac2,ta2,tc2,a2,c2,_,_,_,rfl,_,_,_⟩,_,_⟩:=rT;refine af ?_;refine kJ (λq4=>?_);refine af ?_;refine kJ (λq5=>?_);refine af ?_;refine kH (Res2 (j++q) _ s) Zr ZP (λv dl m=>?_);obtain⟨qf,rfl,rfl⟩:=m;simp only[aE];refine VO.imp (H':=[(j++q)++jT qf 181 4,kA q1 0 [.string m1.aX,.slice W m1.a5.length X,.slice ta m1.ae.length tc,vi m1.aH,.slice a m1.body.length c],kA q3 0 [.string aX,vi aH,.slice (some ⟨ub,uo,none⟩) 3 uc]]) (ap.cut (M:=[j++q,jT qf 181 4,kA q1 0 [.string m1.aX,.slice W m1.a5.length X,.slice ta m1.ae.length tc,vi m1.aH,.slice a m1.body.length c],kA q3 0 [.string aX,vi aH,.slice (some ⟨ub,uo,none⟩) 3 uc]]) ZI (ap.perm Zs)) ?_;have cf:∀y∈jT qf 181 4,y∈j++q++jT qf 181 4:=λy C=>QI _ C
 have f1:kC.cell qf 1 (vi 4)∈j++q++jT qf 181 4:=cf _ (kI.2 ⟨1,_,rfl,Zs⟩);have f2:kC.cell qf 2 (.iface 44 (vi 181))∈j++q++jT qf 181 4:=cf _ (kI.2 ⟨2,_,rfl,Zs⟩);clear cf s;have E:∀z∈j,z∈j++q++jT qf 181 4:=λz d=>Zw _ (Zw _ d)
 replace Y:=E _ Y
 replace Z:=E _ Z
 replace k3:=E _ k3
 replace T:=λy C=>E y (T y C)
 replace U:=λy C=>E y (U y C)
 have hT3:=E _ O;obtain⟨bk,o,us,D⟩:=Ca;have H:qj (j++q++jT qf 181 4) m1.body a bk o us:=⟨D.at_,D.many,λi hi y C=>E _ (D.mem i hi y C),λi x e=>(D.rd i x e).more E⟩;have hA3:∃R,j++q++jT qf 181 4=A++R:=by
  obtain⟨R,rfl⟩:=J;exact⟨R++(q++jT qf 181 4),Zs⟩
 clear E D L O J;generalize j++q++jT qf 181 4=S at Y Z k3 T U f1 f2 hT3 H hA3|-;refine af ?_;refine kJ (λq6=>?_);refine af ?_;refine kH (TT S hT3 qf 4 181 f1 f2) Zr ZP (λv dl m=>?_);obtain⟨rfl,rfl⟩:=m;simp only[aE];obtain rfl:=H.at_ Zd;refine af ?_;obtain⟨n1,e1,Rk⟩:=X5.1 fr_b1;obtain⟨n0,e0',hn0⟩:=X5.1 inl_b0;have mw:n1.w<=274877906944:=Qu (Nd.cQ (Zv e1)) w_m1;refine kR (us:=us 1) Zr (λu Q=>by simp only[Vd,QH];exact .inl (H.mem 1 Zd u Q)) (jD.len (H.rd 1 n1 e1)) ?_;refine af ?_;refine kH (OX S n1 (us 1) (H.rd 1 n1 e1) mw) Zr ZP (λv dl m=>?_);obtain⟨B3,hto,rfl⟩:=m;have Aj:=hto.rd;rw[Rk]at Aj;obtain⟨fa,fc,rfl,_,hr⟩:=Aj;obtain⟨fb,fo,rfl,k6,_⟩:=hr 0 _ rfl;rw[Qo]at k6;clear hto hr;simp only[aE];refine af ?_;refine kV (out:=z11) Zr Zr (λqb=>?_);refine af ?_;refine kH (sA (kA qb 0 z11) wh0 _ (wh0_rd qb 1 (Qs _))) Zr ZP (λv dl m=>?_);obtain⟨rfl,rfl⟩:=m;rw[inl_wh];simp only[aE];refine af ?_;refine kR (us:=us 0) Zr (λu Q=>by simp only[Vd,QH];have:=H.mem 0 Zd u Q;simp[this]) (jD.len (H.rd 0 n0 e0')) ?_;refine af ?_;refine kH (sA S n0 (us 0) (H.rd 0 n0 e0')) Zr ZP (λv dl m=>?_);obtain⟨rfl,rfl⟩:=m;rw[hn0];simp only[aE];refine af ?_;refine kR (us:=[.int .u8 5,vi 1,vi 0,.string ⟨#[]⟩]) Zr (λu Q=>by have:=T u Q;simp only[Vd,QH];simp[this]) rfl ?_;refine af ?_;refine kR (us:=[.int .u8 5,vi 0,vi 0,.string ⟨#[]⟩]) Zr (λu Q=>by have:=U u Q;simp only[Vd,QH];simp[this]) rfl ?_;refine af ?_;obtain⟨R,rfl⟩:=hA3;exact kG (dl:=[A]) (.inr rfl) (.tmp (v:=.bool true) Zr .nil) ⟨rfl,rfl⟩ (ap.cut (M:=[A++R]) ZI ⟨[R],by simp[V.fq]⟩)
noncomputable section
def F24:aP:=aZ (o:=gF pq Tryz.f24 [])
def low24:Zo9 24 [] F24:=Zx9
def F67:aP:=aZ (o:=gF pq Tryz.f67 [])
def low67:Zo9 67 [] F67:=Zx9
def F68:aP:=aZ (o:=gF pq Tryz.f68 [])
def low68:Zo9 68 [] F68:=Zx9
def F42:aP:=aZ (o:=gF pq Tryz.f42 [])
def low42:Zo9 42 [] F42:=Zx9
def F12:aP:=aZ (o:=gF pq Tryz.f12 [])
def low12:Zo9 12 [] F12:=Zx9
end
def lt_open {A x vs}(h:yc A x vs):∃(e:Option Addr) (c:Nat),vs=[cv x.kind,vi x.n,uv x.bits,.string x.text,.slice e x.ci.length c]:=by
 cases h with
 |mk wf ha hm hr=>exact⟨_,_,rfl⟩
def wB(s:Int):Int:=max s 262144+140737488355329
def yR(A d l)(h:dU A d l)(s)(m:0<=s/\s<=2305843009213693952):aq pg9 68 [d,vi s] [A] (λv dl=>∃r,v=vi r/\0<=r/\r<=wB s/\(r<=262144->s+l.length<=r)/\dl=[A]):=by
 obtain⟨a,c,rfl,hl,g⟩:=h;refine aq.intro low68 Zn9 ?_;refine af ?_;refine VC.loop (α:=Nat×Int) (bg:=λz=>[(0,.slice a l.length c),(1,vi z.2),(5,vi z.1)]) (Hf:=λ_=>[A])
  (I:=λz=>z.1<=l.length/\0<=z.2/\z.2<=wB s/\s+z.1<=z.2) (μ:=λz=>l.length-z.1) (0,s) ⟨X0 _,m.1,by unfold wB;omega,by simp only;omega⟩ ZU ZI ?_
 rintro⟨j,r⟩ ⟨B,i2,i3,C⟩
 simp only at B i2 i3 C;dsimp only;unfold wB at i3;refine af ?_;by_cases hj:j<l.length;rotate_left
 .rw[A1 ((j:Int) < (l.length:Int))];exact zEQ
 rw[A0 ((j:Int) < (l.length:Int))];refine af ?_;by_cases de:r<=262144;rotate_left
 .rw[Zf de];exact zEQ
 rw[Zt de];obtain⟨x,q⟩:∃x,l[j]? =some x:=⟨_,Zg hj⟩;obtain⟨b1,o1,rfl,ZH,Ay⟩:=g j x q;refine af ?_;refine⟨(j+1,r+1+x.size),⟨by simp only;omega,by simp only;omega,by simp only;unfold wB;omega,by simp only;omega⟩,by simp only;omega,ZU,ZI⟩
def Ek(A):∀(N:Nat) (x:Lt),x.size<=N->∀vs,yc A x vs->∀(s d:Int),0<=s->s<=2305843009213693952->0<=d->d<=60001->aq pg9 67 [.agg vs.toArray,vi s,vi d] [A] (λv dl=>∃r,v=vi r/\0<=r/\r<=wB s/\(r<=262144->s+x.size<=r)/\dl=[A]):=by
 intro N
 induction N with
 |zero=>intro x E;have:=x.size_pos;omega
 |succ N ih=>
  intro x E vs h s d Ay Al L I8;cases h with
  |@mk k n b t ci a c bk o us wf ha hm hr=>
  have bN:=wf.many;have M:=wf.text;refine aq.intro low67 Zn9 ?_;refine af ?_;refine kZ Zr (λq=>?_);simp only[Value.cells];refine af ?_;by_cases hd:d>60000
  .rw[Zt hd];refine af ?_;exact kG (dl:=[A]) (.inr rfl) zT1 ⟨262145,rfl,Zo,by unfold wB;omega,λg=>absurd g Zd,rfl⟩ ZI
  rw[Zf hd];refine af ?_;refine VC.loop (α:=Nat×Int) (bg:=λz=>[(1,vi z.2),(2,vi d),(3,kE q),(7,vi z.1)]) (Hf:=λ_=>[A,kA q 0 [cv k,vi n,uv b,.string t,.slice a ci.length c]])
   (I:=λz=>z.1<=ci.length/\0<=z.2/\z.2<=wB s/\(z.2<=262144->s+1+Lt.ay (ci.take z.1)<=z.2)) (μ:=λz=>ci.length-z.1) (0,s+1+t.size) ⟨X0 _,by simp only;omega,by simp only;unfold wB;omega,λ_=>by simp only[Qm,Lt.ay];omega⟩ ZU ZI ?_
  rintro⟨j,r⟩ ⟨Q,m,i3,C⟩
  simp only at Q m i3 C;dsimp only;unfold wB at i3;refine af ?_;by_cases hj:j<ci.length;rotate_left
  .rw[A1 ((j:Int) < (ci.length:Int))];refine af ?_;exact kG (dl:=[A]) (.inr rfl) zT1 ⟨r,rfl,m,by unfold wB;omega,λg=>(by have:=C g;rw[Ql Zo]at this;simp only[Lt.size];omega),rfl⟩ ZI
  rw[A0 ((j:Int) < (ci.length:Int))];refine af ?_;by_cases de:r<=262144;rotate_left
  .rw[Zf de];refine af ?_;exact kG (dl:=[A]) (.inr rfl) zT1 ⟨r,rfl,m,by unfold wB;omega,λg=>absurd g de,rfl⟩ ZI
  rw[Zt de];obtain rfl:=ha Zo;obtain⟨y,B⟩:∃y,ci[j]? =some y:=⟨_,Zg hj⟩;have cA:=hm j hj;have D:=hr j y B;have G:=D.len;have h1:=Lt.aJ (Zv B);simp only[Lt.size]at E;have F:=ih y Zo _ D r (d+1) m Zo Zo Zo;refine af ?_;refine kR Zr Gb G ?_;refine af ?_;refine kH F Zr ZP (λv dl O=>?_);obtain⟨S,rfl,h2,J,K,rfl⟩:=O;have i5:=C de;have H:=lt_take B;unfold wB at J;simp only[aE];refine af ?_;refine⟨(j+1,S),⟨by simp only;omega,by simp only;omega,by simp only;unfold wB;omega,λg=>by simp only at g|-;have:=K g;rw[H];omega⟩,by simp only;omega,ZU,ZI⟩
def wN(s:Int):Int:=max s 262144+562949953421316
def Dp(A):∀(N:Nat) (x:Nd),x.w<=N->∀vs,jD A x vs->∀(s d:Int),0<=s->s<=1152921504606846976->0<=d->d<=60001->aq pg9 24 [.agg vs.toArray,vi s,vi d] [A] (λv dl=>∃r,v=vi r/\0<=r/\r<=wN s/\(r<=262144->s+x.w<=r)/\dl=[A]):=by
 intro N
 induction N with
 |zero=>intro x Q;have:=x.nC;omega
 |succ N ih=>
  intro x Q vs h s d J H hd1 I8;cases h with
  |@mk k nm lit a5 ae ak p lv av tv a c bk o us wf hl bI bL ha hm hr lW=>
  have bN:=wf.many;have Rl:=wf.name;have gO:=λs J H=>Ek A _ lit (Qs _) lv hl s 0 J H Zo Zo
  have W:=λs D=>yR A av a5 bI s D
  have E:=λs D=>yR A tv ae bL s D
  obtain⟨Y,Z,rfl,_,_⟩:=bI;obtain⟨ta,tc,rfl,_,_⟩:=bL;obtain⟨la,lc,rfl⟩:=lt_open hl;refine aq.intro low24 Zn9 ?_;simp only[aE];refine af ?_;refine kZ Zr (λq=>?_);simp only[Value.cells];refine af ?_;refine kH (gO (s+1+nm.size) Zo Zo) Zr ZP (λv dl g=>?_);obtain⟨r1,rfl,h1,C,S,rfl⟩:=g;unfold wB at C;simp only[aE];refine af ?_;refine kH (W r1 Zo) Zr ZP (λv dl g=>?_);obtain⟨r2,rfl,L,M,T,rfl⟩:=g;unfold wB at M;simp only[aE];refine af ?_;refine kH (E r2 Zo) Zr ZP (λv dl g=>?_);obtain⟨B,rfl,h5,O,U,rfl⟩:=g;unfold wB at O;simp only[aE];have w4:B<=262144->s+1+nm.size+lit.size+a5.length+ae.length<=B:=λhh=>by
   have a3:=U hh;have a2:=T Zo;have a1:=S Zo;omega
  clear S T U;have h7:B<=wN s:=by unfold wN;omega
  clear C M O;refine af ?_;by_cases hd:d>60000
  .rw[Zt hd];refine af ?_;exact kG (dl:=[A]) (.inr rfl) zT1 ⟨262145,rfl,Zo,by unfold wN;omega,λhh=>absurd hh Zd,rfl⟩ ZI
  rw[Zf hd];refine af ?_;refine VC.loop (α:=Nat×Int) (bg:=λz=>[(1,vi z.2),(2,vi d),(3,kE q),(7,vi z.1)]) (Hf:=λ_=>[A,kA q 0 (rA k nm lit.kind lit.n lit.bits lit.text la lit.ci.length lc Y a5.length Z ta ae.length tc a ak.length c p)])
   (I:=λz=>z.1<=ak.length/\0<=z.2/\z.2<=wN s/\(z.2<=262144->s+1+nm.size+lit.size+a5.length+ae.length+Nd.ws (ak.take z.1)<=z.2)) (μ:=λz=>ak.length-z.1) (0,B) ⟨X0 _,h5,h7,λhh=>by simp only at hh|-;have:=w4 hh;simp only[Qm,Nd.ws];omega⟩ ZU ZI ?_
  rintro⟨j,r⟩ ⟨i1,m,i3,G⟩
  simp only at i1 m i3 G;dsimp only;unfold wN at i3;refine af ?_;by_cases hj:j<ak.length;rotate_left
  .rw[A1 ((j:Int) < (ak.length:Int))];refine af ?_;exact kG (dl:=[A]) (.inr rfl) zT1 ⟨r,rfl,m,by unfold wN;omega,λhh=>(by have:=G hh;rw[Ql Zo]at this;simp only[Nd.w];omega),rfl⟩ ZI
  rw[A0 ((j:Int) < (ak.length:Int))];refine af ?_;by_cases de:r<=262144;rotate_left
  .rw[Zf de];refine af ?_;exact kG (dl:=[A]) (.inr rfl) zT1 ⟨r,rfl,m,by unfold wN;omega,λhh=>absurd hh de,rfl⟩ ZI
  rw[Zt de];obtain rfl:=ha Zo;obtain⟨y,F⟩:∃y,ak[j]? =some y:=⟨_,Zg hj⟩;have cA:=hm j hj;have K:=hr j y F;have cS:=K.len;have h1:=Nd.cQ (Zv F);simp only[Nd.w]at Q;have X:=ih y Zo _ K r (d+1) m Zo Zo Zo;refine af ?_;refine kR Zr Gb cS ?_;refine af ?_;refine kH X Zr ZP (λv dl g=>?_);obtain⟨r',rfl,C,L,h9,rfl⟩:=g;have i5:=G de;have df:=Oj F;unfold wN at L;exact zD3
def xf(A x vs)(h:Nr A x vs):aq pg9 42 [.agg vs.toArray] [A] (λv dl=>∃r,v=vi r/\(r<=262144->x.a5.length+x.ae.length+Nd.ws x.body<=r)/\dl=[A]):=by
 obtain⟨⟨N,O,Z,tc,a,c,bk,o,us,rfl,Q,S,d⟩,bR,pW⟩:=h;have L:=λs D=>yR A _ x.a5 Q s D
 have E:=λs D=>yR A _ x.ae S s D
 obtain⟨s,a5,ae,p,body⟩:=x;simp only at*;have bN:=d.many;refine aq.intro low42 Zn9 ?_;refine af ?_;refine kZ Zr (λq=>?_);simp only[Value.cells];refine af ?_;refine kH (L s.size Zo) Zr ZP (λv dl g=>?_);obtain⟨Y,rfl,h1,C,J,rfl⟩:=g;unfold wB at C;simp only[aE];refine af ?_;refine kH (E Y Zo) Zr ZP (λv dl g=>?_);obtain⟨B,rfl,U,m,K,rfl⟩:=g;have w4:B<=262144->a5.length+ae.length<=B:=λhh=>by
  have a2:=K hh;have a1:=J Zo;omega
 clear J K;unfold wB at m;simp only[aE];have W:B<=wN 0+1000000000000000:=by unfold wN;omega
 clear C m;refine af ?_;refine VC.loop (α:=Nat×Int) (bg:=λz=>[(1,kE q),(3,vi z.2),(4,vi z.1)]) (Hf:=λ_=>[A,kA q 0 [.string s,.slice N a5.length O,.slice Z ae.length tc,vi p,.slice a body.length c]])
  (I:=λz=>z.1<=body.length/\0<=z.2/\z.2<=wN 0+1000000000000000/\(z.2<=262144->a5.length+ae.length+Nd.ws (body.take z.1)<=z.2)) (μ:=λz=>body.length-z.1) (0,B) ⟨X0 _,U,W,λhh=>by simp only at hh|-;have:=w4 hh;simp only[Qm,Nd.ws];omega⟩ ZU ZI ?_
 rintro⟨j,r⟩ ⟨X,H,i3,G⟩
 simp only at X H i3 G;dsimp only;unfold wN at i3;refine af ?_;by_cases hj:j<body.length;rotate_left
 .rw[A1 ((j:Int) < (body.length:Int))];refine af ?_;exact kG (dl:=[A]) (.inr rfl) zT1 ⟨r,rfl,λhh=>(by have:=G hh;rw[Ql Zo]at this;omega),rfl⟩ ZI
 rw[A0 ((j:Int) < (body.length:Int))];refine af ?_;by_cases de:r<=262144;rotate_left
 .rw[Zf de];refine af ?_;exact kG (dl:=[A]) (.inr rfl) zT1 ⟨r,rfl,λhh=>absurd hh de,rfl⟩ ZI
 rw[Zt de];obtain rfl:=d.at_ Zo;obtain⟨y,F⟩:∃y,body[j]? =some y:=⟨_,Zg hj⟩;have cA:=d.mem j hj;have T:=(d.rd j y F).len;have M:=Dp A _ y (Qs _) _ (d.rd j y F) r 0 H Zo Zo Zo;refine af ?_;refine kR Zr Gb T ?_;refine af ?_;refine kH M Zr ZP (λv dl g=>?_);obtain⟨r',rfl,C,m,h9,rfl⟩:=g;have i5:=G de;have df:=Oj F;unfold wN at m;exact zD3
def UG(A x vs)(h:Nr A x vs)(F G d g)(m:dU A d F)(s:dU A g G):aq pg9 12 [.agg vs.toArray,d,g] [A] (λv dl=>∃b,v=.bool b/\(b=false->nE x.a5 x.ae x.body<=1048576/\Nd.ws x.body<=65536/\F.length<=65536/\G.length<=65536)/\dl=[A]):=by
 have E:=xf A x vs h;have B:=Bh x.body;obtain⟨⟨aa,ac,ta,tc,a,c,bk,o,us,rfl,bI,bL,hk⟩,bR,pW⟩:=h;obtain⟨fa,fc,rfl,cf,_⟩:=m;obtain⟨ga,gc,rfl,C,_⟩:=s;refine aq.intro low12 Zn9 ?_;refine af ?_;refine kZ Zr (λq=>?_);simp only[Value.cells];refine af ?_;refine kH E Zr ZP (λv dl D=>?_);obtain⟨r,rfl,j,rfl⟩:=D;simp only[aE];refine af ?_;by_cases h1:65536<r
 .rw[Zt h1];exact zF4
 rw[Zf h1];refine af ?_;by_cases h2:65536<(F.length:Int)
 .rw[Zt h2];exact zF4
 rw[Zf h2];refine af ?_;have j:=j Zo;exact kG (dl:=[A]) (.inr rfl) zT1 ⟨_,rfl,λhh=>⟨by unfold nE cW;omega,Zo,Zo,by simp at hh;omega⟩,rfl⟩ ZI
end Go.Proofs.YtijnokbblmbpkaaGreatDoor

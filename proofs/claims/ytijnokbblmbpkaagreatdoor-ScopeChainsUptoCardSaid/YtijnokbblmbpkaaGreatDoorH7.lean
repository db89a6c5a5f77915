/-
  A part of the proof.
-/
import Derived.Test.YtijnokbblmbpkaaGreatDoorH6
import Derived.Test.YtijnokbblmbpkaaGreatDoorH4
import Derived.KernelRfl
import Derived.Test.YtijnokbblmbpkaaGreatDoorProg
set_option linter.all false
set_option maxHeartbeats 3200000
set_option maxRecDepth 100000
namespace Go.Proofs.YtijnokbblmbpkaaGreatDoor
open Go Go.V
def node_k7(A)(hE:nM A)(x vs)(h:jD A x vs)(hw:x.w<=274877906944)(aR:∀y us,y∈x.ak->jD A y us->zp A y us)(X:x.kind=7):fS A x vs:=by
 intro C q r M g;cases h with
 |@mk k s lit a5 ae ak p lv av tv a c bk o us wf hl bI bL ha hm L lW=>
 simp only[Nd.kind]at X;have fj:=hl;cases fj with
 |@mk E F D lt ci la lc RI lo MD Te Tb Tc Td=>
 have iJ:=bI;have iM:=bL;obtain⟨O,Q,rfl,oU,eS⟩:=iJ;obtain⟨ta,tc,rfl,sr,N8⟩:=iM;have S:yd A ak a bk o us:=⟨ha,wf.many,hm,L,λi y e=>aR y (us i) (Zv e) (L i y e)⟩;have DK:=wf.name;have bN:=wf.many;simp only[Nd.w]at hw;obtain⟨K,G⟩:∃K,K=kP (.mk k s (.mk E F D lt ci) a5 ae ak p):=⟨_,rfl⟩;rw[<- G];rw[show kP (.mk k s (.mk E F D lt ci) a5 ae ak p)=w8 k s (.mk E F D lt ci) a5 ae ak (ak.map kP) by simp[kP,jz]]at G;show VC _ _ _ _ [kA r 0 (rA k s E F D lt la ci.length lc O a5.length Q ta ae.length tc none 0 0 p),kA q 0 (rA k s E F D lt la ci.length lc O a5.length Q ta ae.length tc a ak.length c p),A,bt C M g] _;subst X;refine af ?_;refine kM (gq A _ a5 bI C 15 M g) Zr ZP (λv dl I=>?_) (λT dl J=>?_);rotate_left
 .obtain⟨B,rfl,m2,rfl⟩:=J;exact⟨[A,bt C m2 g],ZI,by simp[G,w8,kT,zE,B],rfl,m2,rfl⟩
 obtain⟨KQ,rfl,rfl⟩:=I;obtain⟨m1,tB⟩:∃m1,m1=(M||decide (15<a5.length)):=⟨_,rfl⟩;rw[<- tB];simp only[aE];refine af ?_;refine kM (gq A _ ae bL C 63 m1 g) Zr ZP (λv dl I=>?_) (λT dl J=>?_);rotate_left
 .obtain⟨B,rfl,m2,rfl⟩:=J;have N:K=none:=by
   simp only[G,w8,zE,B];simp[kT,z9]
  exact⟨[A,bt C m2 g],ZI,N,rfl,m2,rfl⟩
 obtain⟨Gv,rfl,rfl⟩:=I;obtain⟨m2,Z⟩:∃m2,m2=(m1||decide (63<ae.length)):=⟨_,rfl⟩;rw[<- Z];simp only[aE];refine af ?_;refine kM (nB A ak a c bk o us S C m2 g) Zr ZP (λv dl I=>?_) (λT dl J=>?_);rotate_left
 .obtain⟨B,rfl,m3,rfl⟩:=J;have N:K=none:=by
   simp only[G,w8,zE,B,wz,z9];simp[kT]
  exact⟨[A,bt C m3 g],ZI,N,rfl,m3,rfl⟩
 obtain⟨d,m3,W,rfl,rfl⟩:=I;have hdb:d<=1099511627777:=hK (λr L d m e=>by
  obtain⟨j,H⟩:=Vv L;have U:=(Vt.1 H).1;rw[rO]at U;have Y:=Zg U;have aL:=rM ak j ak[j] Y;rw[aL]at H;have B:=(S.ok j _ Y).2;split at H
  .cases H;have:=B d m e;omega
  .cases H;exact xe B e) W
 simp only[aE];refine af ?_;refine⟨⟨d+1,decide (15<a5.length)||(decide (63<ae.length)||m3),s,E,F,D,lt,la,ci.length,lc,none,0,0,none,0,0⟩,?_,ZU,?_⟩
 .simp only[G,w8,zE,KQ,Gv,W,wz,z9];simp[zb.ok,kT,z4,Lt.kind,Lt.n,Lt.bits,Lt.text,Lt.ci]
 .rw[show(M||(decide (15<a5.length)||(decide (63<ae.length)||m3)))=(m2||m3) by rw[Z,tB];simp only[vR]];show ap _ [A,bt C (m2||m3) g,kA r 0 (rA 7 s E F D lt la ci.length lc none 0 0 none 0 0 none 0 0 p)];exact bH
def node_k8(A)(hE:nM A)(x vs)(h:jD A x vs)(H:x.w<=274877906944)(F:∀y us,y∈x.ak->jD A y us->zp A y us)(D:x.kind=8):fS A x vs:=by
 intro lb q r C deep;cases h with
 |@mk k s lit a5 ae ak p lv av tv a c bk o us wf hl bI bL ha hm hr lW=>
 simp only[Nd.kind]at D;have G:=hl;cases G with
 |@mk lk ln bF lt ci la lc RI lo MD Te Tb Tc Td=>
 have J:=bI;have K:=bL;obtain⟨aa,ac,rfl,oU,eS⟩:=J;obtain⟨ta,tc,rfl,sr,N8⟩:=K;have bz:yd A ak a bk o us:=⟨ha,wf.many,hm,hr,λi y e=>F y (us i) (Zv e) (hr i y e)⟩;have DK:=wf.name;have bN:=wf.many;simp only[Nd.w]at H;obtain⟨RR,B⟩:∃RR,RR=kP (.mk k s (.mk lk ln bF lt ci) a5 ae ak p):=⟨_,rfl⟩;rw[<- B];rw[show kP (.mk k s (.mk lk ln bF lt ci) a5 ae ak p)=w8 k s (.mk lk ln bF lt ci) a5 ae ak (ak.map kP) by simp[kP,jz]]at B;show VC _ _ _ _ [kA r 0 (rA k s lk ln bF lt la ci.length lc aa a5.length ac ta ae.length tc none 0 0 p),kA q 0 (rA k s lk ln bF lt la ci.length lc aa a5.length ac ta ae.length tc a ak.length c p),A,bt lb C deep] _;subst D;have hR8:RR=kT (decide (s.size=0/\a5.length=0/\ae.length=0)&&z4 (.mk lk ln bF lt ci)) (wz (z9 (decide (255<ak.length)) (jh (ak.map λy=>je y 1 (kP y))))):=by
  rw[B,<- eQ];rfl
 obtain⟨g,E⟩:∃g,g=C:=⟨_,rfl⟩;cases C with
 |true=>
  obtain⟨mB,N4⟩:∃b,b=(true||decide (255<ak.length)):=⟨_,rfl⟩;have Je:mB=true:=by rw[N4,Bool.true_or]
  exact zA6
 |false=>
  obtain⟨mB,N4⟩:∃b,b=(false||decide (255<ak.length)):=⟨_,rfl⟩;have Je:mB=decide ((ak.length:Int)>255):=by
   rw[N4,vO];exact decide_eq_decide.2 Zo
  exact zA6
def uF {f a5 A j q g r d m}(h:DA f a5 A j q g r)(s:r=some (d,m)):
 aq pg9 f a5 [A,bt j q g] (λv dl=>v=vi d/\dl=[A,bt j (q||m) g]):=by
 refine jr.fun (jr.mono h (λv dl ⟨d',m',e,C,D⟩=>?_) (λch dl B=>?_))
 .rw[s]at e;cases e;exact⟨C,D⟩
 .rw[s]at B;cases B.1
def Cn {f a5 A q g r}(h:∀m,DA f a5 A q m g r):
 ∃(d:Nat) (φ:Prop),(φ->r≠none)/\∀m,jr pg9 f a5 [A,bt q m g] (λv dl=>v=vi d/\φ/\∃j,dl=[A,bt q j g]) (λs dl=>s=wo/\∃j,dl=[A,bt q j g]):=by
 cases r with
 |none=>exact⟨0,False,λh=>h.elim,λm=>jr.mono (h m) (λv dl ⟨C,j,e,_⟩=>by cases e) (λs dl B=>B.2)⟩
 |some p=>
  obtain⟨d,m1⟩:=p;exact⟨d,True,λ_=>by simp,λm=>jr.mono (h m) (λv dl ⟨C,j,e,D,E⟩=>by cases e;exact⟨D,trivial,_,E⟩) (λs dl B=>B.2)⟩
def mf {p q}(h:p=none∨q=none):yN p q=none:=by
 rcases h with rfl|rfl
 .rfl
 .cases p<;>rfl
def node_k4(A)(hE:nM A)(x vs)(h:jD A x vs)(O:x.w<=274877906944)(L:∀y us,y∈x.ak->jD A y us->zp A y us)(J:x.kind=4):fS A x vs:=by
 intro lb q r m0 deep;cases h with
 |@mk k s lit a5 ae ak p lv av tv a c bk o us wf hl bI bL ha hm hr lW=>
 simp only[Nd.kind]at J;have M:=hl;cases M with
 |@mk lk ln bF lt ci la lc RI lo MD Te Tb Tc Td=>
 have Q:=bI;have S:=bL;obtain⟨aa,ac,rfl,oU,eS⟩:=Q;obtain⟨ta,tc,rfl,sr,N8⟩:=S;have F:yd A ak a bk o us:=⟨ha,wf.many,hm,hr,λi y e=>L y (us i) (Zv e) (hr i y e)⟩;have C:=wf.name;have bN:=wf.many;simp only[Nd.w]at O;obtain⟨g,B⟩:∃g,g=kP (.mk k s (.mk lk ln bF lt ci) a5 ae ak p):=⟨_,rfl⟩;rw[<- B];rw[show kP (.mk k s (.mk lk ln bF lt ci) a5 ae ak p)=w8 k s (.mk lk ln bF lt ci) a5 ae ak (ak.map kP) by simp[kP,jz]]at B;show VC _ _ _ _ [kA r 0 (rA k s lk ln bF lt la ci.length lc aa a5.length ac ta ae.length tc none 0 0 p),kA q 0 (rA k s lk ln bF lt la ci.length lc aa a5.length ac ta ae.length tc a ak.length c p),A,bt lb m0 deep] _;subst J;refine af ?_;by_cases pR:0<ak.length;rotate_left
 .have aN:g=none:=by
   obtain rfl:ak=[]:=vy Zo;rw[B];unfold w8;rw[if_neg Zd,if_neg Zd,if_neg Zd,if_pos rfl];unfold kT;split<;>rfl
  rw[A1 ((ak.length:Int) > 0)];exact El
 rw[A0 ((ak.length:Int) > 0)];refine af ?_;refine kL (fU s C) Zr ?_;refine af ?_;by_cases eS:0<=kW s;rotate_left
 .have aN:g=none:=by
   rw[B];unfold w8;rw[if_neg Zd,if_neg Zd,if_neg Zd,if_pos rfl];rw[Zf eS,Bool.and_false];rfl
  rw[show decide (kW s≥0)=false from Zf eS];exact El
 rw[show decide (kW s≥0)=true from Zt eS];refine af ?_;refine kM (jK true) Zr ZP (λv dl hv=>?_) Kx;obtain⟨_,rfl,rfl⟩:=hv;simp only[QV];refine af ?_;obtain⟨y,l,j⟩:∃y l,ak=y::l:=by
  cases ak with
  |nil=>simp at pR
  |cons y l=>exact⟨y,l,rfl⟩
 have D:ak[0]? =some y:=by rw[j];rfl
 have cA:=hm 0 Zo;rw[X1,Qo]at cA;have cS:=(hr 0 y D).len;obtain rfl:=ha Zo;have T:l.length=ak.length-1:=by rw[j];rfl
 have K:yd A l (some ⟨bk,if c=1 then o else o+1*11,none⟩) bk (if c=1 then o else o+1*11) (λi=>us (i+1)):=by
  refine⟨λ_=>rfl,Zo,λi I z hz=>?_,λi z e=>hr (i+1) z (by rw[j];exact e),λi z e=>F.ok (i+1) z (by rw[j];exact e)⟩;refine hm (i+1) Zo z ?_;rw[if_neg Zo]at hz
  rwa [show o+1*11+i*11=o+(i+1)*11 by omega]at hz
 have G:=λm=>Bs A y _ (hr 0 y D) (F.ok 0 y D) s C lb m deep
 have E:=λm=>nO A l _ (c-1) bk _ _ K s C lb m deep
 rw[T]at E;have hR4:g=kT (decide (a5.length=0/\ae.length=0)&&z4 (.mk lk ln bF lt ci)&&decide (0<=kW s)) (yN (zl y s (kP y)) (lj s l (l.map kP))):=by
  rw[B,j];rfl
 by_cases eT:zl y s (kP y)=none∨lj s l (l.map kP)=none
 .skip
  have aN:g=none:=by
   rw[hR4,mf eT];unfold kT;split<;>rfl
  obtain⟨dF,d,hFφ,hFz⟩:=Cn G;obtain⟨dA,φA,hAφ,hAz⟩:=Cn E;refine VC.Bp (λch H'=>ch=wo/\∃m,ap H' [A,bt lb m deep]) (λH'=>∃m,ap H' [A,bt lb m deep,kA q 0 (rA 4 s lk ln bF lt la ci.length lc aa a5.length ac ta ae.length tc (some ⟨bk,o,none⟩) ak.length c p)]) ⟨m0,ZI⟩ ?_ (λch H' N=>?_)
  .skip
   intro rs da;rcases QJ.1 da with rfl|da
   .skip
    (iterate 7 refine kK ?_);refine⟨rfl,vi dF,d,λΓ H bC hH=>?_,?_⟩
    .exact zAK
    (iterate 5 refine kK ?_);exact zA5
   rcases QJ.1 da with rfl|da
   .skip
    (iterate 10 refine kK ?_);refine⟨rfl,vi dF,d,λΓ H bC hH=>?_,?_⟩
    .exact zAK
    (iterate 2 refine kK ?_);exact zA5
   rcases QJ.1 da with rfl|da
   .skip
    (iterate 12 refine kK ?_);refine⟨rfl,vi dF,d,λΓ H bC hH=>?_,?_⟩
    .exact zAK
    exact zA5
   rcases QJ.1 da with rfl|da
   .skip
    (iterate 7 refine kK ?_);refine⟨rfl,vi dF,d,λΓ H bC hH=>?_,?_⟩
    .exact zAK
    (iterate 5 refine kK ?_);exact zA5
   rcases QJ.1 da with rfl|da
   .skip
    (iterate 11 refine kK ?_);refine⟨rfl,vi dF,d,λΓ H bC hH=>?_,?_⟩
    .exact zAK
    refine kK ?_;exact zA5
   rcases QJ.1 da with rfl|da
   .skip
    (iterate 12 refine kK ?_);refine⟨rfl,vi dF,d,λΓ H bC hH=>?_,?_⟩
    .exact zAK
    exact zA5
   .cases da
  .obtain⟨rfl,m,I⟩:=N;exact⟨_,I,aN,rfl,m,rfl⟩
 obtain⟨⟨dF,mF⟩,hf⟩:∃p,zl y s (kP y)=some p:=Option.ne_none_iff_exists'.1 λh=>eT (.inl h)
 obtain⟨⟨dA,mA⟩,hal2⟩:∃p,lj s l (l.map kP)=some p:=Option.ne_none_iff_exists'.1 λh=>eT (.inr h)
 have hFf:=uF (G m0) hf;have hAf:=uF (E (m0||mF)) hal2;refine VC.draws ⟨?_,?_,?_,?_,?_,?_,trivial⟩
 .exact zA3
 .exact zA3
 .exact zA3
 .exact zA3
 .exact zA3
 .exact zA3
def node_k5(A)(hE:nM A)(x vs)(h:jD A x vs)(O:x.w<=274877906944)(M:∀y us,y∈x.ak->jD A y us->zp A y us)(J:x.kind=5):fS A x vs:=by
 intro lb q r m0 deep;cases h with
 |@mk k s lit a5 ae ak p lv av tv a c bk o us wf hl bI bL ha hm hr lW=>
 simp only[Nd.kind]at J;have N:=hl;cases N with
 |@mk lk ln bF lt ci la lc RI lo MD Te Tb Tc Td=>
 have S:=bI;have T:=bL;obtain⟨aa,ac,rfl,oU,eS⟩:=S;obtain⟨ta,tc,rfl,sr,N8⟩:=T;have bz:yd A ak a bk o us:=⟨ha,wf.many,hm,hr,λi y e=>M y (us i) (Zv e) (hr i y e)⟩;have DK:=wf.name;have bN:=wf.many;simp only[Nd.w]at O;obtain⟨RR,C⟩:∃RR,RR=kP (.mk k s (.mk lk ln bF lt ci) a5 ae ak p):=⟨_,rfl⟩;rw[<- C];rw[show kP (.mk k s (.mk lk ln bF lt ci) a5 ae ak p)=w8 k s (.mk lk ln bF lt ci) a5 ae ak (ak.map kP) by simp[kP,jz]]at C;show VC _ _ _ _ [kA r 0 (rA k s lk ln bF lt la ci.length lc aa a5.length ac ta ae.length tc none 0 0 p),kA q 0 (rA k s lk ln bF lt la ci.length lc aa a5.length ac ta ae.length tc a ak.length c p),A,bt lb m0 deep] _;subst J;refine af ?_;by_cases pR:2<ak.length;rotate_left
 .have aN:RR=none:=by
   rw[C];unfold w8;rw[if_neg Zd,if_neg Zd,if_neg Zd,if_neg Zd,if_neg Zd,if_pos rfl];simp[kT,pR]
  rw[A1 ((ak.length:Int) > 2)];exact El
 rw[A0 ((ak.length:Int) > 2)];refine af ?_;refine kM (jK true) Zr ZP (λv dl hv=>?_) Kx;obtain⟨_,rfl,rfl⟩:=hv;simp only[QV];refine af ?_;obtain⟨y,z,l,H5⟩:∃y z l,ak=y::z::l:=by
  match ak,pR with
  |y::z::l,_=>exact⟨y,z,l,rfl⟩
  |[],h=>simp at h
  |[_],h=>simp at h
 have D:ak[0]? =some y:=by rw[H5];rfl
 have E:ak[1]? =some z:=by rw[H5];rfl
 have cA:=hm 0 Zo;rw[X1,Qo]at cA;have cS:=(hr 0 y D).len;have F:z.name.size<=140737488355328/\kC.cell bk (o+12) (.string z.name)∈A:=by
  have L:=hr 1 z E;have g:=hm 1 Zo;obtain⟨c2,c3,c4,c5,c6,c7,c8,c9,tw,e,eU,iL⟩:=sN L;rw[e]at g;exact⟨eU,g _ (kI.2 ⟨1,_,rfl,by rw[show o+1*11+1=o+12 by omega]⟩)⟩
 obtain⟨G,Q⟩:=F;obtain rfl:=ha Zo;have xC:(z::l).length=ak.length-1:=by rw[H5];rfl
 have hF:=λm=>Bs A y _ (hr 0 y D) (bz.ok 0 y D) z.name G lb m deep
 have hR5:RR=kT (decide (s.size=0/\a5.length=0/\ae.length=0/\2<ak.length)&&z4 (.mk lk ln bF lt ci)) (z9 (decide (256<ak.length)) (yN (jh ((z::l).map λy=>kT (decide (y.kind=6)) (kP y))) (zl y z.name (kP y)))):=by
  rw[C,H5,<- uJ];rfl
 obtain⟨B,K⟩:∃B,B=m0:=⟨_,rfl⟩;cases m0 with
 |true=>
  obtain⟨mB,N4⟩:∃b,b=(true||decide (256<ak.length)):=⟨_,rfl⟩;have Je:mB=true:=by rw[N4,Bool.true_or]
  exact zA1
 |false=>
  obtain⟨mB,N4⟩:∃b,b=(false||decide (256<ak.length)):=⟨_,rfl⟩;have Je:mB=decide ((ak.length:Int)>256):=by
   rw[N4,vO];exact decide_eq_decide.2 Zo
  exact zA1
def node_ok(A)(j:nM A):∀(N:Nat) (x:Nd),x.w<=N->x.w<=274877906944->∀vs,jD A x vs->zp A x vs:=by
 intro N
 induction N with
 |zero=>intro x C;have:=x.nC;omega
 |succ N ih=>
  intro x C q vs h;have g:∀y us,y∈x.ak->jD A y us->zp A y us:=λy us D B=>by
   have h1:y.w<x.w:=by
    cases x;have:=Nd.cQ D;simp only[Nd.ak]at this;simp only[Nd.w];omega
   exact ih y Zo Zo us B
  refine⟨λE F s=>node_of A x vs h ?_ E F s,λd m e=>?_⟩
  .by_cases k1:x.kind=1
   .exact node_k1 A j x vs h q g k1
   by_cases k2:x.kind=2
   .exact node_k2 A j x vs h q g k2
   by_cases k3:x.kind=3
   .exact node_k3 A j x vs h q g k3
   by_cases k4:x.kind=4
   .exact node_k4 A j x vs h q g k4
   by_cases k5:x.kind=5
   .exact node_k5 A j x vs h q g k5
   by_cases k6:x.kind=6
   .exact node_k6 A j x vs h q g k6
   by_cases k7:x.kind=7
   .exact node_k7 A j x vs h q g k7
   by_cases k8:x.kind=8
   .exact node_k8 A j x vs h q g k8
   by_cases k9:x.kind=9
   .exact node_k9 A j x vs h q g k9
   exact node_k0 A j x vs h q g ⟨k1,k2,k3,k4,k5,k6,k7,k8,k9⟩
  .have:=JJ _ x (Qs _) d m e;omega
def RY(A)(d:nM A)(x)(g:x.w<=274877906944)(vs)(h:jD A x vs):zp A x vs:=node_ok A d _ x (Qs _) g vs h
def F160:RIR:=EV (X:=⟨11,[],4,[qo 5 (.iB 262 (Value.agg #[.int .i64 0]) true (.tmp 4)),qm 3 5,qe 6 3 0,qe 7 3 1,
 qo 1 (.alloc 262 [.int .i64 0]),qs 1 1 6,qm 2 7],(qS [qm 8 2] [0,1,8] (qC 8 (.oJ [qf 9 0 1,ql 10 9,qs 1 0 10] []) .skip))⟩)
def W2:Oh pg9 (assoc [(0,[0,1,2]),(1,[0,1,8]),(2,[])]) (assoc []) 160=some F160:=by kernel_rfl
def Gd(e n):iX pg9 160 [kE e] .returning .returning [kA e 0 [vi n]] (λdl=>dl=[kA e 0 [vi n]]):=by
 refine iX.intro W2 Zn9 .none ?_;refine af ?_;refine kJ (λq=>?_);refine af ?_;refine qA.seq (qA.oJ ?_);refine af ?_;refine qA.cond (t:=false) Zr (λh=>by cases h) (λ_=>qA.skip ?_);exact kG (dl:=[kA e 0 [vi n]]) (.inl rfl) .nil rfl ZI
def Ge(e n):iX pg9 160 [kE e] (.panicking wo) (.panicking [{v:=Zq,recovered:=true}]) [kA e 0 [vi n]] (λdl=>dl=[kA e 0 [vi 150]]):=by
 refine iX.intro W2 Zn9 .some ?_;refine af ?_;refine kJ (λq=>?_);refine af ?_;refine qA.seq (qA.oJ ?_);refine af ?_;refine qA.cond (t:=true) Zr (λ_=>qA.oJ ?_) (λh=>by cases h);refine af ?_;exact kG (dl:=[kA e 0 [vi 150]]) (.inl rfl) .nil rfl ZI
def Yq(L R):fq (L++R) R L:=by
 simp only[V.fq,Vc];exact QZ
def RA(X Y L):ap ([X,Y]++L) L:=⟨[X,Y],by
 simp only[V.fq,Vc];exact QZ⟩
def Mn(X Y L):ap ([X]++[Y,L.flatten]) L:=⟨[X,Y],by
 simp only[V.fq,Vc,Vd,Ve,vm];rw[<- vj];exact QZ⟩
def qJ(e j n m d g Q Γ)(q:V.look Γ 2=some (kE e))(A:Q (vi n) g){H}(s:fq H [kA e 0 [vi n]] [bt j m d,g.flatten]):
 endDP pg9 160 [kE e] [.cC 2] Q .ret Γ H:=by
 refine⟨.inr rfl,[kA e 0 [vi n]],[bt j m d,g.flatten],_,Gd e n,s,?_⟩
 rintro dl rfl
 exact⟨.inr rfl,[vi n],g,.cC q Nt .nil,Mn _ _ _,A⟩
def IB(D:Value)(q:SH)(QQ:Bool->Bool->SH->Prop)(B:SH->Prop)
 (h:∀j,Ii Tryz.prog D [kE j] (bt j false false::q) (λv dl=>∃m d g,dl=bt j m d::g/\QQ m d g) (λC dl=>C=wo/\∃m d g,dl=bt j m d::g/\B g)):
 aq Tryz.prog 102 [D] q (λv dl=>(∃m d,v=vi (if m then 151 else if d then 152 else 0)/\QQ m d dl)∨(v=vi 150/\B dl)):=by
 refine aq.Od low102 Zn9 ?_;simp only[F102,EV,VDP];refine af ?_;refine kJ (λe=>?_);refine af ?_;refine kZ Zr (λj=>?_);simp only[Value.cells];refine af ?_;refine⟨[kE e],Zr,?_⟩;refine af ?_;have E:fq (kA j 0 [.bool false,.bool false]::kA e 0 [vi 0]::q) (bt j false false::q) [kA e 0 [vi 0]]:=by
  simp only[V.fq,Vd,Ve,vq,vm,vj];exact zEP
 refine Ss Zr (h j) Zr E (λv dl F=>?_) (λC dl A=>?_);rotate_left
 .obtain⟨rfl,m,d,g,rfl,A⟩:=A;refine⟨[kA e 0 [vi 0]],bt j m d::g,_,_,Ge e 0,rfl,Yq _ _,?_⟩
  rintro dl rfl
  exact⟨.inr rfl,[vi 150],g,.cC Zr Nt .nil,RA _ _ _,.inr ⟨rfl,A⟩⟩
 obtain⟨m,d,g,rfl,s⟩:=F;refine VO.imp (H':=[bt j m d,kA e 0 [vi 0],g.flatten]) (ap.perm ?_) ?_
 .simp only[Vd,Ve,vq,vm,Vc];exact zEP
 cases m with
 |true=>
  refine af ?_;exact qJ e j 151 true d g _ _ rfl (.inl ⟨true,d,rfl,s⟩) ZP
 |false=>
  cases d with
  |true=>
   refine af ?_;exact qJ e j 152 false true g _ _ rfl (.inl ⟨false,true,rfl,s⟩) ZP
  |false=>
   refine af ?_;exact qJ e j 0 false false g _ _ rfl (.inl ⟨false,false,rfl,s⟩) ZP
structure Md where
 aX:ByteArray
 a5:List ByteArray
 ae:List ByteArray
 aH:Int
 body:List Nd
structure Io (A:List kC)(x:Md)(vs:List Value):Prop where
 form:∃aa ac ta tc a c bk o us,vs=[.string x.aX,.slice aa x.a5.length ac,.slice ta x.ae.length tc,vi x.aH,.slice a x.body.length c]/\dU A (.slice aa x.a5.length ac) x.a5/\dU A (.slice ta x.ae.length tc) x.ae/\yd A x.body a bk o us
 aX:x.aX.size<=140737488355328
 aH:-9223372036854775808<=x.aH/\x.aH<=9223372036854775807
def dX(x:Md):Rs:=kT (decide (kW x.aX=x.a5.length/\0<=x.aH/\x.aH<=255)) (zE 15 x.a5 (zE 63 x.ae (jh (zA x.body (x.body.map kP)))))
def wS(x:Md):Nat:=Ux (λd=>decide (40<d)) (dX x)
def IE(A x vs)(h:Io A x vs)(q lb):
 jr pg9 103 [kE lb,kE q] [bt lb false false,A,kA q 0 vs] (λv dl=>∃m d E,dl=bt lb m d::E/\(∃dd,dX x=some (dd,m)/\d=decide (40<dd))/\E=[A])
  (λch dl=>ch=wo/\∃m d E,dl=bt lb m d::E/\dX x=none/\E=[A]):=by
 obtain⟨⟨j,s,C,D,a,c,bk,o,us,rfl,bI,bL,bz⟩,bR,F⟩:=h;obtain⟨aX,a5,ae,g,body⟩:=x;simp only at bI bL bz bR F|-;obtain⟨RR,B⟩:∃RR,RR=dX ⟨aX,a5,ae,g,body⟩:=⟨_,rfl⟩;rw[<- B];simp only[dX]at B;refine jr.intro low103 Zn9 ?_;refine jB ?_;by_cases h1:kW aX=(a5.length:Int);rotate_left
 .have aN:RR=none:=by simp[B,kT,h1]
  have cM:decide (kW aX=(a5.length:Int))=false:=Zf h1;refine VC.seq (VC.Bp (λch H'=>ch=wo/\ap H' [bt lb false false,A,kA q 0 [.string aX,.slice j a5.length s,.slice C ae.length D,vi g,.slice a body.length c]]) (λH'=>H'=[bt lb false false,A,kA q 0 [.string aX,.slice j a5.length s,.slice C ae.length D,vi g,.slice a body.length c]]) rfl ?_ (λch H' hp=>?_))
  .skip
   intro rs da;rcases QJ.1 da with rfl|da
   .skip
    (iterate 2 refine kK ?_);refine⟨rfl,vi (kW aX),True,λΓ H bC hH=>?_,?_⟩
    .exact zD6
    (iterate 3 refine kK ?_);refine⟨rfl,.bool false,True,λΓ H bC hH=>?_,?_⟩
    .exact zBJ
    (iterate 9 refine kK ?_);exact zAH
   rcases QJ.1 da with rfl|da
   .skip
    (iterate 4 refine kK ?_);refine⟨rfl,vi (kW aX),True,λΓ H bC hH=>?_,?_⟩
    .exact zD6
    refine kK ?_;refine⟨rfl,.bool false,True,λΓ H bC hH=>?_,?_⟩
    .exact zBJ
    (iterate 9 refine kK ?_);exact zAH
   .cases da
  .exact zD5
 have cM:decide (kW aX=(a5.length:Int))=true:=Zt h1;by_cases h2:0<=g;rotate_left
 .have aN:RR=none:=by simp[B,kT,h2]
  have mo:decide (0<=g)=false:=Zf h2;refine VC.seq (VC.Bp (λch H'=>ch=wo/\ap H' [bt lb false false,A,kA q 0 [.string aX,.slice j a5.length s,.slice C ae.length D,vi g,.slice a body.length c]]) (λH'=>H'=[bt lb false false,A,kA q 0 [.string aX,.slice j a5.length s,.slice C ae.length D,vi g,.slice a body.length c]]) rfl ?_ (λch H' hp=>?_))
  .skip
   intro rs da;rcases QJ.1 da with rfl|da
   .skip
    (iterate 2 refine kK ?_);refine⟨rfl,vi (kW aX),True,λΓ H bC hH=>?_,?_⟩
    .exact zD6
    (iterate 3 refine kK ?_);refine⟨rfl,.bool true,True,λΓ H bC hH=>?_,?_⟩
    .exact zBJ
    (iterate 3 refine kK ?_);refine⟨rfl,.bool false,True,λΓ H bC hH=>?_,?_⟩
    .exact zC1
    (iterate 5 refine kK ?_);exact zAH
   rcases QJ.1 da with rfl|da
   .skip
    (iterate 4 refine kK ?_);refine⟨rfl,vi (kW aX),True,λΓ H bC hH=>?_,?_⟩
    .exact zD6
    refine kK ?_;refine⟨rfl,.bool true,True,λΓ H bC hH=>?_,?_⟩
    .exact zBJ
    (iterate 3 refine kK ?_);refine⟨rfl,.bool false,True,λΓ H bC hH=>?_,?_⟩
    .exact zC1
    (iterate 5 refine kK ?_);exact zAH
   .cases da
  .exact zD5
 have mo:decide (0<=g)=true:=Zt h2;by_cases h3:g<=255;rotate_left
 .have aN:RR=none:=by simp[B,kT,h3]
  have NX:decide (g<=255)=false:=Zf h3;refine VC.seq (VC.Bp (λch H'=>ch=wo/\ap H' [bt lb false false,A,kA q 0 [.string aX,.slice j a5.length s,.slice C ae.length D,vi g,.slice a body.length c]]) (λH'=>H'=[bt lb false false,A,kA q 0 [.string aX,.slice j a5.length s,.slice C ae.length D,vi g,.slice a body.length c]]) rfl ?_ (λch H' hp=>?_))
  .skip
   intro rs da;rcases QJ.1 da with rfl|da
   .skip
    (iterate 2 refine kK ?_);refine⟨rfl,vi (kW aX),True,λΓ H bC hH=>?_,?_⟩
    .exact zD6
    (iterate 3 refine kK ?_);refine⟨rfl,.bool true,True,λΓ H bC hH=>?_,?_⟩
    .exact zBJ
    (iterate 3 refine kK ?_);refine⟨rfl,.bool true,True,λΓ H bC hH=>?_,?_⟩
    .exact zC1
    (iterate 4 refine kK ?_);refine⟨rfl,.bool false,True,λΓ H bC hH=>?_,?_⟩
    .exact zEZ
    exact zAH
   rcases QJ.1 da with rfl|da
   .skip
    (iterate 4 refine kK ?_);refine⟨rfl,vi (kW aX),True,λΓ H bC hH=>?_,?_⟩
    .exact zD6
    refine kK ?_;refine⟨rfl,.bool true,True,λΓ H bC hH=>?_,?_⟩
    .exact zBJ
    (iterate 3 refine kK ?_);refine⟨rfl,.bool true,True,λΓ H bC hH=>?_,?_⟩
    .exact zC1
    (iterate 4 refine kK ?_);refine⟨rfl,.bool false,True,λΓ H bC hH=>?_,?_⟩
    .exact zEZ
    exact zAH
   .cases da
  .exact zD5
 have NX:decide (g<=255)=true:=Zt h3;have hm:RR=zE 15 a5 (zE 63 ae (jh (zA body (body.map kP)))):=by simp[B,kT,h1,h2,h3]
 refine VC.seq (VC.draws ⟨?_,?_,trivial⟩)
 .exact zAE
 .exact zAE
def K2(A x vs)(h:Io A x vs):aq pg9 47 [.agg vs.toArray] [A] (λv dl=>v=vi (wS x)/\dl=[A]):=by
 have C:=IE A x vs h;obtain⟨⟨j,s,F,G,a,c,bk,o,us,rfl,bI,bL,bz⟩,bR,pW⟩:=h;refine aq.intro low47 Zn9 ?_;refine af ?_;refine kZ Zr (λq=>?_);simp only[Value.cells];refine af ?_;refine kH (IB (.func (.func 103) #[] #[kE q]) [A,kA q 0 [.string x.aX,.slice j x.a5.length s,.slice F x.ae.length G,vi x.aH,.slice a x.body.length c]]
  (λm d g=>(∃dd,dX x=some (dd,m)/\d=decide (40<dd))/\g=[A]) (λg=>dX x=none/\g=[A]) (λE=>Ii.cI (first:=#[]) (cap:=#[kE q]) (C q E))) Zr ZP (λv dl D=>?_)
 have B:v=vi (wS x)/\dl=[A]:=by
  rcases D with⟨m,d,rfl,⟨dd,e,rfl⟩,rfl⟩|⟨rfl,e,rfl⟩
  .refine⟨?_,rfl⟩;simp only[wS,Ux,e];cases m<;>simp<;>split<;>rfl
  .refine⟨?_,rfl⟩;simp only[wS,Ux,e];rfl
 obtain⟨rfl,rfl⟩:=B;simp only[aE];exact zBV
end Go.Proofs.YtijnokbblmbpkaaGreatDoor

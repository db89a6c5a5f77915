/-
  A part of the proof.
-/
import Derived.Test.YtijnokbblmbpkaaGreatDoorU10
import Derived.Test.YtijnokbblmbpkaaGreatDoorU5
import Derived.Test.YtijnokbblmbpkaaGreatDoorU6
import Derived.Test.YtijnokbblmbpkaaGreatDoorU4
import Derived.Test.YtijnokbblmbpkaaGreatDoorU7
import Derived.KernelRfl
import Derived.Test.YtijnokbblmbpkaaGreatDoorProg
import Derived.Shelf.SlMaps.Clone
import Derived.Shelf.Lay
import Derived.Test.YtijnokbblmbpkaaGreatDoorU9
set_option linter.all false
set_option maxHeartbeats 20000000
set_option maxRecDepth 100000
namespace Go.Proofs.YtijnokbblmbpkaaGreatDoor
open Go Go.V
structure Fix where
 F:List ByteArray
 G:List ByteArray
 wq:Nat
 fb:Nat
 gb:Nat
 bM:Array MapEntry
 bQ:Array MapEntry
 fc:Nat
 gc:Nat
 S:List kC
structure SG (X:Fix):Prop where
 f:rJ X.F X.bM X.fc
 g:xR X.G X.bQ X.gc
def tg(X:Fix)(f:Nat)(args:List Value)(st GP:ah)(us:Value)(bI:List Value)(U:List UC)(Vs:List ax)(T:List kC)(b:Nat)(es:Array MapEntry)(c:Nat)(R:Value->List Nat->List kC->Prop):Prop:=
 ju Tryz.prog f args [kA X.wq 0 [.map (some X.fb),.map (some X.gb),us],ao us (U.map λu=>kO (some u.q)) bI,[.obj X.fb (.map X.bM X.fc)],[.obj X.gb (.map X.bQ X.gc)],WK U Vs,T,[.obj b (.map es c)],X.S]
  (λv Post=>∃Sy Yt U' po T' B,(iU GP Sy Yt U' po T'/\U.map UC.q <+:U'.map UC.q/\Vs.map ax.q <+:po.map ax.q/\R v (po.map ax.q) B)/\
    Post=[kA X.wq 0 [.map (some X.fb),.map (some X.gb),Sy],ao Sy (U'.map λu=>kO (some u.q)) Yt,[.obj X.fb (.map X.bM X.fc)],[.obj X.gb (.map X.bQ X.gc)],WK U' po,T',[.obj b (.map es c)],X.S,B])
  (λch Post=>∃q e p,GP.f=some (e,p)/\ch=qE q/\Post=[X.S,jU q e p])
def PartR(pn:PN)(v:Value)(qs:List Nat)(B:List kC):Prop:=∃ws,v=.agg ws.toArray/\yz B qs pn ws
def AllR(l:List PN)(v:Value)(qs:List Nat)(B:List kC):Prop:=∃rows sp B',ky 13 v l.length rows.flatten sp/\zy B' qs l rows/\B=ao v rows.flatten sp++B'
def pW(X:Fix)(x:Nd)(vs:List Value):Prop:=
 ∀st us bI U Vs T,iU st us bI U Vs T->∀(i:Nat) (u:UC),U[i]? =some u->∀env b es c,zT st Vs env es c->(∀v∈env,st.af v∈st.line i)->Room st (nj x)->
  tg X 172 [kE X.wq,.agg vs.toArray,kE u.q,.map (some b)] st (jD X.F X.G x st env i).2 us bI U Vs T b es c (PartR (jD X.F X.G x st env i).1)
theorem uB {st d:ah}(h:Gr st d)(j:Wf st)(A:Wf d){i:Nat}(m:i < st.outer.length){v:Nat}(s:v < st.vars.length):d.line i=st.line i/\d.af v=st.af v:=by
 refine⟨?_,?_⟩
 .induction i using Nat.strongRecOn with
  |_ i ih=>
   have q:d.outer.getD i (-1)=st.outer.getD i (-1):=by
    obtain⟨t,g⟩:=h.outer;rw[<- g,Vh,Vh,Vj m]
   have hl:=h.outer.length_le;rw[A.line Zo,j.line Zo,q]
   congr 1
   split
   .rfl
   .have:=j.fu i;exact ih _ Zo Zo
 .obtain⟨t,g⟩:=h.vars;unfold ah.af;rw[<- g,Vj s]
theorem Ae(X:Fix)(l:List Nd)(a:Option Addr)(ac bk o:Nat)(ks:Nat->List Value)(O4:l.length < 1073741824)(ha:0 < l.length->a=some ⟨bk,o,none⟩)(hm:∀i,i < l.length->∀y∈kA bk (o+i*11) (ks i),y∈X.S)(hr:∀i x,l[i]? =some x->jN X.S x (ks i))(aN:∀i x,l[i]? =some x->pW X x (ks i))
 (st:ah) (us:Value) (bI:List Value) (U:List UC) (Vs:List ax) (T:List kC) (hS:iU st us bI U Vs T) (i:Nat) (u:UC) (hu:U[i]? =some u) (env:List Nat) (b:Nat) (es:Array MapEntry) (c:Nat) (hs:zT st Vs env es c) (Hi:∀v∈env,st.af v∈st.line i) (bP:Room st (jM l)):
 tg X 112 [kE X.wq,.slice a l.length ac,kE u.q,.map (some b)] st (kT X.F X.G l st env i).2 us bI U Vs T b es c (AllR (kT X.F X.G l st env i).1):=by
 refine ju.intro low112 Zn9 ?_;refine ae ?_;refine VC.loop (α:=Nat×ah×Value×List Value×List UC×List ax×List kC×Value×List (List Value)×List Value×List kC×List PN) (bg:=λs=>[(0,kE X.wq),(2,kE u.q),(3,.map (some b)),(9,s.2.2.2.2.2.2.2.1),(12,.slice a l.length ac),(13,vi l.length),(14,vi s.1)])
  (Hf:=λs=>[kA X.wq 0 [.map (some X.fb),.map (some X.gb),s.2.2.1],ao s.2.2.1 (s.2.2.2.2.1.map λu=>kO (some u.q)) s.2.2.2.1,[.obj X.fb (.map X.bM X.fc)],[.obj X.gb (.map X.bQ X.gc)],WK s.2.2.2.2.1 s.2.2.2.2.2.1,s.2.2.2.2.2.2.1,[.obj b (.map es c)],X.S,ao s.2.2.2.2.2.2.2.1 s.2.2.2.2.2.2.2.2.1.flatten s.2.2.2.2.2.2.2.2.2.1,s.2.2.2.2.2.2.2.2.2.2.1])
  (I:=λs=>s.1<=l.length/\(∃w,s.2.2.2.2.1[i]? =some w/\w.q=u.q)/\iU s.2.1 s.2.2.1 s.2.2.2.1 s.2.2.2.2.1 s.2.2.2.2.2.1 s.2.2.2.2.2.2.1/\Gr st s.2.1/\U.map UC.q <+:s.2.2.2.2.1.map UC.q/\Vs.map ax.q <+:s.2.2.2.2.2.1.map ax.q/\Room s.2.1 (jM (l.drop s.1))/\
    (kT X.F X.G l st env i).2=(kT X.F X.G (l.drop s.1) s.2.1 env i).2/\(kT X.F X.G l st env i).1=s.2.2.2.2.2.2.2.2.2.2.2++(kT X.F X.G (l.drop s.1) s.2.1 env i).1/\s.2.2.2.2.2.2.2.2.2.2.2.length=s.1/\
    ky 13 s.2.2.2.2.2.2.2.1 s.1 s.2.2.2.2.2.2.2.2.1.flatten s.2.2.2.2.2.2.2.2.2.1/\zy s.2.2.2.2.2.2.2.2.2.2.1 (s.2.2.2.2.2.1.map ax.q) s.2.2.2.2.2.2.2.2.2.2.2 s.2.2.2.2.2.2.2.2.1) (μ:=λs=>l.length - s.1) (0,st,us,bI,U,Vs,T,Nz,[],[],[],[])
  ⟨X3 _,⟨u,hu,rfl⟩,hS,Gr.refl st,Qg _,Qg _,bP,rfl,rfl,rfl,.nil,zy.nil _ _⟩ ZU (ai.cut (M:=[kA X.wq 0 [.map (some X.fb),.map (some X.gb),us],ao us (U.map λu=>kO (some u.q)) bI,[.obj X.fb (.map X.bM X.fc)],[.obj X.gb (.map X.bQ X.gc)],WK U Vs,T,[.obj b (.map es c)],X.S]) ZI (ai.perm (by simp[ao]))) ?_
 rintro⟨j,bS,K,pG,H,V1,T1,sv,rows,sp,B,pns⟩ ⟨hj,⟨w,hw,rH⟩,KX,He,J,A,Y9,C,g,nQ,bn,cu⟩
 simp only at hj hw rH KX He J A Y9 C g nQ bn cu;dsimp only;obtain⟨sa,sc,iG⟩:=bn.form;subst iG;refine ae ?_;by_cases aJ:j < l.length;rotate_left
 .rw[show decide ((j:Int) < (l.length:Int))=false from Zf Zo];have rW:j=l.length:=by omega
  rw[rW,List.drop_length,kT]at g C;simp only[vp]at g C;have hpl2:pns.length=j:=nQ;refine ae ?_;refine jT (kG (Post:=[kA X.wq 0 [.map (some X.fb),.map (some X.gb),K],ao K (H.map λu=>kO (some u.q)) pG,[.obj X.fb (.map X.bM X.fc)],[.obj X.gb (.map X.bQ X.gc)],WK H V1,T1,[.obj b (.map es c)],X.S,ao (.slice sa j sc) rows.flatten sp++B]) (.inr rfl) (.tmp (v:=.slice sa j sc) Zr .nil)
   ⟨K,pG,H,V1,T1,_,⟨?_,J,A,rows,sp,B,?_,?_,rfl⟩,rfl⟩ (ai.cut (M:=[kA X.wq 0 [.map (some X.fb),.map (some X.gb),K],ao K (H.map λu=>kO (some u.q)) pG,[.obj X.fb (.map X.bM X.fc)],[.obj X.gb (.map X.bQ X.gc)],WK H V1,T1,[.obj b (.map es c)],X.S,ao (.slice sa j sc) rows.flatten sp,B]) ZI (ai.perm Zs)))
  .rw[C];exact KX
  .rw[g,hpl2];exact bn
  .rw[g];exact cu
 obtain rfl:=ha Zo;rw[show decide ((j:Int) < (l.length:Int))=true from Zt Zo];obtain⟨y,hy⟩:∃y,l[j]? =some y:=⟨_,Zg aJ⟩;have Ki:l.drop j=y::l.drop (j+1):=by
  rw[vw aJ]
  congr 1
  rw[Zg aJ]at hy;exact XC hy
 rw[Ki]at g C Y9;simp only[jM]at Y9;rw[jc]at g C;simp only at g C;have cG:=hm j aJ;have bF:=hr j y hy;have cL:i < st.outer.length:=by have:=(Vt.1 hu).1;rw[hS.rep.ul]at this;exact this
 have az:=aN j y hy bS K pG H V1 T1 KX i w hw env b es c (hs.more He.vars A hS.rep.vl) (λv hv=>by
  obtain⟨D,E⟩:=uB He hS.rep.wf KX.rep.wf cL (hs.lt v hv);rw[D,E];exact Hi v hv) (Y9.mono Zo)
 have hgp:=(zq X.F X.G _ y (Qt _) bS env i).1;have hlp:=(oJ X.F X.G _ y (Qt _) bS env i).1;rw[rH]at az;generalize ks j=kj at*;obtain⟨e1,e2,e3,e4,e5,e6,e7,e8,e9,xD,xE,xF,xG,Kd,Ke,Kf,rfl⟩:=sr bF;refine ae ?_;refine kR Zr (λz hz=>by have h9:=cG z hz;simp[h9]) rfl ?_;refine ae ?_;refine kK (λLY=>?_);refine ae ?_;refine kN az Zr ZP (λv Post hv=>?_) (λch Post hz=>?_);rotate_left
 .obtain⟨q,e,p,iE,rfl,rfl⟩:=hz;refine⟨[X.S,jU q e p],ZI,q,e,p,?_,rfl,rfl⟩;rw[C];exact(wk X.F X.G (l.drop (j+1)) _ env i).f _ iE
 obtain⟨Kr,lP,U2,V2,T2,B2,⟨Hb,xK,xL,ws,rfl,hn⟩,rfl⟩:=hv;simp only[aE];obtain⟨L,N,O,Q,W,Y,Z,r1,r2,r3,p1,p2,p3,D,E,k3,IJ⟩:=mf hn;subst IJ;generalize Ec:(jD X.F X.G y bS env i).1=d at hn g|-;refine j8 (out:=[.int .u8 d.kind,.string d.name,.int .u8 L,.int .i64 N,.int .u64 O,.string Q,.slice W Y Z,.slice r1 r2 r3,.int .i64 d.unit,.bool d.super,.slice none 0 0,.slice p1 p2 p3,.slice D E k3]) Zr Zr (λr=>?_);refine kw (k:=j) (m:=1) (xs:=rows.flatten) (sp:=sp) (ys:=[.int .u8 d.kind,.string d.name,.int .u8 L,.int .i64 N,.int .u64 O,.string Q,.slice W Y Z,.slice r1 r2 r3,.int .i64 d.unit,.bool d.super,.slice none 0 0,.slice p1 p2 p3,.slice D E k3]) Zr Zr bn ZK Zr ?_ rfl Zr Zr Zd Zo (λcw bA aH=>?_)
 .exact C2
 have fS:rows.flatten++([.int .u8 d.kind,.string d.name,.int .u8 L,.int .i64 N,.int .u64 O,.string Q,.slice W Y Z,.slice r1 r2 r3,.int .i64 d.unit,.bool d.super,Nz,.slice p1 p2 p3,.slice D E k3]:List Value)=(rows++[([.int .u8 d.kind,.string d.name,.int .u8 L,.int .i64 N,.int .u64 O,.string Q,.slice W Y Z,.slice r1 r2 r3,.int .i64 d.unit,.bool d.super,Nz,.slice p1 p2 p3,.slice D E k3]:List Value)]).flatten:=by simp
 rw[fS]at aH|-;obtain⟨oV,oW,rfl⟩:=aH.form;refine ae ?_;refine⟨(j+1,_,Kr,lP,U2,V2,T2,.slice oV (j+1) oW,rows++[[.int .u8 d.kind,.string d.name,.int .u8 L,.int .i64 N,.int .u64 O,.string Q,.slice W Y Z,.slice r1 r2 r3,.int .i64 d.unit,.bool d.super,Nz,.slice p1 p2 p3,.slice D E k3]],bA,B++B2,pns++[d]),⟨by simp only;omega,?_,Hb,He.trans hgp,J.trans xK,A.trans xL,Y9.less hlp,C,by simp only;rw[g];simp,by simp[nQ],aH,?_⟩,by simp only;omega,ZU,?_⟩
 .obtain⟨t,ht⟩:=xK;have h1:(H.map UC.q)[i]? =some w.q:=by rw[Vu,hw];rfl
  have h2:(U2.map UC.q)[i]? =some w.q:=by
   rw[<- ht,Vj (Vt.1 h1).1];exact h1
  rw[Vu]at h2;obtain⟨w',h3,h4⟩:=X9.1 h2;exact⟨w',h3,h4.trans rH⟩
 .exact(cu.more (λx hx=>Zw _ hx) xL).snoc (hn.more (λx hx=>QH _ hx) (Qg _))
 .simp only;refine ai.cut (M:=[kA X.wq 0 [.map (some X.fb),.map (some X.gb),Kr],ao Kr (U2.map λu=>kO (some u.q)) lP,[.obj X.fb (.map X.bM X.fc)],[.obj X.gb (.map X.bQ X.gc)],WK U2 V2,T2,[.obj b (.map es c)],X.S,ao (.slice oV (j+1) oW) (rows++[([.int .u8 d.kind,.string d.name,.int .u8 L,.int .i64 N,.int .u64 O,.string Q,.slice W Y Z,.slice r1 r2 r3,.int .i64 d.unit,.bool d.super,Nz,.slice p1 p2 p3,.slice D E k3]:List Value)]).flatten bA,B,B2]) ZI (ai.perm Zs)
theorem Z3 {U:List UC}{Vs:List ax}{q:Nat}{w:World}{L:List kC}{M:List kC}(s:Sat w (L++M))(m:kC.own q 9∈L)(j:∀x∈WK U Vs,x∈M):q∉U.map UC.q:=by
 intro g;obtain⟨u,A,rfl⟩:=QO.1 g;have d:=s.nodup;rw[QB,QW]at d;have h:kC.own u.q 9∈WK U Vs:=Zw _ (QM.2 ⟨u,A,QK ..⟩);exact d.2.2 _ (QO.2 ⟨_,m,rfl⟩) _ (QO.2 ⟨_,j _ h,rfl⟩) rfl
theorem Al(X:Fix)(vk l1 l2 l3 l4 l5:Value)(vn:Value)(args ab:List ByteArray)(av tv:Value)(bD:cO X.S av args)(bB:cO X.S tv ab)(kids:List Nd)(a:Option Addr)(ac bk ko:Nat)(ks:Nat->List Value)(O4:kids.length < 1073741824)(ha:0 < kids.length->a=some ⟨bk,ko,none⟩)(hm:∀i,i < kids.length->∀y∈kA bk (ko+i*11) (ks i),y∈X.S)(hr:∀i x,kids[i]? =some x->jN X.S x (ks i))(aN:∀i x,kids[i]? =some x->pW X x (ks i))(p:Int)
 (st:ah) (us:Value) (bI:List Value) (U:List UC) (Vs:List ax) (T:List kC) (j:iU st us bI U Vs T) (o:Int) (ho:-1<=o/\o < st.outer.length) (env:List Nat) (b:Nat) (es:Array MapEntry) (c:Nat) (hs:zT st Vs env es c) (Hi:∀v∈env,∃i:Nat,o=i/\st.af v∈st.line i) (bP:Room st (gu args ab (jM kids))):
 ju Tryz.prog 49 [kE X.wq,.agg #[vk,vn,l1,l2,l3,l4,l5,av,tv,.slice a kids.length ac,.int .i64 p],kO (og U o),.map (some b)]
  [kA X.wq 0 [.map (some X.fb),.map (some X.gb),us],ao us (U.map λu=>kO (some u.q)) bI,[.obj X.fb (.map X.bM X.fc)],[.obj X.gb (.map X.bQ X.gc)],WK U Vs,T,[.obj b (.map es c)],X.S]
  (λv Post=>∃Sy Yt U' po T',(iU (lN X.F X.G args ab kids p st env o) Sy Yt U' po T'/\U.map UC.q <+:U'.map UC.q/\Vs.map ax.q <+:po.map ax.q/\∃w,U'[st.outer.length]? =some w/\v=kE w.q)/\
    Post=[kA X.wq 0 [.map (some X.fb),.map (some X.gb),Sy],ao Sy (U'.map λu=>kO (some u.q)) Yt,[.obj X.fb (.map X.bM X.fc)],[.obj X.gb (.map X.bQ X.gc)],WK U' po,T',[.obj b (.map es c)],X.S])
  (λch Post=>∃q e p',(lN X.F X.G args ab kids p st env o).f=some (e,p')/\ch=qE q/\Post=[X.S,jU q e p']):=by
 obtain⟨ua,uc,xV⟩:=j.sl.form;have bn:=j.sl;subst xV;have KY:=bD;have A4:=bB;obtain⟨aa,MK,rfl,s5,dD⟩:=bD;obtain⟨ta,NR,rfl,rZ,IG⟩:=bB;have IH:=j.rep.ul;have hUl:U.length=(U.map λu=>kO (some u.q)).length:=by simp
 obtain⟨r1,r2,r3⟩:=bP;simp only[gu]at r1 r2 r3;obtain⟨Z,hpa⟩:∃Z,kO (og U o)=.pointer Z:=by cases og U o <;> exact⟨_,rfl⟩
 rw[hpa];refine ju.intro low49 Zn9 ?_;refine ae ?_;refine kX Zr (λq5=>?_);simp only[Value.cells];refine ae ?_;refine lH (λd=>?_);refine ae ?_;refine st_boxO Zr (λq=>?_);simp only[Value.cells];refine VO.know (φ:=q∉U.map UC.q) (λw F lj=>?_) (λAO=>?_)
 .refine Z3 (Vs:=Vs) (L:=_) (M:=_) (by rw[Vd,vm]at lj;exact lj) (QK ..) (λx N=>?_);simp[N]
 refine VO.imp (H':=[[.own q 9],kA q 0 [vi 0,vi 0,vi 0,.pointer Z,vi U.length,Nz,.map (some d),Nz,Nz],[.obj d (.map #[] 0)],kA q5 0 [vk,vn,l1,l2,l3,l4,l5,.slice aa args.length MK,.slice ta ab.length NR,.slice a kids.length ac,.int .i64 p],
  kA X.wq 0 [.map (some X.fb),.map (some X.gb),.slice ua U.length uc],ao (.slice ua U.length uc) (U.map λu=>kO (some u.q)) bI,[.obj X.fb (.map X.bM X.fc)],[.obj X.gb (.map X.bQ X.gc)],WK U Vs,T,[.obj b (.map es c)],X.S]) (ai.perm Zs) ?_
 refine ae ?_;refine kK (λk9=>?_);refine ae ?_;refine j8 (out:=[kE q]) Zr Zr (λr=>?_);refine kw (k:=U.length) (m:=1) (xs:=U.map λu=>kO (some u.q)) (sp:=bI) (ys:=[kE q]) Zr Zr bn ZK Zr ?_ rfl Zr Zr Zd Zo (λcw bA aH=>?_)
 .exact C2
 obtain⟨s,B,rfl⟩:=aH.form;have fS:(U.map λu=>kO (some u.q))++[kE q]=(U++[Bu q args.length (og U o) st.outer.length d]).map λu=>kO (some u.q):=by simp[kO,Bu]
 rw[fS]at aH|-;refine ae ?_;have hR1:df (st.aF o args.length) (U++[Bu q args.length (og U o) st.outer.length d]) Vs:=j.rep.aF ho AO;obtain⟨g,Y⟩:∃g,g=U++[Bu q args.length (og U o) st.outer.length d]:=⟨_,rfl⟩;have Hm:(g.map UC.q)[st.outer.length]? =some q:=by
  rw[Y,QB,Vl (by rw[Q6,IH];exact Qt _),Q6,IH,Qz];rfl
 have Eb:(st.aF o args.length).args.getD st.outer.length 0=args.length:=by
  show(st.args++[args.length]).getD st.outer.length 0=args.length;rw[Vh,<- j.rep.wf.al,Vl (Qt _),Qz];rfl
 have K:(st.aF o args.length).outer.length=st.outer.length+1:=by unfold ah.aF;simp
 have hwk1:(WK g Vs).Perm ([.own q 9]++(kA q 0 [vi args.length,vi 0,vi 0,.pointer Z,vi U.length,Nz,.map (some d),Nz,Nz]++([.obj d (.map #[] 0)]++WK U Vs))):=by
  rw[Y];refine(Yz U Vs _).trans ?_;have e:(Bu q args.length (og U o) st.outer.length d).atoms=.own q 9::(kA q 0 [vi args.length,vi 0,vi 0,.pointer Z,vi U.length,Nz,.map (some d),Nz,Nz]++[.obj d (.map #[] 0)]):=by
   unfold UC.atoms UC.row Bu;simp only[hpa,IH,ao,QV];rfl
  rw[e];simp
 rw[<- Y]at hR1 aH|-;refine VO.imp (H':=[kA k9 0 [kE q],WK g Vs,[.obj b (.map es c)],X.S,kA q5 0 [vk,vn,l1,l2,l3,l4,l5,.slice aa args.length MK,.slice ta ab.length NR,.slice a kids.length ac,.int .i64 p],kA X.wq 0 [.map (some X.fb),.map (some X.gb),.slice s (U.length+1) B],ao (.slice s (U.length+1) B) (g.map λu=>kO (some u.q)) bA,[.obj X.fb (.map X.bM X.fc)],[.obj X.gb (.map X.bQ X.gc)],T]) ?_ ?_
 .refine ai.cut (M:=[kA k9 0 [kE q],[.own q 9],kA q 0 [vi args.length,vi 0,vi 0,.pointer Z,vi U.length,Nz,.map (some d),Nz,Nz],[.obj d (.map #[] 0)],WK U Vs,[.obj b (.map es c)],X.S,kA q5 0 [vk,vn,l1,l2,l3,l4,l5,.slice aa args.length MK,.slice ta ab.length NR,.slice a kids.length ac,.int .i64 p],kA X.wq 0 [.map (some X.fb),.map (some X.gb),.slice s (U.length+1) B],ao (.slice s (U.length+1) B) (g.map λu=>kO (some u.q)) bA,[.obj X.fb (.map X.bM X.fc)],[.obj X.gb (.map X.bQ X.gc)],T]) ZI (ai.perm ?_);have h:=λR=>(vd R hwk1).symm
  simp only[vm]at h;simp only[Vd,Ve,vp];exact vZ _ (h _)
 have nU:zT (st.aF o args.length) Vs env es c:=hs.more (Qg _) (Qg _) j.rep.vl;have iE:∀e:Nat×Int,(aS args ab p st env o).1.f=some e->(lN X.F X.G args ab kids p st env o).f=some e:=λe C=>by
  rw[w7];exact(wk X.F X.G kids _ _ _).f e C
 have Ua:∀e:Nat×Int,(kP st.outer.length true true p args 0 (st.aF o args.length) env).1.f=some e->(lN X.F X.G args ab kids p st env o).f=some e:=λe C=>iE e (tD st.outer.length false true p ab 0 _ _ C)
 refine kN (pd X.S st.outer.length args.length true true p args (.slice aa args.length MK) KY (.func (.func 109) #[] #[kE k9]) (λ_ A=>A=kA k9 0 [kE q]) (st.aF o args.length) g Vs (mk_arg _ st.outer.length args.length q k9 Hm Zo) hR1 (by rw[K];omega) Eb j.ok (by show st.vars.length+args.length < _;omega) _ rfl env b es c nU) Zr ZP (λv Post hv=>?_) (λch Post hz=>?_);rotate_left
 .obtain⟨Kj,q1,rfl,rfl⟩:=hz;exact⟨[X.S,jU q1 180 p],ZI,q1,180,p,Ua _ Kj,rfl,rfl⟩
 obtain⟨b2,G8,c2,U2,V2,A2,⟨Fm,rfl,M5,lR,rG,rX,tQ,rfl⟩,rfl⟩:=hv;simp only[aE];refine ae ?_;obtain⟨g1,g2,g3,g4⟩:=je st.outer.length true true p args 0 (st.aF o args.length) env;refine kN (pd X.S st.outer.length args.length false true p ab (.slice ta ab.length NR) A4 (.func (.func 110) #[] #[kE k9]) (λ_ A=>A=kA k9 0 [kE q]) _ U2 V2 (mk_temp _ st.outer.length args.length q k9 ab.length (by rw[lR];exact Hm)) M5 (by rw[g1,K];omega) (by rw[g2];exact Eb) Fm (by rw[g4];show st.vars.length+args.length+ab.length < _;omega) _ rfl _ b2 G8 c2 tQ) Zr ZP (λv Post hv=>?_) (λch Post hz=>?_);rotate_left
 .obtain⟨Kj,q1,rfl,rfl⟩:=hz;exact⟨[X.S,jU q1 180 p],ZI,q1,180,p,iE _ Kj,rfl,rfl⟩
 obtain⟨b3,es3,c3,U3,V3,A3,⟨hf3,rfl,I,La,Sp,hp3,UF,rfl⟩,rfl⟩:=hv;simp only[aE];obtain⟨d1,d2,d3,d4⟩:=je st.outer.length false true p ab 0 (kP st.outer.length true true p args 0 (st.aF o args.length) env).1 (kP st.outer.length true true p args 0 (st.aF o args.length) env).2;have aR:kP st.outer.length false true p ab 0 (kP st.outer.length true true p args 0 (st.aF o args.length) env).1 (kP st.outer.length true true p args 0 (st.aF o args.length) env).2=aS args ab p st env o:=rfl;have Kl:∀v∈(aS args ab p st env o).2,(aS args ab p st env o).1.af v∈(aS args ab p st env o).1.line st.outer.length:=λv hv=>by
  have hwf3:Wf (aS args ab p st env o).1:=I.wf;have Su:(aS args ab p st env o).1.outer=(st.aF o args.length).outer:=d1.trans g1;have J:=hwf3.line (u:=st.outer.length) (by rw[Su,K];omega);have nV:st.outer.length∈(aS args ab p st env o).1.line st.outer.length:=by rw[J];exact QK ..
  have E:∀v∈env,v < (st.aF o args.length).vars.length:=λv hv=>hs.lt v hv
  have nO:∀v∈(kP st.outer.length true true p args 0 (st.aF o args.length) env).2,v < (kP st.outer.length true true p args 0 (st.aF o args.length) env).1.vars.length:=λv hv=>(gz _ _ _ _ _ _ _ _ E v hv).1
  obtain⟨_,hk⟩:=gz st.outer.length false true p ab 0 _ _ nO v hv;rcases hk with⟨xI,pL⟩|hk
  .obtain⟨_,qI⟩:=gz st.outer.length true true p args 0 _ _ E v xI;rcases qI with⟨hk4,hk5⟩|qI
   .obtain⟨i,hi1,O2⟩:=Hi v hk4;have C:(aS args ab p st env o).1.af v=st.af v:=pL.trans hk5;have Sq:(aS args ab p st env o).1.outer.getD st.outer.length (-1)=o:=by
     rw[Su];show(st.outer++[o]).getD st.outer.length (-1)=o;exact zC7
    rw[Sq,if_neg Zo,show o.toNat=i by omega]at J;have K6:(aS args ab p st env o).1.line i=st.line i:=by
     have:=j.rep.wf.sf (n:=args.length) ho i Zo;rw[<- this];unfold ah.line;rw[Su]
    rw[C,J,K6];exact QJ _ O2
   .have C:(aS args ab p st env o).1.af v=st.outer.length:=pL.trans qI;rw[C];exact nV
  .have C:(aS args ab p st env o).1.af v=st.outer.length:=hk;rw[C];exact nV
 rw[aR]at hf3 I UF d1 d2 d3 d4;have hS3:iU (aS args ab p st env o).1 (.slice s (U.length+1) B) bA U3 V3 T:=by
  have hqq:U3.map UC.q=g.map UC.q:=La.trans lR;have Y1:U3.map UC.body=g.map UC.body:=Sp.trans rG;have Iv:U3.length=U.length+1:=by
   have:=congrArg List.length hqq;rw[Q6,Q6,Y,Vy]at this;exact this
  have D:∀W:List UC,(W.map λu=>kO (some u.q))=(W.map UC.q).map λb=>kO (some b):=λW=>by rw[QE];rfl
  refine⟨I,hf3,?_,λi w hw=>?_⟩
  .rw[Iv,D,hqq,<- D];exact aH
  .have fC:(g.map UC.body)[i]? =some w.body:=by rw[<- Y1,Vu,hw];rfl
   have KZ:(aS args ab p st env o).1.bodies=st.bodies++[[]]:=d3.trans g3;rw[KZ];rw[Vu]at fC;obtain⟨w1,Q,hwb⟩:=X9.1 fC;rw[Y,Vi]at Q;split at Q
   .rename_i hi;rw[dB (by rw[j.rep.wf.bl,<- IH];exact hi),<- hwb];exact(j.bod i w1 Q).more (λx N=>N) (rX.trans hp3)
   .rename_i hi;have Up:=(Vt.1 Q).1;simp only[Q9]at Up;have e:i=st.bodies.length:=by rw[j.rep.wf.bl];omega
    have e2:i - U.length=0:=by omega
    rw[e2]at Q;have hw1':Bu q args.length (og U o) st.outer.length d=w1:=by simpa using Q
    rw[<- hwb,<- hw1',e,Vh,Vl (Qt _),Qz];exact xq.nil _ _
 have tP:Room (aS args ab p st env o).1 (jM kids):=by
  have h1:yB st (aS args ab p st env o).1 (1+(args.length+ab.length)):=(tV st o args.length).trans ((wu _ _ _ _ _ _ _ _).trans (wu _ _ _ _ _ _ _ _));obtain⟨O,k2,k3⟩:=h1;exact⟨Zo,Zo,Zo⟩
 obtain⟨w3,hw3,hwq3⟩:∃w,U3[st.outer.length]? =some w/\w.q=q:=mJ rfl (by rw[La,lR];exact Hm);have aj:=Ae X kids a ac bk ko ks O4 ha hm hr aN _ _ _ _ _ _ hS3 st.outer.length w3 hw3 _ b3 es3 c3 UF Kl tP;rw[hwq3]at aj;have Ld:(U3.map λu=>kO (some u.q))=g.map λu=>kO (some u.q):=by
  have D:∀W:List UC,(W.map λu=>kO (some u.q))=(W.map UC.q).map λb=>kO (some b):=λW=>by rw[QE];rfl
  rw[D,La.trans lR,<- D]
 have ψ:∀(mL:Value) (dU:List Value) (U4:List UC) (V4:List ax) (T4:List kC) (rows:List (List Value)) (Cs:List Value) (B5:List kC) (va:Option Addr) (vc:Nat) (w4:UC),iU (kT X.F X.G kids (aS args ab p st env o).1 (aS args ab p st env o).2 st.outer.length).2 mL dU U4 V4 T4->ky 13 (.slice va (kT X.F X.G kids (aS args ab p st env o).1 (aS args ab p st env o).2 st.outer.length).1.length vc) (kT X.F X.G kids (aS args ab p st env o).1 (aS args ab p st env o).2 st.outer.length).1.length rows.flatten Cs->zy B5 (V4.map ax.q) (kT X.F X.G kids (aS args ab p st env o).1 (aS args ab p st env o).2 st.outer.length).1 rows->U4[st.outer.length]? =some w4->w4.q=q->U3.map UC.q <+:U4.map UC.q->V3.map ax.q <+:V4.map ax.q->
  iU (lN X.F X.G args ab kids p st env o) mL dU (U4.set st.outer.length {w4 with body:=.slice va (kT X.F X.G kids (aS args ab p st env o).1 (aS args ab p st env o).2 st.outer.length).1.length vc}) V4 (T4++(ao (.slice va (kT X.F X.G kids (aS args ab p st env o).1 (aS args ab p st env o).2 st.outer.length).1.length vc) rows.flatten Cs++B5))/\U.map UC.q <+:(U4.set st.outer.length {w4 with body:=.slice va (kT X.F X.G kids (aS args ab p st env o).1 (aS args ab p st env o).2 st.outer.length).1.length vc}).map UC.q/\Vs.map ax.q <+:V4.map ax.q/\(∃w,(U4.set st.outer.length {w4 with body:=.slice va (kT X.F X.G kids (aS args ab p st env o).1 (aS args ab p st env o).2 st.outer.length).1.length vc})[st.outer.length]? =some w/\kE q=kE w.q)/\
  ((U4.set st.outer.length {w4 with body:=.slice va (kT X.F X.G kids (aS args ab p st env o).1 (aS args ab p st env o).2 st.outer.length).1.length vc}).map λu=>kO (some u.q))=U4.map λu=>kO (some u.q):=λmL dU U4 V4 T4 rows Cs B5 va vc w4 O k2 k3 k4 k5 k6 k7=>by
  have Km:=zp (w':={w4 with body:=.slice va (kT X.F X.G kids (aS args ab p st env o).1 (aS args ab p st env o).2 st.outer.length).1.length vc}) k4 rfl;have D:∀W:List UC,(W.map λu=>kO (some u.q))=(W.map UC.q).map λb=>kO (some b):=λW=>by rw[QE];rfl
  have H:((U4.set st.outer.length {w4 with body:=.slice va (kT X.F X.G kids (aS args ab p st env o).1 (aS args ab p st env o).2 st.outer.length).1.length vc}).map λu=>kO (some u.q))=U4.map λu=>kO (some u.q):=by rw[D,Km,<- D]
  refine⟨?_,?_,(rX.trans hp3).trans k7,⟨{w4 with body:=.slice va (kT X.F X.G kids (aS args ab p st env o).1 (aS args ab p st env o).2 st.outer.length).1.length vc},by rw[Vw];simp[(Vt.1 k4).1],by rw[<- k5]⟩,H⟩
  .rw[w7];refine⟨O.rep.body k4 _ _,O.ok,by rw[H,Q8];exact O.sl,λi w hw=>?_⟩;rcases mC k4 hw with⟨rfl,rfl⟩|⟨cI,tS⟩
   .have Hc:=O.rep.wf.bl;have O4:=(Vt.1 k4).1;rw[O.rep.ul]at O4;have e:((kT X.F X.G kids (aS args ab p st env o).1 (aS args ab p st env o).2 st.outer.length).2.bodies.set st.outer.length (kT X.F X.G kids (aS args ab p st env o).1 (aS args ab p st env o).2 st.outer.length).1).getD st.outer.length []=(kT X.F X.G kids (aS args ab p st env o).1 (aS args ab p st env o).2 st.outer.length).1:=by
     rw[Vh,Vw];simp[Hc,O4]
    show xq _ _ (.slice va (kT X.F X.G kids (aS args ab p st env o).1 (aS args ab p st env o).2 st.outer.length).1.length vc) (((kT X.F X.G kids (aS args ab p st env o).1 (aS args ab p st env o).2 st.outer.length).2.bodies.set st.outer.length (kT X.F X.G kids (aS args ab p st env o).1 (aS args ab p st env o).2 st.outer.length).1).getD st.outer.length []);rw[e];exact(ns_made k2 k3).more (λx N=>QH _ N) (Qg _)
   .have e:((kT X.F X.G kids (aS args ab p st env o).1 (aS args ab p st env o).2 st.outer.length).2.bodies.set st.outer.length (kT X.F X.G kids (aS args ab p st env o).1 (aS args ab p st env o).2 st.outer.length).1).getD i []=(kT X.F X.G kids (aS args ab p st env o).1 (aS args ab p st env o).2 st.outer.length).2.bodies.getD i []:=by
     rw[Vh,Vh,Vw,if_neg (λe=>cI e.symm)]
    show xq _ _ w.body (((kT X.F X.G kids (aS args ab p st env o).1 (aS args ab p st env o).2 st.outer.length).2.bodies.set st.outer.length (kT X.F X.G kids (aS args ab p st env o).1 (aS args ab p st env o).2 st.outer.length).1).getD i []);rw[e];exact(O.bod i w tS).more (λx N=>Zw _ N) (Qg _)
  .rw[Km];refine List.IsPrefix.trans ?_ k6;rw[La.trans lR,Y,QB];exact Qf _ _
 unfold tg at aj;rw[Ld]at aj;refine ae ?_;cases Y5:(kT X.F X.G kids (aS args ab p st env o).1 (aS args ab p st env o).2 st.outer.length).2.f with
 |some e=>
  refine VC.seq (VC.DU ⟨⟨[_,_,_,_,_,_],_,_,_,_,rfl,?_⟩,⟨[_,_,_,_,_],_,_,_,_,rfl,?_⟩,trivial⟩)
  .refine⟨?_,?_,?_,trivial⟩
   all_goals
    exact zBM
  .refine⟨?_,trivial⟩;exact zBM
 |none=>
  refine VC.seq (VC.draws ⟨?_,?_,trivial⟩)
  .skip
   exact zA4
  .skip
   exact zA4
def InlR(pn:PN)(a n:Nat)(v:Value)(qs:List Nat)(B:List kC):Prop:=∃ws,v=.tuple #[.agg ws.toArray,da ((qs.drop a).take n)]/\yz B qs pn ws
theorem IL(X:Fix)(vk Y Z l3 l4 l5:Value)(vn:Value)(k:Nat)(s:ByteArray)(lit:Lt)(args ab:List ByteArray)(av tv:Value)(bD:cO X.S av args)(bB:cO X.S tv ab)(kids:List Nd)(a:Option Addr)(K bk ko:Nat)(ks:Nat->List Value)(O4:kids.length < 1073741824)(ha:0 < kids.length->a=some ⟨bk,ko,none⟩)(hm:∀i,i < kids.length->∀y∈kA bk (ko+i*11) (ks i),y∈X.S)(hr:∀i x,kids[i]? =some x->jN X.S x (ks i))(aN:∀i x,kids[i]? =some x->pW X x (ks i))(p:Int)
 (st:ah) (us:Value) (D:List Value) (U:List UC) (Vs:List ax) (T:List kC) (hS:iU st us D U Vs T) (i:Nat) (u:UC) (hu:U[i]? =some u) (env:List Nat) (b:Nat) (es:Array MapEntry) (c:Nat) (hs:zT st Vs env es c) (Hi:∀v∈env,st.af v∈st.line i) (bP:Room st (gu args ab (jM kids))):
 tg X 231 [kE X.wq,.agg #[vk,vn,Y,Z,l3,l4,l5,av,tv,.slice a kids.length K,.int .i64 p],kE u.q,.map (some b)] st (zh X.F X.G (.mk k s lit args ab kids p) st env i).2 us D U Vs T b es c (InlR (zh X.F X.G (.mk k s lit args ab kids p) st env i).1 st.vars.length args.length):=by
 have KY:=bD;have A4:=bB;obtain⟨O,L,rfl,s5,dD⟩:=bD;obtain⟨ta,N,rfl,rZ,IG⟩:=bB;obtain⟨r1,r2,r3⟩:=bP;simp only[gu]at r1 r2 r3;have cL:i < st.outer.length:=by have:=(Vt.1 hu).1;rw[hS.rep.ul]at this;exact this
 have huq:(U.map UC.q)[i]? =some u.q:=by rw[Vu,hu];rfl
 rw[ye];simp only;obtain⟨d,M1⟩:∃d,d=kP i true false p args 0 st env:=⟨_,rfl⟩;obtain⟨D2,M3⟩:∃D2,D2=kP i false false p ab 0 d.1 d.2:=⟨_,rfl⟩;rw[<- M1,<- M3];have E:∀e:Nat×Int,D2.1.f=some e->(kT X.F X.G kids D2.1 D2.2 i).2.f=some e:=λe he=>(wk X.F X.G kids _ _ _).f e he
 have Ua:∀e:Nat×Int,d.1.f=some e->(kT X.F X.G kids D2.1 D2.2 i).2.f=some e:=λe he=>E e (by rw[M3];exact tD _ _ _ _ _ _ _ _ he)
 refine ju.intro low231 Zn9 ?_;refine ae ?_;refine kX Zr (λq5=>?_);simp only[Value.cells];refine ae ?_;refine kX Zr (λg=>?_);simp only[Value.cells];refine ae ?_;refine kK (λq8=>?_);refine ae ?_;refine kK (λC=>?_);refine ae ?_;refine kK (λm=>?_);refine ae ?_;obtain⟨g1,g2,g3,g4⟩:=je i true false p args 0 st env;rw[<- M1]at g1 g2 g3 g4;obtain⟨d1,d2,d3,d4⟩:=je i false false p ab 0 d.1 d.2;rw[<- M3]at d1 d2 d3 d4;have Hn:=pd X.S i (st.args.getD i 0) true false p args (.slice O args.length L) KY (.func (.func 251) #[] #[kE g,kE C]) (λps A=>A=kA g 0 [kE u.q]++kA C 0 [da ps]) st U Vs (Wy _ i _ u.q g C args.length huq) hS.rep cL rfl hS.ok Zo (kA g 0 [kE u.q]++kA C 0 [.pointer none]) rfl env b es c hs;rw[<- M1]at Hn;have unf:jy Nz Nz =[.int .u8 14,.string ⟨#[]⟩,.int .u8 0,.int .i64 0,.int .u64 0,.string ⟨#[]⟩,Nz,Nz,.int .i64 0,.bool false,Nz,Nz,Nz]:=rfl;refine VO.imp (H':=[kA g 0 [kE u.q]++kA C 0 [.pointer none],WK U Vs,[.obj b (.map es c)],X.S,kA m 0 (jy Nz Nz),kA q8 0 [.int .u8 0,.string e0,.int .u8 0,.int .i64 0,.int .u64 0,.string e0,Nz,Nz,.int .i64 0,.bool false,Nz,Nz,Nz],kA q5 0 [vk,vn,Y,Z,l3,l4,l5,.slice O args.length L,.slice ta ab.length N,.slice a kids.length K,.int .i64 p],kA X.wq 0 [.map (some X.fb),.map (some X.gb),us],ao us (U.map λu=>kO (some u.q)) D,[.obj X.fb (.map X.bM X.fc)],[.obj X.gb (.map X.bQ X.gc)],T]) (ai.cut (M:=[kA g 0 [kE u.q],kA C 0 [.pointer none],WK U Vs,[.obj b (.map es c)],X.S,kA m 0 (jy Nz Nz),kA q8 0 [.int .u8 0,.string e0,.int .u8 0,.int .i64 0,.int .u64 0,.string e0,Nz,Nz,.int .i64 0,.bool false,Nz,Nz,Nz],kA q5 0 [vk,vn,Y,Z,l3,l4,l5,.slice O args.length L,.slice ta ab.length N,.slice a kids.length K,.int .i64 p],kA X.wq 0 [.map (some X.fb),.map (some X.gb),us],ao us (U.map λu=>kO (some u.q)) D,[.obj X.fb (.map X.bM X.fc)],[.obj X.gb (.map X.bQ X.gc)],T]) (by unfold e0;rw[unf];exact bT) (ai.perm Zs)) ?_;refine kN Hn Zr ZP (λv Post I=>?_) (λch Post hz=>?_);rotate_left
 .obtain⟨Kj,q1,rfl,rfl⟩:=hz;exact⟨[X.S,jU q1 180 p],ZI,q1,180,p,Ua _ Kj,rfl,rfl⟩
 obtain⟨b2,G8,c2,U2,V2,A2,⟨Fm,rfl,M5,lR,rG,rX,tQ,rfl⟩,rfl⟩:=I;simp only[aE];obtain⟨J,hps1⟩:∃J,J=(V2.map ax.q).drop Vs.length:=⟨_,rfl⟩;rw[<- hps1];have UT:=pd X.S i (st.args.getD i 0) false false p ab (.slice ta ab.length N) A4 (.func (.func 252) #[] #[kE g,kE m]) (SD u.q g m) d.1 U2 V2 (mk_body _ i _ u.q g m ab.length (by rw[lR];exact huq) Zo) M5 (by rw[g1];exact cL) (by rw[g2]) Fm (by rw[g4];omega) (kA g 0 [kE u.q]++(kA m 0 (jy Nz Nz)++[])) ⟨Nz,[],.nil,rfl⟩ d.2 b2 G8 c2 tQ;rw[<- M3]at UT;refine VO.imp (H':=[kA g 0 [kE u.q],kA C 0 [da J],WK U2 V2,[.obj b2 (.map G8 c2)],[.obj b (.map es c)],X.S,kA m 0 (jy Nz Nz),kA q8 0 [.int .u8 0,.string e0,.int .u8 0,.int .i64 0,.int .u64 0,.string e0,Nz,Nz,.int .i64 0,.bool false,Nz,Nz,Nz],kA q5 0 [vk,vn,Y,Z,l3,l4,l5,.slice O args.length L,.slice ta ab.length N,.slice a kids.length K,.int .i64 p],kA X.wq 0 [.map (some X.fb),.map (some X.gb),us],ao us (U.map λu=>kO (some u.q)) D,[.obj X.fb (.map X.bM X.fc)],[.obj X.gb (.map X.bQ X.gc)],T]) (ai.cut (M:=[kA g 0 [kE u.q]++kA C 0 [da J],WK U2 V2,[.obj b2 (.map G8 c2)],[.obj b (.map es c)],X.S,kA m 0 (jy Nz Nz),kA q8 0 [.int .u8 0,.string e0,.int .u8 0,.int .i64 0,.int .u64 0,.string e0,Nz,Nz,.int .i64 0,.bool false,Nz,Nz,Nz],kA q5 0 [vk,vn,Y,Z,l3,l4,l5,.slice O args.length L,.slice ta ab.length N,.slice a kids.length K,.int .i64 p],kA X.wq 0 [.map (some X.fb),.map (some X.gb),us],ao us (U.map λu=>kO (some u.q)) D,[.obj X.fb (.map X.bM X.fc)],[.obj X.gb (.map X.bQ X.gc)],T]) ZI (ai.perm Zs)) ?_;refine ae ?_;refine VO.imp (H':=[kA g 0 [kE u.q]++(kA m 0 (jy Nz Nz)++[]),WK U2 V2,[.obj b2 (.map G8 c2)],X.S,[.obj b (.map es c)],kA C 0 [da J],kA q8 0 [.int .u8 0,.string e0,.int .u8 0,.int .i64 0,.int .u64 0,.string e0,Nz,Nz,.int .i64 0,.bool false,Nz,Nz,Nz],kA q5 0 [vk,vn,Y,Z,l3,l4,l5,.slice O args.length L,.slice ta ab.length N,.slice a kids.length K,.int .i64 p],kA X.wq 0 [.map (some X.fb),.map (some X.gb),us],ao us (U.map λu=>kO (some u.q)) D,[.obj X.fb (.map X.bM X.fc)],[.obj X.gb (.map X.bQ X.gc)],T]) (ai.cut (M:=[kA g 0 [kE u.q],kA m 0 (jy Nz Nz),WK U2 V2,[.obj b2 (.map G8 c2)],X.S,[.obj b (.map es c)],kA C 0 [da J],kA q8 0 [.int .u8 0,.string e0,.int .u8 0,.int .i64 0,.int .u64 0,.string e0,Nz,Nz,.int .i64 0,.bool false,Nz,Nz,Nz],kA q5 0 [vk,vn,Y,Z,l3,l4,l5,.slice O args.length L,.slice ta ab.length N,.slice a kids.length K,.int .i64 p],kA X.wq 0 [.map (some X.fb),.map (some X.gb),us],ao us (U.map λu=>kO (some u.q)) D,[.obj X.fb (.map X.bM X.fc)],[.obj X.gb (.map X.bQ X.gc)],T]) ZI (ai.perm Zs)) ?_;refine kN UT Zr ZP (λv Post I=>?_) (λch Post hz=>?_);rotate_left
 .obtain⟨Kj,q1,rfl,rfl⟩:=hz;exact⟨[X.S,jU q1 180 p],ZI,q1,180,p,E _ Kj,rfl,rfl⟩
 obtain⟨b3,es3,c3,U3,V3,A3,⟨hf3,rfl,hR3,La,Sp,hp3,UF,hJ3⟩,rfl⟩:=I;obtain⟨tv0,lM,H,rfl⟩:=hJ3;simp only[aE];obtain⟨Ez,hps2⟩:∃Ez,Ez=(V3.map ax.q).drop V2.length:=⟨_,rfl⟩;rw[<- hps2]at H|-;obtain⟨Yl,Ym,rfl⟩:=H.form;refine VO.imp (H':=[kA g 0 [kE u.q],kA m 0 (jy (.slice Yl Ez.length Ym) (.slice none 0 0)),ao (.slice Yl Ez.length Ym) (Ez.map λb=>kO (some b)) lM,WK U3 V3,[.obj b3 (.map es3 c3)],X.S,[.obj b (.map es c)],kA C 0 [da J],kA q8 0 [.int .u8 0,.string e0,.int .u8 0,.int .i64 0,.int .u64 0,.string e0,.slice none 0 0,.slice none 0 0,.int .i64 0,.bool false,.slice none 0 0,.slice none 0 0,.slice none 0 0],kA q5 0 [vk,vn,Y,Z,l3,l4,l5,.slice O args.length L,.slice ta ab.length N,.slice a kids.length K,.int .i64 p],kA X.wq 0 [.map (some X.fb),.map (some X.gb),us],ao us (U.map λu=>kO (some u.q)) D,[.obj X.fb (.map X.bM X.fc)],[.obj X.gb (.map X.bQ X.gc)],T]) (ai.cut (M:=[kA g 0 [kE u.q]++(kA m 0 (jy (.slice Yl Ez.length Ym) (.slice none 0 0))++ao (.slice Yl Ez.length Ym) (Ez.map λb=>kO (some b)) lM),WK U3 V3,[.obj b3 (.map es3 c3)],X.S,[.obj b (.map es c)],kA C 0 [da J],kA q8 0 [.int .u8 0,.string e0,.int .u8 0,.int .i64 0,.int .u64 0,.string e0,.slice none 0 0,.slice none 0 0,.int .i64 0,.bool false,.slice none 0 0,.slice none 0 0,.slice none 0 0],kA q5 0 [vk,vn,Y,Z,l3,l4,l5,.slice O args.length L,.slice ta ab.length N,.slice a kids.length K,.int .i64 p],kA X.wq 0 [.map (some X.fb),.map (some X.gb),us],ao us (U.map λu=>kO (some u.q)) D,[.obj X.fb (.map X.bM X.fc)],[.obj X.gb (.map X.bQ X.gc)],T]) ZI (ai.perm Zs)) ?_;have Ko:∀W:List UC,(W.map λu=>kO (some u.q))=(W.map UC.q).map λb=>kO (some b):=λW=>by rw[QE];rfl
 have hqq:U3.map UC.q=U.map UC.q:=La.trans lR;have Ld:(U3.map λu=>kO (some u.q))=U.map λu=>kO (some u.q):=by rw[Ko,hqq,<- Ko]
 have hS3:iU D2.1 us D U3 V3 T:=by
  have Iv:U3.length=U.length:=by have:=congrArg List.length hqq;rwa [Q6,Q6]at this
  refine⟨hR3,hf3,by rw[Iv,Ld];exact hS.sl,λj w hw=>?_⟩;have fC:(U.map UC.body)[j]? =some w.body:=by rw[<- Sp.trans rG,Vu,hw];rfl
  rw[Vu]at fC;obtain⟨w1,Hn,hwb⟩:=X9.1 fC;rw[d3,g3,<- hwb];exact(hS.bod j w1 Hn).more (λx hx=>hx) (rX.trans hp3)
 have Kl:∀v∈D2.2,D2.1.af v∈D2.1.line i:=λv I=>by
  have Q:D2.1.line i=st.line i:=by unfold ah.line;rw[d1,g1]
  have nV:i∈st.line i:=by rw[hS.rep.wf.line Zo];exact QK ..
  have nO:∀v∈d.2,v < d.1.vars.length:=λv I=>by rw[M1]at I|-;exact(gz _ _ _ _ _ _ _ _ hs.lt v I).1
  rw[Q];rw[M3]at I|-;obtain⟨_,hk⟩:=gz i false false p ab 0 _ _ nO v I;rcases hk with⟨xI,pL⟩|hk
  .rw[pL];rw[M1]at xI|-;obtain⟨_,qI⟩:=gz i true false p args 0 _ _ hs.lt v xI;rcases qI with⟨hk4,hk5⟩|qI
   .rw[hk5];exact Hi v hk4
   .rw[qI];exact nV
  .rw[hk];exact nV
 have tP:Room D2.1 (jM kids):=by
  have h1:yB st D2.1 (args.length+ab.length):=by
   rw[M3,M1];exact(wu _ _ _ _ _ _ _ _).trans (wu _ _ _ _ _ _ _ _)
  obtain⟨k1,k2,k3⟩:=h1;exact⟨Zo,Zo,Zo⟩
 obtain⟨w3,hw3,hwq3⟩:∃w,U3[i]? =some w/\w.q=u.q:=mJ rfl (by rw[hqq];exact huq);have aj:=Ae X kids a K bk ko ks O4 ha hm hr aN _ _ _ _ _ _ hS3 i w3 hw3 _ b3 es3 c3 UF Kl tP;rw[hwq3]at aj;unfold tg at aj;rw[Ld]at aj;refine ae ?_;refine kN aj Zr ZP (λv Post I=>?_) (λch Post hz=>?_);rotate_left
 .obtain⟨q1,e1,p1,fC,rfl,rfl⟩:=hz;exact⟨[X.S,jU q1 e1 p1],ZI,q1,e1,p1,fC,rfl,rfl⟩
 obtain⟨mL,dU,U4,V4,T4,B4,⟨Z9,Pa,Fw,rows,Cs,B5,Da,dH,rfl⟩,rfl⟩:=I;simp only[aE];obtain⟨va,vc,rfl⟩:=Da.form;have dE:V2.length=st.vars.length+args.length:=by rw[M5.vl,g4]
 have Q:V3.length=d.1.vars.length+ab.length:=by rw[hR3.vl,d4]
 have hps2':((V4.map ax.q).drop d.1.vars.length).take ab.length=Ez:=by
  rw[drop_take Fw (by rw[Q6];exact Q),hps2,M5.vl]
 have hps1':((V4.map ax.q).drop st.vars.length).take args.length=J:=by
  rw[drop_take (hp3.trans Fw) (by rw[Q6];exact dE),hps1,hS.rep.vl]
 have Uo:InlR (.mk 14 e0 eV ((List.range' d.1.vars.length ab.length).map cZ) 0 false (kT X.F X.G kids D2.1 D2.2 i).1) st.vars.length args.length (.tuple #[.agg (jy (.slice Yl Ez.length Ym) (.slice va (kT X.F X.G kids D2.1 D2.2 i).1.length vc)).toArray,da J]) (V4.map ax.q) (ao (.slice va (kT X.F X.G kids D2.1 D2.2 i).1.length vc) rows.flatten Cs++(B5++ao (.slice Yl Ez.length Ym) (Ez.map λb=>kO (some b)) lM)):=by
  refine⟨_,by rw[hps1'],?_⟩;have hle:d.1.vars.length+ab.length<=(V4.map ax.q).length:=by
   have:=Fw.length_le;rw[Q6,Q]at this;exact this
  have:=Bq (k:=14) (nm:=e0) (lit:=eV) (refs:=(List.range' d.1.vars.length ab.length).map cZ) (unit:=0) (cf:=false) (rv:=Nz) (vv:=.slice Yl Ez.length Ym) (B:=B5++ao (.slice Yl Ez.length Ym) (Ez.map λb=>kO (some b)) lM) Da (dH.more (λx hx=>Zw _ hx) (Qg _)) (qR _) (by rw[Gx];exact wA.nil _) (by
   rw[L4,Mz hle,hps2'];exact(lA rfl H).more (λx hx=>QH _ hx)) (L5 hle)
  exact this
 unfold jy;refine ae ?_;refine VC.seq ?_;refine VC.draws ⟨?_,?_,trivial⟩
 .exact zAJ
 .exact zAJ
theorem J8(S:List kC)(x:Nd)(vs:List Value)(h:jN S x vs):au Tryz.prog 136 [.agg vs.toArray] [S] (λv Post=>v=.bool (jf x)/\Post=[S]):=by
 obtain⟨e1,e2,e3,e4,e5,e6,e7,a1,c1,a2,c2,a3,c3,bk,o,us,rfl,_⟩:=eW h;refine au.intro low136 Zn9 ?_;refine ae ?_;refine kX Zr (λq=>?_);simp only[Value.cells];unfold jf;refine ae ?_;by_cases hk:x.kind=7
 .rw[show decide ((x.kind:Int)=7)=true from Zt Zo,Zt hk,vW];refine ae ?_;rw[show decide ((x.args.length:Int)=0)=decide (x.args.length=0)from decide_eq_decide.2 Zo];exact zDK
 .rw[show decide ((x.kind:Int)=7)=false from Zf Zo,Zf hk,vL];exact zDK
theorem uJ(S:List kC)(x:Nd)(vs:List Value)(h:jN S x vs):au Tryz.prog 70 [.agg vs.toArray] [S] (λv Post=>(∃f t:Nat,v=.tuple #[vi f,vi t,.bool (iH x)]/\(iH x=true->f=jJ (jW x.name)/\t=lS (jW x.name)))/\Post=[S]):=by
 obtain⟨O,Q,T,U,W,X,Y,K,M,L,N,a3,c3,bk,o,us,rfl,nM,bD,bB,hk8,ha,J,hr,rV⟩:=eW h;have F:∀b:Bool,b=false->iH x=b->∃f t:Nat,(Value.tuple #[vi 0,vi 0,.bool false]:Value)=.tuple #[vi f,vi t,.bool (iH x)]/\(iH x=true->f=jJ (jW x.name)/\t=lS (jW x.name)):=λb hb h'=>⟨0,0,by rw[h',hb];rfl,λA=>by rw[h',hb]at A;cases A⟩
 refine au.intro low70 Zn9 ?_;refine VC.join (α:=Nat) (bg:=λq=>[(1,kE q)]) (Hf:=λq=>[kA q 0 (rN x.kind x.name O Q T U W X Y K x.args.length M L x.ab.length N a3 x.kids.length c3 x.at_),S]) (I:=λ_=>True) ?_ (λq _=>?_)
 .exact zED
 refine VC.join (α:=Unit) (bg:=λ_=>[(1,kE q)]) (Hf:=λ_=>[kA q 0 (rN x.kind x.name O Q T U W X Y K x.args.length M L x.ab.length N a3 x.kids.length c3 x.at_),S]) (I:=λ_=>x.kind=4/\0 < x.kids.length/\jO x.kids=false) ?_ (λ_ hI=>?_)
 .refine ae ?_;by_cases G:x.kind=4;rotate_left
  .rw[show decide ((x.kind:Int)=4)=false from Zf Zo];refine ae ?_;exact kG (Post:=[S]) (.inr rfl) (.tmp Zr (.tmp Zr (.tmp Zr .nil))) ⟨F _ rfl (by unfold iH eR;simp[G]),rfl⟩ ZI
  rw[show decide ((x.kind:Int)=4)=true from Zt Zo];refine ae ?_;by_cases CT:x.kids.length=0
  .rw[show decide ((x.kids.length:Int)=0)=true from Zt Zo];refine ae ?_;have AT:x.kids=[]:=vz CT;refine kG (Post:=[S]) (.inr rfl) (.tmp Zr (.tmp Zr (.tmp Zr .nil))) ⟨F _ rfl ?_,rfl⟩ ZI;unfold iH eR;rw[AT];have:dw (jW x.name) []=false:=by unfold dw;split <;> rfl
   rw[this];simp
  obtain rfl:=ha Zo;rw[show decide ((x.kids.length:Int)=0)=false from Zf Zo];obtain⟨r,Iz⟩:∃r,x.kids[0]? =some r:=⟨_,Zg Zo⟩;obtain⟨r1,r2,r3,r4,r5,r6,r7,p1,d1,p2,d2,p3,d3,bk2,o2,Kr,UQ,_⟩:=eW (hr 0 r Iz);have f0:kC.cell bk o (.int .u8 r.kind)∈S:=J 0 Zo _ (by rw[UQ];exact kJ.2 ⟨0,_,rfl,Zs⟩);have f1:kC.cell bk (o+1) (.string r.name)∈S:=J 0 Zo _ (by rw[UQ];exact kJ.2 ⟨1,_,rfl,Zs⟩);have E:jO x.kids=jR r:=by
   exact zDS
  refine ae ?_;by_cases Uu:r.kind=2
  .rw[show decide ((r.kind:Int)=2)=true from Zt Zo];refine ae ?_;by_cases hrn:r.name=⟨#[115,117,112,101,114]⟩
   .rw[Zt hrn];refine ae ?_;refine kG (Post:=[S]) (.inr rfl) (.tmp Zr (.tmp Zr (.tmp Zr .nil))) ⟨F _ rfl ?_,rfl⟩ ZI;have:jR r=true:=by unfold jR;rw[Zt Uu,Zt (dS.2 hrn)];rfl
    unfold iH eR;rw[E,this];simp
   rw[Zf hrn];have C:jR r=false:=by unfold jR;rw[Zf (λe=>hrn (dS.1 e))];simp
   refine ae ?_;exact⟨(),⟨G,Zo,by rw[E];exact C⟩,ZU,ZI⟩
  .rw[show decide ((r.kind:Int)=2)=false from Zf Zo];have C:jR r=false:=by unfold jR;rw[Zf Uu];rfl
   refine ae ?_;exact⟨(),⟨G,Zo,by rw[E];exact C⟩,ZU,ZI⟩
 obtain⟨G,CT,E⟩:=hI;obtain rfl:=ha CT;refine VC.join (α:=Unit) (bg:=λ_=>[(1,kE q),(5,vi 1),(6,vi 2)]) (Hf:=λ_=>[kA q 0 (rN x.kind x.name O Q T U W X Y K x.args.length M L x.ab.length N (some ⟨bk,o,none⟩) x.kids.length c3 x.at_),S]) (I:=λ_=>True) ?_ (λ_ _=>?_)
 .exact Sk
 refine VC.join (α:=Nat) (bg:=λn=>[(1,kE q),(5,vi (jJ n)),(6,vi (lS n))]) (Hf:=λ_=>[kA q 0 (rN x.kind x.name O Q T U W X Y K x.args.length M L x.ab.length N (some ⟨bk,o,none⟩) x.kids.length c3 x.at_),S]) (I:=λn=>jW x.name=n/\(n=1∨n=2∨n=3∨n=4)) ?_ (λn hn=>?_)
 .refine ae ?_;by_cases g0:x.name=⟨#[105,102,84,114,117,101,58]⟩
  .rw[Zt g0];refine ae ?_;exact⟨1,⟨by rw[g0];decide,Zd⟩,ZU,ZI⟩
  rw[Zf g0];refine ae ?_;by_cases Z:x.name=⟨#[105,102,70,97,108,115,101,58]⟩
  .rw[Zt Z];refine ae ?_;exact⟨1,⟨by rw[Z];decide,Zd⟩,ZU,ZI⟩
  rw[Zf Z];refine ae ?_;by_cases g2:x.name=⟨#[97,110,100,58]⟩
  .rw[Zt g2];refine ae ?_;exact⟨1,⟨by rw[g2];decide,Zd⟩,ZU,ZI⟩
  rw[Zf g2];refine ae ?_;by_cases g3:x.name=⟨#[111,114,58]⟩
  .rw[Zt g3];refine ae ?_;exact⟨1,⟨by rw[g3];decide,Zd⟩,ZU,ZI⟩
  rw[Zf g3];refine ae ?_;by_cases g4:x.name=⟨#[105,102,84,114,117,101,58,105,102,70,97,108,115,101,58]⟩
  .rw[Zt g4];refine ae ?_;exact⟨2,⟨by rw[g4];decide,Zd⟩,ZU,ZI⟩
  rw[Zf g4];refine ae ?_;by_cases g5:x.name=⟨#[105,102,70,97,108,115,101,58,105,102,84,114,117,101,58]⟩
  .rw[Zt g5];refine ae ?_;exact⟨2,⟨by rw[g5];decide,Zd⟩,ZU,ZI⟩
  rw[Zf g5];refine ae ?_;by_cases g6:x.name=⟨#[119,104,105,108,101,84,114,117,101,58]⟩
  .rw[Zt g6];refine ae ?_;exact⟨3,⟨by rw[g6];decide,Zd⟩,ZU,ZI⟩
  rw[Zf g6];refine ae ?_;by_cases g7:x.name=⟨#[119,104,105,108,101,70,97,108,115,101,58]⟩
  .rw[Zt g7];refine ae ?_;exact⟨3,⟨by rw[g7];decide,Zd⟩,ZU,ZI⟩
  rw[Zf g7];refine ae ?_;by_cases g8:x.name=⟨#[119,104,105,108,101,84,114,117,101]⟩
  .rw[Zt g8];refine ae ?_;exact⟨4,⟨by rw[g8];decide,Zd⟩,ZU,ZI⟩
  rw[Zf g8];refine ae ?_;by_cases g9:x.name=⟨#[119,104,105,108,101,70,97,108,115,101]⟩
  .rw[Zt g9];refine ae ?_;exact⟨4,⟨by rw[g9];decide,Zd⟩,ZU,ZI⟩
  rw[Zf g9];refine ae ?_;by_cases d:x.name=⟨#[116,111,58,100,111,58]⟩
  .rw[Zt d];have m:jW x.name=5:=by rw[d];decide
   have H:iH x=dw 5 x.kids:=by unfold iH eR;rw[m,E,Zt G];rfl
   have nP:∀b:Bool,dw 5 x.kids=b->∃f t:Nat,(Value.tuple #[vi 2,vi 3,.bool b]:Value)=.tuple #[vi f,vi t,.bool (iH x)]/\(iH x=true->f=jJ (jW x.name)/\t=lS (jW x.name)):=λb hb=>⟨2,3,by rw[H,hb];rfl,λ_=>by rw[m];exact⟨rfl,rfl⟩⟩
   refine ae ?_;by_cases B:x.kids.length=3;rotate_left
   .rw[show decide ((x.kids.length:Int)=3)=false from Zf Zo];refine ae ?_;refine kG (Post:=[S]) (.inr rfl) (.tmp Zr (.tmp Zr (.tmp Zr .nil))) ⟨nP _ ?_,rfl⟩ ZI;cases e:dw 5 x.kids with
    |false=>rfl
    |true=>
     exfalso;unfold dw at e;simp only at e;split at e
     .rename_i AR;rw[AR]at B;exact B rfl
     .cases e
   rw[show decide ((x.kids.length:Int)=3)=true from Zt Zo];obtain⟨y,D⟩:∃y,x.kids[2]? =some y:=⟨_,Zg Zo⟩;obtain⟨r1,r2,r3,r4,r5,r6,r7,p1,d1,p2,d2,p3,d3,bk2,o2,Kr,Dd,_⟩:=eW (hr 2 y D);have f0:kC.cell bk (o+22) (.int .u8 y.kind)∈S:=J 2 Zo _ (by rw[Dd];exact kJ.2 ⟨0,_,rfl,Zs⟩);have f7:kC.cell bk (o+29) (.slice p1 y.args.length d1)∈S:=J 2 Zo _ (by rw[Dd];exact kJ.2 ⟨7,_,rfl,Zs⟩);have Fo:dw 5 x.kids=(decide (y.kind=7)&&decide (y.args.length=1)):=by
    match AR:x.kids,B with
    |[a,b,c],_=>
     rw[AR]at D;obtain rfl:c=y:=by simpa using D
     rfl
   refine ae ?_;by_cases hy7:y.kind=7
   .rw[show decide ((y.kind:Int)=7)=true from Zt Zo];refine ae ?_;rw[show decide ((y.args.length:Int)=1)=decide (y.args.length=1)from decide_eq_decide.2 Zo];refine ae ?_;refine kG (Post:=[S]) (.inr rfl) (.tmp Zr (.tmp Zr (.tmp Zr .nil))) ⟨nP _ ?_,rfl⟩ ZI;rw[Fo,Zt hy7,vW]
   .rw[show decide ((y.kind:Int)=7)=false from Zf Zo];refine ae ?_;refine kG (Post:=[S]) (.inr rfl) (.tmp Zr (.tmp Zr (.tmp Zr .nil))) ⟨nP _ ?_,rfl⟩ ZI;rw[Fo,Zf hy7,vL]
  rw[Zf d];refine ae ?_;refine kG (Post:=[S]) (.inr rfl) (.tmp Zr (.tmp Zr (.tmp Zr .nil))) ⟨F _ rfl ?_,rfl⟩ ZI;have m:jW x.name=0:=by
   unfold jW;rw[if_neg (by rintro(e|e|e|e) <;> contradiction),if_neg (by rintro(e|e) <;> contradiction),if_neg (by rintro(e|e) <;> contradiction),if_neg (by rintro(e|e) <;> contradiction)];exact if_neg d
  unfold iH eR;rw[m];simp[dw]
 obtain⟨m,g⟩:=hn;have H:iH x=dw n x.kids:=by unfold iH eR;rw[m,E,Zt G];rfl
 have hft:jJ n < lS n/\lS n<=3:=by rcases g with rfl|rfl|rfl|rfl <;> decide
 refine ae ?_;by_cases hlen:x.kids.length=lS n;rotate_left
 .rw[show decide ((x.kids.length:Int)=(lS n:Int))=false from Zf Zo];refine ae ?_;refine kG (Post:=[S]) (.inr rfl) (.tmp Zr (.tmp Zr (.tmp Zr .nil))) ⟨F _ rfl ?_,rfl⟩ ZI;rw[H];cases e:dw n x.kids with
  |false=>rfl
  |true=>exact absurd (Fe g e) hlen
 rw[show decide ((x.kids.length:Int)=(lS n:Int))=true from Zt Zo];refine ae ?_;refine Yd Zr Zr Zr rfl rfl (l:=jJ n) (h:=lS n) ⟨Zo,Zo⟩ ?_;rw[if_neg (show ¬c3=jJ n by omega)];refine ae ?_;refine VC.loop (α:=Nat) (bg:=λs=>[(5,vi (jJ n)),(6,vi (lS n)),(82,.slice (some ⟨bk,o+jJ n*11,none⟩) (lS n - jJ n) (c3 - jJ n)),(83,.int .i64 ((lS n - jJ n:Nat):Int)),(84,vi s)]) (Hf:=λ_=>[S]) (I:=λs=>s<=lS n - jJ n/\∀j y,jJ n<=j->j < jJ n+s->x.kids[j]? =some y->jf y=true) (μ:=λs=>lS n - jJ n - s) 0
  ⟨X3 _,λj y h1 A=>by omega⟩ ZU ZI ?_
 rintro i ⟨hi,nQ⟩
 refine ae ?_;by_cases aJ:i < lS n - jJ n;rotate_left
 .rw[show decide ((i:Int) < ((lS n - jJ n:Nat):Int))=false from Zf Zo];refine ae ?_;refine kG (Post:=[S]) (.inr rfl) (.tmp (v:=vi (jJ n)) Zr (.tmp (v:=vi (lS n)) Zr (.tmp (v:=.bool true) Zr .nil))) ⟨⟨jJ n,lS n,?_,λ_=>by rw[m];exact⟨rfl,rfl⟩⟩,rfl⟩ ZI;rw[H,fit_of g hlen (λj y h1 A=>nQ j y h1 (by have:=(Vt.1 A).1;omega) A)];rfl
 rw[show decide ((i:Int) < ((lS n - jJ n:Nat):Int))=true from Zt Zo];obtain⟨y,D⟩:∃y,x.kids[jJ n+i]? =some y:=⟨_,Zg Zo⟩;have cG:=J (jJ n+i) Zo;have bF:=hr (jJ n+i) y D;rw[show o+(jJ n+i)*11=o+(jJ n*11+i*11) by omega]at cG;generalize us (jJ n+i)=kj at cG bF;have K9:=J8 S y kj bF;obtain⟨Z,g2,g3,g4,g5,g6,g7,g8,g9,d,g11,g12,g13,g14,g15,g16,rfl⟩:=sr bF;refine ae ?_;refine kR Zr (λz hz=>by have h9:=cG z hz;simp[h9]) rfl ?_;refine ae ?_;refine kK (λq8=>?_);refine ae ?_;refine kH K9 Zr ZP (λv Post hv=>?_);obtain⟨rfl,rfl⟩:=hv;simp only[aE];cases hp:jf y with
 |false=>
  refine ae ?_;refine kG (Post:=[S]) (.inr rfl) (.tmp Zr (.tmp Zr (.tmp Zr .nil))) ⟨F _ rfl ?_,rfl⟩ ZI;rw[H];exact Ff g (Nat.le_add_right _ _) D hp
 |true=>
  refine ae ?_;refine⟨i+1,⟨Zo,λj z h1 A B=>?_⟩,Zo,ZU,ZI⟩;by_cases hj:j < jJ n+i
  .exact nQ j z h1 hj B
  .have e:j=jJ n+i:=by omega
   rw[e,D]at B;rw[<- XC B];exact hp
theorem r9(S:List kC)(x:Nd)(vs:List Value)(h:jN S x vs):au Tryz.prog 26 [.agg vs.toArray] [S] (λv Post=>v=.bool (iH x)/\Post=[S]):=by
 have C:=uJ S x vs h;obtain⟨g1,g2,g3,g4,g5,g6,g7,g8,g9,d,g,j,m,s,A,B,rfl⟩:=sr h;refine au.intro low26 Zn9 ?_;refine ae ?_;refine kX Zr (λq=>?_);simp only[Value.cells];refine ae ?_;refine kH C Zr ZP (λv Post D=>?_);obtain⟨⟨f,t,rfl,_⟩,rfl⟩:=D;simp only[aE];exact zDK
theorem Bm {A:List kC}{x:Lt}{vs:List Value}(h:zl A x vs):∃(e:Option Addr) (c:Nat),vs=[cv x.kind,vi x.n,uv x.bits,.string x.text,.slice e x.items.length c]:=by
 cases h with
 |mk wf ha hm hr=>exact⟨_,_,rfl⟩
theorem RN(A:List kC):∀(N:Nat) (x:Lt),x.size<=N->x.size<=274877906944->∀vs,zl A x vs->au Tryz.prog 208 [.agg vs.toArray] [A] (λv Post=>∃ws B,v=.agg ws.toArray/\yY x ws B/\Post=[A,B]):=by
 intro N
 induction N with
 |zero=>intro x W;have:=x.size_pos;omega
 |succ N ih=>
  intro x W hb vs h;cases h with
  |@mk k n b t items a c bk o us wf ha hm hr=>
  simp only[Lt.size]at W hb;have Kk:=JN items;refine au.intro low208 Zn9 ?_;refine ae ?_;refine kX Zr (λq=>?_);simp only[Value.cells];refine kK (λE=>?_);refine ae ?_;refine VC.loop (α:=Nat×Value×List (List Value)×List Value×List kC) (bg:=λs=>[(1,kE q),(2,kE E),(9,.slice a items.length c),(10,vi items.length),(11,vi s.1)]) (Hf:=λs=>[kA q 0 [cv k,vi n,uv b,.string t,s.2.1],ao s.2.1 s.2.2.1.flatten s.2.2.2.1,s.2.2.2.2,kA E 0 [.int .u8 0,.int .i64 0,.int .u64 0,.string ⟨#[]⟩,Nz],A])
   (I:=λs=>s.1<=items.length/\ky 5 s.2.1 s.1 s.2.2.1.flatten s.2.2.2.1/\gf (items.take s.1) s.2.2.1 s.2.2.2.2) (μ:=λs=>items.length - s.1) (0,Nz,[],[],[]) ⟨X3 _,.nil,gf.nil⟩ ZU (ai.cut (M:=[kA q 0 [cv k,vi n,uv b,.string t,Nz],kA E 0 [.int .u8 0,.int .i64 0,.int .u64 0,.string ⟨#[]⟩,Nz],A]) ZI (ai.perm (by simp[ao]))) ?_
  rintro⟨j,sv,rows,sp,B⟩ ⟨i1,D,i3⟩
  simp only at i1 D i3;dsimp only;obtain⟨F,G,rfl⟩:=D.form;refine ae ?_;by_cases hj:j < items.length;rotate_left
  .rw[show decide ((j:Int) < (items.length:Int))=false from Zf Zo];have rW:j=items.length:=by omega
   subst rW;rw[Qk]at i3;have Z:=yY.of D i3 wf;refine ae ?_;exact⟨.inr rfl,[.agg #[cv k,vi n,uv b,.string t,.slice F items.length G]],[A,ao (.slice F items.length G) rows.flatten sp++B],.aI (us:=[cv k,vi n,uv b,.string t,.slice F items.length G]) Zr Zr (λy C=>by simp only[Vd,QG];repeat (first|exact Or.inl C|refine Or.inr ?_)) .nil,ai.cut (M:=[A,ao (.slice F items.length G) rows.flatten sp,B]) ZI (ai.perm Zs),⟨_,_,rfl,Z,rfl⟩⟩
  obtain rfl:=ha Zo;rw[show decide ((j:Int) < (items.length:Int))=true from Zt Zo];obtain⟨y,C⟩:∃y,items[j]? =some y:=⟨_,Zg hj⟩;have Y:=hm j hj;have T:=hr j y C;have fq:=Lt.aD (Zv C);have X:=ih y Zo Zo (us j) T;generalize us j=uj at*;obtain⟨e1,c1,rfl⟩:=Bm T;refine ae ?_;refine kR Zr (λz hz=>by have h9:=Y z hz;simp[h9]) rfl ?_;refine ae ?_;refine kK (λq5=>?_);refine ae ?_;refine VC.draws ⟨?_,?_,trivial⟩
  all_goals
   refine ae ?_;refine kH X Zr ZP (λv Post hv=>?_);obtain⟨ws,O,rfl,U,rfl⟩:=hv;simp only[aE];have J:=U.rd;obtain⟨g,d,rfl⟩:=Bm J;have Q:=i3.snoc U;rw[show items.take j++[y]=items.take (j+1) by rw[Qi,C];rfl]at Q;refine ae ?_;refine j8 (out:=[cv y.kind,vi y.n,uv y.bits,.string y.text,.slice g y.items.length d]) Zr Zr (λr=>?_);refine kw (k:=j) (m:=1) (xs:=rows.flatten) (sp:=sp) (ys:=[cv y.kind,vi y.n,uv y.bits,.string y.text,.slice g y.items.length d]) Zr Zr D ZK Zr ?_ rfl Zr Zr Zd Zo (λcw S H=>?_)
   .exact C2
   have fS:rows.flatten++[cv y.kind,vi y.n,uv y.bits,.string y.text,.slice g y.items.length d]=(rows++[[cv y.kind,vi y.n,uv y.bits,.string y.text,.slice g y.items.length d]]).flatten:=by simp
   rw[fS]at H|-;obtain⟨K,L,rfl⟩:=H.form;refine ae ?_;refine⟨(j+1,.slice K (j+1) L,rows++[[cv y.kind,vi y.n,uv y.bits,.string y.text,.slice g y.items.length d]],S,B++O),⟨by simp only;omega,H,Q⟩,by simp only;omega,ZU,?_⟩;simp only;refine ai.cut (M:=[kA q 0 [cv k,vi n,uv b,.string t,.slice K (j+1) L],ao (.slice K (j+1) L) (rows++[[cv y.kind,vi y.n,uv y.bits,.string y.text,.slice g y.items.length d]]).flatten S,B,O,kA E 0 [.int .u8 0,.int .i64 0,.int .u64 0,.string ⟨#[]⟩,Nz],A]) ZI (ai.perm Zs)
def re(k:Int)(nm:ByteArray)(vv kv:Value):List Value:=[.int .u8 k,.string nm,.int .u8 0,.int .i64 0,.int .u64 0,.string e0,Nz,Nz,.int .i64 0,.bool false,Nz,vv,kv]
structure SpS where
 j:Nat
 st:ah
 us:Value
 bI:List Value
 U:List UC
 V:List ax
 T:List kC
 sv:Value
 rows:List (List Value)
 sp:List Value
 B:List kC
 pns:List PN
 vv:Value
 np:List Nat
 MA:List Value
 rs:List jZ
structure ZC (X:Fix)(nm:ByteArray)(l:List Nd)(st:ah)(env:List Nat)(i:Nat)(q:Nat)(Uq Vq:List Nat)(s:SpS):Prop where
 j:s.j<=l.length
 u:∃w,s.U[i]? =some w/\w.q=q
 ok:iU s.st s.us s.bI s.U s.V s.T
 gr:Gr st s.st
 pU:Uq <+:s.U.map UC.q
 pV:Vq <+:s.V.map ax.q
 room:Room s.st (jM (l.drop s.j))
 e3:(ki X.F X.G nm l 0 st env i).2.2=(ki X.F X.G nm (l.drop s.j) s.j s.st env i).2.2
 e1:(ki X.F X.G nm l 0 st env i).1=s.pns++(ki X.F X.G nm (l.drop s.j) s.j s.st env i).1
 e2:(ki X.F X.G nm l 0 st env i).2.1=s.rs++(ki X.F X.G nm (l.drop s.j) s.j s.st env i).2.1
 pl:s.pns.length=s.j
 sl:ky 13 s.sv s.j s.rows.flatten s.sp
 rw:zy s.B (s.V.map ax.q) s.pns s.rows
 vsl:ky 1 s.vv s.np.length (s.np.map λb=>kO (some b)) s.MA
 raw:∀r∈s.rs,∃v,r=cZ v/\v < (s.V.map ax.q).length
 np:s.np=s.rs.map λr=>(s.V.map ax.q).getD r.index.toNat 0
 few:s.rs.length<=s.j
theorem uE {U d:List UC}{i:Nat}{w:UC}(s:U[i]? =some w)(h:U.map UC.q <+:d.map UC.q):∃w',d[i]? =some w'/\w'.q=w.q:=by
 obtain⟨t,m⟩:=h;have g:(U.map UC.q)[i]? =some w.q:=by rw[Vu,s];rfl
 have j:(d.map UC.q)[i]? =some w.q:=by rw[<- m,Vj (Vt.1 g).1];exact g
 rw[Vu]at j;exact X9.1 j
theorem EI {qs d:List Nat}{rs:List jZ}(h:∀r∈rs,∃v,r=cZ v/\v < qs.length)(hq:qs <+:d):(∀r∈rs,∃v,r=cZ v/\v < d.length)/\(rs.map λr=>d.getD r.index.toNat 0)=rs.map λr=>qs.getD r.index.toNat 0:=by
 refine⟨λr g=>let⟨v,h1,h2⟩:=h r g;⟨v,h1,Qw h2 hq.length_le⟩,QC λr g=>?_⟩;obtain⟨v,rfl,hv⟩:=h r g;exact zDQ
theorem RC {qs:List Nat}{rs:List jZ}(h:∀r∈rs,∃v,r=cZ v/\v < qs.length):fG rs=rs/\zQ rs=[]/\yV qs rs:=by
 refine⟨V8.2 λr d=>?_,V7.2 λr d=>?_,.inl λr d=>?_,λr d _=>h r d⟩
 .obtain⟨v,rfl,_⟩:=h r d;rfl
 .obtain⟨v,rfl,_⟩:=h r d;simp[cZ]
 .obtain⟨v,rfl,_⟩:=h r d;rfl
section
variable {X:Fix} {nm:ByteArray} {l:List Nd} {st:ah} {env:List Nat} {i q:Nat} {Uq Vq:List Nat} {s:SpS}
theorem ZC.out(h:ZC X nm l st env i q Uq Vq s){y:Nd}(hy:l[s.j]? =some y)(aR:cY nm s.j=false){Q:Value}{Z:List Value}{A:List UC}{g:List ax}{S O:List kC}(hS:iU (jD X.F X.G y s.st env i).2 Q Z A g S)(Y:s.U.map UC.q <+:A.map UC.q)(L:s.V.map ax.q <+:g.map ax.q)
 {ws:List Value} {N:PN} (Ec:N=(jD X.F X.G y s.st env i).1) (hn:yz O (g.map ax.q) N ws) {W:Value} {T:List Value} (bn:ky 13 W (s.j+1) (s.rows++[ws]).flatten T):
 ZC X nm l st env i q Uq Vq ⟨s.j+1,(jD X.F X.G y s.st env i).2,Q,Z,A,g,S,W,s.rows++[ws],T,s.B++O,s.pns++[N],s.vv,s.np,s.MA,s.rs⟩:=by
 subst Ec;have aJ:=(Vt.1 hy).1;have Ki:l.drop s.j=y::l.drop (s.j+1):=by
  exact zDN
 obtain⟨h1,h2,h3,h4,h5,h6,I,J,K,m,Ik,T7,C,D,E,H,h17⟩:=h;rw[Ki]at I J K m;simp only[jM]at I;rw[wd _ _ _ _ _ _ _ _ _ aR]at J K m;have hl:=(oJ X.F X.G _ y (Qt _) s.st env i).1;obtain⟨w,hw,rH⟩:=h2;obtain⟨w',tS,d⟩:=uE hw Y;obtain⟨r1,r2⟩:=EI E L;exact⟨aJ,⟨w',tS,d.trans rH⟩,hS,h4.trans (zq X.F X.G _ y (Qt _) s.st env i).1,h5.trans Y,h6.trans L,I.less hl,J,by rw[K];simp,m,by simp[Ik],bn,(C.more (λx M=>Zw _ M) L).snoc (hn.more (λx M=>QH _ M) (Qg _)),D,r1,H.trans r2.symm,by simp only;omega⟩
theorem ZC.inn(h:ZC X nm l st env i q Uq Vq s){y:Nd}(hy:l[s.j]? =some y)(aR:cY nm s.j=true){Y:Value}{lP:List Value}{D:List UC}{d:List ax}{Z W:List kC}(hS:iU (zh X.F X.G y s.st env i).2 Y lP D d Z)(hU:s.U.map UC.q <+:D.map UC.q)(O:s.V.map ax.q <+:d.map ax.q)
 {ws:List Value} {T:PN} (Ec:T=(zh X.F X.G y s.st env i).1) (hn:yz W (d.map ax.q) T ws) {cw:Value} {bA:List Value} (bn:ky 13 cw (s.j+1) (s.rows++[ws]).flatten bA)
 {g:Value} {E:List Value} {m:List Nat} (Q:(jW nm≠5/\g=s.vv/\E=s.MA/\m=s.np)∨(jW nm=5/\s.st.vars.length < (d.map ax.q).length/\m=s.np++[(d.map ax.q).getD s.st.vars.length 0]/\ky 1 g m.length (m.map λb=>kO (some b)) E)):
 ZC X nm l st env i q Uq Vq ⟨s.j+1,(zh X.F X.G y s.st env i).2,Y,lP,D,d,Z,cw,s.rows++[ws],bA,s.B++W,s.pns++[T],g,m,E,s.rs++(if jW nm=5 then [cZ s.st.vars.length]else [])⟩:=by
 subst Ec;have aJ:=(Vt.1 hy).1;have Ki:l.drop s.j=y::l.drop (s.j+1):=by
  exact zDN
 obtain⟨h1,h2,h3,h4,h5,h6,L,M,N,C,Ik,T7,H,I,J,K,h17⟩:=h;rw[Ki]at L M N C;simp only[jM]at L;rw[zJ _ _ _ _ _ _ _ _ _ aR]at M N C;have hl:=(oJ X.F X.G _ y (Qt _) s.st env i).2;obtain⟨w,hw,rH⟩:=h2;obtain⟨w',tS,A⟩:=uE hw hU;obtain⟨r1,r2⟩:=EI J O;refine⟨aJ,⟨w',tS,A.trans rH⟩,hS,h4.trans (zq X.F X.G _ y (Qt _) s.st env i).2,h5.trans hU,h6.trans O,L.less hl,M,by rw[N];simp,?_,by simp[Ik],bn,(H.more (λx S=>Zw _ S) O).snoc (hn.more (λx S=>QH _ S) (Qg _)),?_,?_,?_,?_⟩
 .rw[C];simp only;split <;> simp
 .rcases Q with⟨_,rfl,rfl,rfl⟩|⟨_,_,_,k⟩
  .exact I
  .exact k
 .intro r hr;rcases QG.1 hr with hr|hr
  .exact r1 r hr
  .rcases Q with⟨k,_⟩|⟨k,k2,_⟩
   .rw[if_neg k]at hr;cases hr
   .rw[if_pos k,QU]at hr;exact⟨_,hr,k2⟩
 .show m=_;rw[QB,r2,<- K];rcases Q with⟨k,_,_,k2⟩|⟨k,_,k2,_⟩
  .rw[if_neg k,k2];simp
  .rw[if_pos k,k2];show _=s.np++[(d.map ax.q).getD ((s.st.vars.length:Int)).toNat 0];rw[vX]
 .show(s.rs++_).length<=s.j+1;rw[Vy];split
  .rw[Q9];omega
  .rw[Q7];omega
theorem ZC.fin(h:ZC X nm l st env i q Uq Vq s)(M:s.j=l.length):iU (ki X.F X.G nm l 0 st env i).2.2 s.us s.bI s.U s.V s.T/\
 yz (ao s.sv s.rows.flatten s.sp++(s.B++ao s.vv (s.np.map λb=>kO (some b)) s.MA)) (s.V.map ax.q) (.mk (iP nm) (mD nm) eV (ki X.F X.G nm l 0 st env i).2.1 0 false (ki X.F X.G nm l 0 st env i).1) (re (iP nm:Nat) (mD nm) s.vv s.sv):=by
 obtain⟨h1,h2,L,h4,h5,h6,h7,I,D,d,J,H,g,m,A,C,K⟩:=h;rw[M,List.drop_length,ki]at I D d;simp only[vp]at D d;rw[I,D,d];refine⟨L,?_⟩;obtain⟨N,O,P⟩:=RC A;rw[<- J]at H;have:=Bq (k:=iP nm) (nm:=mD nm) (lit:=eV) (refs:=s.rs) (unit:=0) (cf:=false) (rv:=Nz) (vv:=s.vv) (B:=s.B++ao s.vv (s.np.map λb=>kO (some b)) s.MA) H (g.more (λx E=>Zw _ E) (Qg _)) (qR _) (by rw[O];exact wA.nil _) (by
  rw[N,<- C];exact(lA rfl m).more (λx E=>QH _ E)) P
 exact this
end
theorem MZ(F G:List ByteArray)(nm:ByteArray)(env:List Nat)(u:Nat):∀(l:List Nd) (i:Nat) (st:ah),Gr st (ki F G nm l i st env u).2.2:=by
 intro l
 induction l with
 |nil=>intro i st;rw[ki];exact Gr.refl _
 |cons y q ihq=>
  intro i st;obtain⟨d,g⟩:=zq F G _ y (Qt _) st env u;cases hi:cY nm i with
  |true=>rw[zJ _ _ _ _ _ _ _ _ _ hi];exact g.trans (ihq _ _)
  |false=>rw[wd _ _ _ _ _ _ _ _ _ hi];exact d.trans (ihq _ _)
theorem U0 {nm:ByteArray}{kids:List Nd}(d:dw (jW nm) kids=true){i:Nat}{y:Nd}(m:kids[i]? =some y)(g:cY nm i=true):(jW nm=5/\y.args.length=1)∨(jW nm≠5/\y.args.length=0):=by
 have A:=(Vt.1 m).1;rw[A7 d A]at g;simp only[vG,decide_eq_true_eq]at g;have j:=x7 nm;generalize jW nm=n at d g j;have hn:n=0∨n=5∨(n=1∨n=2∨n=3∨n=4):=by omega
 rcases hn with rfl|rfl|hn
 .cases d
 .obtain⟨h1,b,q,h3,s⟩:=TZ d;simp only[jJ,lS]at g;obtain rfl:i=2:=by omega
  rw[m]at q;rw[XC q];exact .inl ⟨rfl,s⟩
 .cases hp:jf y with
  |true=>exact .inr ⟨Zo,(Cc hp).2⟩
  |false=>
   have:=Ff hn g.1 m hp;rw[d]at this;cases this
theorem U5(F G:List ByteArray)(y:Nd)(st:ah)(env:List Nat)(u:Nat):st.vars.length+y.args.length<=(zh F G y st env u).2.vars.length:=by
 cases y with
 |mk k s lit args ab kids p=>
 rw[ye];obtain⟨f1,f2,f3,f4⟩:=je u true false p args 0 st env;have g:=zr u false false p ab 0 (kP u true false p args 0 st env).1 (kP u true false p args 0 st env).2;have d:=wk F G kids (kP u false false p ab 0 (kP u true false p args 0 st env).1 (kP u true false p args 0 st env).2).1 (kP u false false p ab 0 (kP u true false p args 0 st env).1 (kP u true false p args 0 st env).2).2 u;have h1:=g.vars.length_le;have h2:=d.vars.length_le;show st.vars.length+args.length<=_;simp only;omega
theorem Gs:∀l:List Nd,l.length<=Nd.ap l:=by
 intro l
 induction l with
 |nil=>exact Qt _
 |cons x r ih=>have:=x.size_pos;simp only[Nd.ap,Vz];omega
theorem GO(X:Fix)(l1 l2 l3 l4 l5 vk av tv:Value)(s:ByteArray)(kids:List Nd)(a:Option Addr)(ac bk ko:Nat)(ks:Nat->List Value)(O4:kids.length < 1073741824)(ha:0 < kids.length->a=some ⟨bk,ko,none⟩)(hm:∀i,i < kids.length->∀y∈kA bk (ko+i*11) (ks i),y∈X.S)(hr:∀i x,kids[i]? =some x->jN X.S x (ks i))(N:Nat)(hN:Nd.ap kids<=N)(hN2:N < 1073741824)(mV:ss kids=true)(aN:∀x,x.size<=N->Xb x=true->∀vs,jN X.S x vs->pW X x vs)(p:Int)(Fo:dw (jW s) kids=true)
 (st:ah) (us:Value) (bI:List Value) (U:List UC) (Vs:List ax) (T:List kC) (hS:iU st us bI U Vs T) (i:Nat) (u:UC) (hu:U[i]? =some u) (env:List Nat) (b:Nat) (es:Array MapEntry) (c:Nat) (hs:zT st Vs env es c) (Hi:∀v∈env,st.af v∈st.line i) (bP:Room st (jM kids)):
 tg X 207 [kE X.wq,.agg #[vk,.string s,l1,l2,l3,l4,l5,av,tv,.slice a kids.length ac,.int .i64 p],vi (jJ (jW s)),vi (lS (jW s)),kE u.q,.map (some b)] st (ki X.F X.G s kids 0 st env i).2.2 us bI U Vs T b es c (PartR (.mk (iP s) (mD s) eV (ki X.F X.G s kids 0 st env i).2.1 0 false (ki X.F X.G s kids 0 st env i).1)):=by
 have Ee:jW s=1∨jW s=2∨jW s=3∨jW s=4∨jW s=5:=by
  have h1:=x7 s;have h2:jW s≠0:=λe=>by rw[e]at Fo;cases Fo
  omega
 have hto:s=nmTo↔jW s=5:=by
  constructor
  .rintro rfl;decide
  .intro h;unfold jW at h
   repeat' split at h
   all_goals first|omega|assumption
 refine ju.intro low207 Zn9 ?_;refine VC.join (α:=Nat×Nat) (bg:=λq=>[(0,kE X.wq),(2,vi (jJ (jW s))),(3,vi (lS (jW s))),(4,kE u.q),(5,.map (some b)),(7,kE q.1),(12,kE q.2)]) (Hf:=λq=>[kA q.2 0 (re 0 e0 Nz Nz),kA q.1 0 [vk,.string s,l1,l2,l3,l4,l5,av,tv,.slice a kids.length ac,.int .i64 p],kA X.wq 0 [.map (some X.fb),.map (some X.gb),us],ao us (U.map λu=>kO (some u.q)) bI,[.obj X.fb (.map X.bM X.fc)],[.obj X.gb (.map X.bQ X.gc)],WK U Vs,T,[.obj b (.map es c)],X.S]) (I:=λ_=>True) ?_ ?_
 .refine ae ?_;refine kX Zr (λq7=>?_);simp only[Value.cells];refine kK (λcm=>?_);refine ae ?_;exact⟨(q7,cm),trivial,ZU,by unfold re e0;exact bT⟩
 rintro⟨q7,cm⟩ _
 dsimp only;refine VC.join (α:=Nat) (bg:=λL0=>[(0,kE X.wq),(2,vi (jJ (jW s))),(3,vi (lS (jW s))),(4,kE u.q),(5,.map (some b)),(7,kE q7),(12,kE cm),(13,kE L0)]) (Hf:=λL0=>[kA L0 0 (re 11 s Nz Nz),kA cm 0 (re 0 e0 Nz Nz),kA q7 0 [vk,.string s,l1,l2,l3,l4,l5,av,tv,.slice a kids.length ac,.int .i64 p],kA X.wq 0 [.map (some X.fb),.map (some X.gb),us],ao us (U.map λu=>kO (some u.q)) bI,[.obj X.fb (.map X.bM X.fc)],[.obj X.gb (.map X.bQ X.gc)],WK U Vs,T,[.obj b (.map es c)],X.S]) (I:=λ_=>True) ?_ (λL0 _=>?_)
 .refine ae ?_;refine kK (λL0=>?_);refine ae ?_;exact⟨L0,trivial,ZU,by unfold re e0;exact bT⟩
 refine VC.join (α:=Unit) (bg:=λ_=>[(0,kE X.wq),(2,vi (jJ (jW s))),(3,vi (lS (jW s))),(4,kE u.q),(5,.map (some b)),(7,kE q7),(12,kE cm),(13,kE L0)]) (Hf:=λ_=>[kA L0 0 (re (iP s:Nat) (mD s) Nz Nz),kA cm 0 (re 0 e0 Nz Nz),kA q7 0 [vk,.string s,l1,l2,l3,l4,l5,av,tv,.slice a kids.length ac,.int .i64 p],kA X.wq 0 [.map (some X.fb),.map (some X.gb),us],ao us (U.map λu=>kO (some u.q)) bI,[.obj X.fb (.map X.bM X.fc)],[.obj X.gb (.map X.bQ X.gc)],WK U Vs,T,[.obj b (.map es c)],X.S]) (I:=λ_=>True) ?_ (λ_ _=>?_)
 .unfold re;refine ae ?_;rcases Ee with h|h|h|h|h
  .exact zBB
  .exact zBB
  .exact zC2
  .exact zC2
  .have hf:jJ (jW s)=2:=by rw[h];rfl
   have e1:iP s=13:=by simp[iP,h]
   have e2:mD s=e0:=by simp[mD,h]
   rw[e1,e2];rw[show decide ((jJ (jW s):Int)=0)=false from Zf Zo];refine ae ?_;rw[show decide (s=⟨#[116,111,58,100,111,58]⟩)=true from Zt (hto.2 h)];refine ae ?_;exact⟨(),trivial,ZU,by simp only[e0];exact ai.refl _⟩
 refine ae ?_;refine VC.loop (α:=SpS) (bg:=λp=>[(0,kE X.wq),(2,vi (jJ (jW s))),(3,vi (lS (jW s))),(4,kE u.q),(5,.map (some b)),(12,kE cm),(13,kE L0),(36,.slice a kids.length ac),(37,vi kids.length),(38,vi p.j)])
  (Hf:=λp=>[kA L0 0 (re (iP s:Nat) (mD s) p.vv p.sv),kA cm 0 (re 0 e0 Nz Nz),kA X.wq 0 [.map (some X.fb),.map (some X.gb),p.us],ao p.us (p.U.map λu=>kO (some u.q)) p.bI,[.obj X.fb (.map X.bM X.fc)],[.obj X.gb (.map X.bQ X.gc)],WK p.U p.V,p.T,[.obj b (.map es c)],X.S,ao p.sv p.rows.flatten p.sp,p.B,ao p.vv (p.np.map λb=>kO (some b)) p.MA]) (I:=ZC X s kids st env i u.q (U.map UC.q) (Vs.map ax.q)) (μ:=λp=>kids.length - p.j) ⟨0,st,us,bI,U,Vs,T,Nz,[],[],[],[],Nz,[],[],[]⟩
  ⟨X3 _,⟨u,hu,rfl⟩,hS,Gr.refl st,Qg _,Qg _,bP,rfl,rfl,rfl,rfl,.nil,zy.nil _ _,.nil,Zs,rfl,Qt _⟩ ZU (ai.cut (M:=[kA L0 0 (re (iP s:Nat) (mD s) Nz Nz),kA cm 0 (re 0 e0 Nz Nz),kA X.wq 0 [.map (some X.fb),.map (some X.gb),us],ao us (U.map λu=>kO (some u.q)) bI,[.obj X.fb (.map X.bM X.fc)],[.obj X.gb (.map X.bQ X.gc)],WK U Vs,T,[.obj b (.map es c)],X.S]) ZI (ai.perm (by simp[ao]))) ?_
 rintro⟨j,d,L,pG,A,Q,Z,sv,rows,sp,B,pns,vv,np,MA,rs⟩ g
 have rW:j<=kids.length:=g.j;obtain⟨W,Y,iG⟩:∃W Y,sv=.slice W j Y:=g.sl.form;obtain⟨pa,pc,Zc⟩:∃pa pc,vv=.slice pa np.length pc:=g.vsl.form;obtain⟨w,hw,rH⟩:∃w,A[i]? =some w/\w.q=u.q:=g.u;subst iG;subst Zc;dsimp only;unfold re;refine ae ?_;by_cases aJ:j < kids.length;rotate_left
 .rw[show decide ((j:Int) < (kids.length:Int))=false from Zf Zo];obtain⟨f1,f2⟩:=g.fin (by show j=kids.length;omega);refine ae ?_;refine jT ⟨.inr rfl,_,[kA X.wq 0 [.map (some X.fb),.map (some X.gb),L],ao L (A.map λu=>kO (some u.q)) pG,[.obj X.fb (.map X.bM X.fc)],[.obj X.gb (.map X.bQ X.gc)],WK A Q,Z,[.obj b (.map es c)],X.S,ao (.slice W j Y) rows.flatten sp++(B++ao (.slice pa np.length pc) (np.map λb=>kO (some b)) MA)],.aI (us:=re (iP s:Nat) (mD s) (.slice pa np.length pc) (.slice W j Y)) Zr Zr (λy hy=>by simp only[Vd,QG];repeat (first|exact Or.inl hy|refine Or.inr ?_)) .nil,?_,⟨L,pG,A,Q,Z,_,⟨f1,g.pU,g.pV,_,rfl,f2⟩,rfl⟩⟩;refine ai.cut (M:=[kA X.wq 0 [.map (some X.fb),.map (some X.gb),L],ao L (A.map λu=>kO (some u.q)) pG,[.obj X.fb (.map X.bM X.fc)],[.obj X.gb (.map X.bQ X.gc)],WK A Q,Z,[.obj b (.map es c)],X.S,ao (.slice W j Y) rows.flatten sp,B,ao (.slice pa np.length pc) (np.map λb=>kO (some b)) MA]) ZI (ai.perm Zs)
 rw[show decide ((j:Int) < (kids.length:Int))=true from Zt Zo];obtain rfl:=ha Zo;obtain⟨y,hy⟩:∃y,kids[j]? =some y:=⟨_,Zg aJ⟩;have cG:=hm j aJ;have bF:=hr j y hy;have UW:y.size<=N:=by have:=Nd.aD (Zv hy);omega
 have K:=oe mV (Zv hy);have hoy:=aN y UW K;have hiq:=A7 Fo aJ;generalize ks j=kj at*;refine ae ?_;obtain⟨e1,e2,e3,e4,e5,e6,e7,a1,c1,a2,c2,a3,c3,bk2,o2,Kr,rfl,nM,bD,bB,hk8,Im,qK,cP,hcp2⟩:=eW bF;refine kR Zr (λz hz=>by have h9:=cG z hz;simp[h9]) rfl ?_;refine jH ?_;refine kK (λq15=>?_);refine jH ?_;refine VC.seq ?_;refine VC.join (α:=Unit) (bg:=λ_=>[(0,kE X.wq),(2,vi (jJ (jW s))),(3,vi (lS (jW s))),(4,kE u.q),(5,.map (some b)),(12,kE cm),(13,kE L0),(15,kE q15),(36,.slice (some ⟨bk,ko,none⟩) kids.length ac),(37,vi kids.length),(38,vi j),(50,.bool (!cY s j))])
  (Hf:=λ_=>[kA q15 0 (rN y.kind y.name e1 e2 e3 e4 e5 e6 e7 a1 y.args.length c1 a2 y.ab.length c2 a3 y.kids.length c3 y.at_),kA L0 0 [.int .u8 (iP s:Nat),.string (mD s),.int .u8 0,.int .i64 0,.int .u64 0,.string e0,Nz,Nz,.int .i64 0,.bool false,Nz,.slice pa np.length pc,.slice W j Y],kA cm 0 [.int .u8 0,.string e0,.int .u8 0,.int .i64 0,.int .u64 0,.string e0,Nz,Nz,.int .i64 0,.bool false,Nz,Nz,Nz],kA X.wq 0 [.map (some X.fb),.map (some X.gb),L],ao L (A.map λu=>kO (some u.q)) pG,[.obj X.fb (.map X.bM X.fc)],[.obj X.gb (.map X.bQ X.gc)],WK A Q,Z,[.obj b (.map es c)],X.S,ao (.slice W j Y) rows.flatten sp,B,ao (.slice pa np.length pc) (np.map λb=>kO (some b)) MA]) (I:=λ_=>True) ?_ (λ_ _=>?_)
 .rw[hiq];refine ae ?_;by_cases c1:(j:Int) < (jJ (jW s):Int)
  .rw[Zt c1,show decide (jJ (jW s)<=j)=false from Zf Zo];refine ae ?_;exact⟨(),trivial,ZU,ai.refl _⟩
  .rw[Zf c1,show decide (jJ (jW s)<=j)=true from Zt Zo];refine ae ?_;by_cases c2:(lS (jW s):Int)<=(j:Int)
   .rw[Zt c2,show decide (j < lS (jW s))=false from Zf Zo];refine ae ?_;exact⟨(),trivial,ZU,ai.refl _⟩
   .rw[Zf c2,show decide (j < lS (jW s))=true from Zt Zo];refine ae ?_;exact⟨(),trivial,ZU,ai.refl _⟩
 have Y9:Room d (jM (kids.drop j)):=g.room;have Ki:kids.drop j=y::kids.drop (j+1):=by
  exact zDN
 rw[Ki]at Y9;simp only[jM]at Y9;have KX:iU d L pG A Q Z:=g.ok;have He:Gr st d:=g.gr;have hpV:Vs.map ax.q <+:Q.map ax.q:=g.pV;have cL:i < st.outer.length:=by have:=(Vt.1 hu).1;rw[hS.rep.ul]at this;exact this
 have nU:=hs.more He.vars hpV hS.rep.vl;have Ω:∀v∈env,d.af v∈d.line i:=λv hv=>by
  obtain⟨k1,k2⟩:=uB He hS.rep.wf KX.rep.wf cL (hs.lt v hv);rw[k1,k2];exact Hi v hv
 have H:ky 13 (.slice W j Y) j rows.flatten sp:=g.sl;have hvsl0:ky 1 (.slice pa np.length pc) np.length (np.map λb=>kO (some b)) MA:=g.vsl;have hfew:rs.length<=j:=g.few;have hptl:np.length=rs.length:=by have e:np=_:=g.np;rw[e,Q6]
 have D:(ki X.F X.G s kids 0 st env i).2.2=(ki X.F X.G s (kids.drop j) j d env i).2.2:=g.e3;rw[Ki]at D;cases aR:cY s j with
 |false=>
  rw[wd _ _ _ _ _ _ _ _ _ aR]at D;simp only[vP];have Nc:=hoy _ bF d L pG A Q Z KX i w hw env b es c nU Ω (Y9.mono Zo);rw[rH]at Nc;refine jH ?_;cases Y5:(jD X.F X.G y d env i).2.f with
  |some e=>
   have iE:∀x,(jD X.F X.G y d env i).2.f=some x->(ki X.F X.G s kids 0 st env i).2.2.f=some x:=λx hx=>by rw[D];exact(MZ _ _ _ _ _ _ _ _).f _ hx
   refine VC.seq (VC.DU ⟨⟨[_,_,_,_,_,_],_,_,_,_,rfl,?_⟩,⟨[_,_,_,_,_],_,_,_,_,rfl,?_⟩,trivial⟩)
   .refine⟨?_,?_,trivial⟩
    all_goals
     refine ae ?_;refine kN Nc Zr ZP (λv Post hv=>?_) (λch Post hz=>?_)
     .exact zBY
     .exact zBN
   .refine⟨?_,?_,?_,?_,trivial⟩
    all_goals
     refine ae ?_;refine kN Nc Zr ZP (λv Post hv=>?_) (λch Post hz=>?_)
     .exact zBY
     .exact zBN
  |none=>
   refine VC.seq (VC.draws ⟨?_,?_,trivial⟩)
   all_goals
    refine ae ?_;refine kN Nc Zr ZP (λv Post hv=>?_) (λch Post hz=>?_);rotate_left
    .obtain⟨q1,Sn,p1,fC,rfl,rfl⟩:=hz;rw[Y5]at fC;cases fC
    obtain⟨pF,lP,U2,V2,T2,B2,⟨Hb,xK,xL,ws,rfl,E⟩,rfl⟩:=hv;simp only[aE];obtain⟨pn,O⟩:∃pn,pn=(jD X.F X.G y d env i).1:=⟨_,rfl⟩;rw[<- O]at E;obtain⟨f1,f2,f3,f4,f5,f6,f7,r1,r2,r3,p1,p2,p3,k1,k2,k3,IJ⟩:=mf E;subst IJ;refine ae ?_;refine j8 (out:=[.int .u8 pn.kind,.string pn.name,.int .u8 f1,.int .i64 f2,.int .u64 f3,.string f4,.slice f5 f6 f7,.slice r1 r2 r3,.int .i64 pn.unit,.bool pn.super,Nz,.slice p1 p2 p3,.slice k1 k2 k3]) Zr Zr (λr=>?_);refine ae ?_;refine kw (k:=j) (m:=1) (xs:=rows.flatten) (sp:=sp) (ys:=[.int .u8 pn.kind,.string pn.name,.int .u8 f1,.int .i64 f2,.int .u64 f3,.string f4,.slice f5 f6 f7,.slice r1 r2 r3,.int .i64 pn.unit,.bool pn.super,Nz,.slice p1 p2 p3,.slice k1 k2 k3]) Zr Zr H ZK Zr ?_ rfl Zr Zr Zd Zo (λcw bA C=>?_)
    .exact C2
    have fS:rows.flatten++([.int .u8 pn.kind,.string pn.name,.int .u8 f1,.int .i64 f2,.int .u64 f3,.string f4,.slice f5 f6 f7,.slice r1 r2 r3,.int .i64 pn.unit,.bool pn.super,Nz,.slice p1 p2 p3,.slice k1 k2 k3]:List Value)=(rows++[([.int .u8 pn.kind,.string pn.name,.int .u8 f1,.int .i64 f2,.int .u64 f3,.string f4,.slice f5 f6 f7,.slice r1 r2 r3,.int .i64 pn.unit,.bool pn.super,Nz,.slice p1 p2 p3,.slice k1 k2 k3]:List Value)]).flatten:=by simp
    rw[fS]at C|-;obtain⟨oV,oW,rfl⟩:=C.form;have nP:=g.out hy aR Hb xK xL O E C;exact zAF
 |true=>
  rw[zJ _ _ _ _ _ _ _ _ _ aR]at D;simp only[vQ];have iE:∀x,(zh X.F X.G y d env i).2.f=some x->(ki X.F X.G s kids 0 st env i).2.2.f=some x:=λx hx=>by rw[D];exact(MZ _ _ _ _ _ _ _ _).f _ hx
  have Uh:nj y=gu y.args y.ab (jM y.kids):=by cases y;rfl
  have hys2:y.size=1+Nd.ap y.kids:=by cases y;rfl
  have hyk:ss y.kids=true:=by
   cases y;simp only[Xb,vG]at K;exact K.2
  have eO:=Gs y.kids;have Uo:=IL X (.int .u8 y.kind) (.int .u8 e1) (.int .i64 e2) (.int .u64 e3) (.string e4) (.slice e5 e6 e7) (.string y.name) y.kind y.name y.lit y.args y.ab (.slice a1 y.args.length c1) (.slice a2 y.ab.length c2) bD bB y.kids a3 c3 bk2 o2 Kr Zo Im qK cP
   (λi' x' pP=>aN x' (by have:=Nd.aD (Zv pP);omega) (oe hyk (Zv pP)) _ (cP i' x' pP)) y.at_ d L pG A Q Z KX i w hw env b es c nU Ω (by rw[<- Uh];exact Y9.mono Zo)
  rw[<- Nd.eta y,rH]at Uo;rcases U0 Fo hy aR with⟨h5,s5⟩|⟨h5,s5⟩
  .skip
   refine ae ?_;refine kN Uo Zr ZP (λv Post hv=>?_) (λch Post hz=>?_);rotate_left
   .exact zBN
   obtain⟨pF,lP,U2,V2,T2,B2,⟨Hb,xK,xL,ws,hv,E⟩,rfl⟩:=hv;simp only[aE];obtain⟨pn,O⟩:∃pn,pn=(zh X.F X.G y d env i).1:=⟨_,rfl⟩;rw[<- O]at E;obtain⟨f1,f2,f3,f4,f5,f6,f7,r1,r2,r3,p1,p2,p3,k1,k2,k3,IJ⟩:=mf E;subst IJ;have J:d.vars.length < (V2.map ax.q).length:=by
    have h1:=U5 X.F X.G y d env i;rw[Q6,Hb.rep.vl];omega
   have Kl:da (((V2.map ax.q).drop d.vars.length).take y.args.length)=kE ((V2.map ax.q).getD d.vars.length 0):=by
    rw[s5,vw J,Vh,Zg J];rfl
   rw[Kl]at hv;subst hv;refine ae ?_;refine kK (λq16=>?_);refine ae ?_;refine j8 (out:=[.int .u8 pn.kind,.string pn.name,.int .u8 f1,.int .i64 f2,.int .u64 f3,.string f4,.slice f5 f6 f7,.slice r1 r2 r3,.int .i64 pn.unit,.bool pn.super,Nz,.slice p1 p2 p3,.slice k1 k2 k3]) Zr Zr (λr=>?_);refine ae ?_;refine kw (k:=j) (m:=1) (xs:=rows.flatten) (sp:=sp) (ys:=[.int .u8 pn.kind,.string pn.name,.int .u8 f1,.int .i64 f2,.int .u64 f3,.string f4,.slice f5 f6 f7,.slice r1 r2 r3,.int .i64 pn.unit,.bool pn.super,Nz,.slice p1 p2 p3,.slice k1 k2 k3]) Zr Zr H ZK Zr ?_ rfl Zr Zr Zd Zo (λcw bA C=>?_)
   .exact C2
   have fS:rows.flatten++([.int .u8 pn.kind,.string pn.name,.int .u8 f1,.int .i64 f2,.int .u64 f3,.string f4,.slice f5 f6 f7,.slice r1 r2 r3,.int .i64 pn.unit,.bool pn.super,Nz,.slice p1 p2 p3,.slice k1 k2 k3]:List Value)=(rows++[([.int .u8 pn.kind,.string pn.name,.int .u8 f1,.int .i64 f2,.int .u64 f3,.string f4,.slice f5 f6 f7,.slice r1 r2 r3,.int .i64 pn.unit,.bool pn.super,Nz,.slice p1 p2 p3,.slice k1 k2 k3]:List Value)]).flatten:=by simp
   rw[fS]at C|-;obtain⟨oV,oW,rfl⟩:=C.form;refine ae ?_;refine j8 (out:=[kE ((V2.map ax.q).getD d.vars.length 0)]) Zr Zr (λrr2=>?_);refine ae ?_;refine kw (k:=np.length) (m:=1) (xs:=np.map λb=>kO (some b)) (sp:=MA) (ys:=[kE ((V2.map ax.q).getD d.vars.length 0)]) Zr Zr hvsl0 ZK Zr ?_ rfl Zr Zr Zd Zo (λvv' Yu US=>?_)
   .exact C2
   have hfv:(np.map λb=>kO (some b))++[kE ((V2.map ax.q).getD d.vars.length 0)]=(np++[(V2.map ax.q).getD d.vars.length 0]).map λb=>kO (some b):=by simp[kO]
   rw[hfv]at US|-;obtain⟨pa',pc',rfl⟩:=US.form;have nP:=g.inn hy aR Hb xK xL O E C (.inr ⟨h5,J,rfl,by rw[Vy];exact US⟩);refine ae ?_;refine⟨_,nP,by simp only;omega,ZU,?_⟩;simp only;refine ai.cut (M:=[kA L0 0 [.int .u8 (iP s:Nat),.string (mD s),.int .u8 0,.int .i64 0,.int .u64 0,.string e0,.slice none 0 0,.slice none 0 0,.int .i64 0,.bool false,.slice none 0 0,.slice pa' (np.length+1) pc',.slice oV (j+1) oW],kA cm 0 [.int .u8 0,.string e0,.int .u8 0,.int .i64 0,.int .u64 0,.string e0,.slice none 0 0,.slice none 0 0,.int .i64 0,.bool false,.slice none 0 0,.slice none 0 0,.slice none 0 0],kA X.wq 0 [.map (some X.fb),.map (some X.gb),pF],ao pF (U2.map λu=>kO (some u.q)) lP,[.obj X.fb (.map X.bM X.fc)],[.obj X.gb (.map X.bQ X.gc)],WK U2 V2,T2,[.obj b (.map es c)],X.S,ao (.slice oV (j+1) oW) (rows++[([.int .u8 pn.kind,.string pn.name,.int .u8 f1,.int .i64 f2,.int .u64 f3,.string f4,.slice f5 f6 f7,.slice r1 r2 r3,.int .i64 pn.unit,.bool pn.super,.slice none 0 0,.slice p1 p2 p3,.slice k1 k2 k3]:List Value)]).flatten bA,B,ao (.slice pa' (np.length+1) pc') ((np++[(V2.map ax.q).getD d.vars.length 0]).map λb=>kO (some b)) Yu,B2]) ZI (ai.perm ?_);simp only[Vd,Ve,vp,vm]
   repeat (first|exact vZ _ Qa|refine vZ _ ?_)
  .skip
   refine ae ?_;refine kN Uo Zr ZP (λv Post hv=>?_) (λch Post hz=>?_);rotate_left
   .exact zBN
   obtain⟨pF,lP,U2,V2,T2,B2,⟨Hb,xK,xL,ws,hv,E⟩,rfl⟩:=hv;simp only[aE];obtain⟨pn,O⟩:∃pn,pn=(zh X.F X.G y d env i).1:=⟨_,rfl⟩;rw[<- O]at E;obtain⟨f1,f2,f3,f4,f5,f6,f7,r1,r2,r3,p1,p2,p3,k1,k2,k3,IJ⟩:=mf E;subst IJ;have Kl:da (((V2.map ax.q).drop d.vars.length).take y.args.length)=.pointer none:=by
    rw[s5];rfl
   rw[Kl]at hv;subst hv;refine ae ?_;refine kK (λq16=>?_);refine ae ?_;refine j8 (out:=[.int .u8 pn.kind,.string pn.name,.int .u8 f1,.int .i64 f2,.int .u64 f3,.string f4,.slice f5 f6 f7,.slice r1 r2 r3,.int .i64 pn.unit,.bool pn.super,Nz,.slice p1 p2 p3,.slice k1 k2 k3]) Zr Zr (λr=>?_);refine ae ?_;refine kw (k:=j) (m:=1) (xs:=rows.flatten) (sp:=sp) (ys:=[.int .u8 pn.kind,.string pn.name,.int .u8 f1,.int .i64 f2,.int .u64 f3,.string f4,.slice f5 f6 f7,.slice r1 r2 r3,.int .i64 pn.unit,.bool pn.super,Nz,.slice p1 p2 p3,.slice k1 k2 k3]) Zr Zr H ZK Zr ?_ rfl Zr Zr Zd Zo (λcw bA C=>?_)
   .exact C2
   have fS:rows.flatten++([.int .u8 pn.kind,.string pn.name,.int .u8 f1,.int .i64 f2,.int .u64 f3,.string f4,.slice f5 f6 f7,.slice r1 r2 r3,.int .i64 pn.unit,.bool pn.super,Nz,.slice p1 p2 p3,.slice k1 k2 k3]:List Value)=(rows++[([.int .u8 pn.kind,.string pn.name,.int .u8 f1,.int .i64 f2,.int .u64 f3,.string f4,.slice f5 f6 f7,.slice r1 r2 r3,.int .i64 pn.unit,.bool pn.super,Nz,.slice p1 p2 p3,.slice k1 k2 k3]:List Value)]).flatten:=by simp
   rw[fS]at C|-;obtain⟨oV,oW,rfl⟩:=C.form;have nP:=g.inn hy aR Hb xK xL O E C (.inl ⟨h5,rfl,rfl,rfl⟩);exact zAF
structure PaS where
 k:Nat
 nm:ByteArray
 lit:Lt
 l1:Value
 l2:Value
 l3:Value
 l4:Value
 l5:Value
 refs:List jZ
 rv:Value
 vv:Value
 l:List Nd
 a:Option Addr
 ac:Nat
 bk:Nat
 o:Nat
 ks:Nat->List Value
 st:ah
 us:Value
 bI:List Value
 U:List UC
 V:List ax
 T:List kC
 B:List kC
structure PaI (X:Fix)(x:Nd)(N:Nat)(st:ah)(env:List Nat)(i:Nat)(Uq Vq:List Nat)(s:PaS):Prop where
 eq:jD X.F X.G x st env i=(.mk s.k s.nm s.lit s.refs 0 false (if x.kind=5 then wL (jO x.kids) (kT X.F X.G s.l s.st env i).1 else(kT X.F X.G s.l s.st env i).1),(kT X.F X.G s.l s.st env i).2)
 lt:zl s.B s.lit [s.l1,s.l2,s.l3,s.l4,s.l5]
 rr:wA s.B s.rv (zQ s.refs)
 pr:zH s.B s.vv ((fG s.refs).map λr=>(s.V.map ax.q).getD r.index.toNat 0)
 rok:yV (s.V.map ax.q) s.refs
 rz:zQ s.refs=[]->s.rv=Nz
 ok:iU s.st s.us s.bI s.U s.V s.T
 gr:Gr st s.st
 pU:Uq <+:s.U.map UC.q
 pV:Vq <+:s.V.map ax.q
 room:Room s.st (jM s.l)
 ha:0 < s.l.length->s.a=some ⟨s.bk,s.o,none⟩
 hm:∀j,j < s.l.length->∀y∈kA s.bk (s.o+j*11) (s.ks j),y∈X.S
 hr:∀j y,s.l[j]? =some y->jN X.S y (s.ks j)
 sz:Nd.ap s.l<=N
 okl:ss s.l=true
 ne:x.kind=5->0 < s.l.length
theorem raw_ref {F G:List ByteArray}{st:ah}{env:List Nat}{nm:ByteArray}{u:Nat}{p:Int}{put:Bool}(h:(wC F G st env nm u p put).1.kind=99):∃v∈env,(wC F G st env nm u p put).1=cZ v:=by
 unfold wC at h|-;split at h
 .have:=x5 nm;simp only at h;omega
 .rename_i d;rw[if_neg d];split at h
  .rename_i v g;exact⟨v,D4 g,rfl⟩
  .split at h
   .simp at h
   .simp at h
theorem Rx(X:Fix)(hX:SG X)(N:Nat)(hN2:N < 1073741824)(ih:∀x,x.size<=N->Xb x=true->∀vs,jN X.S x vs->pW X x vs)(x:Nd)(hx:x.size<=N+1)(aN:Xb x=true)(vs:List Value)(h:jN X.S x vs):pW X x vs:=by
 intro st us H U Vs T hS i u hu env b es c hs Hi bP;have h':=h;obtain⟨e1,e2,e3,e4,e5,e6,e7,O,Y,Q,Z,m,c3,bk,J,ks,rfl,nM,bD,bB,hk8,ha,hm,K,rV⟩:=eW h;have Hp:x.size=1+Nd.ap x.kids:=by cases x;rfl
 have Uh:nj x=gu x.args x.ab (jM x.kids):=by cases x;rfl
 have hokk:okK x.kind x.kids=true/\x.lit.size<=274877906944/\ss x.kids=true:=by
  cases x;simp only[Xb,vG,decide_eq_true_eq]at aN;exact⟨aN.1.1,aN.1.2,aN.2⟩
 obtain⟨xI,hlb,mV⟩:=hokk;unfold okK at xI;simp only[vG,vT,vO,decide_eq_true_eq,decide_eq_false_iff_not]at xI;obtain⟨⟨⟨hk12,hk5⟩,hk19⟩,hk4⟩:=xI;have hlen:=Gs x.kids;have Dc:Nd.ap x.kids<=N:=by omega
 have nT:Room st (jM x.kids):=bP.mono (by rw[Uh];unfold gu;omega);have hsb:st.uses.length < 1073741824:=by obtain⟨_,k,_⟩:=bP;omega
 have cL:i < st.outer.length:=by have:=(Vt.1 hu).1;rw[hS.rep.ul]at this;exact this
 refine ju.intro low172 Zn9 ?_;refine VC.join (α:=Nat×Nat) (bg:=λq=>[(0,kE X.wq),(2,kE u.q),(3,.map (some b)),(5,kE q.1),(8,kE q.2)]) (Hf:=λq=>[kA q.1 0 (rN x.kind x.name e1 e2 e3 e4 e5 e6 e7 O x.args.length Y Q x.ab.length Z m x.kids.length c3 x.at_),kA q.2 0 [.int .u8 0,.string e0,.int .u8 0,.int .i64 0,.int .u64 0,.string e0,Nz,Nz,.int .i64 0,.bool false,Nz,Nz,Nz],kA X.wq 0 [.map (some X.fb),.map (some X.gb),us],ao us (U.map λu=>kO (some u.q)) H,[.obj X.fb (.map X.bM X.fc)],[.obj X.gb (.map X.bQ X.gc)],WK U Vs,T,[.obj b (.map es c)],X.S]) (I:=λ_=>True) ?_ ?_
 .refine ae ?_;refine kX Zr (λD=>?_);simp only[Value.cells];refine kK (λC=>?_);refine ae ?_;exact⟨(D,C),trivial,ZU,by unfold e0;exact bT⟩
 rintro⟨D,C⟩ _
 dsimp only;refine VC.join (α:=Unit) (bg:=λ_=>[(0,kE X.wq),(2,kE u.q),(3,.map (some b)),(5,kE D),(8,kE C)]) (Hf:=λ_=>[kA D 0 (rN x.kind x.name e1 e2 e3 e4 e5 e6 e7 O x.args.length Y Q x.ab.length Z m x.kids.length c3 x.at_),kA C 0 [.int .u8 0,.string e0,.int .u8 0,.int .i64 0,.int .u64 0,.string e0,Nz,Nz,.int .i64 0,.bool false,Nz,Nz,Nz],kA X.wq 0 [.map (some X.fb),.map (some X.gb),us],ao us (U.map λu=>kO (some u.q)) H,[.obj X.fb (.map X.bM X.fc)],[.obj X.gb (.map X.bQ X.gc)],WK U Vs,T,[.obj b (.map es c)],X.S]) (I:=λ_=>iH x=false) ?_ (λ_ aR=>?_)
 .refine ae ?_;refine kH (uJ X.S x _ h') Zr ZP (λv Post L=>?_);obtain⟨⟨f,t,rfl,hft⟩,rfl⟩:=L;simp only[aE];cases aR:iH x with
  |false=>
   exact Sk
  |true=>
   obtain⟨rfl,rfl⟩:=hft aR;have Fo:dw (jW x.name) x.kids=true:=by
    unfold iH eR at aR;simp only[vG]at aR;exact aR.2
   have hP:=zN X.F X.G x.kind x.name x.lit x.args x.ab x.kids x.at_ st env i aR;rw[<- Nd.eta x]at hP;have IF:=GO X (.int .u8 e1) (.int .i64 e2) (.int .u64 e3) (.string e4) (.slice e5 e6 e7) (.int .u8 x.kind) (.slice O x.args.length Y) (.slice Q x.ab.length Z) x.name x.kids m c3 bk J ks Zo ha hm K N Zo hN2 mV ih x.at_ Fo st us H U Vs T hS i u hu env b es c hs Hi nT;refine ae ?_;refine kN IF Zr ZP (λv Post L=>?_) (λch Post hz=>?_);rotate_left
   .exact zE2
   obtain⟨pF,lP,U2,E,T2,B2,⟨Hb,xK,xL,ws,rfl,hn⟩,rfl⟩:=L;simp only[aE];obtain⟨pn,Ec⟩:∃pn,pn=(jD X.F X.G x st env i).1:=⟨_,rfl⟩;have Fv:yz B2 (E.map ax.q) pn ws:=by rw[Ec,hP];exact hn
   obtain⟨f1,f2,f3,f4,f5,f6,f7,r1,r2,r3,p1,p2,p3,k1,k2,k3,IJ⟩:=mf Fv;subst IJ;refine ae ?_;refine jT ⟨.inr rfl,_,[kA X.wq 0 [.map (some X.fb),.map (some X.gb),pF],ao pF (U2.map λu=>kO (some u.q)) lP,[.obj X.fb (.map X.bM X.fc)],[.obj X.gb (.map X.bQ X.gc)],WK U2 E,T2,[.obj b (.map es c)],X.S,B2],.aI (us:=[.int .u8 pn.kind,.string pn.name,.int .u8 f1,.int .i64 f2,.int .u64 f3,.string f4,.slice f5 f6 f7,.slice r1 r2 r3,.int .i64 pn.unit,.bool pn.super,Nz,.slice p1 p2 p3,.slice k1 k2 k3]) Zr Zr (λy hy=>by simp only[Vd,QG];repeat (first|exact Or.inl hy|refine Or.inr ?_)) .nil,ZI,⟨pF,lP,U2,E,T2,_,⟨by rw[hP];exact Hb,xK,xL,_,rfl,by rw[<- Ec];exact Fv⟩,rfl⟩⟩
 refine VC.join (α:=Nat) (bg:=λs=>[(0,kE X.wq),(2,kE u.q),(3,.map (some b)),(5,kE D),(8,kE C),(12,kE s)]) (Hf:=λs=>[kA s 0 [.int .u8 0,.string e0,.int .u8 0,.int .i64 0,.int .u64 0,.string e0,Nz,Nz,.int .i64 0,.bool false,Nz,Nz,Nz],kA D 0 (rN x.kind x.name e1 e2 e3 e4 e5 e6 e7 O x.args.length Y Q x.ab.length Z m x.kids.length c3 x.at_),kA C 0 [.int .u8 0,.string e0,.int .u8 0,.int .i64 0,.int .u64 0,.string e0,Nz,Nz,.int .i64 0,.bool false,Nz,Nz,Nz],kA X.wq 0 [.map (some X.fb),.map (some X.gb),us],ao us (U.map λu=>kO (some u.q)) H,[.obj X.fb (.map X.bM X.fc)],[.obj X.gb (.map X.bQ X.gc)],WK U Vs,T,[.obj b (.map es c)],X.S]) (I:=λ_=>True) ?_ (λs _=>?_)
 .refine ae ?_;refine kK (λs=>?_);refine ae ?_;exact⟨s,trivial,ZU,by unfold e0;exact bT⟩
 refine VC.join (α:=Unit) (bg:=λ_=>[(0,kE X.wq),(2,kE u.q),(3,.map (some b)),(5,kE D),(8,kE C),(12,kE s),(13,.slice m x.kids.length c3)]) (Hf:=λ_=>[kA s 0 [.int .u8 0,.string e0,.int .u8 0,.int .i64 0,.int .u64 0,.string e0,Nz,Nz,.int .i64 0,.bool false,Nz,Nz,Nz],kA D 0 (rN x.kind x.name e1 e2 e3 e4 e5 e6 e7 O x.args.length Y Q x.ab.length Z m x.kids.length c3 x.at_),kA C 0 [.int .u8 0,.string e0,.int .u8 0,.int .i64 0,.int .u64 0,.string e0,Nz,Nz,.int .i64 0,.bool false,Nz,Nz,Nz],kA X.wq 0 [.map (some X.fb),.map (some X.gb),us],ao us (U.map λu=>kO (some u.q)) H,[.obj X.fb (.map X.bM X.fc)],[.obj X.gb (.map X.bQ X.gc)],WK U Vs,T,[.obj b (.map es c)],X.S]) (I:=λ_=>True) ?_ (λ_ _=>?_)
 .refine ae ?_;exact⟨(),trivial,ZU,ZI⟩
 refine VC.join (α:=Unit) (bg:=λ_=>[(0,kE X.wq),(2,kE u.q),(3,.map (some b)),(5,kE D),(8,kE C),(12,kE s),(13,.slice m x.kids.length c3),(14,.bool (jO x.kids))]) (Hf:=λ_=>[kA s 0 [.int .u8 0,.string e0,.int .u8 0,.int .i64 0,.int .u64 0,.string e0,Nz,Nz,.int .i64 0,.bool false,Nz,Nz,Nz],kA D 0 (rN x.kind x.name e1 e2 e3 e4 e5 e6 e7 O x.args.length Y Q x.ab.length Z m x.kids.length c3 x.at_),kA C 0 [.int .u8 0,.string e0,.int .u8 0,.int .i64 0,.int .u64 0,.string e0,Nz,Nz,.int .i64 0,.bool false,Nz,Nz,Nz],kA X.wq 0 [.map (some X.fb),.map (some X.gb),us],ao us (U.map λu=>kO (some u.q)) H,[.obj X.fb (.map X.bM X.fc)],[.obj X.gb (.map X.bQ X.gc)],WK U Vs,T,[.obj b (.map es c)],X.S]) (I:=λ_=>True) ?_ (λ_ _=>?_)
 .refine ae ?_;by_cases CT:0 < x.kids.length;rotate_left
  .rw[show decide ((0:Int) < (x.kids.length:Int))=false from Zf Zo];refine ae ?_;have AT:x.kids=[]:=vz Zo;exact⟨(),trivial,by rw[AT];exact C0,ZI⟩
  obtain rfl:=ha Zo;rw[show decide ((0:Int) < (x.kids.length:Int))=true from Zt Zo];obtain⟨r,Iz⟩:∃r,x.kids[0]? =some r:=⟨_,Zg Zo⟩;obtain⟨r1,r2,r3,r4,r5,r6,r7,p1,d1,p2,d2,p3,d3,bk2,o2,Kr,UQ,_⟩:=eW (K 0 r Iz);have f0:kC.cell bk J (.int .u8 r.kind)∈X.S:=hm 0 Zo _ (by rw[UQ];exact kJ.2 ⟨0,_,rfl,Zs⟩);have f1:kC.cell bk (J+1) (.string r.name)∈X.S:=hm 0 Zo _ (by rw[UQ];exact kJ.2 ⟨1,_,rfl,Zs⟩);have Ee:jO x.kids=jR r:=by
   exact zDS
  refine ae ?_;by_cases Uu:r.kind=2
  .rw[show decide ((r.kind:Int)=2)=true from Zt Zo];refine ae ?_;have hse:jR r=decide (r.name=⟨#[115,117,112,101,114]⟩):=by
    unfold jR;rw[Zt Uu,vW];exact decide_eq_decide.2 dS
   exact⟨(),trivial,by rw[Ee,hse];exact C0,ZI⟩
  .rw[show decide ((r.kind:Int)=2)=false from Zf Zo];refine ae ?_;have hse:jR r=false:=by
    unfold jR;rw[Zf Uu,vL]
   exact⟨(),trivial,by rw[Ee,hse];exact C0,ZI⟩
 refine VC.join (α:=PaS) (bg:=λp=>[(0,kE X.wq),(2,kE u.q),(3,.map (some b)),(5,kE D),(8,kE C),(12,kE s),(13,.slice p.a p.l.length p.ac),(14,.bool (jO x.kids))]) (Hf:=λp=>[kA s 0 [.int .u8 p.k,.string p.nm,p.l1,p.l2,p.l3,p.l4,p.l5,p.rv,.int .i64 0,.bool false,Nz,p.vv,Nz],kA D 0 (rN x.kind x.name e1 e2 e3 e4 e5 e6 e7 O x.args.length Y Q x.ab.length Z m x.kids.length c3 x.at_),kA C 0 [.int .u8 0,.string e0,.int .u8 0,.int .i64 0,.int .u64 0,.string e0,Nz,Nz,.int .i64 0,.bool false,Nz,Nz,Nz],kA X.wq 0 [.map (some X.fb),.map (some X.gb),p.us],ao p.us (p.U.map λu=>kO (some u.q)) p.bI,[.obj X.fb (.map X.bM X.fc)],[.obj X.gb (.map X.bQ X.gc)],WK p.U p.V,p.T,[.obj b (.map es c)],X.S,p.B]) (I:=PaI X x N st env i (U.map UC.q) (Vs.map ax.q)) ?_ ?_
 .skip
  have d:∀(k:Nat) (nm:ByteArray) (l:List Nd) (a:Option Addr) (ac bk J:Nat) (ks:Nat->List Value),jD X.F X.G x st env i=(.mk k nm eV [] 0 false (if x.kind=5 then wL (jO x.kids) (kT X.F X.G l st env i).1 else(kT X.F X.G l st env i).1),(kT X.F X.G l st env i).2)->
   Room st (jM l)->(0 < l.length->a=some ⟨bk,J,none⟩)->(∀j,j < l.length->∀y∈kA bk (J+j*11) (ks j),y∈X.S)->(∀j y,l[j]? =some y->jN X.S y (ks j))->Nd.ap l<=N->ss l=true->(x.kind=5->0 < l.length)->
   PaI X x N st env i (U.map UC.q) (Vs.map ax.q) ⟨k,nm,eV,.int .u8 0,.int .i64 0,.int .u64 0,.string e0,Nz,[],Nz,Nz,l,a,ac,bk,J,ks,st,us,H,U,Vs,T,[]⟩:=λk nm l a ac bk J ks h1 h2 h3 h4 h5 h6 h7 h8=>
   ⟨h1,qR _,wA.nil _,zH.nil _,yV.nil _,λ_=>rfl,hS,Gr.refl _,Qg _,Qg _,h2,h3,h4,h5,h6,h7,h8⟩
  refine jH ?_;by_cases h1:x.kind=1
  .rw[show decide ((x.kind:Int)=1)=true from Zt Zo];have AT:x.kids=[]:=vz (by rcases hk12 with k|k;exact absurd (.inl h1) k;exact k);have hP:=eo X.F X.G x.kind x.name x.lit x.args x.ab x.kids x.at_ st env i aR h1;rw[<- Nd.eta x]at hP;refine ae ?_;refine kH (RN X.S _ x.lit (Qt _) hlb _ nM) Zr ZP (λv Post L=>?_);obtain⟨ws,BL,rfl,Ft,rfl⟩:=L;simp only[aE];have Us:=Ft.rd;obtain⟨lsv,lrows,lsp,lK,rfl,_⟩:=Ft.parts;obtain⟨lea,lec,hlsv⟩:=Bm Us;simp only[vq,and_true,true_and]at hlsv;subst hlsv;refine ae ?_;refine⟨⟨1,e0,x.lit,cv x.lit.kind,vi x.lit.n,uv x.lit.bits,.string x.lit.text,.slice lea x.lit.items.length lec,[],.slice none 0 0,.slice none 0 0,x.kids,m,c3,bk,J,ks,st,us,H,U,Vs,T,BL⟩,⟨?_,Us,wA.nil _,zH.nil _,yV.nil _,λ_=>rfl,hS,Gr.refl _,Qg _,Qg _,nT,ha,hm,K,Dc,mV,λe=>absurd e Zo⟩,ZU,ai.cut (M:=[kA s 0 [.int .u8 1,.string e0,cv x.lit.kind,vi x.lit.n,uv x.lit.bits,.string x.lit.text,.slice lea x.lit.items.length lec,.slice none 0 0,.int .i64 0,.bool false,.slice none 0 0,.slice none 0 0,.slice none 0 0],kA D 0 (rN x.kind x.name e1 e2 e3 e4 e5 e6 e7 O x.args.length Y Q x.ab.length Z m x.kids.length c3 x.at_),kA C 0 [.int .u8 0,.string e0,.int .u8 0,.int .i64 0,.int .u64 0,.string e0,.slice none 0 0,.slice none 0 0,.int .i64 0,.bool false,.slice none 0 0,.slice none 0 0,.slice none 0 0],kA X.wq 0 [.map (some X.fb),.map (some X.gb),us],ao us (U.map λu=>kO (some u.q)) H,[.obj X.fb (.map X.bM X.fc)],[.obj X.gb (.map X.bQ X.gc)],WK U Vs,T,[.obj b (.map es c)],X.S,BL]) ZI (ai.perm Zs)⟩;simp only;rw[hP,AT,if_neg Zo,kT]
  rw[show decide ((x.kind:Int)=1)=false from Zf Zo];refine jH ?_;refine VC.join (α:=Unit) (bg:=λ_=>[(0,kE X.wq),(2,kE u.q),(3,.map (some b)),(5,kE D),(8,kE C),(12,kE s),(13,.slice m x.kids.length c3),(14,.bool (jO x.kids)),(52,.int .u8 x.kind),(73,.bool (decide (x.kind=2∨x.kind=3)))]) (Hf:=λ_=>[kA s 0 [.int .u8 0,.string e0,.int .u8 0,.int .i64 0,.int .u64 0,.string e0,Nz,Nz,.int .i64 0,.bool false,Nz,Nz,Nz],kA D 0 (rN x.kind x.name e1 e2 e3 e4 e5 e6 e7 O x.args.length Y Q x.ab.length Z m x.kids.length c3 x.at_),kA C 0 [.int .u8 0,.string e0,.int .u8 0,.int .i64 0,.int .u64 0,.string e0,Nz,Nz,.int .i64 0,.bool false,Nz,Nz,Nz],kA X.wq 0 [.map (some X.fb),.map (some X.gb),us],ao us (U.map λu=>kO (some u.q)) H,[.obj X.fb (.map X.bM X.fc)],[.obj X.gb (.map X.bQ X.gc)],WK U Vs,T,[.obj b (.map es c)],X.S]) (I:=λ_=>True) ?_ (λ_ _=>?_)
  .refine ae ?_;by_cases h2:x.kind=2
   .rw[show decide ((x.kind:Int)=2)=true from Zt Zo,Zt (show x.kind=2∨x.kind=3 from .inl h2)];exact Sk
   .rw[show decide ((x.kind:Int)=2)=false from Zf Zo,show decide (x.kind=2∨x.kind=3)=decide ((x.kind:Int)=3)from decide_eq_decide.2 Zo];exact Sk
  by_cases h23:x.kind=2∨x.kind=3
  .rw[Zt h23];refine jH ?_;refine VC.join (α:=Unit) (bg:=λ_=>[(0,kE X.wq),(2,kE u.q),(3,.map (some b)),(5,kE D),(8,kE C),(12,kE s),(13,.slice m x.kids.length c3),(14,.bool (jO x.kids))]) (Hf:=λ_=>[kA s 0 [.int .u8 x.kind,.string e0,.int .u8 0,.int .i64 0,.int .u64 0,.string e0,Nz,Nz,.int .i64 0,.bool false,Nz,Nz,Nz],kA D 0 (rN x.kind x.name e1 e2 e3 e4 e5 e6 e7 O x.args.length Y Q x.ab.length Z m x.kids.length c3 x.at_),kA C 0 [.int .u8 0,.string e0,.int .u8 0,.int .i64 0,.int .u64 0,.string e0,Nz,Nz,.int .i64 0,.bool false,Nz,Nz,Nz],kA X.wq 0 [.map (some X.fb),.map (some X.gb),us],ao us (U.map λu=>kO (some u.q)) H,[.obj X.fb (.map X.bM X.fc)],[.obj X.gb (.map X.bQ X.gc)],WK U Vs,T,[.obj b (.map es c)],X.S]) (I:=λ_=>True) ?_ (λ_ _=>?_)
   .refine ae ?_;by_cases h3:x.kind=3
    .rw[show decide ((x.kind:Int)=3)=true from Zt Zo];refine ae ?_;exact⟨(),trivial,ZU,ai.cut (M:=[kA s 0 [.int .u8 3,.string e0,.int .u8 0,.int .i64 0,.int .u64 0,.string e0,Nz,Nz,.int .i64 0,.bool false,Nz,Nz,Nz],kA D 0 (rN x.kind x.name e1 e2 e3 e4 e5 e6 e7 O x.args.length Y Q x.ab.length Z m x.kids.length c3 x.at_),kA C 0 [.int .u8 0,.string e0,.int .u8 0,.int .i64 0,.int .u64 0,.string e0,Nz,Nz,.int .i64 0,.bool false,Nz,Nz,Nz],kA X.wq 0 [.map (some X.fb),.map (some X.gb),us],ao us (U.map λu=>kO (some u.q)) H,[.obj X.fb (.map X.bM X.fc)],[.obj X.gb (.map X.bQ X.gc)],WK U Vs,T,[.obj b (.map es c)],X.S]) ZI (ai.perm (by simp[h3]))⟩
    .have h2:x.kind=2:=by omega
     rw[show decide ((x.kind:Int)=3)=false from Zf Zo];refine ae ?_;exact⟨(),trivial,ZU,ai.cut (M:=[kA s 0 [.int .u8 2,.string e0,.int .u8 0,.int .i64 0,.int .u64 0,.string e0,Nz,Nz,.int .i64 0,.bool false,Nz,Nz,Nz],kA D 0 (rN x.kind x.name e1 e2 e3 e4 e5 e6 e7 O x.args.length Y Q x.ab.length Z m x.kids.length c3 x.at_),kA C 0 [.int .u8 0,.string e0,.int .u8 0,.int .i64 0,.int .u64 0,.string e0,Nz,Nz,.int .i64 0,.bool false,Nz,Nz,Nz],kA X.wq 0 [.map (some X.fb),.map (some X.gb),us],ao us (U.map λu=>kO (some u.q)) H,[.obj X.fb (.map X.bM X.fc)],[.obj X.gb (.map X.bQ X.gc)],WK U Vs,T,[.obj b (.map es c)],X.S]) ZI (ai.perm (by simp[h2]))⟩
   have pM:=MC X.F X.G X.wq X.fb X.gb us X.bM X.bQ X.fc X.gc hX.f hX.g x.kind x.name (.int .u8 e1) (.int .i64 e2) (.int .u64 e3) (.string e4) (.slice e5 e6 e7) (.slice O x.args.length Y) (.slice Q x.ab.length Z) (.slice m x.kids.length c3) x.at_ st U Vs hS.rep i u hu hS.ok hsb env b es c hs Hi;have Us:=Bd X.F X.G st env x.name i x.at_ (decide (x.kind=3));have He:=AG X.F X.G st env x.name i x.at_ (decide (x.kind=3));have KZ:=gS X.F X.G st env x.name i x.at_ (decide (x.kind=3));have Uv:=raw_ref (F:=X.F) (G:=X.G) (st:=st) (env:=env) (nm:=x.name) (u:=i) (p:=x.at_) (put:=decide (x.kind=3));obtain⟨R,hR⟩:∃R,R=wC X.F X.G st env x.name i x.at_ (decide (x.kind=3)):=⟨_,rfl⟩;rw[<- hR]at pM Us He KZ Uv;have hP:jD X.F X.G x st env i=(.mk x.kind e0 eV [R.1] 0 false (kT X.F X.G x.kids R.2 env i).1,(kT X.F X.G x.kids R.2 env i).2):=by
    rcases h23 with h2|h3
    .have AT:x.kids=[]:=vz (by rcases hk12 with k|k;exact absurd (.inr h2) k;exact k);have hP:=ep X.F X.G x.kind x.name x.lit x.args x.ab x.kids x.at_ st env i aR h2;rw[<- Nd.eta x]at hP;rw[hP,AT,kT,hR,h2];rfl
    .have hP:=et X.F X.G x.kind x.name x.lit x.args x.ab x.kids x.at_ st env i aR h3;rw[<- Nd.eta x]at hP;rw[hP,hR,h3];rfl
   have tP:Room R.2 (jM x.kids):=Room.less (n:=1) (bP.mono (by rw[Uh];unfold gu;omega)) Us;refine ae ?_;refine kN pM Zr ZP (λv Post L=>?_) (λch Post hz=>?_);rotate_left
   .obtain⟨q1,Sn,fC,rfl,rfl⟩:=hz;exact⟨[X.S,jU q1 Sn x.at_],ZI,q1,Sn,x.at_,by rw[hP];exact(wk _ _ _ _ _ _).f _ fC,rfl,rfl⟩
   obtain⟨U2,E,⟨Fm,L,M5,lR,rG,rX⟩,rfl⟩:=L;simp only[aE];have Ko:∀W:List UC,(W.map λu=>kO (some u.q))=(W.map UC.q).map λb=>kO (some b):=λW=>by rw[QE];rfl
   have Ld:(U2.map λu=>kO (some u.q))=U.map λu=>kO (some u.q):=by rw[Ko,lR,<- Ko]
   have Hb:iU R.2 us H U2 E T:=by
    have Iv:U2.length=U.length:=by have:=congrArg List.length lR;rwa [Q6,Q6]at this
    refine⟨M5,Fm,by rw[Iv,Ld];exact hS.sl,λj w hw=>?_⟩;have fC:(U.map UC.body)[j]? =some w.body:=by rw[<- rG,Vu,hw];rfl
    rw[Vu]at fC;obtain⟨w1,Hn,hwb⟩:=X9.1 fC;rw[KZ,<- hwb];exact(hS.bod j w1 Hn).more (λx hx=>hx) (by rw[rX];exact Qg _)
   have F3:E.length=R.2.vars.length:=M5.vl;by_cases h99:R.1.kind=99
   .obtain⟨vv,hve,hvr⟩:=Uv h99;have UR:vv < (E.map ax.q).length:=by
     rw[Q6,F3];exact Qw (hs.lt vv hve) He.vars.length_le
    have hqe:(E.map ax.q).getD vv 0=xd E vv:=by
     have hvlt2:vv < E.length:=by rwa [Q6]at UR
     unfold xd;rw[Vh,Vh,Vu,Zg hvlt2];rfl
    have nP:uw E R.1=.tuple #[.agg rz.toArray,kE (xd E vv)]:=by
     rw[hvr];rfl
    rw[nP]at L;subst L;unfold rz;refine ae ?_;refine kK (λq15=>?_);refine ae ?_;refine j8 (out:=[kE (xd E vv)]) Zr Zr (λrr=>?_);refine ae ?_;refine⟨⟨x.kind,e0,eV,.int .u8 0,.int .i64 0,.int .u64 0,.string e0,Nz,[cZ vv],Nz,.slice (some ⟨rr,0,none⟩) 1 1,x.kids,m,c3,bk,J,ks,R.2,us,H,U2,E,T,kA rr 0 [kE (xd E vv)]⟩,
     ⟨?_,qR _,wA.nil _,?_,?_,λ_=>rfl,Hb,He,by rw[lR];exact Qg _,by rw[rX];exact Qg _,tP,ha,hm,K,Dc,mV,λe=>absurd e Zo⟩,ZU,by simp only[Ld];exact bT⟩
    .simp only;rw[hP,hvr,if_neg Zo]
    .show zH _ _ [(E.map ax.q).getD ((vv:Int)).toNat 0];rw[vX,hqe];refine⟨_,_,rfl,λj q hj=>⟨rr,0,rfl,?_⟩⟩;cases j with
     |zero=>
      obtain rfl:xd E vv=q:=by simpa using hj
      exact kJ.2 ⟨0,_,rfl,rfl⟩
     |succ j=>simp at hj
    .exact⟨.inl λr K=>by rw[QU.1 K];rfl,λr K _=>⟨vv,QU.1 K,UR⟩⟩
   .have nP:uw E R.1=.tuple #[.agg (kf R.1).toArray,.pointer none]:=by
     unfold uw;rw[if_neg h99]
    rw[nP]at L;subst L;unfold kf;refine ae ?_;refine kK (λq15=>?_);refine ae ?_;refine j8 (out:=[.int .u8 R.1.kind,.int .i64 R.1.index,.int .i64 R.1.slot,.string R.1.name]) Zr Zr (λrr=>?_);refine ae ?_;have nQ:zQ [R.1]=[R.1]:=by unfold zQ;rw[V6,if_pos (Zt h99)];rfl
    have Za:fG [R.1]=[]:=by unfold fG;rw[V6,if_neg (by simpa using h99)];rfl
    refine⟨⟨x.kind,e0,eV,.int .u8 0,.int .i64 0,.int .u64 0,.string e0,Nz,[R.1],.slice (some ⟨rr,0,none⟩) 1 1,Nz,x.kids,m,c3,bk,J,ks,R.2,us,H,U2,E,T,kA rr 0 (kf R.1)⟩,
     ⟨?_,qR _,?_,?_,?_,λe=>?_,Hb,He,by rw[lR];exact Qg _,by rw[rX];exact Qg _,tP,ha,hm,K,Dc,mV,λe=>absurd e Zo⟩,ZU,by simp only[Ld];unfold kf;exact bT⟩
    .simp only;rw[hP,if_neg Zo]
    .show wA _ _ (zQ [R.1]);rw[nQ];refine⟨_,_,rfl,λj q hj=>⟨rr,0,rfl,λy hy=>?_⟩⟩;cases j with
     |zero=>
      obtain rfl:R.1=q:=by simpa using hj
      exact hy
     |succ j=>simp at hj
    .show zH _ _ ((fG [R.1]).map _);rw[Za];exact zH.nil _
    .exact⟨.inr λr K=>by rw[QU.1 K];exact h99,λr K e=>by rw[QU.1 K]at e;exact absurd e h99⟩
    .have e:zQ [R.1]=[]:=e;rw[nQ]at e;cases e
  rw[Zf h23];refine jH ?_;by_cases h7:x.kind=7
  .rw[show decide ((x.kind:Int)=7)=true from Zt Zo];have hP:=eA X.F X.G x.kind x.name x.lit x.args x.ab x.kids x.at_ st env i aR h7;rw[<- Nd.eta x]at hP;have Hc:=Al X (.int .u8 x.kind) (.int .u8 e1) (.int .i64 e2) (.int .u64 e3) (.string e4) (.slice e5 e6 e7) (.string x.name) x.args x.ab (.slice O x.args.length Y) (.slice Q x.ab.length Z) bD bB x.kids m c3 bk J ks Zo ha hm K
    (λi' x' pP=>ih x' (by have:=Nd.aD (Zv pP);omega) (oe mV (Zv pP)) _ (K i' x' pP)) x.at_ st us H U Vs T hS (i:Int) ⟨Zo,Zo⟩ env b es c hs (λv L=>⟨i,rfl,Hi v L⟩) (by rw[<- Uh];exact bP)
   have hoq:og U (i:Int)=some u.q:=by
    unfold og;rw[if_neg Zo,vX,hu];rfl
   rw[hoq]at Hc;refine ae ?_;refine kN Hc Zr ZP (λv Post L=>?_) (λch Post hz=>?_);rotate_left
   .exact zE2
   obtain⟨pF,lP,U2,E,T2,⟨Hb,xK,xL,w,hw,rfl⟩,rfl⟩:=L;simp only[aE];have hnum:w.num=st.outer.length:=(Hb.rep.un _ w hw).2.2.2.1;have f4:kC.cell w.q 4 (.int .i64 st.outer.length)∈WK U2 E:=yP hw _ (QJ _ (Zw _ (kJ.2 ⟨4,_,by unfold UC.row;rw[hnum];rfl,rfl⟩)));refine ae ?_;refine jT ⟨.inr rfl,_,[kA X.wq 0 [.map (some X.fb),.map (some X.gb),pF],ao pF (U2.map λu=>kO (some u.q)) lP,[.obj X.fb (.map X.bM X.fc)],[.obj X.gb (.map X.bQ X.gc)],WK U2 E,T2,[.obj b (.map es c)],X.S,[]],.aI (us:=[.int .u8 8,.string e0,.int .u8 0,.int .i64 0,.int .u64 0,.string e0,Nz,Nz,.int .i64 st.outer.length,.bool false,Nz,Nz,Nz]) Zr Zr (λy hy=>by simp only[Vd,QG];repeat (first|exact Or.inl hy|refine Or.inr ?_)) .nil,ai.cut (M:=[kA X.wq 0 [.map (some X.fb),.map (some X.gb),pF],ao pF (U2.map λu=>kO (some u.q)) lP,[.obj X.fb (.map X.bM X.fc)],[.obj X.gb (.map X.bQ X.gc)],WK U2 E,T2,[.obj b (.map es c)],X.S]) ZI (ai.perm Zs),⟨pF,lP,U2,E,T2,_,⟨by rw[hP];exact Hb,xK,xL,_,rfl,?_⟩,rfl⟩⟩;rw[hP];exact Bq (k:=8) (nm:=e0) (lit:=eV) (refs:=[]) (unit:=st.outer.length) (cf:=false) (kids:=[]) (rows:=[]) (sv:=Nz) (sp:=[]) (vv:=Nz) (B:=[]) .nil (zy.nil _ _) (qR _) (wA.nil _) (zH.nil _) (yV.nil _)
  rw[show decide ((x.kind:Int)=7)=false from Zf Zo];refine jH ?_;by_cases h8:x.kind=8
  .rw[show decide ((x.kind:Int)=8)=true from Zt Zo];have hP:=eB X.F X.G x.kind x.name x.lit x.args x.ab x.kids x.at_ st env i aR h8;rw[<- Nd.eta x]at hP;refine ae ?_;exact⟨_,d 9 e0 x.kids m c3 bk J ks (by rw[hP,if_neg Zo]) nT ha hm K Dc mV (λe=>absurd e Zo),ZU,ai.cut (M:=[kA s 0 [.int .u8 9,.string e0,.int .u8 0,.int .i64 0,.int .u64 0,.string e0,Nz,Nz,.int .i64 0,.bool false,Nz,Nz,Nz],kA D 0 (rN x.kind x.name e1 e2 e3 e4 e5 e6 e7 O x.args.length Y Q x.ab.length Z m x.kids.length c3 x.at_),kA C 0 [.int .u8 0,.string e0,.int .u8 0,.int .i64 0,.int .u64 0,.string e0,Nz,Nz,.int .i64 0,.bool false,Nz,Nz,Nz],kA X.wq 0 [.map (some X.fb),.map (some X.gb),us],ao us (U.map λu=>kO (some u.q)) H,[.obj X.fb (.map X.bM X.fc)],[.obj X.gb (.map X.bQ X.gc)],WK U Vs,T,[.obj b (.map es c)],X.S]) ZI (ai.perm Zs)⟩
  rw[show decide ((x.kind:Int)=8)=false from Zf Zo];refine jH ?_;by_cases h9:x.kind=9
  .rw[show decide ((x.kind:Int)=9)=true from Zt Zo];have hP:=eC X.F X.G x.kind x.name x.lit x.args x.ab x.kids x.at_ st env i aR h9;rw[<- Nd.eta x]at hP;refine ae ?_;exact⟨_,d 10 e0 x.kids m c3 bk J ks (by rw[hP,if_neg Zo]) nT ha hm K Dc mV (λe=>absurd e Zo),ZU,ai.cut (M:=[kA s 0 [.int .u8 10,.string e0,.int .u8 0,.int .i64 0,.int .u64 0,.string e0,Nz,Nz,.int .i64 0,.bool false,Nz,Nz,Nz],kA D 0 (rN x.kind x.name e1 e2 e3 e4 e5 e6 e7 O x.args.length Y Q x.ab.length Z m x.kids.length c3 x.at_),kA C 0 [.int .u8 0,.string e0,.int .u8 0,.int .i64 0,.int .u64 0,.string e0,Nz,Nz,.int .i64 0,.bool false,Nz,Nz,Nz],kA X.wq 0 [.map (some X.fb),.map (some X.gb),us],ao us (U.map λu=>kO (some u.q)) H,[.obj X.fb (.map X.bM X.fc)],[.obj X.gb (.map X.bQ X.gc)],WK U Vs,T,[.obj b (.map es c)],X.S]) ZI (ai.perm Zs)⟩
  rw[show decide ((x.kind:Int)=9)=false from Zf Zo];refine jH ?_;by_cases h6:x.kind=6
  .rw[show decide ((x.kind:Int)=6)=true from Zt Zo];have hP:=ez X.F X.G x.kind x.name x.lit x.args x.ab x.kids x.at_ st env i aR h6;rw[<- Nd.eta x]at hP;refine jH ?_;refine VC.draws ⟨?_,?_,trivial⟩
   all_goals
    refine ae ?_;exact⟨_,d 7 x.name x.kids m c3 bk J ks (by rw[hP,if_neg Zo]) nT ha hm K Dc mV (λe=>absurd e Zo),ZU,ai.cut (M:=[kA s 0 [.int .u8 7,.string x.name,.int .u8 0,.int .i64 0,.int .u64 0,.string e0,Nz,Nz,.int .i64 0,.bool false,Nz,Nz,Nz],kA D 0 (rN x.kind x.name e1 e2 e3 e4 e5 e6 e7 O x.args.length Y Q x.ab.length Z m x.kids.length c3 x.at_),kA C 0 [.int .u8 0,.string e0,.int .u8 0,.int .i64 0,.int .u64 0,.string e0,Nz,Nz,.int .i64 0,.bool false,Nz,Nz,Nz],kA X.wq 0 [.map (some X.fb),.map (some X.gb),us],ao us (U.map λu=>kO (some u.q)) H,[.obj X.fb (.map X.bM X.fc)],[.obj X.gb (.map X.bQ X.gc)],WK U Vs,T,[.obj b (.map es c)],X.S]) ZI (ai.perm Zs)⟩
  rw[show decide ((x.kind:Int)=6)=false from Zf Zo];refine jH ?_;by_cases h5:x.kind=5
  .rw[show decide ((x.kind:Int)=5)=true from Zt Zo];have hP:=ew X.F X.G x.kind x.name x.lit x.args x.ab x.kids x.at_ st env i aR h5;rw[<- Nd.eta x]at hP;refine ae ?_;exact⟨_,d 6 e0 x.kids m c3 bk J ks (by rw[hP,if_pos h5]) nT ha hm K Dc mV (λe=>by rcases hk5 with k|k;exact absurd e k;exact k),ZU,ai.cut (M:=[kA s 0 [.int .u8 6,.string e0,.int .u8 0,.int .i64 0,.int .u64 0,.string e0,.slice none 0 0,.slice none 0 0,.int .i64 0,.bool false,.slice none 0 0,.slice none 0 0,.slice none 0 0],kA D 0 (rN x.kind x.name e1 e2 e3 e4 e5 e6 e7 O x.args.length Y Q x.ab.length Z m x.kids.length c3 x.at_),kA C 0 [.int .u8 0,.string e0,.int .u8 0,.int .i64 0,.int .u64 0,.string e0,.slice none 0 0,.slice none 0 0,.int .i64 0,.bool false,.slice none 0 0,.slice none 0 0,.slice none 0 0],kA X.wq 0 [.map (some X.fb),.map (some X.gb),us],ao us (U.map λu=>kO (some u.q)) H,[.obj X.fb (.map X.bM X.fc)],[.obj X.gb (.map X.bQ X.gc)],WK U Vs,T,[.obj b (.map es c)],X.S]) ZI (ai.perm Zs)⟩
  rw[show decide ((x.kind:Int)=5)=false from Zf Zo];refine jH ?_;have h4:x.kind=4:=by omega
  have D8:0 < x.kids.length:=by rcases hk4 with k|k;exact absurd h4 k;exact k
  cases Db:jO x.kids with
  |false=>
   have hP:=eu X.F X.G x.kind x.name x.lit x.args x.ab x.kids x.at_ st env i aR Zo Db;rw[<- Nd.eta x]at hP;refine VC.seq (VC.draws ⟨?_,?_,trivial⟩)
   all_goals
    refine ae ?_;exact⟨_,d 4 x.name x.kids m c3 bk J ks (by rw[hP,if_neg Zo]) nT ha hm K Dc mV (λe=>absurd e Zo),ZU,ai.cut (M:=[kA s 0 [.int .u8 4,.string x.name,.int .u8 0,.int .i64 0,.int .u64 0,.string e0,Nz,Nz,.int .i64 0,.bool false,Nz,Nz,Nz],kA D 0 (rN x.kind x.name e1 e2 e3 e4 e5 e6 e7 O x.args.length Y Q x.ab.length Z m x.kids.length c3 x.at_),kA C 0 [.int .u8 0,.string e0,.int .u8 0,.int .i64 0,.int .u64 0,.string e0,Nz,Nz,.int .i64 0,.bool false,Nz,Nz,Nz],kA X.wq 0 [.map (some X.fb),.map (some X.gb),us],ao us (U.map λu=>kO (some u.q)) H,[.obj X.fb (.map X.bM X.fc)],[.obj X.gb (.map X.bQ X.gc)],WK U Vs,T,[.obj b (.map es c)],X.S]) ZI (ai.perm Zs)⟩
  |true=>
   have hP:=yD X.F X.G x.kind x.name x.lit x.args x.ab x.kids x.at_ st env i aR Zo Db;rw[<- Nd.eta x]at hP;obtain rfl:=ha D8;have rZ:x.kids.tail.length=x.kids.length - 1:=List.length_tail;have hgt:∀j,x.kids.tail[j]? =x.kids[j+1]?:=λj=>by rw[List.getElem?_tail]
   have hsz2:Nd.ap x.kids.tail<=N/\jM x.kids.tail<=jM x.kids/\ss x.kids.tail=true:=by
    cases hkk2:x.kids with
    |nil=>rw[hkk2]at D8;simp at D8
    |cons y l=>
     rw[hkk2]at Dc mV;simp only[Nd.ap]at Dc;simp only[ss,vG]at mV;simp only[List.tail_cons,jM];exact⟨Zo,Zo,mV.2⟩
   obtain⟨o',AU⟩:∃o',o'=(if c3=1 then J else J+1*11):=⟨_,rfl⟩;refine VC.seq (VC.draws ⟨?_,?_,trivial⟩)
   all_goals
    refine ae ?_;refine ox (l:=1) Zr Zr rfl ⟨Zo,rV⟩ ?_;rw[<- AU,show x.kids.length - 1=x.kids.tail.length from rZ.symm];refine ae ?_;exact⟨_,d 5 x.name x.kids.tail (some ⟨bk,o',none⟩) (c3 - 1) bk (J+11) (λj=>ks (j+1)) (by rw[hP,if_neg Zo]) (nT.mono hsz2.2.1) (λh0=>by rw[AU,if_neg Zo]) (λj hj y hy=>hm (j+1) Zo y (by rw[show J+(j+1)*11=J+11+j*11 by omega];exact hy)) (λj y hy=>K (j+1) y (by rw[<- hgt];exact hy)) hsz2.1 hsz2.2.2 (λe=>absurd e Zo),ZU,ai.cut (M:=[kA s 0 [.int .u8 5,.string x.name,.int .u8 0,.int .i64 0,.int .u64 0,.string e0,Nz,Nz,.int .i64 0,.bool false,Nz,Nz,Nz],kA D 0 (rN x.kind x.name e1 e2 e3 e4 e5 e6 e7 O x.args.length Y Q x.ab.length Z (some ⟨bk,J,none⟩) x.kids.length c3 x.at_),kA C 0 [.int .u8 0,.string e0,.int .u8 0,.int .i64 0,.int .u64 0,.string e0,Nz,Nz,.int .i64 0,.bool false,Nz,Nz,Nz],kA X.wq 0 [.map (some X.fb),.map (some X.gb),us],ao us (U.map λu=>kO (some u.q)) H,[.obj X.fb (.map X.bM X.fc)],[.obj X.gb (.map X.bQ X.gc)],WK U Vs,T,[.obj b (.map es c)],X.S]) ZI (ai.perm Zs)⟩
 rintro⟨k,nm,lit,l1,l2,l3,l4,l5,refs,rv,vv,l,a,ac,bk',o',ks',bS,DC,pG,U1,V1,T1,B⟩ hp
 obtain⟨g1,g2,g3,g4,g5,g6,g7,g8,g9,g10,g11,g12,g13,g14,g15,g16,g17⟩:=hp;simp only at g1 g2 g3 g4 g5 g6 g7 g8 g9 g10 g11 g12 g13 g14 g15 g16 g17;dsimp only;obtain⟨w,hw,rH⟩:=uE hu g9;have Ω:∀v∈env,bS.af v∈bS.line i:=λv L=>by
  obtain⟨k1,k2⟩:=uB g8 hS.rep.wf g7.rep.wf cL (hs.lt v L);rw[k1,k2];exact Hi v L
 have O4:=Gs l;have aj:=Ae X l a ac bk' o' ks' Zo g12 g13 g14 (λj y hy=>ih y (by have:=Nd.aD (Zv hy);omega) (oe g16 (Zv hy)) _ (g14 j y hy)) bS DC pG U1 V1 T1 g7 i w hw env b es c (hs.more g8.vars g10 hS.rep.vl) Ω g11;rw[rH]at aj;have hlA:=S0 X.F X.G l bS env i;obtain⟨A,hA⟩:∃A,A=kT X.F X.G l bS env i:=⟨_,rfl⟩;rw[<- hA]at aj g1 hlA;obtain⟨ra,rc,Kp⟩:∃ra rc,rv=.slice ra (zQ refs).length rc:=let⟨x1,x2,x3,_⟩:=g3;⟨x1,x2,x3⟩;obtain⟨va,vc,Zc⟩:∃va vc,vv=.slice va ((fG refs).map λr=>(V1.map ax.q).getD r.index.toNat 0).length vc:=let⟨x1,x2,x3,_⟩:=g4;⟨x1,x2,x3⟩;obtain⟨y1,y2,y3,y4,y5,y6,y7,Kl⟩:∃(y1:Nat) (y2:Int) (y3:Nat) (y4:ByteArray) (y5:Option Addr) (y6 y7:Nat),[l1,l2,l3,l4,l5]=[.int .u8 y1,.int .i64 y2,.int .u64 y3,.string y4,.slice y5 y6 y7]:=by
  generalize hx:[l1,l2,l3,l4,l5]=lv at g2;cases g2 with
  |mk Se Im qK cP=>exact⟨_,_,_,_,_,_,_,rfl⟩
 simp only[vq,and_true]at Kl;obtain⟨rfl,rfl,rfl,rfl,rfl⟩:=Kl;have eN:∀(mL:Value) (dU:List Value) (U4:List UC) (V4:List ax) (T4:List kC) (sv:Value) (rows:List (List Value)) (sp:List Value) (B':List kC) (ps:List PN),V1.map ax.q <+:V4.map ax.q->ky 13 sv ps.length rows.flatten sp->zy B' (V4.map ax.q) ps rows->
  yz (ao sv rows.flatten sp++(B'++B)) (V4.map ax.q) (.mk k nm lit refs 0 false ps) ([cv k,.string nm]++[.int .u8 y1,.int .i64 y2,.int .u64 y3,.string y4,.slice y5 y6 y7]++[rv,.int .i64 0,.bool false,Nz,vv,sv]):=λmL dU U4 V4 T4 sv rows sp B' ps Fx bn cu=>by
  refine Bq bn (cu.more (λx hx=>Zw _ hx) (Qg _)) (g2.more λx hx=>QH _ hx) (g3.more λx hx=>QH _ hx) ?_ (g5.more Fx) g6;rw[EJ g5 Fx];exact g4.more λx hx=>QH _ hx
 subst Kp;subst Zc;generalize O5:(zQ refs).length=n1 at*;generalize Fv:((fG refs).map λr=>(V1.map ax.q).getD r.index.toNat 0).length=n2 at*;refine ae ?_;refine kN aj Zr ZP (λv Post L=>?_) (λch Post hz=>?_);rotate_left
 .obtain⟨q1,Sn,p1,fC,rfl,rfl⟩:=hz;exact⟨[X.S,jU q1 Sn p1],ZI,q1,Sn,p1,by rw[g1];exact fC,rfl,rfl⟩
 obtain⟨mL,dU,U4,V4,T4,B4,⟨Z9,Pa,Fw,rows,Cs,B5,Da,dH,rfl⟩,rfl⟩:=L;simp only[aE];obtain⟨sa,sc,rfl⟩:=Da.form;refine jH ?_;refine VC.join (α:=List (List Value)×List PN) (bg:=λ_=>[(8,kE C),(12,kE s)]) (Hf:=λp=>[kA s 0 [.int .u8 k,.string nm,.int .u8 y1,.int .i64 y2,.int .u64 y3,.string y4,.slice y5 y6 y7,.slice ra n1 rc,.int .i64 0,.bool false,Nz,.slice va n2 vc,.slice sa A.1.length sc],kA C 0 [.int .u8 0,.string e0,.int .u8 0,.int .i64 0,.int .u64 0,.string e0,Nz,Nz,.int .i64 0,.bool false,Nz,Nz,Nz],kA X.wq 0 [.map (some X.fb),.map (some X.gb),mL],ao mL (U4.map λu=>kO (some u.q)) dU,[.obj X.fb (.map X.bM X.fc)],[.obj X.gb (.map X.bQ X.gc)],WK U4 V4,T4,[.obj b (.map es c)],X.S,ao (.slice sa A.1.length sc) p.1.flatten Cs,B5,B]) (I:=λp=>p.2=(if x.kind=5 then wL (jO x.kids) A.1 else A.1)/\ky 13 (.slice sa A.1.length sc) p.2.length p.1.flatten Cs/\zy B5 (V4.map ax.q) p.2 p.1) ?_ ?_
 .refine jH ?_;by_cases h5:x.kind=5;rotate_left
  .rw[show decide ((x.kind:Int)=5)=false from Zf Zo];refine ae ?_;exact⟨(rows,A.1),⟨by rw[if_neg h5],Da,dH⟩,ZU,ai.cut (M:=[kA s 0 [.int .u8 k,.string nm,.int .u8 y1,.int .i64 y2,.int .u64 y3,.string y4,.slice y5 y6 y7,.slice ra n1 rc,.int .i64 0,.bool false,Nz,.slice va n2 vc,.slice sa A.1.length sc],kA C 0 [.int .u8 0,.string e0,.int .u8 0,.int .i64 0,.int .u64 0,.string e0,Nz,Nz,.int .i64 0,.bool false,Nz,Nz,Nz],kA X.wq 0 [.map (some X.fb),.map (some X.gb),mL],ao mL (U4.map λu=>kO (some u.q)) dU,[.obj X.fb (.map X.bM X.fc)],[.obj X.gb (.map X.bQ X.gc)],WK U4 V4,T4,[.obj b (.map es c)],X.S,ao (.slice sa A.1.length sc) rows.flatten Cs++B5,B]) ZI (ai.perm Zs)⟩
  rw[show decide ((x.kind:Int)=5)=true from Zt Zo];have CT:=g17 h5;obtain⟨sb,so,sc2,iG,hscl,hsla⟩:=Ef Da Zo;simp only[Value.slice.injEq,true_and]at iG;obtain⟨rfl,rfl⟩:=iG;have hrl:rows.length=A.1.length:=dH.len;obtain⟨so',hso'⟩:∃so',so'=(if sc=1 then so else so+1*13):=⟨_,rfl⟩;refine ae ?_;refine ox (l:=1) Zr Zr rfl ⟨Zo,hscl⟩ ?_;rw[<- hso'];refine ae ?_;refine VC.loop (α:=Nat) (bg:=λj=>[(8,kE C),(12,kE s),(14,.bool (jO x.kids)),(144,vi ((A.1.length - 1:Nat):Int)),(145,vi j)]) (Hf:=λj=>[kA s 0 [.int .u8 k,.string nm,.int .u8 y1,.int .i64 y2,.int .u64 y3,.string y4,.slice y5 y6 y7,.slice ra n1 rc,.int .i64 0,.bool false,Nz,.slice va n2 vc,.slice (some ⟨sb,so,none⟩) A.1.length sc],kA C 0 [.int .u8 0,.string e0,.int .u8 0,.int .i64 0,.int .u64 0,.string e0,Nz,Nz,.int .i64 0,.bool false,Nz,Nz,Nz],kA X.wq 0 [.map (some X.fb),.map (some X.gb),mL],ao mL (U4.map λu=>kO (some u.q)) dU,[.obj X.fb (.map X.bM X.fc)],[.obj X.gb (.map X.bQ X.gc)],WK U4 V4,T4,[.obj b (.map es c)],X.S,kA sb so ((zA (jO x.kids) rows j).flatten++Cs),B5,B]) (I:=λj=>j<=A.1.length - 1) (μ:=λj=>A.1.length - 1 - j) 0 (X3 _) ZU (by rw[RL,<- hsla];exact ai.cut (M:=[kA s 0 [.int .u8 k,.string nm,.int .u8 y1,.int .i64 y2,.int .u64 y3,.string y4,.slice y5 y6 y7,.slice ra n1 rc,.int .i64 0,.bool false,Nz,.slice va n2 vc,.slice (some ⟨sb,so,none⟩) A.1.length sc],kA C 0 [.int .u8 0,.string e0,.int .u8 0,.int .i64 0,.int .u64 0,.string e0,Nz,Nz,.int .i64 0,.bool false,Nz,Nz,Nz],kA X.wq 0 [.map (some X.fb),.map (some X.gb),mL],ao mL (U4.map λu=>kO (some u.q)) dU,[.obj X.fb (.map X.bM X.fc)],[.obj X.gb (.map X.bQ X.gc)],WK U4 V4,T4,[.obj b (.map es c)],X.S,ao (.slice (some ⟨sb,so,none⟩) A.1.length sc) rows.flatten Cs++B5,B]) ZI (ai.perm Zs)) ?_;intro j hj;refine ae ?_;by_cases aJ:j < A.1.length - 1;rotate_left
  .rw[show decide ((j:Int) < ((A.1.length - 1:Nat):Int))=false from Zf Zo];have hje:j=A.1.length - 1:=by omega
   subst hje;refine ae ?_;refine⟨(zA (jO x.kids) rows (A.1.length - 1),wL (jO x.kids) A.1),⟨by rw[if_pos h5],?_,Gu dH _⟩,ZU,by rw[hsla];exact bT⟩;rw[Mq];exact Da.other (by rw[rU (lF dH.w),rU dH.w,wh])
  rw[show decide ((j:Int) < ((A.1.length - 1:Nat):Int))=true from Zt Zo];obtain⟨r,Iz⟩:∃r,rows[j+1]? =some r:=⟨_,Zg Zo⟩;have Za:=dH.w r (Zv Iz);have hsj:(zA (jO x.kids) rows j)[j+1]? =some r:=by rw[zb Iz,if_neg Zo]
  have AZ:((zA (jO x.kids) rows j).flatten++Cs).set ((j+1)*13+9) (.bool (jO x.kids))=(zA (jO x.kids) rows (j+1)).flatten++Cs:=by
   have fS:=rU (lF (b:=jO x.kids) (j:=j) dH.w);rw[wh]at fS;rw[List.set_append_left _ _ (by rw[fS];omega),T3 (lF dH.w) hsj Zd,GM Iz]
  refine ae ?_;refine yX (us:=[.bool (jO x.kids)]) Zr Zr Zr Zr Zr (.there (.there (.there (.there (.there (.there (.there (.there (.there (.there (Ad.set1 (i:=(j+1)*13+9) Zo ?_))))))))))) ?_
  .have fS:=rU (lF (b:=jO x.kids) (j:=j) dH.w);rw[wh]at fS;rw[Vy,fS];omega
  rw[AZ];refine ae ?_;exact⟨j+1,Zo,Zo,ZU,ZI⟩
 rintro⟨rows5,ps⟩ ⟨K9,hsl5,UB⟩
 simp only at K9 hsl5 UB;dsimp only;rw[<- K9]at g1;have Hk:=eN mL dU U4 V4 T4 _ _ _ _ ps Fw hsl5 UB;refine ae ?_;refine jT ⟨.inr rfl,_,[kA X.wq 0 [.map (some X.fb),.map (some X.gb),mL],ao mL (U4.map λu=>kO (some u.q)) dU,[.obj X.fb (.map X.bM X.fc)],[.obj X.gb (.map X.bQ X.gc)],WK U4 V4,T4,[.obj b (.map es c)],X.S,ao (.slice sa A.1.length sc) rows5.flatten Cs++(B5++B)],.aI (us:=[.int .u8 k,.string nm,.int .u8 y1,.int .i64 y2,.int .u64 y3,.string y4,.slice y5 y6 y7,.slice ra n1 rc,.int .i64 0,.bool false,Nz,.slice va n2 vc,.slice sa A.1.length sc]) Zr Zr (λy hy=>by simp only[Vd,QG];repeat (first|exact Or.inl hy|refine Or.inr ?_)) .nil,ai.cut (M:=[kA X.wq 0 [.map (some X.fb),.map (some X.gb),mL],ao mL (U4.map λu=>kO (some u.q)) dU,[.obj X.fb (.map X.bM X.fc)],[.obj X.gb (.map X.bQ X.gc)],WK U4 V4,T4,[.obj b (.map es c)],X.S,ao (.slice sa A.1.length sc) rows5.flatten Cs,B5,B]) ZI (ai.perm Zs),⟨mL,dU,U4,V4,T4,_,⟨by rw[g1];exact Z9,g9.trans Pa,g10.trans Fw,_,rfl,by rw[g1];exact Hk⟩,rfl⟩⟩
theorem part_ok(X:Fix)(j:SG X):∀N,N < 1073741824->∀x,x.size<=N->Xb x=true->∀vs,jN X.S x vs->pW X x vs:=by
 intro N
 induction N with
 |zero=>intro _ x d;have:=x.size_pos;omega
 |succ N ih=>exact λhN x d g vs h=>Rx X j N Zo (ih Zo) x d g vs h
theorem RE(a b:Nat)(A:List kC)(B:List kC):iS Tryz.prog 48 [kE a,kE b] .returning .returning [A,B] (λPost=>Post=[A,B]):=by
 refine iS.intro low48 Zn9 .none ?_;refine ae ?_;refine pY.seq (pY.mY ?_);refine ae ?_;refine pY.cond (t:=false) Zr (λh=>by cases h) (λ_=>pY.skip ?_);exact kG (Post:=[A,B]) (.inl rfl) .nil rfl ZI
theorem EP(d g q e:Nat)(p:Int)(j:Value)(m:Value)(s:Value)(A:Value):iS Tryz.prog 48 [kE d,kE g] (.panicking (qE q)) (.panicking [{v:=H8 q,recovered:=true}]) [kA d 0 [j,m,s],kA g 0 [A],jU q e p] (λPost=>Post=[kA d 0 [.string e0,.int .i64 0,Nz],kA g 0 [H8 q],jU q e p]):=by
 refine iS.intro low48 Zn9 .some ?_;unfold H8;refine ae ?_;refine pY.seq (pY.mY ?_);refine ae ?_;refine pY.cond (t:=true) Zr (λ_=>pY.mY ?_) (λh=>by cases h);refine ae ?_;exact kG (Post:=[kA d 0 [.string e0,.int .i64 0,Nz],kA g 0 [.iface 80 (kE q)],jU q e p]) (.inl rfl) .nil rfl (by unfold e0;exact bT)
def hK(F G:List ByteArray)(x:Md):List jp×Nat×Int:=if jt x=0 then(zu F G x.args x.ab x.body).answer else([],jt x,0)
def ResR(S:List kC)(F G:List ByteArray)(x:Md)(v:Value)(Post:SH):Prop:=
 (∃l yv B,hK F G x=(l,0,0)/\v=.tuple #[.agg #[.string x.aQ,vi x.aA,yv],.nilIface]/\th B yv l/\Post=[S,B])∨
 (∃e p q,hK F G x=([],e,p)/\e≠0/\v=.tuple #[.agg #[.string e0,.int .i64 0,Nz],.iface 80 (kE q)]/\Post=[S,jU q e p])
theorem lL {x:Md}(h:jt x=0):∀y∈x.body,kM y≠none:=by
 have g:zC x≠none:=by
  intro e;unfold jt at h;rw[e]at h;cases h
 unfold zC at g;have d:=(lx (lx (wR g).2).2).2;rw[<- jl]at d;exact JT (ud d)
theorem Ro {x:Md}(h:jt x=0)(hw:Nd.ws x.body<=274877906944):ss x.body=true:=Nu λy d=>W4 y (lL h y d) (by have:=Nd.cj d;omega)
theorem fI(S:List kC)(x:Md)(vs:List Value)(h:Hy S x vs)(F G:List ByteArray)(fv gv:Value)(hF:cO S fv F)(hG:cO S gv G)(hFl:F.length<=1048576)(hGl:G.length<=1048576)(ο:iX x.args x.ab x.body<=1048576)(fq:Nd.ap x.body<=1048576)(hw:Nd.ws x.body<=274877906944):
 au Tryz.prog 15 [.agg vs.toArray,fv,gv] [S] (λv Post=>ResR S F G x v Post):=by
 have ξ:=Kt S x vs h;obtain⟨⟨Q,T,Z,tc,a,c,bk,o,us,rfl,bD,bB,bp⟩,bZ,pN⟩:=h;obtain⟨fa,fc,rfl,fS,AO⟩:=hF;obtain⟨ga,gc,rfl,hgl,He⟩:=hG;refine au.Nj low15 Zn9 ?_;simp only[F15,Eh,VDP];refine ae ?_;refine kX Zr (λO=>?_);simp only[Value.cells];refine kK (λd=>?_);refine kK (λg=>?_);refine ae ?_;refine kH ξ Zr ZP (λv Post hv=>?_);obtain⟨rfl,rfl⟩:=hv;simp only[aE];refine ae ?_;have hc255:jt x < 256:=by
  unfold jt Tt
  repeat' split
  all_goals omega
 by_cases hc:jt x=0;rotate_left
 .rw[show decide ((jt x:Int)=0)=false from Zf Zo];refine ae ?_;refine kX Zr (λq=>?_);simp only[Value.cells];refine ae ?_;refine⟨.inr rfl,[.agg #[.string e0,.int .i64 0,Nz],.iface 80 (kE q)],[S,jU q (jt x) 0],.aI (us:=[.string e0,.int .i64 0,Nz]) Zr Zr (λy hy=>by simp only[Vd,QG];repeat (first|exact Or.inl hy|refine Or.inr ?_)) (.cq Zr MJ .nil),by unfold jU W3;exact bT,.inr ⟨jt x,0,q,by unfold hK;rw[if_neg hc],hc,rfl,rfl⟩⟩
 rw[show decide ((jt x:Int)=0)=true from Zt Zo];have Fj:hK F G x=(zu F G x.args x.ab x.body).answer:=by unfold hK;rw[if_pos hc]
 have hkD:=lL hc;have mV:=Ro hc hw;refine ae ?_;refine⟨[kE d,kE g],Zr,?_⟩;refine ae ?_;refine lH (λA=>?_);refine ae ?_;refine lH (λC=>?_);refine ae ?_;refine kX Zr (λD=>?_);simp only[Value.cells];refine jH ?_;refine VC.join (α:=Array MapEntry×Nat) (bg:=λ_=>[(2,.slice ga G.length gc),(3,kE O),(6,kE d),(7,kE g),(9,kE D)]) (Hf:=λs=>[kA D 0 [.map (some A),.map (some C),Nz],[.obj A (.map s.1 s.2)],[.obj C (.map #[] 0)],S,kA g 0 [.nilIface],kA d 0 [.string e0,.int .i64 0,Nz],kA O 0 [.string x.aQ,.slice Q x.args.length T,.slice Z x.ab.length tc,vi x.aA,.slice a x.body.length c]]) (I:=λs=>rJ F s.1 s.2) ?_ ?_
 .refine ae ?_;refine VC.loop (α:=Nat×Array MapEntry×Nat) (bg:=λs=>[(2,.slice ga G.length gc),(3,kE O),(6,kE d),(7,kE g),(9,kE D),(31,.slice fa F.length fc),(32,vi F.length),(33,vi s.1)]) (Hf:=λs=>[kA D 0 [.map (some A),.map (some C),Nz],[.obj A (.map s.2.1 s.2.2)],[.obj C (.map #[] 0)],S,kA g 0 [.nilIface],kA d 0 [.string e0,.int .i64 0,Nz],kA O 0 [.string x.aQ,.slice Q x.args.length T,.slice Z x.ab.length tc,vi x.aA,.slice a x.body.length c]]) (I:=λs=>s.1<=F.length/\DH F s.1 s.2.1 s.2.2) (μ:=λs=>F.length - s.1) (0,#[],0) ⟨X3 _,DH.nil F⟩ ZU (by unfold e0;exact bT) ?_
  rintro⟨j,es,c0⟩ ⟨hj,Y6⟩
  simp only at hj Y6;dsimp only;refine ae ?_;by_cases aJ:j < F.length;rotate_left
  .rw[show decide ((j:Int) < (F.length:Int))=false from Zf Zo];refine ae ?_;exact⟨(es,c0),Y6.all Zo,ZU,ZI⟩
  rw[show decide ((j:Int) < (F.length:Int))=true from Zt Zo];obtain⟨s,hs⟩:∃s,F[j]? =some s:=⟨_,Zg aJ⟩;obtain⟨b1,o1,rfl,fD,hss⟩:=AO j s hs;obtain⟨m,CU,qK⟩:=Y6.is;refine ae ?_;refine zM (E:=yc) (V:=λn:Nat=>.int .i64 n) (k:=s) Zr Zr rfl (.there .here) CU ?_;cases hg:jE s m with
  |some i0=>
   refine ae ?_;refine⟨(j+1,es,c0),⟨by simp only;omega,⟨m,CU,λnm=>?_⟩⟩,by simp only;omega,ZU,ZI⟩;show jE nm m=(F.take (j+1)).findIdx? _;rw[Ig hs,<- qK];by_cases e:s=nm
   .subst e;rw[hg];rfl
   .rw[if_neg e];simp
  |none=>
   refine ae ?_;refine zL (E:=yc) (V:=λn:Nat=>.int .i64 n) (k:=s) (v:=j) Zr Zr Zr rfl ZK CU (λcT c' nk=>?_);refine ae ?_;refine⟨(j+1,cT,c'),⟨by simp only;omega,⟨jv s j m,nk,λnm=>?_⟩⟩,by simp only;omega,ZU,ZI⟩;show jE nm (jv s j m)=(F.take (j+1)).findIdx? _;rw[Ig hs,<- qK,wT];by_cases e:s=nm
   .subst e;rw[if_pos rfl,if_pos rfl,hg];rfl
   .rw[if_neg e,if_neg e];simp
 rintro⟨bM,M⟩ M8
 simp only at M8;dsimp only;refine VC.join (α:=Array MapEntry×Nat) (bg:=λ_=>[(3,kE O),(6,kE d),(7,kE g),(9,kE D)]) (Hf:=λs=>[kA D 0 [.map (some A),.map (some C),Nz],[.obj A (.map bM M)],[.obj C (.map s.1 s.2)],S,kA g 0 [.nilIface],kA d 0 [.string e0,.int .i64 0,Nz],kA O 0 [.string x.aQ,.slice Q x.args.length T,.slice Z x.ab.length tc,vi x.aA,.slice a x.body.length c]]) (I:=λs=>xR G s.1 s.2) ?_ ?_
 .refine ae ?_;refine VC.loop (α:=Nat×Array MapEntry×Nat) (bg:=λs=>[(3,kE O),(6,kE d),(7,kE g),(9,kE D),(56,.slice ga G.length gc),(57,vi G.length),(58,vi s.1)]) (Hf:=λs=>[kA D 0 [.map (some A),.map (some C),Nz],[.obj A (.map bM M)],[.obj C (.map s.2.1 s.2.2)],S,kA g 0 [.nilIface],kA d 0 [.string e0,.int .i64 0,Nz],kA O 0 [.string x.aQ,.slice Q x.args.length T,.slice Z x.ab.length tc,vi x.aA,.slice a x.body.length c]]) (I:=λs=>s.1<=G.length/\DI G s.1 s.2.1 s.2.2) (μ:=λs=>G.length - s.1) (0,#[],0) ⟨X3 _,DI.nil G⟩ ZU ZI ?_
  rintro⟨j,es,c0⟩ ⟨hj,Y⟩
  simp only at hj Y;dsimp only;refine ae ?_;by_cases aJ:j < G.length;rotate_left
  .rw[show decide ((j:Int) < (G.length:Int))=false from Zf Zo];refine ae ?_;exact⟨(es,c0),Y.all Zo,ZU,ZI⟩
  rw[show decide ((j:Int) < (G.length:Int))=true from Zt Zo];obtain⟨s,hs⟩:∃s,G[j]? =some s:=⟨_,Zg aJ⟩;obtain⟨b1,o1,rfl,fD,hss⟩:=He j s hs;obtain⟨m,CU,qK,hm3⟩:=Y.is;have hms:=hm3 s;refine ae ?_;refine zM (E:=yc) (V:=λn:Nat=>.int .i64 n) (k:=s) Zr Zr rfl (.there (.there .here)) CU ?_;have Kl:ob false (.int .i64 0) ((jE s m).map λn:Nat=>.int .i64 n)=.int .i64 ((jE s m).getD 0:Nat):=by cases jE s m <;> rfl
  rw[Kl];generalize hgn:(jE s m).getD 0=gn at hms;refine ae ?_;refine zL (E:=yc) (V:=λn:Nat=>.int .i64 n) (k:=s) (v:=gn+1) Zr Zr Zr rfl ZK CU (λcT c' nk=>?_);refine ae ?_;refine⟨(j+1,cT,c'),⟨by simp only;omega,⟨jv s (gn+1) m,nk,λnm=>?_,λnm=>?_⟩⟩,by simp only;omega,ZU,ZI⟩
  .show decide ((jE nm (jv s (gn+1) m)).getD 0=0)=!(G.take (j+1)).any _;rw[T6 hs,wT];by_cases e:s=nm
   .subst e;simp
   .rw[if_neg e,Zf e,vV];exact qK nm
  .show(jE nm (jv s (gn+1) m)).getD 0<=j+1;rw[wT];by_cases e:s=nm
   .rw[if_pos e];show gn+1<=j+1;omega
   .rw[if_neg e];have:=hm3 nm;omega
 rintro⟨bQ,gcl⟩ Un
 simp only at Un;dsimp only;obtain⟨X,U⟩:∃X:Fix,X=⟨F,G,D,A,C,bM,bQ,M,gcl,S⟩:=⟨_,rfl⟩;have hXok:SG X:=by rw[U];exact⟨M8,Un⟩
 have hnl:=Gs x.body;refine ae ?_;refine lH (λmb=>?_);have hS0:iU fR Nz [] [] [] []:=⟨⟨ph0.wf,rfl,rfl,.nil,(λi u h=>by simp at h),(λi u h=>by simp at h),(λi u h=>by simp at h),(λi u h=>by simp at h),(λv x y h=>by simp[fR]at h)⟩,rfl,.nil,λi u h=>by simp at h⟩;have Hc:=Al X (.int .u8 0) (.int .u8 0) (.int .i64 0) (.int .u64 0) (.string e0) Nz (.string e0) x.args x.ab (.slice Q x.args.length T) (.slice Z x.ab.length tc) (by rw[U];exact bD) (by rw[U];exact bB) x.body a c bk o us Zo bp.at_ (by rw[U];exact bp.mem) (by rw[U];exact bp.rd)
  (λi' x' pP=>part_ok X hXok 1048576 Zo x' (by have:=Nd.aD (Zv pP);omega) (oe mV (Zv pP)) _ (by rw[U];exact bp.rd i' x' pP)) 0 fR Nz [] [] [] [] hS0 (-1) ⟨Zo,Zd⟩ [] mb #[] 0 ⟨.nil,(λv h=>by cases h),.nil⟩ (λv h=>by cases h) ⟨by show 0+_ < _;unfold iX at ο;omega,by show 0+_ < _;unfold iX at ο;omega,by show 0+_ < _;unfold iX at ο;omega⟩
 rw[U]at Hc;simp only at Hc;have Uz:lN F G x.args x.ab x.body 0 fR [] (-1)=zu F G x.args x.ab x.body:=rfl;rw[Uz]at Hc;have Ue:ju Tryz.prog 49 [kE D,.agg #[.int .u8 0,.string e0,.int .u8 0,.int .i64 0,.int .u64 0,.string e0,Nz,.slice Q x.args.length T,.slice Z x.ab.length tc,.slice a x.body.length c,.int .i64 0],.pointer none,.map (some mb)] [kA D 0 [.map (some A),.map (some C),Nz],[.obj A (.map bM M)],[.obj C (.map bQ gcl)],[.obj mb (.map #[] 0)],S] _ _:=(Hc.conv (R:=[]) (by simp[V.fJ,ao,WK]) (λv Post h=>⟨Post,h,by rw[vp];exact ai.refl _⟩) (λch Post h=>⟨Post,h,by rw[vp];exact ai.refl _⟩));have J:=x6 F G x.args x.ab x.body;have H:=EQ F G x.args x.ab x.body hkD;obtain⟨st,cX⟩:∃st,st=zu F G x.args x.ab x.body:=⟨_,rfl⟩;rw[<- cX]at Fj J H;simp only[<- cX]at Ue;refine kN Ue Zr ZP (λv Post hv=>?_) (λch Post hz=>?_);rotate_left
 .obtain⟨q,e,p,hf,rfl,rfl⟩:=hz;have hae:=HI hf;have he0:e≠0:=by rcases H.err e p hf with h|h|h <;> omega
  refine⟨[kA d 0 [.string e0,.int .i64 0,Nz],kA g 0 [.nilIface],jU q e p],_,_,_,EP d g q e p _ _ _ _,rfl,ZP,?_⟩;exact zB2
 obtain⟨DC,pG,U1,V1,T1,⟨KX,_,_,w,Hn,rfl⟩,rfl⟩:=hv;simp only[aE];obtain⟨l1,l2,l3⟩:=J.less;have W:Bnds st:=⟨⟨Zo,Zo,λj=>by
  rw[Vh];cases e:st.args[j]? with
  |none=>simp
  |some a=>have:=J.bw.ar a (Zv e);simp only[X7];omega⟩,λl hl=>by have:=J.bw.bd l hl;omega⟩
 have hsc:=Me st J.ph W KX.ok U1 V1 KX.rep.laid DC pG KX.sl T1 KX.bod D (.map (some A)) (.map (some C)) (.slice Q x.args.length T) (.slice Z x.ab.length tc) (.slice a x.body.length c) x.aQ x.aA;refine ae ?_;refine kN hsc Zr ZP (λv Post hv=>?_) (λch Post hz=>?_);rotate_left
 .obtain⟨q,hae,rfl,rfl⟩:=hz;obtain⟨e,he⟩:∃e:Nat,e=183:=⟨_,rfl⟩;obtain⟨p,hp⟩:∃p:Int,p=0:=⟨_,rfl⟩;rw[<- he,<- hp]at hae;have he0:e≠0:=by omega
  rw[show jU q 183 0=jU q e p by rw[he,hp]];refine⟨[kA d 0 [.string e0,.int .i64 0,Nz],kA g 0 [.nilIface],jU q e p],_,_,_,EP d g q e p _ _ _ _,rfl,ZP,?_⟩;exact zB2
 obtain⟨yv,B,⟨Im,rfl,N⟩,rfl⟩:=hv;obtain⟨K,L,hue⟩:∃K L,yv=.slice K ((List.range st.outer.length).map st.aB).length L:=let⟨e1,e2,_,_,_,e3,_⟩:=N;⟨e1,e2,e3⟩;subst hue;generalize hl:(List.range st.outer.length).map st.aB=lu at*;generalize Hi:lu.length=ln at*;simp only[aE];refine ae ?_;refine⟨.inr rfl,[kA d 0 [.string x.aQ,vi x.aA,.slice K ln L],kA g 0 [.nilIface]],_,_,RE d g _ _,ZP,?_⟩
 rintro Post rfl
 refine⟨.inr rfl,[.agg #[.string x.aQ,vi x.aA,.slice K ln L],.nilIface],[S,B],.aI (us:=[.string x.aQ,vi x.aA,.slice K ln L]) Zr Zr (λy hy=>by simp only[vr,QV,Vd,QG];repeat (first|exact Or.inl hy|refine Or.inr ?_)) (.cq Zr MJ .nil),by simp only[aE];exact bT,.inl ⟨_,_,B,Fj.trans Im,rfl,N,rfl⟩⟩
section
variable (A:List kC)
theorem N4:au Tryz.prog 16 [.nilIface] [A] (λv Post=>v=.tuple #[.int .i64 0,.int .i64 0]/\Post=[A]):=by
 refine au.intro low16 Zn9 ?_;refine ae ?_;refine kG (.inr rfl) (.tmp Zr (.tmp Zr .nil)) ⟨by simp[bN],rfl⟩ ZI
variable (hE:EtA∈A)
include hE
theorem Hz(k:Nat)(a n:Int)(ha:kC.cell k 1 (.int .i64 a)∈A)(g:kC.cell k 2 (.iface 44 (.int .i64 n))∈A):au Tryz.prog 16 [flP k] [A] (λv Post=>v=.tuple #[.int .i64 n,.int .i64 a]/\Post=[A]):=by
 refine au.intro low16 Zn9 ?_;unfold flP;refine ae ?_;refine kK (λpe=>?_);refine ae ?_;refine kK (λpf=>?_);refine ae ?_;refine kH (ZA A hE k pf _) Zr ZP (λv Post d=>?_);obtain⟨rfl,rfl⟩:=d;simp only[aE];refine ae ?_;refine kH (As_in A hE k n g pe _) Zr ZP (λv Post d=>?_);obtain⟨rfl,rfl⟩:=d;simp only[aE];refine ae ?_;refine kG (.inr rfl) (.tmp Zr (.tmp Zr .nil)) ⟨by simp[bN],rfl⟩ ZI
end
noncomputable section
def F73:aO:=aZ (o:=gF pq Tryz.f73 [])
theorem low73:Zo9 73 [] F73:=Zx9
end
end Go.Proofs.YtijnokbblmbpkaaGreatDoor
namespace Go.Proofs
open Go.Shelf
shelf_lay_g SlLaysW.n5 Slmc 5 at Tryz 72 as Tryz.slcl2
end Go.Proofs
namespace Go.Proofs.YtijnokbblmbpkaaGreatDoor
open Go Go.V
theorem HY(b:Nat)(es:Array MapEntry)(c:Nat):au Tryz.prog 72 [.map (some b)] [[.obj b (.map es c)]] (λv Post=>∃d,v=.map (some d)/\Post=[[.obj b (.map es c)],[.obj d (.map es c)]]):=by
 refine⟨by kernel_rfl,λF w hs=>?_⟩;have g:w.heap[b]? =some (.map es c):=(hs.obj (b:=b) (o:=.map es c) Zs).1;refine(AnyW.maps_Clone Tryz.slcl2 b es c w g).mono ?_;exact zBE
theorem Mm {P:Program}{n:Nat}{rs:List RO}{Γ:Env}{H R:SH}{Z:List PanicEntry->Env->SH->Prop}{K:Env->SH->Prop}{d:Option Nat}{s x:Operand}{sv:Value}{k:Nat}{xs sp:List Value}{a:Option Addr}{c:Nat}{l:List ByteArray}{A:List kC}
 (B:ev Γ s=some sv) (J:ev Γ x=some (.slice a l.length c)) (C:ky 1 sv k xs sp) (D:Tk H (ao sv xs sp) R) (N:cO A (.slice a l.length c) l) (M:∀y∈A,y∈R.flatten) (F:(2*(k+l.length)+192)*16<=2 ^ 48)
 (h:∀j q,ky 1 j (k+l.length) (xs++l.map Value.string) q->VO P n rs (aq d j Γ) (ao j (xs++l.map Value.string) q::R) Z K):VO P n (⟨d,none,.append 9 1 16 [.string ⟨#[]⟩] s x⟩::rs) Γ H Z K:=by
 by_cases hl:0 < l.length
 .exact kw (m:=l.length) (ys:=l.map Value.string) B J C D Zr ((RQ N hl).mono M) Zs (by simp[vg,jo]) Zr Zd F h
 .have L:l=[]:=vz Zo;subst L;have G:=h sv sp (by simpa using C);simp only[QF,vp]at G;have I:VO P n rs (aq d sv Γ) H Z K:=VO.imp (ai.perm (by simpa using D.perm)) G;have E:ev Γ x=some (.slice a 0 c):=J;cases C with
  |mk h1 h2' h3=>
   cases a with
   |none=>exact kw (m:=0) (ys:=[]) B E (.mk h1 h2' h3) D Zr Zr Zr Zr Zr Zd (by simpa using F) (λj q g=>by simpa using h j q (by simpa using g))
   |some ad=>exact rp B E h3 I
  |nil=>exact rq B E I
theorem xB(A:List kC)(j:Value)(l:List ByteArray)(h:cO A j l):au Tryz.prog 73 [j] [A] (λv Post=>∃B,gl v l B/\Post=[A,B]):=by
 obtain⟨a,c,rfl,hl,hr⟩:=h;refine au.intro low73 Zn9 ?_;have fq:∀t∈l,t.size<=140737488355328:=λt C=>by
  obtain⟨i,hi⟩:=Vv C;obtain⟨_,_,_,_,h⟩:=hr i t hi;exact h
 cases a with
 |none=>
  have d:l=[]:=by
   cases l with
   |nil=>rfl
   |cons t l=>obtain⟨_,_,h,_⟩:=hr 0 t rfl;cases h
  subst d;refine ae ?_;exact kG (Post:=[A,[]]) (.inr rfl) (.tmp Zr .nil) ⟨[],⟨[],.nil,rfl,Zs,Zs⟩,rfl⟩ ⟨[],by simp[V.fJ]⟩
 |some ad=>
  refine ae ?_;refine j8 (out:=[]) Zr Zr (λq=>?_);refine ae ?_;cases d:l with
  |nil=>
   subst d;refine rp Zr Zr (Qt _) ?_;refine ae ?_;exact kG (Post:=[A,[]]) (.inr rfl) (.tmp Zr .nil) ⟨[],⟨[],.mk rfl rfl (Qt _),rfl,Zs,Zs⟩,rfl⟩ ⟨[],by simp[V.fJ,kA]⟩
  |cons t l'=>
   rw[<- d];obtain⟨b,o,g,_⟩:=hr 0 t (by rw[d];rfl);cases g;have s:Src [A].flatten 1 l.length (l.map Value.string) (.slice (some ⟨b,o,none⟩) l.length c):=by
    exact zB5
   refine kw (k:=0) (m:=l.length) (xs:=[]) (sp:=[]) (ys:=l.map Value.string) Zr Zr (.mk rfl rfl (Qt _)) (show Tk [kA q 0 [],A] (kA q 0 []) [A]from .here) Zr s Zs (by simp[vg,jo]) Zr Zd Zo (λcw bA aH=>?_);exact zCC
theorem OQ(S:List kC)(D op A d:Nat):∀(N:Nat) (x:Nd),x.w<=N->∀vs,jN S x vs->∀(seen out:List ByteArray) (Dm:Array MapEntry) (mc hb:Nat) (nk:Array MapEntry) (hc:Nat) (sv:Value) (sp:List Value),FrOk seen out Dm mc nk hc sv sp->
 seen.length+x.w<=1099511627776->out.length+x.w<=1099511627776->
 au Tryz.prog 71 [.agg vs.toArray,.map (some hb),kE D,kE op,kE A] [kA D 0 [.map (some d)],kA op 0 [sv],kA A 0 [(.func (.func 71) #[] #[kE D,kE op,kE A])],[.obj d (.map Dm mc)],[.obj hb (.map nk hc)],ao (sv) ((out).map Value.string) sp,S]
  (λv Post=>∃T G cw bA,(v=.tuple #[]/\yy (pw seen out x) T G/\ky 1 cw (pw seen out x).length ((pw seen out x).map Value.string) bA)/\Post=[kA D 0 [.map (some d)],kA op 0 [cw],kA A 0 [(.func (.func 71) #[] #[kE D,kE op,kE A])],[.obj d (.map T G)],[.obj hb (.map nk hc)],ao (cw) ((pw seen out x).map Value.string) bA,S]):=by
 intro N
 induction N with
 |zero=>intro x hx;have:=x.iy;omega
 |succ N ih=>
  intro x hx vs h seen out Dm mc hb nk hc sv sp aN hsw how;obtain⟨Ut,D7,bn⟩:=aN;obtain⟨sa,sc,rfl⟩:=bn.form;cases h with
  |@mk k s lit args ab kids p lv av tv a cc bk o us wf hl bD bB ha hm hr rV=>
  obtain⟨aa,ac,rfl,hav1,fK⟩:=id bD;obtain⟨ta,tc,rfl,htv1,fN⟩:=id bB;have Kl:=hl;cases hl with
  |@mk k1 n1 b1 t1 items la lc CV lo IY Se Im qK cP=>
  simp only[Nd.w]at hx hsw how;obtain⟨mH,hH1,hH2,hH3⟩:=id D7.is;obtain⟨mM,hM1,hM2⟩:=id Ut.is;have hgs:=hH2 s;have hms:=hM2 s;obtain⟨s1,UE⟩:∃s1,s1=(if k=7 then seen++args++ab else seen):=⟨_,rfl⟩;obtain⟨o1,O7⟩:∃o1,o1=(if(k=2∨k=3)/\wV s=0/\s∉seen/\s∉out then out++[s]else out):=⟨_,rfl⟩;have AO:pw seen out (.mk k s (.mk k1 n1 b1 t1 items) args ab kids p)=ww s1 o1 kids:=by rw[pw,<- UE,<- O7]
  rw[AO];have hs1l:s1.length<=seen.length+args.length+ab.length:=by
   rw[UE];split
   .simp only[Vy];omega
   .omega
  have ho1l:o1.length<=out.length+1:=by
   rw[O7];split
   .simp
   .omega
  obtain⟨fn,xU⟩:∃fn,fn=(Value.func (.func 71) #[] #[kE D,kE op,kE A]):=⟨_,rfl⟩;have az:∀(z:Nd) (us:List Value),z∈kids->jN S z us->∀(seen out:List ByteArray) (Dm:Array MapEntry) (mc hb:Nat) (nk:Array MapEntry) (hc:Nat) (sv:Value) (sp:List Value),FrOk seen out Dm mc nk hc sv sp->seen.length+z.w<=1099511627776->out.length+z.w<=1099511627776->
   eH Tryz.prog fn [.agg us.toArray,.map (some hb)] [kA D 0 [.map (some d)],kA op 0 [sv],kA A 0 [fn],[.obj d (.map Dm mc)],[.obj hb (.map nk hc)],ao (sv) ((out).map Value.string) sp,S]
    (λv Post=>∃T G cw bA,(v=.tuple #[]/\yy (pw seen out z) T G/\ky 1 cw (pw seen out z).length ((pw seen out z).map Value.string) bA)/\Post=[kA D 0 [.map (some d)],kA op 0 [cw],kA A 0 [fn],[.obj d (.map T G)],[.obj hb (.map nk hc)],ao (cw) ((pw seen out z).map Value.string) bA,S]):=λz us Q U seen out Dm mc hb nk hc sv sp g1 g2 g3=>by
   have hzw:=Nd.cj Q;rw[xU];exact eH.cB (first:=#[]) (cap:=#[kE D,kE op,kE A]) (ih z Zo us U seen out Dm mc hb nk hc sv sp g1 g2 g3)
  rw[<- xU];refine au.intro low71 Zn9 ?_;simp only[aE];refine jH ?_;refine kX Zr (λq=>?_);simp only[Value.cells];refine jH ?_;refine VC.join (α:=Array MapEntry×Nat×Value×List Value×Nat×Array MapEntry×Nat×List kC) (bg:=λr=>[(1,.map (some r.2.2.2.2.1)),(4,kE A),(5,kE q)])
   (Hf:=λr=>[kA q 0 (rA k s k1 n1 b1 t1 la items.length lc aa args.length ac ta ab.length tc a kids.length cc p),kA D 0 [.map (some d)],kA op 0 [r.2.2.1],kA A 0 [fn],[.obj d (.map r.1 r.2.1)],[.obj r.2.2.2.2.1 (.map r.2.2.2.2.2.1 r.2.2.2.2.2.2.1)],ao (r.2.2.1) ((o1).map Value.string) r.2.2.2.1,S,r.2.2.2.2.2.2.2])
   (I:=λr=>yy o1 r.1 r.2.1/\td s1 r.2.2.2.2.2.1 r.2.2.2.2.2.2.1/\ky 1 r.2.2.1 o1.length (o1.map Value.string) r.2.2.2.1/\(kC.obj r.2.2.2.2.1 (.map r.2.2.2.2.2.1 r.2.2.2.2.2.2.1)::r.2.2.2.2.2.2.2).Perm (kC.obj hb (.map nk hc)::(if k=7 then [kC.obj r.2.2.2.2.1 (.map r.2.2.2.2.2.1 r.2.2.2.2.2.2.1)]else []))) ?_ ?_
  .refine ae ?_;by_cases pL:k=2
   .subst pL;exact zA9
   by_cases qI:k=3
   .subst qI;exact zA9
   have Hl:o1=out:=by rw[O7,if_neg (λc=>c.1.elim pL qI)]
   rw[show decide ((k:Int)=2)=false from Zf Zo];refine ae ?_;rw[show decide ((k:Int)=3)=false from Zf Zo];refine ae ?_;by_cases hk7:k=7;rotate_left
   .rw[show decide ((k:Int)=7)=false from Zf Zo];have IB:s1=seen:=by rw[UE,if_neg hk7]
    refine ae ?_;refine⟨(Dm,mc,.slice sa out.length sc,sp,hb,nk,hc,[]),⟨by rw[Hl];exact Ut,by rw[IB];exact D7,by rw[Hl];exact bn,by rw[if_neg hk7]⟩,ZU,?_⟩;dsimp only;rw[Hl];exact bT
   subst hk7;refine ae ?_;refine kH (HY hb nk hc) Zr ZP (λv Post hv=>?_);obtain⟨pz,rfl,rfl⟩:=hv;simp only[aE];have hnl:(args++ab).length=args.length+ab.length:=Vy;refine jH ?_;refine VC.oZ (α:=Value×List kC) (λr=>[(1,.map (some pz)),(4,kE A),(5,kE q),(47,r.1),(48,vi (args.length+ab.length:Nat)),(49,vi (0:Nat))])
    (λr=>[kA q 0 (rA 7 s k1 n1 b1 t1 la items.length lc aa args.length ac ta ab.length tc a kids.length cc p),r.2,[.obj pz (.map nk hc)],kA D 0 [.map (some d)],kA op 0 [.slice sa out.length sc],kA A 0 [fn],[.obj d (.map Dm mc)],[.obj hb (.map nk hc)],ao (.slice sa out.length sc) ((out).map Value.string) sp,S])
    (λr=>∃xa xc,r.1=.slice xa (args++ab).length xc/\cO r.2 r.1 (args++ab)) ⟨?_,?_,trivial⟩ ?_
   .exact zAG
   .exact zAG
   rintro⟨lv,X⟩ ⟨xa,xc,e1,Ed⟩
   simp only at e1 Ed;subst e1;obtain⟨xa',xc',e',hrl,Z⟩:=id Ed;cases e';dsimp only;refine ae ?_;refine VC.loop (α:=Nat×Array MapEntry×Nat) (bg:=λr=>[(1,.map (some pz)),(4,kE A),(5,kE q),(47,.slice xa (args++ab).length xc),(48,vi (args.length+ab.length:Nat)),(49,vi r.1)])
    (Hf:=λr=>[kA q 0 (rA 7 s k1 n1 b1 t1 la items.length lc aa args.length ac ta ab.length tc a kids.length cc p),X,[.obj pz (.map r.2.1 r.2.2)],kA D 0 [.map (some d)],kA op 0 [.slice sa out.length sc],kA A 0 [fn],[.obj d (.map Dm mc)],[.obj hb (.map nk hc)],ao (.slice sa out.length sc) ((out).map Value.string) sp,S])
    (I:=λr=>r.1<=args.length+ab.length/\td (seen++(args++ab).take r.1) r.2.1 r.2.2) (μ:=λr=>args.length+ab.length - r.1) (0,nk,hc) ⟨X3 _,by rw[Qm,vp];exact D7⟩ ZU ZI ?_
   rintro⟨j,G8,c2⟩ ⟨hj,K⟩
   simp only at hj K;dsimp only;refine ae ?_;by_cases aJ:j < args.length+ab.length;rotate_left
   .rw[show decide ((j:Int) < ((args.length+ab.length:Nat):Int))=false from Zf Zo];refine ae ?_;rw[Ql Zo]at K;refine⟨(Dm,mc,.slice sa out.length sc,sp,pz,G8,c2,[kC.obj hb (.map nk hc)]),⟨by rw[Hl];exact Ut,by rw[UE,if_pos rfl,vm];exact K,by rw[Hl];exact bn,List.Perm.swap _ _ _⟩,ZU,?_⟩;dsimp only;rw[Hl];exact bT
   rw[show decide ((j:Int) < ((args.length+ab.length:Nat):Int))=true from Zt Zo];obtain⟨nm,O6⟩:∃nm,(args++ab)[j]? =some nm:=⟨_,Zg Zo⟩;obtain⟨xb,xo,rfl,fD,hss⟩:=Z j nm O6;obtain⟨m2,k1',k2',k3'⟩:=id K.is;have k4:=k3' nm;have k5:=Ul (s:=nm) k2' k3';rw[Vy,QA]at k4;refine ae ?_;refine zM (E:=yc) (V:=λn:Nat=>.int .i64 n) (k:=nm) Zr Zr rfl Zay k1' ?_;rw[Nn];generalize hgn2:(jE nm m2).getD 0=gn2 at k4 k5;refine ae ?_;refine zL (E:=yc) (V:=λn:Nat=>.int .i64 n) (k:=nm) (v:=gn2+1) Zr Zr Zr rfl ZK k1' (λcT c' hes'=>?_);refine ae ?_;refine⟨(j+1,cT,c'),⟨by simp only;omega,?_⟩,by simp only;omega,ZU,ZI⟩;have cA:seen++(args++ab).take (j+1)=seen++(args++ab).take j++[nm]:=by rw[Qi,O6,vm];rfl
   rw[cA];exact⟨⟨_,hes',k5.1,k5.2⟩⟩
  rintro⟨mes1,mc1,sv1,sp1,Y,Fl,Y3,ex⟩ ⟨g1,g2,g3,g4⟩
  simp only at g1 g2 g3 g4;dsimp only;refine ae ?_;refine VC.loop (α:=Nat×Array MapEntry×Nat×Value×List Value) (bg:=λr=>[(1,.map (some Y)),(4,kE A),(59,.slice a kids.length cc),(60,vi kids.length),(61,vi r.1)])
   (Hf:=λr=>[kA D 0 [.map (some d)],kA op 0 [r.2.2.2.1],kA A 0 [fn],[.obj d (.map r.2.1 r.2.2.1)],[.obj Y (.map Fl Y3)],ao (r.2.2.2.1) ((ww s1 o1 (kids.take r.1)).map Value.string) r.2.2.2.2,S,ex])
   (I:=λr=>r.1<=kids.length/\yy (ww s1 o1 (kids.take r.1)) r.2.1 r.2.2.1/\ky 1 r.2.2.2.1 (ww s1 o1 (kids.take r.1)).length ((ww s1 o1 (kids.take r.1)).map Value.string) r.2.2.2.2) (μ:=λr=>kids.length - r.1) (0,mes1,mc1,sv1,sp1) ⟨X3 _,by rw[Qm,ww];exact g1,by rw[Qm,ww];exact g3⟩ ZU (by dsimp only;rw[Qm,ww];exact bT) ?_
  rintro⟨j,W,H,C,J⟩ ⟨hj,i1,i2⟩
  simp only at hj i1 i2;dsimp only;obtain⟨L,F⟩:∃L,L=ww s1 o1 (kids.take j):=⟨_,rfl⟩;rw[<- F]at i1 i2|-;have ho2l:L.length<=o1.length+Nd.ws (kids.take j):=by rw[F];exact AD s1 _ _
  refine ae ?_;by_cases aJ:j < kids.length;rotate_left
  .rw[show decide ((j:Int) < (kids.length:Int))=false from Zf Zo];rw[Ql Zo]at F;rw[<- F];refine ae ?_;refine kG (Post:=[kA D 0 [.map (some d)],kA op 0 [C],kA A 0 [fn],[.obj d (.map W H)],[.obj hb (.map nk hc)],ao (C) ((L).map Value.string) J,S]) (.inl rfl) .nil ⟨W,H,C,J,⟨rfl,i1,i2⟩,rfl⟩ ?_;refine ai.cut (M:=[kA D 0 [.map (some d)],kA op 0 [C],kA A 0 [fn],[.obj d (.map W H)],ao C (L.map Value.string) J,S,[.obj Y (.map Fl Y3)],ex]) ZI ?_;refine ai.cut (M:=[kA D 0 [.map (some d)],kA op 0 [C],kA A 0 [fn],[.obj d (.map W H)],ao C (L.map Value.string) J,S,[.obj hb (.map nk hc)],(if k=7 then [kC.obj Y (.map Fl Y3)]else [])]) (ai.perm ?_) ZI;simp only[Vd,Ve,vp];refine vZ _ (vZ _ (vZ _ (vZ _ (vZ _ (vZ _ ?_)))));exact g4
  rw[show decide ((j:Int) < (kids.length:Int))=true from Zt Zo];obtain rfl:=ha Zo;obtain⟨z,Q⟩:∃z,kids[j]? =some z:=⟨_,Zg aJ⟩;have U:=hr j z Q;have hzm:=hm j aJ;have bH:=wf.many;have cA:kids.take (j+1)=kids.take j++[z]:=by rw[Qi,Q];rfl
  have IJ:Nd.ws (kids.take j)+z.w<=Nd.ws kids:=by
   have e:kids=kids.take j++z::kids.drop (j+1):=by
    rw[<- Qj j kids]
    congr 1
    .rw[Qj]
    .rw[Qj,vw aJ]
     congr 1
     rw[Zg aJ]at Q;exact XC Q
   have:=Gv (z::kids.drop (j+1)) (kids.take j);rw[<- e]at this;rw[this];simp only[Nd.ws];omega
  have hzk:=az z (us j) (Zv Q) U s1 L W H Y Fl Y3 C J ⟨i1,g2,i2⟩ Zo Zo;generalize us j=uj at U hzm hzk;obtain⟨f1,f2,f3,f4,f5,f6,f7,f8,f9,f10,f11,f12,f13,f14,f15,f16,f17,rfl,fq,mV⟩:=yF U;refine ae ?_;refine kR Zr (λu hu=>QN.2 ⟨S,Zs,hzm u hu⟩) rfl ?_;refine ae ?_;refine kK (λq9=>?_);refine ae ?_;refine fj Zr hzk Zr ZP (λv Post hv=>?_);obtain⟨mes3,mc3,sv3,sp3,⟨rfl,j1,j2⟩,rfl⟩:=hv;simp only[aE];have O:ww s1 o1 (kids.take (j+1))=pw s1 L z:=by rw[cA,D6,F]
  refine ae ?_;refine⟨(j+1,mes3,mc3,sv3,sp3),⟨by simp only;omega,by simp only;rw[O];exact j1,by simp only;rw[O];exact j2⟩,by simp only;omega,ZU,?_⟩;dsimp only;rw[O];exact bT
theorem NZ(S:List kC)(x:Nd)(vs:List Value)(h:jN S x vs)(hw:x.w<=274877906944):au Tryz.prog 27 [.agg vs.toArray] [S] (λv Post=>∃B,gl v (pw [] [] x) B/\Post=[S,B]):=by
 have F:=MX [] x [];have W:=Ii [] 274877906944 x [] hw (λt K=>by cases K);have hd:∀(g op d j:Nat) (G:Array MapEntry) (I s:Nat),yy [] G I->eH Tryz.prog (.func (.func 71) #[] #[kE g,kE op,kE d]) [.agg vs.toArray,.map (some s)] [kA g 0 [.map (some j)],kA op 0 [Nz],kA d 0 [.func (.func 71) #[] #[kE g,kE op,kE d]],[.obj j (.map G I)],[.obj s (.map #[] 0)],ao Nz (([]:List ByteArray).map Value.string) [],S]
  (λv Post=>∃J A H C,(v=.tuple #[]/\yy (pw [] [] x) J A/\ky 1 H (pw [] [] x).length ((pw [] [] x).map Value.string) C)/\Post=[kA g 0 [.map (some j)],kA op 0 [H],kA d 0 [.func (.func 71) #[] #[kE g,kE op,kE d]],[.obj j (.map J A)],[.obj s (.map #[] 0)],ao H ((pw [] [] x).map Value.string) C,S]):=λg op d j G I s hm=>
  eH.cB (first:=#[]) (cap:=#[kE g,kE op,kE d]) (OQ S g op d j _ x (Qt _) vs h [] [] G I s #[] 0 Nz [] ⟨hm,td.nil,.nil⟩ (by rw[Q7];omega) (by rw[Q7];omega))
 obtain⟨g1,g2,g3,g4,g5,g6,g7,g8,g9,X,Y,Z,g13,g14,g15,g16,rfl⟩:=sr h;refine au.intro low27 Zn9 ?_;refine ae ?_;refine kX Zr (λq=>?_);simp only[Value.cells];refine ae ?_;refine kK (λop=>?_);refine ae ?_;refine lH (λj=>?_);refine ae ?_;refine zL (E:=yc) (V:=λn:Nat=>.int .i64 n) (k:=qX) (v:=1) Zr Zr Zr rfl ZK .nil (λQ c1 h1=>?_);refine ae ?_;refine zL (E:=yc) (V:=λn:Nat=>.int .i64 n) (k:=eg) (v:=1) Zr Zr Zr rfl ZK h1 (λG8 c2 h2=>?_);refine ae ?_;refine zL (E:=yc) (V:=λn:Nat=>.int .i64 n) (k:=Bv) (v:=1) Zr Zr Zr rfl ZK h2 (λT c3 h3=>?_);refine ae ?_;refine zL (E:=yc) (V:=λn:Nat=>.int .i64 n) (k:=qY) (v:=1) Zr Zr Zr rfl ZK h3 (λU c4 h4=>?_);refine ae ?_;refine zL (E:=yc) (V:=λn:Nat=>.int .i64 n) (k:=mi) (v:=1) Zr Zr Zr rfl ZK h4 (λm D h5=>?_);refine ae ?_;refine kK (λg=>?_);refine ae ?_;refine kK (λd=>?_);refine ae ?_;refine lH (λs=>?_);refine ae ?_;refine VO.imp (H':=[kA g 0 [.map (some j)],kA op 0 [Nz],kA d 0 [(.func (.func 71) #[] #[kE g,kE op,kE d])],[.obj j (.map m D)],[.obj s (.map #[] 0)],ao Nz (([]:List ByteArray).map Value.string) [],S]) ?_ ?_
 .show ai [[.obj s (.map #[] 0)],kA d 0 [(.func (.func 71) #[] #[kE g,kE op,kE d])],kA g 0 [.map (some j)],[.obj j (.map m D)],kA op 0 [Nz],kA q 0 _,S] [kA g 0 [.map (some j)],kA op 0 [Nz],kA d 0 [(.func (.func 71) #[] #[kE g,kE op,kE d])],[.obj j (.map m D)],[.obj s (.map #[] 0)],[],S];exact ai.cut (M:=[kA g 0 [.map (some j)],kA op 0 [Nz],kA d 0 [(.func (.func 71) #[] #[kE g,kE op,kE d])],[.obj j (.map m D)],[.obj s (.map #[] 0)],S]) ZI (ai.perm Zs)
 refine fj Zr (hd g op d j m D s ⟨⟨_,h5,Ww⟩⟩) Zr ZP (λv Post hv=>?_);obtain⟨J,A,H,C,⟨rfl,j1,L⟩,rfl⟩:=hv;simp only[aE];obtain⟨N,O,rfl⟩:=id L.form;refine ae ?_;exact kG (Post:=[S,ao (.slice N (pw [] [] x).length O) ((pw [] [] x).map Value.string) C]) (.inr rfl) (.tmp Zr .nil) ⟨_,⟨C,L,rfl,by rw[Q7]at F;omega,λt K=>by have:=W t K;omega⟩,rfl⟩ ZI
noncomputable section
def F11:aO:=aZ (o:=gF pq Tryz.f11 [])
theorem low11:Zo9 11 [] F11:=Zx9
end
def u1:List jp:=(hK [] [] m1).1
theorem an1:(hK [] [] m1).2=(0,0):=by kernel_rfl
theorem an2:(hK [] [] m2)=([],181,4):=by kernel_rfl
theorem un1:u1.length=3:=by kernel_rfl
theorem un2:u1[0]?.map (·.ay)=some 2:=by kernel_rfl
theorem un3:u1[1]?.map (·.copied.length)=some 2:=by kernel_rfl
theorem un4:(u1[1]?.bind (·.copied[0]?))=some ⟨5,1,0,e0⟩:=by kernel_rfl
theorem un5:(u1[2]?.bind (·.copied[1]?))=some ⟨5,0,0,e0⟩:=by kernel_rfl
theorem un6:u1[2]?.map (·.copied.length)=some 2:=by kernel_rfl
theorem Yo {B:List kC}{v:Value}(h:th B v u1):∃bk o c d o1 q g m s,v=.slice (some ⟨bk,o,none⟩) 3 c/\kC.cell bk (o+4) (.int .i64 2)∈B/\kC.cell bk (o+8) (.slice (some ⟨d,o1,none⟩) 2 q)∈B/\kC.cell bk (o+14) (.slice (some ⟨g,m,none⟩) 2 s)∈B/\
 (∀y∈kA d o1 [.int .u8 5,.int .i64 1,.int .i64 0,.string ⟨#[]⟩],y∈B)/\∀y∈kA g (m+4) [.int .u8 5,.int .i64 0,.int .i64 0,.string ⟨#[]⟩],y∈B:=by
 obtain⟨a,c,bk,o,us,rfl,I,j,C⟩:=h;obtain⟨x0,A,W⟩:=X9.1 un2;obtain⟨L,D,X⟩:=X9.1 un3;obtain⟨M,E,Y⟩:=X9.1 un6;have J:=un4;rw[D]at J;have K:=un5;rw[E]at K;rw[un1]at I j|-;obtain rfl:=I Zd;obtain⟨S,N,r0,p0,_⟩:=C 0 x0 A;obtain⟨T,O,r1,Z,_⟩:=C 1 L D;obtain⟨U,Q,r2,p2,_⟩:=C 2 M E;obtain⟨a1,q,rfl,q1⟩:=Z;obtain⟨a2,s,rfl,q2⟩:=p2;obtain⟨d,o1,rfl,s1⟩:=q1 0 _ J;obtain⟨g,m,rfl,s2⟩:=q2 1 _ K;have F:=j 0 Zd;have G:=j 1 Zd;have H:=j 2 Zd;rw[r0]at F;rw[r1,show L.copied.length=2 from X]at G;rw[r2,show M.copied.length=2 from Y]at H;refine⟨bk,o,c,d,o1,q,g,m,s,rfl,F _ ?_,G _ ?_,H _ ?_,s1,?_⟩
 .exact kJ.2 ⟨4,.int .i64 2,by rw[<- W];rfl,Zs⟩
 .exact kJ.2 ⟨2,_,rfl,Zs⟩
 .exact kJ.2 ⟨2,_,rfl,Zs⟩
 .exact s2
def bl0:Nd:=.mk 7 ⟨#[]⟩ (.mk 0 0 0 ⟨#[]⟩ []) [] [] [] 0
def wh0:Nd:=.mk 4 ⟨#[119,104,105,108,101,84,114,117,101]⟩ (.mk 0 0 0 ⟨#[]⟩ []) [] [] [bl0] 0
theorem cO.Jb(S:List kC):cO S Nz []:=⟨none,0,rfl,Zd,λi t h=>by simp at h⟩
theorem eV(S:List kC):zl S (.mk 0 0 0 ⟨#[]⟩ []) [cv 0,vi 0,uv 0,.string ⟨#[]⟩,Nz]:=.mk (a:=none) (c:=0) (bk:=0) (o:=0) (us:=λ_=>[]) ⟨Zd,Zd,Zd,Zd,Zd⟩ (λh=>absurd h Zs) (λi d=>absurd d Zs) (λi x g=>by simp at g)
def z11:List Value:=[.int .u8 7,.string ⟨#[]⟩,.int .u8 0,.int .i64 0,.int .u64 0,.string ⟨#[]⟩,Nz,Nz,Nz,Nz,.int .i64 0]
theorem bl0_rd(S:List kC):jN S bl0 z11:=
 .mk (a:=none) (c:=0) (bk:=0) (o:=0) (us:=λ_=>[]) ⟨Zd,Zd,Zd,Zd⟩ (eV S) (cO.Jb S) (cO.Jb S) (λh=>absurd h Zs) (λi d=>absurd d Zs) (λi x g=>by simp at g) (Qt _)
theorem wh0_rd(q c:Nat)(g:1<=c):jN (kA q 0 z11) wh0 [.int .u8 4,.string ⟨#[119,104,105,108,101,84,114,117,101]⟩,.int .u8 0,.int .i64 0,.int .u64 0,.string ⟨#[]⟩,Nz,Nz,Nz,.slice (some ⟨q,0,none⟩) 1 c,.int .i64 0]:=
 .mk (a:=some ⟨q,0,none⟩) (c:=c) (bk:=q) (o:=0) (us:=λ_=>z11) (kids:=[bl0]) ⟨Zd,Zd,Zd,Zd⟩ (eV _) (cO.Jb _) (cO.Jb _) (λ_=>rfl) (λi j y m=>by
  have:i=0:=by simpa using j
  subst this;simpa using m) (λi x d=>by
  cases i with
  |zero=>obtain rfl:bl0=x:=by simpa using d
         exact bl0_rd _
  |succ i=>simp at d) g
theorem inl_wh:iH wh0=true:=by kernel_rfl
theorem inl_b0:(m1.body[0]?).map iH=some false:=by kernel_rfl
theorem fr_b1:(m1.body[1]?).map (pw [] [])=some [⟨#[117]⟩,⟨#[116]⟩,⟨#[97]⟩]:=by kernel_rfl
theorem w_m1:Nd.ws m1.body<=274877906944:=Qs (by kernel_rfl)
theorem w_m2:Nd.ws m2.body<=274877906944:=Qs (by kernel_rfl)
theorem s_m1:Nd.ap m1.body<=1048576:=Qs (by kernel_rfl)
theorem s_m2:Nd.ap m2.body<=1048576:=Qs (by kernel_rfl)
theorem c_m1:iX m1.args m1.ab m1.body<=1048576:=Qs (by kernel_rfl)
theorem c_m2:iX m2.args m2.ab m2.body<=1048576:=Qs (by kernel_rfl)
theorem Res1(S:List kC)(vs:List Value)(h:Hy S m1 vs):au Tryz.prog 15 [.agg vs.toArray,Nz,Nz] [S] (λv Post=>∃m j d B,v=.tuple #[.agg #[.string m,.int .i64 j,d],.nilIface]/\th B d u1/\Post=[S,B]):=by
 refine(fI S m1 vs h [] [] _ _ (cO.Jb S) (cO.Jb S) (X3 _) (X3 _) c_m1 s_m1 w_m1).mono ?_
 rintro v Post (⟨l,d,B,g,rfl,A,rfl⟩|⟨e,p,q,g,s,_⟩)
 .have:u1=l:=by unfold u1;rw[g]
  rw[this];exact⟨_,_,d,B,rfl,A,rfl⟩
 .have:=an1;rw[g]at this;exact absurd (congrArg Prod.fst this) s
theorem Res2(S:List kC)(vs:List Value)(h:Hy S m2 vs):au Tryz.prog 15 [.agg vs.toArray,Nz,Nz] [S] (λv Post=>∃q,v=.tuple #[.agg #[.string e0,.int .i64 0,Nz],.iface 80 (kE q)]/\Post=[S,jU q 181 4]):=by
 refine(fI S m2 vs h [] [] _ _ (cO.Jb S) (cO.Jb S) (X3 _) (X3 _) c_m2 s_m2 w_m2).mono ?_
 rintro v Post (⟨l,yv,B,d,_⟩|⟨e,p,q,d,cI,rfl,rfl⟩)
 .rw[an2]at d;cases d
 .rw[an2]at d;cases d;exact⟨q,rfl,rfl⟩
end Go.Proofs.YtijnokbblmbpkaaGreatDoor

/-
  What a name stands for.
-/
import Derived.Test.YtijnokbblmbpkaaGreatDoorN20
import Derived.Test.YtijnokbblmbpkaaGreatDoorN17
import Derived.Test.YtijnokbblmbpkaaGreatDoorN6
import Derived.Test.YtijnokbblmbpkaaGreatDoorN12
import Derived.Test.YtijnokbblmbpkaaGreatDoorN5
import Derived.Test.YtijnokbblmbpkaaGreatDoorN7
set_option linter.all false
namespace Go.Proofs.YtijnokbblmbpkaaGreatDoor
open Go Go.V
set_option maxHeartbeats 6400000
set_option maxRecDepth 100000
theorem Ji(F G:List ByteArray)(wq fb gb:Nat)(us:Value)(bF bH:Array MapEntry)(fc gc:Nat)(hF:pE F bF fc)(hG:tS G bH gc)(k:Nat)(nm:ByteArray)(l1 l2 l3 l4 l5 a7 a8 a9:Value)(p:Int)
 (st:ah) (U:List UC) (Vs:List au) (hR:cy st U Vs) (i:Nat) (u:UC) (hu:U[i]? =some u) (hf:st.f=none) (hb:st.uses.length < 1073741824) (env:List Nat) (b:Nat) (es:Array MapEntry) (c:Nat) (hs:wn st Vs env es c) (DB:∀v∈env,st.af v∈st.line i):
 jb Tryz.prog 209 [kE wq,.agg #[cv k,.string nm,l1,l2,l3,l4,l5,a7,a8,a9,.int .i64 p],kE u.q,.map (some b)] [kA wq 0 [.map (some fb),.map (some gb),us],[.obj fb (.map bF fc)],[.obj gb (.map bH gc)],WK U Vs,[.obj b (.map es c)]]
  (fun v Post=>∃U' nM,((wF F G st env nm i p (decide (k=3))).2.f=none/\v=sg nM (wF F G st env nm i p (decide (k=3))).1/\cy (wF F G st env nm i p (decide (k=3))).2 U' nM/\U'.map UC.q=U.map UC.q/\U'.map UC.body=U.map UC.body/\nM.map au.q=Vs.map au.q)/\
    Post=[kA wq 0 [.map (some fb),.map (some gb),us],[.obj fb (.map bF fc)],[.obj gb (.map bH gc)],WK U' nM,[.obj b (.map es c)]])
  (fun ch Post=>∃q e,(wF F G st env nm i p (decide (k=3))).2.f=some (e,p)/\ch=oI q/\Post=[jL q e p]):=by
 obtain⟨mF,hF1,hF2⟩:=hF.is;obtain⟨mG,hG1,hG2⟩:=hG.is;refine jb.intro low209 (by simp[n209]) ?_;refine ae ?_;refine kW Zr (fun q5=>?_);simp only[Value.cells];refine kM (fun q8=>?_);refine ae ?_;by_cases h1:nm=⟨#[115,101,108,102]⟩
 ·have hk:wS nm=1:=by rw[h1];decide
  rw[Zt h1];exact zAY
 rw[Zf h1];refine ae ?_;by_cases h2:nm=⟨#[115,117,112,101,114]⟩
 ·have hk:wS nm=1:=by rw[h2];decide
  rw[Zt h2];exact zAY
 rw[Zf h2];refine ae ?_;by_cases h3:nm=⟨#[110,105,108]⟩
 ·have hk:wS nm=2:=by rw[h3];decide
  rw[Zt h3];refine ae ?_;have hr:=qq (F:=F) (G:=G) (st:=st) (env:=env) (nm:=nm) (u:=i) (p:=p) (put:=decide (k=3)) (by rw[hk];decide);rw[hr,hk];exact jJ ⟨.inr rfl,_,[kA wq 0 [.map (some fb),.map (some gb),us],[.obj fb (.map bF fc)],[.obj gb (.map bH gc)],WK U Vs,[.obj b (.map es c)]],.aS (us:=jS ⟨2,0,0,e0⟩) Zr Zr (fun y hy=>by simp only[V6,Q7];exact .inl hy) (.tmp Zr .nil),ZI,U,Vs,⟨hf,rfl,hR,rfl,rfl,rfl⟩,rfl⟩
 rw[Zf h3];refine ae ?_;by_cases h4:nm=⟨#[116,114,117,101]⟩
 ·have hk:wS nm=3:=by rw[h4];decide
  rw[Zt h4];refine ae ?_;have hr:=qq (F:=F) (G:=G) (st:=st) (env:=env) (nm:=nm) (u:=i) (p:=p) (put:=decide (k=3)) (by rw[hk];decide);rw[hr,hk];exact jJ ⟨.inr rfl,_,[kA wq 0 [.map (some fb),.map (some gb),us],[.obj fb (.map bF fc)],[.obj gb (.map bH gc)],WK U Vs,[.obj b (.map es c)]],.aS (us:=jS ⟨3,0,0,e0⟩) Zr Zr (fun y hy=>by simp only[V6,Q7];exact .inl hy) (.tmp Zr .nil),ZI,U,Vs,⟨hf,rfl,hR,rfl,rfl,rfl⟩,rfl⟩
 rw[Zf h4];refine ae ?_;by_cases h5:nm=⟨#[102,97,108,115,101]⟩
 ·have hk:wS nm=4:=by rw[h5];decide
  rw[Zt h5];refine ae ?_;have hr:=qq (F:=F) (G:=G) (st:=st) (env:=env) (nm:=nm) (u:=i) (p:=p) (put:=decide (k=3)) (by rw[hk];decide);rw[hr,hk];exact jJ ⟨.inr rfl,_,[kA wq 0 [.map (some fb),.map (some gb),us],[.obj fb (.map bF fc)],[.obj gb (.map bH gc)],WK U Vs,[.obj b (.map es c)]],.aS (us:=jS ⟨4,0,0,e0⟩) Zr Zr (fun y hy=>by simp only[V6,Q7];exact .inl hy) (.tmp Zr .nil),ZI,U,Vs,⟨hf,rfl,hR,rfl,rfl,rfl⟩,rfl⟩
 rw[Zf h5];refine ae ?_;have hk:=R0 h1 h2 h3 h4 h5;obtain⟨hg1,hg2⟩:=hs.find nm;refine wd (E:=zw) (V:=fun b=>kL (some b)) (k:=nm) Zr Zr rfl Zax hs.is ?_;rw[hg1];cases HC:jt st.vars env nm with
 |some v=>
  obtain⟨hg3,hg4,hg5⟩:=hg2 v HC;obtain⟨x,hx⟩:∃x,st.vars[v]? =some x:=⟨_,Zg hg4⟩;obtain⟨y,hy⟩:∃y,Vs[v]? =some y:=⟨_,Zg (by rw[hR.vl];exact hg4)⟩;have hyq:y.q=sZ Vs v:=by unfold sZ;rw[V8,hy];rfl
  have hfx:=(hR.vn v x y hx hy).2.2.1;have m2:kB.cell y.q 2 (.bool y.fixed)∈WK U Vs:=iU hy _ (kH.2 ⟨2,.bool y.fixed,rfl,Zs⟩);rw[hfx]at m2;simp only[mo,Qz,kL,if_false,vJ];rw[<- hyq];generalize hB:WK U Vs=B at m2|-;cases hxa:x.arg with
  |true=>
   rw[hxa]at m2;by_cases oM:k=3
   ·subst oM;have fI:(decide (3=3)&&((st.vars[v]?).map (·.arg)).getD false)=true:=by rw[hx];simp[hxa]
    have iw:=Fy (F:=F) (G:=G) (env:=env) (u:=i) (p:=p) hk HC fI hf;refine ae ?_;refine kK (cX 182 p) Zr ZP (fun v Post hv=>hv.elim) (fun ch Post hz=>?_);obtain⟨q,rfl,rfl⟩:=hz;exact⟨[jL q 182 p],ZI,q,182,iw,rfl,rfl⟩
   ·have fI:(decide (k=3)&&((st.vars[v]?).map (·.arg)).getD false)=false:=by simp[oM]
    refine ae ?_;rw[show decide ((k:Int)=3)=false from Zf Zo];exact zAO
  |false=>
   rw[hxa]at m2;have fI:(decide (k=3)&&((st.vars[v]?).map (·.arg)).getD false)=false:=by rw[hx];simp[hxa]
   exact zAO
 |none=>
  simp only[mo,Qy,if_false,vJ];refine ae ?_;refine wd (E:=zw) (V:=fun n:Nat=>.int .i64 n) (k:=nm) Zr Zr rfl Zax hF1 ?_;rw[hF2];cases hfi:F.findIdx? (fun s=>decide (s=nm))with
  |some fi=>
   simp only[mo,Qz,if_true];refine ae ?_;rw[ye hk HC hfi];exact jJ ⟨.inr rfl,_,[kA wq 0 [.map (some fb),.map (some gb),us],[.obj fb (.map bF fc)],[.obj gb (.map bH gc)],WK U Vs,[.obj b (.map es c)]],.aS (us:=jS ⟨7,fi,0,e0⟩) Zr Zr (fun y hy=>by simp only[V6,Q7];exact .inl hy) (.tmp Zr .nil),ZI,U,Vs,⟨hf,rfl,hR,rfl,rfl,rfl⟩,rfl⟩
  |none=>
   simp only[mo,Qy,if_true];refine ae ?_;refine wd (E:=zw) (V:=fun n:Nat=>.int .i64 n) (k:=nm) Zr Zr rfl Zax hG1 ?_;have hg:=hG2 nm;cases hga:G.any (fun s=>decide (s=nm))with
   |true=>
    rw[hga]at hg;have cF:(ky nm mG).getD 0≠0:=by simpa using hg
    obtain⟨n,hn⟩:∃n,ky nm mG=some n:=by
     cases e:ky nm mG with
     |none=>rw[e]at cF;exact absurd rfl cF
     |some n=>exact⟨n,rfl⟩
    rw[hn]at cF|-;simp only[Qv]at cF;simp only[mo,Qz,if_false,vJ];refine ae ?_;rw[show decide ((n:Int)=0)=false from Zf Zo];refine ae ?_;rw[Bs hk HC hfi hga];exact jJ ⟨.inr rfl,_,[kA wq 0 [.map (some fb),.map (some gb),us],[.obj fb (.map bF fc)],[.obj gb (.map bH gc)],WK U Vs,[.obj b (.map es c)]],.aS (us:=jS ⟨8,0,0,nm⟩) Zr Zr (fun y hy=>by simp only[V6,Q7];exact .inl hy) (.tmp Zr .nil),ZI,U,Vs,⟨hf,rfl,hR,rfl,rfl,rfl⟩,rfl⟩
   |false=>
    rw[hga]at hg;have iw:=Bt (F:=F) (G:=G) (st:=st) (env:=env) (nm:=nm) (u:=i) (p:=p) (put:=decide (k=3)) hk HC hfi hga hf;have hz0:(ky nm mG).getD 0=0:=by simpa using hg
    have hv0:mo false (.int .i64 0) ((ky nm mG).map fun n:Nat=>.int .i64 n)=.int .i64 0:=by
     cases e:ky nm mG with
     |none=>rfl
     |some n=>rw[e]at hz0;simp only[Qv]at hz0;rw[hz0];rfl
    rw[hv0];refine ae ?_;refine kK (cX 181 p) Zr ZP (fun v Post hv=>hv.elim) (fun ch Post hz=>?_);obtain⟨q,rfl,rfl⟩:=hz;exact⟨[jL q 181 p],ZI,q,181,iw,rfl,rfl⟩
structure Fix where
 F:List ByteArray
 G:List ByteArray
 wq:Nat
 fb:Nat
 gb:Nat
 bF:Array MapEntry
 bH:Array MapEntry
 fc:Nat
 gc:Nat
 S:List kB
structure NI (X:Fix):Prop where
 f:pE X.F X.bF X.fc
 g:tS X.G X.bH X.gc
def rq(X:Fix)(f:Nat)(args:List Value)(st G1:ah)(us:Value)(bC:List Value)(U:List UC)(Vs:List au)(T:List kB)(b:Nat)(es:Array MapEntry)(c:Nat)(R:Value->List Nat->List kB->Prop):Prop:=
 jb Tryz.prog f args [kA X.wq 0 [.map (some X.fb),.map (some X.gb),us],ai us (U.map fun u=>kL (some u.q)) bC,[.obj X.fb (.map X.bF X.fc)],[.obj X.gb (.map X.bH X.gc)],WK U Vs,T,[.obj b (.map es c)],X.S]
  (fun v Post=>∃Kw SJ U' nM T' B,(gB G1 Kw SJ U' nM T'/\U.map UC.q <+:U'.map UC.q/\Vs.map au.q <+:nM.map au.q/\R v (nM.map au.q) B)/\
    Post=[kA X.wq 0 [.map (some X.fb),.map (some X.gb),Kw],ai Kw (U'.map fun u=>kL (some u.q)) SJ,[.obj X.fb (.map X.bF X.fc)],[.obj X.gb (.map X.bH X.gc)],WK U' nM,T',[.obj b (.map es c)],X.S,B])
  (fun ch Post=>∃q e p,G1.f=some (e,p)/\ch=oI q/\Post=[X.S,jL q e p])
def XL(pn:PN)(v:Value)(qs:List Nat)(B:List kB):Prop:=∃ws,v=.agg ws.toArray/\uJ B qs pn ws
def AllR(l:List PN)(v:Value)(qs:List Nat)(B:List kB):Prop:=∃rows sp B',kY 13 v l.length rows.flatten sp/\zJ B' qs l rows/\B=ai v rows.flatten sp++B'
def ot(X:Fix)(x:Nd)(vs:List Value):Prop:=
 ∀st us bC U Vs T,gB st us bC U Vs T->∀(i:Nat) (u:UC),U[i]? =some u->∀env b es c,wn st Vs env es c->(∀v∈env,st.af v∈st.line i)->Room st (tA x)->
  rq X 172 [kE X.wq,.agg vs.toArray,kE u.q,.map (some b)] st (jF X.F X.G x st env i).2 us bC U Vs T b es c (XL (jF X.F X.G x st env i).1)
theorem sn {st G1:ah}(h:Gr st G1)(hw:Wf st)(rT:Wf G1){i:Nat}(hi:i < st.outer.length){v:Nat}(hv:v < st.vars.length):G1.line i=st.line i/\G1.af v=st.af v:=by
 refine⟨?_,?_⟩
 ·induction i using Nat.strongRecOn with
  |_ i ih=>
   have ho:G1.outer.getD i (-1)=st.outer.getD i (-1):=by
    obtain⟨t,ht⟩:=h.outer;rw[<- ht,V8,V8,VV hi]
   have hl:=h.outer.length_le;rw[rT.line Zo,hw.line Zo,ho]
   congr 1
   split
   ·rfl
   ·have:=hw.eZ i;exact ih _ Zo Zo
 ·obtain⟨t,ht⟩:=h.vars;unfold ah.af;rw[<- ht,VV hv]
theorem uP(X:Fix)(l:List Nd)(a:Option Addr)(ac bk o:Nat)(ks:Nat->List Value)(Ln:l.length < 1073741824)(ha:0 < l.length->a=some ⟨bk,o,none⟩)(hm:∀i,i < l.length->∀y∈kA bk (o+i*11) (ks i),y∈X.S)(hr:∀i x,l[i]? =some x->j7 X.S x (ks i))(aN:∀i x,l[i]? =some x->ot X x (ks i))
 (st:ah) (us:Value) (bC:List Value) (U:List UC) (Vs:List au) (T:List kB) (hS:gB st us bC U Vs T) (i:Nat) (u:UC) (hu:U[i]? =some u) (env:List Nat) (b:Nat) (es:Array MapEntry) (c:Nat) (hs:wn st Vs env es c) (DB:∀v∈env,st.af v∈st.line i) (bm:Room st (jO l)):
 rq X 112 [kE X.wq,.slice a l.length ac,kE u.q,.map (some b)] st (kT X.F X.G l st env i).2 us bC U Vs T b es c (AllR (kT X.F X.G l st env i).1):=by
 refine jb.intro low112 (by simp[n112]) ?_;refine ae ?_;refine VC.loop (α:=Nat×ah×Value×List Value×List UC×List au×List kB×Value×List (List Value)×List Value×List kB×List PN) (aW:=fun s=>[(0,kE X.wq),(2,kE u.q),(3,.map (some b)),(9,s.2.2.2.2.2.2.2.1),(12,.slice a l.length ac),(13,vi l.length),(14,vi s.1)])
  (Hf:=fun s=>[kA X.wq 0 [.map (some X.fb),.map (some X.gb),s.2.2.1],ai s.2.2.1 (s.2.2.2.2.1.map fun u=>kL (some u.q)) s.2.2.2.1,[.obj X.fb (.map X.bF X.fc)],[.obj X.gb (.map X.bH X.gc)],WK s.2.2.2.2.1 s.2.2.2.2.2.1,s.2.2.2.2.2.2.1,[.obj b (.map es c)],X.S,ai s.2.2.2.2.2.2.2.1 s.2.2.2.2.2.2.2.2.1.flatten s.2.2.2.2.2.2.2.2.2.1,s.2.2.2.2.2.2.2.2.2.2.1])
  (I:=fun s=>s.1<=l.length/\(∃w,s.2.2.2.2.1[i]? =some w/\w.q=u.q)/\gB s.2.1 s.2.2.1 s.2.2.2.1 s.2.2.2.2.1 s.2.2.2.2.2.1 s.2.2.2.2.2.2.1/\Gr st s.2.1/\U.map UC.q <+:s.2.2.2.2.1.map UC.q/\Vs.map au.q <+:s.2.2.2.2.2.1.map au.q/\Room s.2.1 (jO (l.drop s.1))/\
    (kT X.F X.G l st env i).2=(kT X.F X.G (l.drop s.1) s.2.1 env i).2/\(kT X.F X.G l st env i).1=s.2.2.2.2.2.2.2.2.2.2.2++(kT X.F X.G (l.drop s.1) s.2.1 env i).1/\s.2.2.2.2.2.2.2.2.2.2.2.length=s.1/\
    kY 13 s.2.2.2.2.2.2.2.1 s.1 s.2.2.2.2.2.2.2.2.1.flatten s.2.2.2.2.2.2.2.2.2.1/\zJ s.2.2.2.2.2.2.2.2.2.2.1 (s.2.2.2.2.2.1.map au.q) s.2.2.2.2.2.2.2.2.2.2.2 s.2.2.2.2.2.2.2.2.1) (μ:=fun s=>l.length - s.1) (0,st,us,bC,U,Vs,T,Nz,[],[],[],[])
  ⟨Qs _,⟨u,hu,rfl⟩,hS,Gr.refl st,QT _,QT _,bm,rfl,rfl,rfl,.nil,zJ.nil _ _⟩ ZU (aj.cut (M:=[kA X.wq 0 [.map (some X.fb),.map (some X.gb),us],ai us (U.map fun u=>kL (some u.q)) bC,[.obj X.fb (.map X.bF X.fc)],[.obj X.gb (.map X.bH X.gc)],WK U Vs,T,[.obj b (.map es c)],X.S]) ZI (aj.perm (by simp[ai]))) ?_
 rintro⟨j,bJ,Ay,nY,U1,V1,T1,sv,rows,sp,B,W4⟩ ⟨hj,⟨w,hw,pD⟩,GK,Ew,hpU,hpV,Te,Uy,S7,ii,bh,dB⟩
 simp only at hj hw pD GK Ew hpU hpV Te Uy S7 ii bh dB;dsimp only;obtain⟨sa,sc,gO⟩:=bh.form;subst gO;refine ae ?_;by_cases aI:j < l.length;rotate_left
 ·rw[show decide ((j:Int) < (l.length:Int))=false from Zf Zo];have tC:j=l.length:=by omega
  rw[tC,List.drop_length,kT]at S7 Uy;simp only[vd]at S7 Uy;have hpl2:W4.length=j:=ii;refine ae ?_;refine jJ (kG (Post:=[kA X.wq 0 [.map (some X.fb),.map (some X.gb),Ay],ai Ay (U1.map fun u=>kL (some u.q)) nY,[.obj X.fb (.map X.bF X.fc)],[.obj X.gb (.map X.bH X.gc)],WK U1 V1,T1,[.obj b (.map es c)],X.S,ai (.slice sa j sc) rows.flatten sp++B]) (.inr rfl) (.tmp (v:=.slice sa j sc) Zr .nil)
   ⟨Ay,nY,U1,V1,T1,_,⟨?_,hpU,hpV,rows,sp,B,?_,?_,rfl⟩,rfl⟩ (aj.cut (M:=[kA X.wq 0 [.map (some X.fb),.map (some X.gb),Ay],ai Ay (U1.map fun u=>kL (some u.q)) nY,[.obj X.fb (.map X.bF X.fc)],[.obj X.gb (.map X.bH X.gc)],WK U1 V1,T1,[.obj b (.map es c)],X.S,ai (.slice sa j sc) rows.flatten sp,B]) ZI (aj.perm Zs)))
  ·rw[Uy];exact GK
  ·rw[S7,hpl2];exact bh
  ·rw[S7];exact dB
 obtain rfl:=ha Zo;rw[show decide ((j:Int) < (l.length:Int))=true from Zt Zo];obtain⟨y,hy⟩:∃y,l[j]? =some y:=⟨_,Zg aI⟩;have OO:l.drop j=y::l.drop (j+1):=by
  rw[vh aI]
  congr 1
  rw[Zg aI]at hy;exact X0 hy
 rw[OO]at S7 Uy Te;simp only[jO]at Te;rw[wL]at S7 Uy;simp only at S7 Uy;have lh:=hm j aI;have dD:=hr j y hy;have cf:i < st.outer.length:=by have:=(Vh.1 hu).1;rw[hS.rep.ul]at this;exact this
 have aU:=aN j y hy bJ Ay nY U1 V1 T1 GK i w hw env b es c (hs.more Ew.vars hpV hS.rep.vl) (fun v hv=>by
  obtain⟨k1,k2⟩:=sn Ew hS.rep.wf GK.rep.wf cf (hs.lt v hv);rw[k1,k2];exact DB v hv) (Te.mono Zo)
 have hgp:=(zZ X.F X.G _ y (Qj _) bJ env i).1;have Z6:=(mY X.F X.G _ y (Qj _) bJ env i).1;rw[pD]at aU;generalize ks j=kj at*;obtain⟨e1,e2,e3,e4,e5,e6,e7,e8,e9,u7,u9,xd,xe,Ee,Ef,Eg,rfl⟩:=mq dD;refine ae ?_;refine kS Zr (fun z hz=>by have h9:=lh z hz;simp[h9]) rfl ?_;refine ae ?_;refine kM (fun MF=>?_);refine ae ?_;refine kK aU Zr ZP (fun v Post hv=>?_) (fun ch Post hz=>?_);rotate_left
 ·obtain⟨q,e,p,iw,rfl,rfl⟩:=hz;refine⟨[X.S,jL q e p],ZI,q,e,p,?_,rfl,rfl⟩;rw[Uy];exact(wU X.F X.G (l.drop (j+1)) _ env i).f _ iw
 obtain⟨DG,ig,U2,V2,T2,B2,⟨Cu,tG,tH,ws,rfl,hn⟩,rfl⟩:=hv;simp only[aE];obtain⟨f1,f2,f3,f4,f5,f6,f7,r1,r2,r3,p1,p2,p3,k1,k2,k3,GX⟩:=iG hn;subst GX;generalize sM:(jF X.F X.G y bJ env i).1=pn at hn S7|-;refine kg (out:=[.int .u8 pn.kind,.string pn.name,.int .u8 f1,.int .i64 f2,.int .u64 f3,.string f4,.slice f5 f6 f7,.slice r1 r2 r3,.int .i64 pn.unit,.bool pn.super,.slice none 0 0,.slice p1 p2 p3,.slice k1 k2 k3]) Zr Zr (fun r=>?_);refine j8 (k:=j) (m:=1) (xs:=rows.flatten) (sp:=sp) (ys:=[.int .u8 pn.kind,.string pn.name,.int .u8 f1,.int .i64 f2,.int .u64 f3,.string f4,.slice f5 f6 f7,.slice r1 r2 r3,.int .i64 pn.unit,.bool pn.super,.slice none 0 0,.slice p1 p2 p3,.slice k1 k2 k3]) Zr Zr bh ZK Zr ?_ rfl Zr Zr Zd Zo (fun cq aY ax=>?_)
 ·exact AI
 have fJ:rows.flatten++([.int .u8 pn.kind,.string pn.name,.int .u8 f1,.int .i64 f2,.int .u64 f3,.string f4,.slice f5 f6 f7,.slice r1 r2 r3,.int .i64 pn.unit,.bool pn.super,Nz,.slice p1 p2 p3,.slice k1 k2 k3]:List Value)=(rows++[([.int .u8 pn.kind,.string pn.name,.int .u8 f1,.int .i64 f2,.int .u64 f3,.string f4,.slice f5 f6 f7,.slice r1 r2 r3,.int .i64 pn.unit,.bool pn.super,Nz,.slice p1 p2 p3,.slice k1 k2 k3]:List Value)]).flatten:=by simp
 rw[fJ]at ax|-;obtain⟨lF,lG,rfl⟩:=ax.form;refine ae ?_;refine⟨(j+1,_,DG,ig,U2,V2,T2,.slice lF (j+1) lG,rows++[[.int .u8 pn.kind,.string pn.name,.int .u8 f1,.int .i64 f2,.int .u64 f3,.string f4,.slice f5 f6 f7,.slice r1 r2 r3,.int .i64 pn.unit,.bool pn.super,Nz,.slice p1 p2 p3,.slice k1 k2 k3]],aY,B++B2,W4++[pn]),⟨by simp only;omega,?_,Cu,Ew.trans hgp,hpU.trans tG,hpV.trans tH,Te.less Z6,Uy,by simp only;rw[S7];simp,by simp[ii],ax,?_⟩,by simp only;omega,ZU,?_⟩
 ·obtain⟨t,ht⟩:=tG;have h1:(U1.map UC.q)[i]? =some w.q:=by rw[Vi,hw];rfl
  have h2:(U2.map UC.q)[i]? =some w.q:=by
   rw[<- ht,VV (Vh.1 h1).1];exact h1
  rw[Vi]at h2;obtain⟨w',h3,h4⟩:=Qx.1 h2;exact⟨w',h3,h4.trans pD⟩
 ·exact(dB.more (fun x hx=>Zw _ hx) tH).snoc (hn.more (fun x hx=>Q8 _ hx) (QT _))
 ·simp only;refine aj.cut (M:=[kA X.wq 0 [.map (some X.fb),.map (some X.gb),DG],ai DG (U2.map fun u=>kL (some u.q)) ig,[.obj X.fb (.map X.bF X.fc)],[.obj X.gb (.map X.bH X.gc)],WK U2 V2,T2,[.obj b (.map es c)],X.S,ai (.slice lF (j+1) lG) (rows++[([.int .u8 pn.kind,.string pn.name,.int .u8 f1,.int .i64 f2,.int .u64 f3,.string f4,.slice f5 f6 f7,.slice r1 r2 r3,.int .i64 pn.unit,.bool pn.super,Nz,.slice p1 p2 p3,.slice k1 k2 k3]:List Value)]).flatten aY,B,B2]) ZI (aj.perm Zs)
theorem Ui {U:List UC}{Vs:List au}{q:Nat}{w:World}{L:List kB}{M:List kB}(hs:Sat w (L++M))(hq:kB.own q 9∈L)(hm:∀x∈WK U Vs,x∈M):q∉U.map UC.q:=by
 intro bf;obtain⟨u,hu,rfl⟩:=QE.1 bf;have hn:=hs.nodup;rw[Q0,QK]at hn;have h1:kB.own u.q 9∈WK U Vs:=Zw _ (QD.2 ⟨u,hu,QB ..⟩);exact hn.2.2 _ (QE.2 ⟨_,hq,rfl⟩) _ (QE.2 ⟨_,hm _ h1,rfl⟩) rfl
theorem uU(X:Fix)(vk l1 l2 l3 l4 l5:Value)(vn:Value)(args ab:List ByteArray)(av tv:Value)(bB:du X.S av args)(bu:du X.S tv ab)(kids:List Nd)(a:Option Addr)(ac bk ko:Nat)(ks:Nat->List Value)(Ln:kids.length < 1073741824)(ha:0 < kids.length->a=some ⟨bk,ko,none⟩)(hm:∀i,i < kids.length->∀y∈kA bk (ko+i*11) (ks i),y∈X.S)(hr:∀i x,kids[i]? =some x->j7 X.S x (ks i))(aN:∀i x,kids[i]? =some x->ot X x (ks i))(p:Int)
 (st:ah) (us:Value) (bC:List Value) (U:List UC) (Vs:List au) (T:List kB) (hS:gB st us bC U Vs T) (o:Int) (ho:-1<=o/\o < st.outer.length) (env:List Nat) (b:Nat) (es:Array MapEntry) (c:Nat) (hs:wn st Vs env es c) (DB:∀v∈env,∃i:Nat,o=i/\st.af v∈st.line i) (bm:Room st (lN args ab (jO kids))):
 jb Tryz.prog 49 [kE X.wq,.agg #[vk,vn,l1,l2,l3,l4,l5,av,tv,.slice a kids.length ac,.int .i64 p],kL (mw U o),.map (some b)]
  [kA X.wq 0 [.map (some X.fb),.map (some X.gb),us],ai us (U.map fun u=>kL (some u.q)) bC,[.obj X.fb (.map X.bF X.fc)],[.obj X.gb (.map X.bH X.gc)],WK U Vs,T,[.obj b (.map es c)],X.S]
  (fun v Post=>∃Kw SJ U' nM T',(gB (oj X.F X.G args ab kids p st env o) Kw SJ U' nM T'/\U.map UC.q <+:U'.map UC.q/\Vs.map au.q <+:nM.map au.q/\∃w,U'[st.outer.length]? =some w/\v=kE w.q)/\
    Post=[kA X.wq 0 [.map (some X.fb),.map (some X.gb),Kw],ai Kw (U'.map fun u=>kL (some u.q)) SJ,[.obj X.fb (.map X.bF X.fc)],[.obj X.gb (.map X.bH X.gc)],WK U' nM,T',[.obj b (.map es c)],X.S])
  (fun ch Post=>∃q e p',(oj X.F X.G args ab kids p st env o).f=some (e,p')/\ch=oI q/\Post=[X.S,jL q e p']):=by
 obtain⟨ua,uc,EQ⟩:=hS.sl.form;have bh:=hS.sl;subst EQ;have Es:=bB;have tJ:=bu;obtain⟨aa,Jp,rfl,xn,iv⟩:=bB;obtain⟨ta,Ku,rfl,tI,Np⟩:=bu;have EP:=hS.rep.ul;have hUl:U.length=(U.map fun u=>kL (some u.q)).length:=by simp
 obtain⟨r1,r2,r3⟩:=bm;simp only[lN]at r1 r2 r3;obtain⟨pa,hpa⟩:∃pa,kL (mw U o)=.pointer pa:=by cases mw U o <;> exact⟨_,rfl⟩
 rw[hpa];refine jb.intro low49 (by simp[n49]) ?_;refine ae ?_;refine kW Zr (fun q5=>?_);simp only[Value.cells];refine ae ?_;refine ia (fun nb=>?_);refine ae ?_;refine Xr Zr (fun q=>?_);simp only[Value.cells];refine VO.know (φ:=q∉U.map UC.q) (fun w F fC=>?_) (fun AV=>?_)
 ·refine Ui (Vs:=Vs) (L:=_) (M:=_) (by rw[V6,vZ]at fC;exact fC) (QB ..) (fun x hx=>?_);simp[hx]
 refine VO.imp (H':=[[.own q 9],kA q 0 [vi 0,vi 0,vi 0,.pointer pa,vi U.length,Nz,.map (some nb),Nz,Nz],[.obj nb (.map #[] 0)],kA q5 0 [vk,vn,l1,l2,l3,l4,l5,.slice aa args.length Jp,.slice ta ab.length Ku,.slice a kids.length ac,.int .i64 p],
  kA X.wq 0 [.map (some X.fb),.map (some X.gb),.slice ua U.length uc],ai (.slice ua U.length uc) (U.map fun u=>kL (some u.q)) bC,[.obj X.fb (.map X.bF X.fc)],[.obj X.gb (.map X.bH X.gc)],WK U Vs,T,[.obj b (.map es c)],X.S]) (aj.perm Zs) ?_
 refine ae ?_;refine kM (fun k9=>?_);refine ae ?_;refine kg (out:=[kE q]) Zr Zr (fun r=>?_);refine j8 (k:=U.length) (m:=1) (xs:=U.map fun u=>kL (some u.q)) (sp:=bC) (ys:=[kE q]) Zr Zr bh ZK Zr ?_ rfl Zr Zr Zd Zo (fun cq aY ax=>?_)
 ·exact AI
 obtain⟨ua',uc',rfl⟩:=ax.form;have fJ:(U.map fun u=>kL (some u.q))++[kE q]=(U++[xZ q args.length (mw U o) st.outer.length nb]).map fun u=>kL (some u.q):=by simp[kL,xZ]
 rw[fJ]at ax|-;refine ae ?_;have hR1:cy (st.aM o args.length) (U++[xZ q args.length (mw U o) st.outer.length nb]) Vs:=hS.rep.aM ho AV;obtain⟨U1,La⟩:∃U1,U1=U++[xZ q args.length (mw U o) st.outer.length nb]:=⟨_,rfl⟩;have HP:(U1.map UC.q)[st.outer.length]? =some q:=by
  rw[La,Q0,Va (by rw[Vv,EP];exact Qj _),Vv,EP,Qp];rfl
 have DC:(st.aM o args.length).args.getD st.outer.length 0=args.length:=by
  show(st.args++[args.length]).getD st.outer.length 0=args.length;rw[V8,<- hS.rep.wf.al,Va (Qj _),Qp];rfl
 have Yk:(st.aM o args.length).outer.length=st.outer.length+1:=by unfold ah.aM;simp
 have hwk1:(WK U1 Vs).Perm ([.own q 9]++(kA q 0 [vi args.length,vi 0,vi 0,.pointer pa,vi U.length,Nz,.map (some nb),Nz,Nz]++([.obj nb (.map #[] 0)]++WK U Vs))):=by
  rw[La];refine(SS U Vs _).trans ?_;have e:(xZ q args.length (mw U o) st.outer.length nb).atoms=.own q 9::(kA q 0 [vi args.length,vi 0,vi 0,.pointer pa,vi U.length,Nz,.map (some nb),Nz,Nz]++[.obj nb (.map #[] 0)]):=by
   unfold UC.atoms UC.row xZ;simp only[hpa,EP,ai,QJ];rfl
  rw[e];simp
 rw[<- La]at hR1 ax|-;refine VO.imp (H':=[kA k9 0 [kE q],WK U1 Vs,[.obj b (.map es c)],X.S,kA q5 0 [vk,vn,l1,l2,l3,l4,l5,.slice aa args.length Jp,.slice ta ab.length Ku,.slice a kids.length ac,.int .i64 p],kA X.wq 0 [.map (some X.fb),.map (some X.gb),.slice ua' (U.length+1) uc'],ai (.slice ua' (U.length+1) uc') (U1.map fun u=>kL (some u.q)) aY,[.obj X.fb (.map X.bF X.fc)],[.obj X.gb (.map X.bH X.gc)],T]) ?_ ?_
 ·refine aj.cut (M:=[kA k9 0 [kE q],[.own q 9],kA q 0 [vi args.length,vi 0,vi 0,.pointer pa,vi U.length,Nz,.map (some nb),Nz,Nz],[.obj nb (.map #[] 0)],WK U Vs,[.obj b (.map es c)],X.S,kA q5 0 [vk,vn,l1,l2,l3,l4,l5,.slice aa args.length Jp,.slice ta ab.length Ku,.slice a kids.length ac,.int .i64 p],kA X.wq 0 [.map (some X.fb),.map (some X.gb),.slice ua' (U.length+1) uc'],ai (.slice ua' (U.length+1) uc') (U1.map fun u=>kL (some u.q)) aY,[.obj X.fb (.map X.bF X.fc)],[.obj X.gb (.map X.bH X.gc)],T]) ZI (aj.perm ?_);have h:=fun R=>(vV R hwk1).symm
  simp only[vZ]at h;simp only[V6,V7,vd];exact vU _ (h _)
 have nS:wn (st.aM o args.length) Vs env es c:=hs.more (QT _) (QT _) hS.rep.vl;have iw:∀e:Nat×Int,(bn args ab p st env o).1.f=some e->(oj X.F X.G args ab kids p st env o).f=some e:=fun e he=>by
  rw[zP];exact(wU X.F X.G kids _ _ _).f e he
 have OK:∀e:Nat×Int,(kO st.outer.length true true p args 0 (st.aM o args.length) env).1.f=some e->(oj X.F X.G args ab kids p st env o).f=some e:=fun e he=>iw e (rH st.outer.length false true p ab 0 _ _ he)
 refine kK (nK X.S st.outer.length args.length true true p args (.slice aa args.length Jp) Es (.func (.func 109) #[] #[kE k9]) (fun _ A=>A=kA k9 0 [kE q]) (st.aM o args.length) U1 Vs (mk_arg _ st.outer.length args.length q k9 HP Zo) hR1 (by rw[Yk];omega) DC hS.ok (by show st.vars.length+args.length < _;omega) _ rfl env b es c nS) Zr ZP (fun v Post hv=>?_) (fun ch Post hz=>?_);rotate_left
 ·obtain⟨Li,q1,rfl,rfl⟩:=hz;exact⟨[X.S,jL q1 180 p],ZI,q1,180,p,OK _ Li,rfl,rfl⟩
 obtain⟨b2,Dx,c2,U2,V2,A2,⟨Cy,rfl,JK,l7,sK,rh,nT,rfl⟩,rfl⟩:=hv;simp only[aE];refine ae ?_;obtain⟨g1,g2,g3,g4⟩:=jn st.outer.length true true p args 0 (st.aM o args.length) env;refine kK (nK X.S st.outer.length args.length false true p ab (.slice ta ab.length Ku) tJ (.func (.func 110) #[] #[kE k9]) (fun _ A=>A=kA k9 0 [kE q]) _ U2 V2 (Wj _ st.outer.length args.length q k9 ab.length (by rw[l7];exact HP)) JK (by rw[g1,Yk];omega) (by rw[g2];exact DC) Cy (by rw[g4];show st.vars.length+args.length+ab.length < _;omega) _ rfl _ b2 Dx c2 nT) Zr ZP (fun v Post hv=>?_) (fun ch Post hz=>?_);rotate_left
 ·obtain⟨Li,q1,rfl,rfl⟩:=hz;exact⟨[X.S,jL q1 180 p],ZI,q1,180,p,iw _ Li,rfl,rfl⟩
 obtain⟨b3,es3,c3,U3,V3,A3,⟨hf3,rfl,hR3,HQ,Oz,hp3,DE,rfl⟩,rfl⟩:=hv;simp only[aE];obtain⟨d1,d2,d3,d4⟩:=jn st.outer.length false true p ab 0 (kO st.outer.length true true p args 0 (st.aM o args.length) env).1 (kO st.outer.length true true p args 0 (st.aM o args.length) env).2;have bf:kO st.outer.length false true p ab 0 (kO st.outer.length true true p args 0 (st.aM o args.length) env).1 (kO st.outer.length true true p args 0 (st.aM o args.length) env).2=bn args ab p st env o:=rfl;have JT:∀v∈(bn args ab p st env o).2,(bn args ab p st env o).1.af v∈(bn args ab p st env o).1.line st.outer.length:=fun v hv=>by
  have hwf3:Wf (bn args ab p st env o).1:=hR3.wf;have No:(bn args ab p st env o).1.outer=(st.aM o args.length).outer:=d1.trans g1;have Ta:=hwf3.line (u:=st.outer.length) (by rw[No,Yk];omega);have me:st.outer.length∈(bn args ab p st env o).1.line st.outer.length:=by rw[Ta];exact QB ..
  have hlt1:∀v∈env,v < (st.aM o args.length).vars.length:=fun v hv=>hs.lt v hv
  have oN:∀v∈(kO st.outer.length true true p args 0 (st.aM o args.length) env).2,v < (kO st.outer.length true true p args 0 (st.aM o args.length) env).1.vars.length:=fun v hv=>(eU _ _ _ _ _ _ _ _ hlt1 v hv).1
  obtain⟨_,hk⟩:=eU st.outer.length false true p ab 0 _ _ oN v hv;rcases hk with⟨tD,sL⟩|hk
  ·obtain⟨_,oM⟩:=eU st.outer.length true true p args 0 _ _ hlt1 v tD;rcases oM with⟨hk4,hk5⟩|oM
   ·obtain⟨i,hi1,Ll⟩:=DB v hk4;have he:(bn args ab p st env o).1.af v=st.af v:=sL.trans hk5;have hgo:(bn args ab p st env o).1.outer.getD st.outer.length (-1)=o:=by
     rw[No];show(st.outer++[o]).getD st.outer.length (-1)=o;exact zC5
    rw[hgo,if_neg Zo,show o.toNat=i by omega]at Ta;have Z5:(bn args ab p st env o).1.line i=st.line i:=by
     have:=hS.rep.wf.pX (n:=args.length) ho i Zo;rw[<- this];unfold ah.line;rw[No]
    rw[he,Ta,Z5];exact QA _ Ll
   ·have he:(bn args ab p st env o).1.af v=st.outer.length:=sL.trans oM;rw[he];exact me
  ·have he:(bn args ab p st env o).1.af v=st.outer.length:=hk;rw[he];exact me
 rw[bf]at hf3 hR3 DE d1 d2 d3 d4;have hS3:gB (bn args ab p st env o).1 (.slice ua' (U.length+1) uc') aY U3 V3 T:=by
  have UJ:U3.map UC.q=U1.map UC.q:=HQ.trans l7;have hbb:U3.map UC.body=U1.map UC.body:=Oz.trans sK;have EF:U3.length=U.length+1:=by
   have:=congrArg List.length UJ;rw[Vv,Vv,La,Vo]at this;exact this
  have AZ:∀W:List UC,(W.map fun u=>kL (some u.q))=(W.map UC.q).map fun b=>kL (some b):=fun W=>by rw[Q5];rfl
  refine⟨hR3,hf3,?_,fun i w hw=>?_⟩
  ·rw[EF,AZ,UJ,<- AZ];exact ax
  ·have eg:(U1.map UC.body)[i]? =some w.body:=by rw[<- hbb,Vi,hw];rfl
   have Hx:(bn args ab p st env o).1.bodies=st.bodies++[[]]:=d3.trans g3;rw[Hx];rw[Vi]at eg;obtain⟨w1,GW,hwb⟩:=Qx.1 eg;rw[La,V9]at GW;split at GW
   ·rename_i hi;rw[cB (by rw[hS.rep.wf.bl,<- EP];exact hi),<- hwb];exact(hS.XS i w1 GW).more (fun x hx=>hx) (rh.trans hp3)
   ·rename_i hi;have Lm:=(Vh.1 GW).1;simp only[Vy]at Lm;have e:i=st.bodies.length:=by rw[hS.rep.wf.bl];omega
    have e2:i - U.length=0:=by omega
    rw[e2]at GW;have hw1':xZ q args.length (mw U o) st.outer.length nb=w1:=by simpa using GW
    rw[<- hwb,<- hw1',e,V8,Va (Qj _),Qp];exact th.nil _ _
 have rS:Room (bn args ab p st env o).1 (jO kids):=by
  have h1:zO st (bn args ab p st env o).1 (1+(args.length+ab.length)):=(rV st o args.length).trans ((wJ _ _ _ _ _ _ _ _).trans (wJ _ _ _ _ _ _ _ _));obtain⟨k1,k2,k3⟩:=h1;exact⟨Zo,Zo,Zo⟩
 obtain⟨w3,hw3,hwq3⟩:∃w,U3[st.outer.length]? =some w/\w.q=q:=iS rfl (by rw[HQ,l7];exact HP);have ap:=uP X kids a ac bk ko ks Ln ha hm hr aN _ _ _ _ _ _ hS3 st.outer.length w3 hw3 _ b3 es3 c3 DE JT rS;rw[hwq3]at ap;have GV:(U3.map fun u=>kL (some u.q))=U1.map fun u=>kL (some u.q):=by
  have AZ:∀W:List UC,(W.map fun u=>kL (some u.q))=(W.map UC.q).map fun b=>kL (some b):=fun W=>by rw[Q5];rfl
  rw[AZ,HQ.trans l7,<- AZ]
 have Uz:∀(iT:Value) (cW:List Value) (U4:List UC) (V4:List au) (T4:List kB) (rows:List (List Value)) (yo:List Value) (B5:List kB) (va:Option Addr) (vc:Nat) (w4:UC),gB (kT X.F X.G kids (bn args ab p st env o).1 (bn args ab p st env o).2 st.outer.length).2 iT cW U4 V4 T4->kY 13 (.slice va (kT X.F X.G kids (bn args ab p st env o).1 (bn args ab p st env o).2 st.outer.length).1.length vc) (kT X.F X.G kids (bn args ab p st env o).1 (bn args ab p st env o).2 st.outer.length).1.length rows.flatten yo->zJ B5 (V4.map au.q) (kT X.F X.G kids (bn args ab p st env o).1 (bn args ab p st env o).2 st.outer.length).1 rows->U4[st.outer.length]? =some w4->w4.q=q->U3.map UC.q <+:U4.map UC.q->V3.map au.q <+:V4.map au.q->
  gB (oj X.F X.G args ab kids p st env o) iT cW (U4.set st.outer.length {w4 with body:=.slice va (kT X.F X.G kids (bn args ab p st env o).1 (bn args ab p st env o).2 st.outer.length).1.length vc}) V4 (T4++(ai (.slice va (kT X.F X.G kids (bn args ab p st env o).1 (bn args ab p st env o).2 st.outer.length).1.length vc) rows.flatten yo++B5))/\U.map UC.q <+:(U4.set st.outer.length {w4 with body:=.slice va (kT X.F X.G kids (bn args ab p st env o).1 (bn args ab p st env o).2 st.outer.length).1.length vc}).map UC.q/\Vs.map au.q <+:V4.map au.q/\(∃w,(U4.set st.outer.length {w4 with body:=.slice va (kT X.F X.G kids (bn args ab p st env o).1 (bn args ab p st env o).2 st.outer.length).1.length vc})[st.outer.length]? =some w/\kE q=kE w.q)/\
  ((U4.set st.outer.length {w4 with body:=.slice va (kT X.F X.G kids (bn args ab p st env o).1 (bn args ab p st env o).2 st.outer.length).1.length vc}).map fun u=>kL (some u.q))=U4.map fun u=>kL (some u.q):=fun iT cW U4 V4 T4 rows yo B5 va vc w4 k1 k2 k3 k4 k5 k6 k7=>by
  have GP:=zD (w':={w4 with body:=.slice va (kT X.F X.G kids (bn args ab p st env o).1 (bn args ab p st env o).2 st.outer.length).1.length vc}) k4 rfl;have AZ:∀W:List UC,(W.map fun u=>kL (some u.q))=(W.map UC.q).map fun b=>kL (some b):=fun W=>by rw[Q5];rfl
  have hpm2:((U4.set st.outer.length {w4 with body:=.slice va (kT X.F X.G kids (bn args ab p st env o).1 (bn args ab p st env o).2 st.outer.length).1.length vc}).map fun u=>kL (some u.q))=U4.map fun u=>kL (some u.q):=by rw[AZ,GP,<- AZ]
  refine⟨?_,?_,(rh.trans hp3).trans k7,⟨{w4 with body:=.slice va (kT X.F X.G kids (bn args ab p st env o).1 (bn args ab p st env o).2 st.outer.length).1.length vc},by rw[Vl];simp[(Vh.1 k4).1],by rw[<- k5]⟩,hpm2⟩
  ·rw[zP];refine⟨k1.rep.body k4 _ _,k1.ok,by rw[hpm2,Vx];exact k1.sl,fun i w hw=>?_⟩;rcases iK k4 hw with⟨rfl,rfl⟩|⟨cF,rT⟩
   ·have Ld:=k1.rep.wf.bl;have Ln:=(Vh.1 k4).1;rw[k1.rep.ul]at Ln;have e:((kT X.F X.G kids (bn args ab p st env o).1 (bn args ab p st env o).2 st.outer.length).2.bodies.set st.outer.length (kT X.F X.G kids (bn args ab p st env o).1 (bn args ab p st env o).2 st.outer.length).1).getD st.outer.length []=(kT X.F X.G kids (bn args ab p st env o).1 (bn args ab p st env o).2 st.outer.length).1:=by
     rw[V8,Vl];simp[Ld,Ln]
    show th _ _ (.slice va (kT X.F X.G kids (bn args ab p st env o).1 (bn args ab p st env o).2 st.outer.length).1.length vc) (((kT X.F X.G kids (bn args ab p st env o).1 (bn args ab p st env o).2 st.outer.length).2.bodies.set st.outer.length (kT X.F X.G kids (bn args ab p st env o).1 (bn args ab p st env o).2 st.outer.length).1).getD st.outer.length []);rw[e];exact(WI k2 k3).more (fun x hx=>Q8 _ hx) (QT _)
   ·have e:((kT X.F X.G kids (bn args ab p st env o).1 (bn args ab p st env o).2 st.outer.length).2.bodies.set st.outer.length (kT X.F X.G kids (bn args ab p st env o).1 (bn args ab p st env o).2 st.outer.length).1).getD i []=(kT X.F X.G kids (bn args ab p st env o).1 (bn args ab p st env o).2 st.outer.length).2.bodies.getD i []:=by
     rw[V8,V8,Vl,if_neg (fun e=>cF e.symm)]
    show th _ _ w.body (((kT X.F X.G kids (bn args ab p st env o).1 (bn args ab p st env o).2 st.outer.length).2.bodies.set st.outer.length (kT X.F X.G kids (bn args ab p st env o).1 (bn args ab p st env o).2 st.outer.length).1).getD i []);rw[e];exact(k1.XS i w rT).more (fun x hx=>Zw _ hx) (QT _)
  ·rw[GP];refine List.IsPrefix.trans ?_ k6;rw[HQ.trans l7,La,Q0];exact QS _ _
 unfold rq at ap;rw[GV]at ap;refine ae ?_;cases hfa:(kT X.F X.G kids (bn args ab p st env o).1 (bn args ab p st env o).2 st.outer.length).2.f with
 |some e=>
  refine VC.seq (VC.AO ⟨⟨[_,_,_,_,_,_],_,_,_,_,rfl,?_⟩,⟨[_,_,_,_,_],_,_,_,_,rfl,?_⟩,trivial⟩)
  ·refine⟨?_,?_,?_,trivial⟩
   all_goals
    exact zBJ
  ·refine⟨?_,trivial⟩;exact zBJ
 |none=>
  refine VC.seq (VC.draws ⟨?_,?_,trivial⟩)
  ·skip
   exact zA4
  ·skip
   exact zA4
def InlR(pn:PN)(a n:Nat)(v:Value)(qs:List Nat)(B:List kB):Prop:=∃ws,v=.tuple #[.agg ws.toArray,cw ((qs.drop a).take n)]/\uJ B qs pn ws
theorem ET(X:Fix)(vk l1 l2 l3 l4 l5:Value)(vn:Value)(k:Nat)(s:ByteArray)(lit:Lt)(args ab:List ByteArray)(av tv:Value)(bB:du X.S av args)(bu:du X.S tv ab)(kids:List Nd)(a:Option Addr)(ac bk ko:Nat)(ks:Nat->List Value)(Ln:kids.length < 1073741824)(ha:0 < kids.length->a=some ⟨bk,ko,none⟩)(hm:∀i,i < kids.length->∀y∈kA bk (ko+i*11) (ks i),y∈X.S)(hr:∀i x,kids[i]? =some x->j7 X.S x (ks i))(aN:∀i x,kids[i]? =some x->ot X x (ks i))(p:Int)
 (st:ah) (us:Value) (bC:List Value) (U:List UC) (Vs:List au) (T:List kB) (hS:gB st us bC U Vs T) (i:Nat) (u:UC) (hu:U[i]? =some u) (env:List Nat) (b:Nat) (es:Array MapEntry) (c:Nat) (hs:wn st Vs env es c) (DB:∀v∈env,st.af v∈st.line i) (bm:Room st (lN args ab (jO kids))):
 rq X 231 [kE X.wq,.agg #[vk,vn,l1,l2,l3,l4,l5,av,tv,.slice a kids.length ac,.int .i64 p],kE u.q,.map (some b)] st (cH X.F X.G (.mk k s lit args ab kids p) st env i).2 us bC U Vs T b es c (InlR (cH X.F X.G (.mk k s lit args ab kids p) st env i).1 st.vars.length args.length):=by
 have Es:=bB;have tJ:=bu;obtain⟨aa,Jp,rfl,xn,iv⟩:=bB;obtain⟨ta,Ku,rfl,tI,Np⟩:=bu;obtain⟨r1,r2,r3⟩:=bm;simp only[lN]at r1 r2 r3;have cf:i < st.outer.length:=by have:=(Vh.1 hu).1;rw[hS.rep.ul]at this;exact this
 have huq:(U.map UC.q)[i]? =some u.q:=by rw[Vi,hu];rfl
 rw[iz];simp only;obtain⟨D1,JI⟩:∃D1,D1=kO i true false p args 0 st env:=⟨_,rfl⟩;obtain⟨D2,JJ⟩:∃D2,D2=kO i false false p ab 0 D1.1 D1.2:=⟨_,rfl⟩;rw[<- JI,<- JJ];have X8:∀e:Nat×Int,D2.1.f=some e->(kT X.F X.G kids D2.1 D2.2 i).2.f=some e:=fun e he=>(wU X.F X.G kids _ _ _).f e he
 have OK:∀e:Nat×Int,D1.1.f=some e->(kT X.F X.G kids D2.1 D2.2 i).2.f=some e:=fun e he=>X8 e (by rw[JJ];exact rH _ _ _ _ _ _ _ _ he)
 refine jb.intro low231 (by simp[n231]) ?_;refine ae ?_;refine kW Zr (fun q5=>?_);simp only[Value.cells];refine ae ?_;refine kW Zr (fun q6=>?_);simp only[Value.cells];refine ae ?_;refine kM (fun q8=>?_);refine ae ?_;refine kM (fun nV=>?_);refine ae ?_;refine kM (fun MF=>?_);refine ae ?_;obtain⟨g1,g2,g3,g4⟩:=jn i true false p args 0 st env;rw[<- JI]at g1 g2 g3 g4;obtain⟨d1,d2,d3,d4⟩:=jn i false false p ab 0 D1.1 D1.2;rw[<- JJ]at d1 d2 d3 d4;have GW:=nK X.S i (st.args.getD i 0) true false p args (.slice aa args.length Jp) Es (.func (.func 251) #[] #[kE q6,kE nV]) (fun ps A=>A=kA q6 0 [kE u.q]++kA nV 0 [cw ps]) st U Vs (P4 _ i _ u.q q6 nV args.length huq) hS.rep cf rfl hS.ok Zo (kA q6 0 [kE u.q]++kA nV 0 [.pointer none]) rfl env b es c hs;rw[<- JI]at GW;have unf:jf Nz Nz =[.int .u8 14,.string ⟨#[]⟩,.int .u8 0,.int .i64 0,.int .u64 0,.string ⟨#[]⟩,Nz,Nz,.int .i64 0,.bool false,Nz,Nz,Nz]:=rfl;refine VO.imp (H':=[kA q6 0 [kE u.q]++kA nV 0 [.pointer none],WK U Vs,[.obj b (.map es c)],X.S,kA MF 0 (jf Nz Nz),kA q8 0 [.int .u8 0,.string e0,.int .u8 0,.int .i64 0,.int .u64 0,.string e0,Nz,Nz,.int .i64 0,.bool false,Nz,Nz,Nz],kA q5 0 [vk,vn,l1,l2,l3,l4,l5,.slice aa args.length Jp,.slice ta ab.length Ku,.slice a kids.length ac,.int .i64 p],kA X.wq 0 [.map (some X.fb),.map (some X.gb),us],ai us (U.map fun u=>kL (some u.q)) bC,[.obj X.fb (.map X.bF X.fc)],[.obj X.gb (.map X.bH X.gc)],T]) (aj.cut (M:=[kA q6 0 [kE u.q],kA nV 0 [.pointer none],WK U Vs,[.obj b (.map es c)],X.S,kA MF 0 (jf Nz Nz),kA q8 0 [.int .u8 0,.string e0,.int .u8 0,.int .i64 0,.int .u64 0,.string e0,Nz,Nz,.int .i64 0,.bool false,Nz,Nz,Nz],kA q5 0 [vk,vn,l1,l2,l3,l4,l5,.slice aa args.length Jp,.slice ta ab.length Ku,.slice a kids.length ac,.int .i64 p],kA X.wq 0 [.map (some X.fb),.map (some X.gb),us],ai us (U.map fun u=>kL (some u.q)) bC,[.obj X.fb (.map X.bF X.fc)],[.obj X.gb (.map X.bH X.gc)],T]) (by unfold e0;rw[unf];exact bE) (aj.perm Zs)) ?_;refine kK GW Zr ZP (fun v Post hv=>?_) (fun ch Post hz=>?_);rotate_left
 ·obtain⟨Li,q1,rfl,rfl⟩:=hz;exact⟨[X.S,jL q1 180 p],ZI,q1,180,p,OK _ Li,rfl,rfl⟩
 obtain⟨b2,Dx,c2,U2,V2,A2,⟨Cy,rfl,JK,l7,sK,rh,nT,rfl⟩,rfl⟩:=hv;simp only[aE];obtain⟨Tr,hps1⟩:∃Tr,Tr=(V2.map au.q).drop Vs.length:=⟨_,rfl⟩;rw[<- hps1];have hw2:=nK X.S i (st.args.getD i 0) false false p ab (.slice ta ab.length Ku) tJ (.func (.func 252) #[] #[kE q6,kE MF]) (NF u.q q6 MF) D1.1 U2 V2 (Wi _ i _ u.q q6 MF ab.length (by rw[l7];exact huq) Zo) JK (by rw[g1];exact cf) (by rw[g2]) Cy (by rw[g4];omega) (kA q6 0 [kE u.q]++(kA MF 0 (jf Nz Nz)++[])) ⟨Nz,[],.nil,rfl⟩ D1.2 b2 Dx c2 nT;rw[<- JJ]at hw2;refine VO.imp (H':=[kA q6 0 [kE u.q],kA nV 0 [cw Tr],WK U2 V2,[.obj b2 (.map Dx c2)],[.obj b (.map es c)],X.S,kA MF 0 (jf Nz Nz),kA q8 0 [.int .u8 0,.string e0,.int .u8 0,.int .i64 0,.int .u64 0,.string e0,Nz,Nz,.int .i64 0,.bool false,Nz,Nz,Nz],kA q5 0 [vk,vn,l1,l2,l3,l4,l5,.slice aa args.length Jp,.slice ta ab.length Ku,.slice a kids.length ac,.int .i64 p],kA X.wq 0 [.map (some X.fb),.map (some X.gb),us],ai us (U.map fun u=>kL (some u.q)) bC,[.obj X.fb (.map X.bF X.fc)],[.obj X.gb (.map X.bH X.gc)],T]) (aj.cut (M:=[kA q6 0 [kE u.q]++kA nV 0 [cw Tr],WK U2 V2,[.obj b2 (.map Dx c2)],[.obj b (.map es c)],X.S,kA MF 0 (jf Nz Nz),kA q8 0 [.int .u8 0,.string e0,.int .u8 0,.int .i64 0,.int .u64 0,.string e0,Nz,Nz,.int .i64 0,.bool false,Nz,Nz,Nz],kA q5 0 [vk,vn,l1,l2,l3,l4,l5,.slice aa args.length Jp,.slice ta ab.length Ku,.slice a kids.length ac,.int .i64 p],kA X.wq 0 [.map (some X.fb),.map (some X.gb),us],ai us (U.map fun u=>kL (some u.q)) bC,[.obj X.fb (.map X.bF X.fc)],[.obj X.gb (.map X.bH X.gc)],T]) ZI (aj.perm Zs)) ?_;refine ae ?_;refine VO.imp (H':=[kA q6 0 [kE u.q]++(kA MF 0 (jf Nz Nz)++[]),WK U2 V2,[.obj b2 (.map Dx c2)],X.S,[.obj b (.map es c)],kA nV 0 [cw Tr],kA q8 0 [.int .u8 0,.string e0,.int .u8 0,.int .i64 0,.int .u64 0,.string e0,Nz,Nz,.int .i64 0,.bool false,Nz,Nz,Nz],kA q5 0 [vk,vn,l1,l2,l3,l4,l5,.slice aa args.length Jp,.slice ta ab.length Ku,.slice a kids.length ac,.int .i64 p],kA X.wq 0 [.map (some X.fb),.map (some X.gb),us],ai us (U.map fun u=>kL (some u.q)) bC,[.obj X.fb (.map X.bF X.fc)],[.obj X.gb (.map X.bH X.gc)],T]) (aj.cut (M:=[kA q6 0 [kE u.q],kA MF 0 (jf Nz Nz),WK U2 V2,[.obj b2 (.map Dx c2)],X.S,[.obj b (.map es c)],kA nV 0 [cw Tr],kA q8 0 [.int .u8 0,.string e0,.int .u8 0,.int .i64 0,.int .u64 0,.string e0,Nz,Nz,.int .i64 0,.bool false,Nz,Nz,Nz],kA q5 0 [vk,vn,l1,l2,l3,l4,l5,.slice aa args.length Jp,.slice ta ab.length Ku,.slice a kids.length ac,.int .i64 p],kA X.wq 0 [.map (some X.fb),.map (some X.gb),us],ai us (U.map fun u=>kL (some u.q)) bC,[.obj X.fb (.map X.bF X.fc)],[.obj X.gb (.map X.bH X.gc)],T]) ZI (aj.perm Zs)) ?_;refine kK hw2 Zr ZP (fun v Post hv=>?_) (fun ch Post hz=>?_);rotate_left
 ·obtain⟨Li,q1,rfl,rfl⟩:=hz;exact⟨[X.S,jL q1 180 p],ZI,q1,180,p,X8 _ Li,rfl,rfl⟩
 obtain⟨b3,es3,c3,U3,V3,A3,⟨hf3,rfl,hR3,HQ,Oz,hp3,DE,hJ3⟩,rfl⟩:=hv;obtain⟨tv0,ic,ω,rfl⟩:=hJ3;simp only[aE];obtain⟨Bn,hps2⟩:∃Bn,Bn=(V3.map au.q).drop V2.length:=⟨_,rfl⟩;rw[<- hps2]at ω|-;obtain⟨Sv,Sx,rfl⟩:=ω.form;refine VO.imp (H':=[kA q6 0 [kE u.q],kA MF 0 (jf (.slice Sv Bn.length Sx) (.slice none 0 0)),ai (.slice Sv Bn.length Sx) (Bn.map fun b=>kL (some b)) ic,WK U3 V3,[.obj b3 (.map es3 c3)],X.S,[.obj b (.map es c)],kA nV 0 [cw Tr],kA q8 0 [.int .u8 0,.string e0,.int .u8 0,.int .i64 0,.int .u64 0,.string e0,.slice none 0 0,.slice none 0 0,.int .i64 0,.bool false,.slice none 0 0,.slice none 0 0,.slice none 0 0],kA q5 0 [vk,vn,l1,l2,l3,l4,l5,.slice aa args.length Jp,.slice ta ab.length Ku,.slice a kids.length ac,.int .i64 p],kA X.wq 0 [.map (some X.fb),.map (some X.gb),us],ai us (U.map fun u=>kL (some u.q)) bC,[.obj X.fb (.map X.bF X.fc)],[.obj X.gb (.map X.bH X.gc)],T]) (aj.cut (M:=[kA q6 0 [kE u.q]++(kA MF 0 (jf (.slice Sv Bn.length Sx) (.slice none 0 0))++ai (.slice Sv Bn.length Sx) (Bn.map fun b=>kL (some b)) ic),WK U3 V3,[.obj b3 (.map es3 c3)],X.S,[.obj b (.map es c)],kA nV 0 [cw Tr],kA q8 0 [.int .u8 0,.string e0,.int .u8 0,.int .i64 0,.int .u64 0,.string e0,.slice none 0 0,.slice none 0 0,.int .i64 0,.bool false,.slice none 0 0,.slice none 0 0,.slice none 0 0],kA q5 0 [vk,vn,l1,l2,l3,l4,l5,.slice aa args.length Jp,.slice ta ab.length Ku,.slice a kids.length ac,.int .i64 p],kA X.wq 0 [.map (some X.fb),.map (some X.gb),us],ai us (U.map fun u=>kL (some u.q)) bC,[.obj X.fb (.map X.bF X.fc)],[.obj X.gb (.map X.bH X.gc)],T]) ZI (aj.perm Zs)) ?_;have AZ:∀W:List UC,(W.map fun u=>kL (some u.q))=(W.map UC.q).map fun b=>kL (some b):=fun W=>by rw[Q5];rfl
 have UJ:U3.map UC.q=U.map UC.q:=HQ.trans l7;have GV:(U3.map fun u=>kL (some u.q))=U.map fun u=>kL (some u.q):=by rw[AZ,UJ,<- AZ]
 have hS3:gB D2.1 us bC U3 V3 T:=by
  have EF:U3.length=U.length:=by have:=congrArg List.length UJ;rwa [Vv,Vv]at this
  refine⟨hR3,hf3,by rw[EF,GV];exact hS.sl,fun j w hw=>?_⟩;have eg:(U.map UC.body)[j]? =some w.body:=by rw[<- Oz.trans sK,Vi,hw];rfl
  rw[Vi]at eg;obtain⟨w1,GW,hwb⟩:=Qx.1 eg;rw[d3,g3,<- hwb];exact(hS.XS j w1 GW).more (fun x hx=>hx) (rh.trans hp3)
 have JT:∀v∈D2.2,D2.1.af v∈D2.1.line i:=fun v hv=>by
  have Ta:D2.1.line i=st.line i:=by unfold ah.line;rw[d1,g1]
  have me:i∈st.line i:=by rw[hS.rep.wf.line Zo];exact QB ..
  have oN:∀v∈D1.2,v < D1.1.vars.length:=fun v hv=>by rw[JI]at hv|-;exact(eU _ _ _ _ _ _ _ _ hs.lt v hv).1
  rw[Ta];rw[JJ]at hv|-;obtain⟨_,hk⟩:=eU i false false p ab 0 _ _ oN v hv;rcases hk with⟨tD,sL⟩|hk
  ·rw[sL];rw[JI]at tD|-;obtain⟨_,oM⟩:=eU i true false p args 0 _ _ hs.lt v tD;rcases oM with⟨hk4,hk5⟩|oM
   ·rw[hk5];exact DB v hk4
   ·rw[oM];exact me
  ·rw[hk];exact me
 have rS:Room D2.1 (jO kids):=by
  have h1:zO st D2.1 (args.length+ab.length):=by
   rw[JJ,JI];exact(wJ _ _ _ _ _ _ _ _).trans (wJ _ _ _ _ _ _ _ _)
  obtain⟨k1,k2,k3⟩:=h1;exact⟨Zo,Zo,Zo⟩
 obtain⟨w3,hw3,hwq3⟩:∃w,U3[i]? =some w/\w.q=u.q:=iS rfl (by rw[UJ];exact huq);have ap:=uP X kids a ac bk ko ks Ln ha hm hr aN _ _ _ _ _ _ hS3 i w3 hw3 _ b3 es3 c3 DE JT rS;rw[hwq3]at ap;unfold rq at ap;rw[GV]at ap;refine ae ?_;refine kK ap Zr ZP (fun v Post hv=>?_) (fun ch Post hz=>?_);rotate_left
 ·obtain⟨q1,e1,p1,eg,rfl,rfl⟩:=hz;exact⟨[X.S,jL q1 e1 p1],ZI,q1,e1,p1,eg,rfl,rfl⟩
 obtain⟨iT,cW,U4,V4,T4,B4,⟨Us,Lr,CO,rows,yo,B5,Ae,cG,rfl⟩,rfl⟩:=hv;simp only[aE];obtain⟨va,vc,rfl⟩:=Ae.form;have dz:V2.length=st.vars.length+args.length:=by rw[JK.vl,g4]
 have Ta:V3.length=D1.1.vars.length+ab.length:=by rw[hR3.vl,d4]
 have hps2':((V4.map au.q).drop D1.1.vars.length).take ab.length=Bn:=by
  rw[drop_take CO (by rw[Vv];exact Ta),hps2,JK.vl]
 have hps1':((V4.map au.q).drop st.vars.length).take args.length=Tr:=by
  rw[drop_take (hp3.trans CO) (by rw[Vv];exact dz),hps1,hS.rep.vl]
 have dw:InlR (.mk 14 e0 ij ((List.range' D1.1.vars.length ab.length).map dL) 0 false (kT X.F X.G kids D2.1 D2.2 i).1) st.vars.length args.length (.tuple #[.agg (jf (.slice Sv Bn.length Sx) (.slice va (kT X.F X.G kids D2.1 D2.2 i).1.length vc)).toArray,cw Tr]) (V4.map au.q) (ai (.slice va (kT X.F X.G kids D2.1 D2.2 i).1.length vc) rows.flatten yo++(B5++ai (.slice Sv Bn.length Sx) (Bn.map fun b=>kL (some b)) ic)):=by
  refine⟨_,by rw[hps1'],?_⟩;have hle:D1.1.vars.length+ab.length<=(V4.map au.q).length:=by
   have:=CO.length_le;rw[Vv,Ta]at this;exact this
  have:=xV (k:=14) (nm:=e0) (lit:=ij) (refs:=(List.range' D1.1.vars.length ab.length).map dL) (unit:=0) (iQ:=false) (rv:=Nz) (vv:=.slice Sv Bn.length Sx) (B:=B5++ai (.slice Sv Bn.length Sx) (Bn.map fun b=>kL (some b)) ic) Ae (cG.more (fun x hx=>Zw _ hx) (QT _)) (oS _) (by rw[Dd];exact js.nil _) (by
   rw[IP,Jf hle,hps2'];exact(gY rfl ω).more (fun x hx=>Q8 _ hx)) (IQ hle)
  exact this
 unfold jf;refine ae ?_;refine VC.seq ?_;refine VC.draws ⟨?_,?_,trivial⟩
 ·exact zAM
 ·exact zAM
set_option maxHeartbeats 12800000
theorem Gz(S:List kB)(x:Nd)(vs:List Value)(h:j7 S x vs):ao Tryz.prog 136 [.agg vs.toArray] [S] (fun v Post=>v=.bool (jK x)/\Post=[S]):=by
 obtain⟨e1,e2,e3,e4,e5,e6,e7,a1,c1,a2,c2,a3,c3,bk,o,us,rfl,_⟩:=wI h;refine ao.intro low136 (by simp[n136]) ?_;refine ae ?_;refine kW Zr (fun q=>?_);simp only[Value.cells];unfold jK;refine ae ?_;by_cases hk:x.kind=7
 ·rw[show decide ((x.kind:Int)=7)=true from Zt Zo,Zt hk,vR];refine ae ?_;rw[show decide ((x.args.length:Int)=0)=decide (x.args.length=0)from decide_eq_decide.2 Zo];exact zDE
 ·rw[show decide ((x.kind:Int)=7)=false from Zf Zo,Zf hk,vI];exact zDE
theorem sD(S:List kB)(x:Nd)(vs:List Value)(h:j7 S x vs):ao Tryz.prog 70 [.agg vs.toArray] [S] (fun v Post=>(∃f t:Nat,v=.tuple #[vi f,vi t,.bool (wM x)]/\(wM x=true->f=jC (kb x.name)/\t=ib (kb x.name)))/\Post=[S]):=by
 obtain⟨e1,e2,e3,e4,e5,e6,e7,a1,c1,a2,c2,a3,c3,bk,o,us,rfl,xu,bB,bu,hk8,ha,hm,hr,tX⟩:=wI h;have bQ:∀b:Bool,b=false->wM x=b->∃f t:Nat,(Value.tuple #[vi 0,vi 0,.bool false]:Value)=.tuple #[vi f,vi t,.bool (wM x)]/\(wM x=true->f=jC (kb x.name)/\t=ib (kb x.name)):=fun b hb h'=>⟨0,0,by rw[h',hb];rfl,fun h2=>by rw[h',hb]at h2;cases h2⟩
 refine ao.intro low70 (by simp[n70]) ?_;refine VC.join (α:=Nat) (aW:=fun q=>[(1,kE q)]) (Hf:=fun q=>[kA q 0 (rN x.kind x.name e1 e2 e3 e4 e5 e6 e7 a1 x.args.length c1 a2 x.ab.length c2 a3 x.kids.length c3 x.at_),S]) (I:=fun _=>True) ?_ (fun q _=>?_)
 ·refine ae ?_;exact zCU
 refine VC.join (α:=Unit) (aW:=fun _=>[(1,kE q)]) (Hf:=fun _=>[kA q 0 (rN x.kind x.name e1 e2 e3 e4 e5 e6 e7 a1 x.args.length c1 a2 x.ab.length c2 a3 x.kids.length c3 x.at_),S]) (I:=fun _=>x.kind=4/\0 < x.kids.length/\jM x.kids=false) ?_ (fun _ hI=>?_)
 ·refine ae ?_;by_cases hk:x.kind=4;rotate_left
  ·rw[show decide ((x.kind:Int)=4)=false from Zf Zo];refine ae ?_;exact kG (Post:=[S]) (.inr rfl) (.tmp Zr (.tmp Zr (.tmp Zr .nil))) ⟨bQ _ rfl (by unfold wM fD;simp[hk]),rfl⟩ ZI
  rw[show decide ((x.kind:Int)=4)=true from Zt Zo];refine ae ?_;by_cases AY:x.kids.length=0
  ·rw[show decide ((x.kids.length:Int)=0)=true from Zt Zo];refine ae ?_;have tF:x.kids=[]:=vj AY;refine kG (Post:=[S]) (.inr rfl) (.tmp Zr (.tmp Zr (.tmp Zr .nil))) ⟨bQ _ rfl ?_,rfl⟩ ZI;exact zE6
  obtain rfl:=ha Zo;rw[show decide ((x.kids.length:Int)=0)=false from Zf Zo];obtain⟨r,ud⟩:∃r,x.kids[0]? =some r:=⟨_,Zg Zo⟩;obtain⟨r1,r2,r3,r4,r5,r6,r7,p1,d1,p2,d2,p3,d3,XR,o2,DG,HU,_⟩:=wI (hr 0 r ud);have f0:kB.cell bk o (.int .u8 r.kind)∈S:=hm 0 Zo _ (by rw[HU];exact kH.2 ⟨0,_,rfl,Zs⟩);have f1:kB.cell bk (o+1) (.string r.name)∈S:=hm 0 Zo _ (by rw[HU];exact kH.2 ⟨1,_,rfl,Zs⟩);have Ad:jM x.kids=jh r:=by
   exact zBY
  refine ae ?_;by_cases EL:r.kind=2
  ·rw[show decide ((r.kind:Int)=2)=true from Zt Zo];refine ae ?_;by_cases UL:r.name=⟨#[115,117,112,101,114]⟩
   ·rw[Zt UL];refine ae ?_;refine kG (Post:=[S]) (.inr rfl) (.tmp Zr (.tmp Zr (.tmp Zr .nil))) ⟨bQ _ rfl ?_,rfl⟩ ZI;have:jh r=true:=by unfold jh;rw[Zt EL,Zt (cT.2 UL)];rfl
    unfold wM fD;rw[Ad,this];simp
   rw[Zf UL];have Ξ:jh r=false:=by unfold jh;rw[Zf (fun e=>UL (cT.1 e))];simp
   refine ae ?_;exact⟨(),⟨hk,Zo,by rw[Ad];exact Ξ⟩,ZU,ZI⟩
  ·rw[show decide ((r.kind:Int)=2)=false from Zf Zo];have Ξ:jh r=false:=by unfold jh;rw[Zf EL];rfl
   refine ae ?_;exact⟨(),⟨hk,Zo,by rw[Ad];exact Ξ⟩,ZU,ZI⟩
 obtain⟨hk,AY,Ad⟩:=hI;obtain rfl:=ha AY;refine VC.join (α:=Unit) (aW:=fun _=>[(1,kE q),(5,vi 1),(6,vi 2)]) (Hf:=fun _=>[kA q 0 (rN x.kind x.name e1 e2 e3 e4 e5 e6 e7 a1 x.args.length c1 a2 x.ab.length c2 (some ⟨bk,o,none⟩) x.kids.length c3 x.at_),S]) (I:=fun _=>True) ?_ (fun _ _=>?_)
 ·exact zCH
 refine VC.join (α:=Nat) (aW:=fun n=>[(1,kE q),(5,vi (jC n)),(6,vi (ib n))]) (Hf:=fun _=>[kA q 0 (rN x.kind x.name e1 e2 e3 e4 e5 e6 e7 a1 x.args.length c1 a2 x.ab.length c2 (some ⟨bk,o,none⟩) x.kids.length c3 x.at_),S]) (I:=fun n=>kb x.name=n/\(n=1∨n=2∨n=3∨n=4)) ?_ (fun n hn=>?_)
 ·refine ae ?_;by_cases g0:x.name=⟨#[105,102,84,114,117,101,58]⟩
  ·rw[Zt g0];refine ae ?_;exact⟨1,⟨by rw[g0];decide,Zd⟩,ZU,ZI⟩
  rw[Zf g0];refine ae ?_;by_cases g1:x.name=⟨#[105,102,70,97,108,115,101,58]⟩
  ·rw[Zt g1];refine ae ?_;exact⟨1,⟨by rw[g1];decide,Zd⟩,ZU,ZI⟩
  rw[Zf g1];refine ae ?_;by_cases g2:x.name=⟨#[97,110,100,58]⟩
  ·rw[Zt g2];refine ae ?_;exact⟨1,⟨by rw[g2];decide,Zd⟩,ZU,ZI⟩
  rw[Zf g2];refine ae ?_;by_cases g3:x.name=⟨#[111,114,58]⟩
  ·rw[Zt g3];refine ae ?_;exact⟨1,⟨by rw[g3];decide,Zd⟩,ZU,ZI⟩
  rw[Zf g3];refine ae ?_;by_cases g4:x.name=⟨#[105,102,84,114,117,101,58,105,102,70,97,108,115,101,58]⟩
  ·rw[Zt g4];refine ae ?_;exact⟨2,⟨by rw[g4];decide,Zd⟩,ZU,ZI⟩
  rw[Zf g4];refine ae ?_;by_cases g5:x.name=⟨#[105,102,70,97,108,115,101,58,105,102,84,114,117,101,58]⟩
  ·rw[Zt g5];refine ae ?_;exact⟨2,⟨by rw[g5];decide,Zd⟩,ZU,ZI⟩
  rw[Zf g5];refine ae ?_;by_cases g6:x.name=⟨#[119,104,105,108,101,84,114,117,101,58]⟩
  ·rw[Zt g6];refine ae ?_;exact⟨3,⟨by rw[g6];decide,Zd⟩,ZU,ZI⟩
  rw[Zf g6];refine ae ?_;by_cases g7:x.name=⟨#[119,104,105,108,101,70,97,108,115,101,58]⟩
  ·rw[Zt g7];refine ae ?_;exact⟨3,⟨by rw[g7];decide,Zd⟩,ZU,ZI⟩
  rw[Zf g7];refine ae ?_;by_cases g8:x.name=⟨#[119,104,105,108,101,84,114,117,101]⟩
  ·rw[Zt g8];refine ae ?_;exact⟨4,⟨by rw[g8];decide,Zd⟩,ZU,ZI⟩
  rw[Zf g8];refine ae ?_;by_cases g9:x.name=⟨#[119,104,105,108,101,70,97,108,115,101]⟩
  ·rw[Zt g9];refine ae ?_;exact⟨4,⟨by rw[g9];decide,Zd⟩,ZU,ZI⟩
  rw[Zf g9];refine ae ?_;by_cases g10:x.name=⟨#[116,111,58,100,111,58]⟩
  ·rw[Zt g10];have bK:kb x.name=5:=by rw[g10];decide
   have bf:wM x=zl 5 x.kids:=by unfold wM fD;rw[bK,Ad,Zt hk];rfl
   have lZ:∀b:Bool,zl 5 x.kids=b->∃f t:Nat,(Value.tuple #[vi 2,vi 3,.bool b]:Value)=.tuple #[vi f,vi t,.bool (wM x)]/\(wM x=true->f=jC (kb x.name)/\t=ib (kb x.name)):=fun b hb=>⟨2,3,by rw[bf,hb];rfl,fun _=>by rw[bK];exact⟨rfl,rfl⟩⟩
   refine ae ?_;by_cases h3:x.kids.length=3;rotate_left
   ·rw[show decide ((x.kids.length:Int)=3)=false from Zf Zo];refine ae ?_;refine kG (Post:=[S]) (.inr rfl) (.tmp Zr (.tmp Zr (.tmp Zr .nil))) ⟨lZ _ ?_,rfl⟩ ZI;cases e:zl 5 x.kids with
    |false=>rfl
    |true=>
     exfalso;unfold zl at e;simp only at e;split at e
     ·rename_i lY;rw[lY]at h3;exact h3 rfl
     ·cases e
   rw[show decide ((x.kids.length:Int)=3)=true from Zt Zo];obtain⟨y,hy⟩:∃y,x.kids[2]? =some y:=⟨_,Zg Zo⟩;obtain⟨r1,r2,r3,r4,r5,r6,r7,p1,d1,p2,d2,p3,d3,XR,o2,DG,hus2,_⟩:=wI (hr 2 y hy);have f0:kB.cell bk (o+22) (.int .u8 y.kind)∈S:=hm 2 Zo _ (by rw[hus2];exact kH.2 ⟨0,_,rfl,Zs⟩);have f7:kB.cell bk (o+29) (.slice p1 y.args.length d1)∈S:=hm 2 Zo _ (by rw[hus2];exact kH.2 ⟨7,_,rfl,Zs⟩);have cE:zl 5 x.kids=(decide (y.kind=7)&&decide (y.args.length=1)):=by
    match lY:x.kids,h3 with
    |[a,b,c],_=>
     rw[lY]at hy;obtain rfl:c=y:=by simpa using hy
     rfl
   refine ae ?_;by_cases hy7:y.kind=7
   ·rw[show decide ((y.kind:Int)=7)=true from Zt Zo];refine ae ?_;rw[show decide ((y.args.length:Int)=1)=decide (y.args.length=1)from decide_eq_decide.2 Zo];refine ae ?_;refine kG (Post:=[S]) (.inr rfl) (.tmp Zr (.tmp Zr (.tmp Zr .nil))) ⟨lZ _ ?_,rfl⟩ ZI;rw[cE,Zt hy7,vR]
   ·rw[show decide ((y.kind:Int)=7)=false from Zf Zo];refine ae ?_;refine kG (Post:=[S]) (.inr rfl) (.tmp Zr (.tmp Zr (.tmp Zr .nil))) ⟨lZ _ ?_,rfl⟩ ZI;rw[cE,Zf hy7,vI]
  rw[Zf g10];refine ae ?_;refine kG (Post:=[S]) (.inr rfl) (.tmp Zr (.tmp Zr (.tmp Zr .nil))) ⟨bQ _ rfl ?_,rfl⟩ ZI;have bK:kb x.name=0:=by
   unfold kb;rw[if_neg (by rintro(e|e|e|e) <;> contradiction),if_neg (by rintro(e|e) <;> contradiction),if_neg (by rintro(e|e) <;> contradiction),if_neg (by rintro(e|e) <;> contradiction)];exact if_neg g10
  unfold wM fD;rw[bK];simp[zl]
 obtain⟨bK,hn4⟩:=hn;have bf:wM x=zl n x.kids:=by unfold wM fD;rw[bK,Ad,Zt hk];rfl
 have hft:jC n < ib n/\ib n<=3:=by rcases hn4 with rfl|rfl|rfl|rfl <;> decide
 refine ae ?_;by_cases hlen:x.kids.length=ib n;rotate_left
 ·rw[show decide ((x.kids.length:Int)=(ib n:Int))=false from Zf Zo];refine ae ?_;refine kG (Post:=[S]) (.inr rfl) (.tmp Zr (.tmp Zr (.tmp Zr .nil))) ⟨bQ _ rfl ?_,rfl⟩ ZI;rw[bf];cases e:zl n x.kids with
  |false=>rfl
  |true=>exact absurd (tV hn4 e) hlen
 rw[show decide ((x.kids.length:Int)=(ib n:Int))=true from Zt Zo];refine ae ?_;refine Sm Zr Zr Zr rfl rfl (l:=jC n) (h:=ib n) ⟨Zo,Zo⟩ ?_;rw[if_neg (show ¬c3=jC n by omega)];refine ae ?_;refine VC.loop (α:=Nat) (aW:=fun s=>[(5,vi (jC n)),(6,vi (ib n)),(82,.slice (some ⟨bk,o+jC n*11,none⟩) (ib n - jC n) (c3 - jC n)),(83,.int .i64 ((ib n - jC n:Nat):Int)),(84,vi s)]) (Hf:=fun _=>[S]) (I:=fun s=>s<=ib n - jC n/\∀j y,jC n<=j->j < jC n+s->x.kids[j]? =some y->jK y=true) (μ:=fun s=>ib n - jC n - s) 0
  ⟨Qs _,fun j y h1 h2=>by omega⟩ ZU ZI ?_
 rintro i ⟨hi,ii⟩
 refine ae ?_;by_cases aI:i < ib n - jC n;rotate_left
 ·rw[show decide ((i:Int) < ((ib n - jC n:Nat):Int))=false from Zf Zo];refine ae ?_;refine kG (Post:=[S]) (.inr rfl) (.tmp (v:=vi (jC n)) Zr (.tmp (v:=vi (ib n)) Zr (.tmp (v:=.bool true) Zr .nil))) ⟨⟨jC n,ib n,?_,fun _=>by rw[bK];exact⟨rfl,rfl⟩⟩,rfl⟩ ZI;rw[bf,Zq hn4 hlen (fun j y h1 h2=>ii j y h1 (by have:=(Vh.1 h2).1;omega) h2)];rfl
 rw[show decide ((i:Int) < ((ib n - jC n:Nat):Int))=true from Zt Zo];obtain⟨y,hy⟩:∃y,x.kids[jC n+i]? =some y:=⟨_,Zg Zo⟩;have lh:=hm (jC n+i) Zo;have dD:=hr (jC n+i) y hy;rw[show o+(jC n+i)*11=o+(jC n*11+i*11) by omega]at lh;generalize us (jC n+i)=kj at lh dD;have GQ:=Gz S y kj dD;obtain⟨g1,g2,g3,g4,g5,g6,g7,g8,g9,g10,g11,g12,g13,g14,g15,g16,rfl⟩:=mq dD;refine ae ?_;refine kS Zr (fun z hz=>by have h9:=lh z hz;simp[h9]) rfl ?_;refine ae ?_;refine kM (fun q8=>?_);refine ae ?_;refine kI GQ Zr ZP (fun v Post hv=>?_);obtain⟨rfl,rfl⟩:=hv;simp only[aE];cases hp:jK y with
 |false=>
  refine ae ?_;refine kG (Post:=[S]) (.inr rfl) (.tmp Zr (.tmp Zr (.tmp Zr .nil))) ⟨bQ _ rfl ?_,rfl⟩ ZI;rw[bf];exact Cq hn4 (Nat.le_add_right _ _) hy hp
 |true=>
  refine ae ?_;refine⟨i+1,⟨Zo,fun j z h1 h2 h3=>?_⟩,Zo,ZU,ZI⟩;by_cases hj:j < jC n+i
  ·exact ii j z h1 hj h3
  ·have e:j=jC n+i:=by omega
   rw[e,hy]at h3;rw[<- X0 h3];exact hp
set_option maxHeartbeats 3200000
theorem iA(S:List kB)(x:Nd)(vs:List Value)(h:j7 S x vs):ao Tryz.prog 26 [.agg vs.toArray] [S] (fun v Post=>v=.bool (wM x)/\Post=[S]):=by
 have hb:=sD S x vs h;obtain⟨g1,g2,g3,g4,g5,g6,g7,g8,g9,g10,g11,g12,g13,g14,g15,g16,rfl⟩:=mq h;refine ao.intro low26 (by simp[n26]) ?_;refine ae ?_;refine kW Zr (fun q=>?_);simp only[Value.cells];refine ae ?_;refine kI hb Zr ZP (fun v Post hv=>?_);obtain⟨⟨f,t,rfl,_⟩,rfl⟩:=hv;simp only[aE];exact zDE
end Go.Proofs.YtijnokbblmbpkaaGreatDoor
namespace Go.V
open Go
theorem iC:∀l l':List Lt,eY l l'=true↔l.length=l'.length/\∀(j:Nat) x y,l[j]? =some x->l'[j]? =some y->eo x y=true:=by
 intro l
 induction l with
 |nil=>
  intro l';cases l' with
  |nil=>simp[eY]
  |cons y r=>simp[eY]
 |cons x r ih=>
  intro l';cases l' with
  |nil=>simp[eY]
  |cons y q=>
   simp only[eY,vF,ih q,Vp];constructor
   ·exact zB9
   ·exact zC7
theorem r8:∀l l':List Nd,mr l l'=true↔l.length=l'.length/\∀(j:Nat) x y,l[j]? =some x->l'[j]? =some y->oW x y=true:=by
 intro l
 induction l with
 |nil=>
  intro l';cases l' with
  |nil=>simp[mr]
  |cons y r=>simp[mr]
 |cons x r ih=>
  intro l';cases l' with
  |nil=>simp[mr]
  |cons y q=>
   simp only[mr,vF,ih q,Vp];constructor
   ·exact zB9
   ·exact zC7
theorem CY {l l':List Lt}{j:Nat}{x y:Lt}(h1:l[j]? =some x)(h2:l'[j]? =some y)(h:eo x y=false):eY l l'=false:=
 vH.2 fun e=>by have:=((iC l l').1 e).2 j x y h1 h2;rw[h]at this;cases this
theorem E6 {l l':List Nd}{j:Nat}{x y:Nd}(h1:l[j]? =some x)(h2:l'[j]? =some y)(h:oW x y=false):mr l l'=false:=
 vH.2 fun e=>by have:=((r8 l l').1 e).2 j x y h1 h2;rw[h]at this;cases this
theorem Ig {l l':List Lt}(h:l.length≠l'.length):eY l l'=false:=vH.2 fun e=>h ((iC l l').1 e).1
theorem LV {l l':List Nd}(h:l.length≠l'.length):mr l l'=false:=vH.2 fun e=>h ((r8 l l').1 e).1
theorem Su {l l':List ByteArray}(h1:l.length=l'.length)(h2:∀(j:Nat) x y,l[j]? =some x->l'[j]? =some y->x=y):l=l':=by
 apply vm;intro j;by_cases hj:j < l.length
 ·rw[Zg hj,Zg (h1 ▸ hj)];rw[h2 j l[j] (l'[j]'(h1 ▸ hj)) (Zg hj) (Zg (h1 ▸ hj))]
 ·rw[Ve Zo,Ve Zo]
section
variable {P:Program} {n:Nat} {Γ:Env} {H:SH} {Q:Exit->Env->SH->Prop}
end
abbrev NV:=Nd×List Value
theorem Kc {A:List kB}{x:Nd}{vs:List Value}(h:j7 A x vs):∃(e1:Nat) (e2:Int) (e3:Nat) (e4:ByteArray) (e5:Option Addr) (e6 e7:Nat) (e8:Option Addr) (e9 u7:Nat) (u9:Option Addr) (xd xe:Nat) (a:Option Addr) (c bk o:Nat) (us:Nat->List Value),
 vs=(rA x.kind x.name e1 e2 e3 e4 e5 e6 e7 e8 e9 u7 u9 xd xe a x.kids.length c x.at_)/\x.kids.length<=140737488355328/\(0 < x.kids.length->a=some ⟨bk,o,none⟩)/\
 (∀i,i < x.kids.length->∀y∈kA bk (o+i*11) (us i),y∈A)/\∀i y,x.kids[i]? =some y->j7 A y (us i):=by
 cases h with
 |mk wf hl bB bu ha hm hr tX=>
  obtain⟨_,_,rfl,_⟩:=bB;obtain⟨_,_,rfl,_⟩:=bu;cases hl with
  |mk Nw GL pC ez=>exact⟨_,_,_,_,_,_,_,_,_,_,_,_,_,_,_,_,_,_,rfl,wf.many,ha,hm,hr⟩
end Go.V

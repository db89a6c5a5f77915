/-
  What a name stands for.
-/
import Derived.Test.YtijnokbblmbpkaaGreatDoorS20
import Derived.Test.YtijnokbblmbpkaaGreatDoorS17
import Derived.Test.YtijnokbblmbpkaaGreatDoorS6
import Derived.Test.YtijnokbblmbpkaaGreatDoorS12
import Derived.Test.YtijnokbblmbpkaaGreatDoorS5
import Derived.Test.YtijnokbblmbpkaaGreatDoorS7
set_option linter.all false
namespace Go.Proofs.YtijnokbblmbpkaaGreatDoor
open Go Go.V
set_option maxHeartbeats 6400000
set_option maxRecDepth 100000
theorem Jc(F G:List ByteArray)(wq fb gb:Nat)(us:Value)(bI bM:Array MapEntry)(fc gc:Nat)(hF:pu F bI fc)(hG:tW G bM gc)(k:Nat)(nm:ByteArray)(l1 l2 l3 l4 l5 a7 a8 a9:Value)(p:Int)
 (st:ah) (U:List UC) (Vs:List ax) (hR:cA st U Vs) (i:Nat) (u:UC) (hu:U[i]? =some u) (hf:st.f=none) (hb:st.uses.length < 1073741824) (env:List Nat) (b:Nat) (es:Array MapEntry) (c:Nat) (hs:z7 st Vs env es c) (DY:∀v∈env,st.af v∈st.line i):
 jf Tryz.prog 209 [kF wq,.agg #[cv k,.string nm,l1,l2,l3,l4,l5,a7,a8,a9,.int .i64 p],kF u.q,.map (some b)] [kA wq 0 [.map (some fb),.map (some gb),us],[.obj fb (.map bI fc)],[.obj gb (.map bM gc)],WK U Vs,[.obj b (.map es c)]]
  (fun v Post=>∃U' nN,((wQ F G st env nm i p (decide (k=3))).2.f=none/\v=sr nN (wQ F G st env nm i p (decide (k=3))).1/\cA (wQ F G st env nm i p (decide (k=3))).2 U' nN/\U'.map UC.q=U.map UC.q/\U'.map UC.body=U.map UC.body/\nN.map ax.q=Vs.map ax.q)/\
    Post=[kA wq 0 [.map (some fb),.map (some gb),us],[.obj fb (.map bI fc)],[.obj gb (.map bM gc)],WK U' nN,[.obj b (.map es c)]])
  (fun ch Post=>∃q e,(wQ F G st env nm i p (decide (k=3))).2.f=some (e,p)/\ch=oH q/\Post=[j9 q e p]):=by
 obtain⟨mF,hF1,hF2⟩:=hF.is;obtain⟨mG,hG1,hG2⟩:=hG.is;refine jf.intro abc (by simp[n209]) ?_;refine ae ?_;refine kY Zr (fun q5=>?_);simp only[Value.cells];refine kN (fun q8=>?_);refine ae ?_;by_cases h1:nm=⟨#[115,101,108,102]⟩
 ·have hk:zY nm=1:=by rw[h1];decide
  rw[Zt h1];exact zAV
 rw[Zf h1];refine ae ?_;by_cases h2:nm=⟨#[115,117,112,101,114]⟩
 ·have hk:zY nm=1:=by rw[h2];decide
  rw[Zt h2];exact zAV
 rw[Zf h2];refine ae ?_;by_cases h3:nm=⟨#[110,105,108]⟩
 ·have hk:zY nm=2:=by rw[h3];decide
  rw[Zt h3];refine ae ?_;have hr:=qq (F:=F) (G:=G) (st:=st) (env:=env) (nm:=nm) (u:=i) (p:=p) (put:=decide (k=3)) (by rw[hk];decide);rw[hr,hk];exact jM ⟨.inr rfl,_,[kA wq 0 [.map (some fb),.map (some gb),us],[.obj fb (.map bI fc)],[.obj gb (.map bM gc)],WK U Vs,[.obj b (.map es c)]],.aJ (us:=jX ⟨2,0,0,e0⟩) Zr Zr (fun y hy=>by simp only[V9,QA];exact .inl hy) (.tmp Zr .nil),ZI,U,Vs,⟨hf,rfl,hR,rfl,rfl,rfl⟩,rfl⟩
 rw[Zf h3];refine ae ?_;by_cases h4:nm=⟨#[116,114,117,101]⟩
 ·have hk:zY nm=3:=by rw[h4];decide
  rw[Zt h4];refine ae ?_;have hr:=qq (F:=F) (G:=G) (st:=st) (env:=env) (nm:=nm) (u:=i) (p:=p) (put:=decide (k=3)) (by rw[hk];decide);rw[hr,hk];exact jM ⟨.inr rfl,_,[kA wq 0 [.map (some fb),.map (some gb),us],[.obj fb (.map bI fc)],[.obj gb (.map bM gc)],WK U Vs,[.obj b (.map es c)]],.aJ (us:=jX ⟨3,0,0,e0⟩) Zr Zr (fun y hy=>by simp only[V9,QA];exact .inl hy) (.tmp Zr .nil),ZI,U,Vs,⟨hf,rfl,hR,rfl,rfl,rfl⟩,rfl⟩
 rw[Zf h4];refine ae ?_;by_cases h5:nm=⟨#[102,97,108,115,101]⟩
 ·have hk:zY nm=4:=by rw[h5];decide
  rw[Zt h5];refine ae ?_;have hr:=qq (F:=F) (G:=G) (st:=st) (env:=env) (nm:=nm) (u:=i) (p:=p) (put:=decide (k=3)) (by rw[hk];decide);rw[hr,hk];exact jM ⟨.inr rfl,_,[kA wq 0 [.map (some fb),.map (some gb),us],[.obj fb (.map bI fc)],[.obj gb (.map bM gc)],WK U Vs,[.obj b (.map es c)]],.aJ (us:=jX ⟨4,0,0,e0⟩) Zr Zr (fun y hy=>by simp only[V9,QA];exact .inl hy) (.tmp Zr .nil),ZI,U,Vs,⟨hf,rfl,hR,rfl,rfl,rfl⟩,rfl⟩
 rw[Zf h5];refine ae ?_;have hk:=refK_0 h1 h2 h3 h4 h5;obtain⟨hg1,hg2⟩:=hs.find nm;refine wx (E:=yC) (V:=fun b=>kM (some b)) (k:=nm) Zr Zr rfl Zax hs.is ?_;rw[hg1];cases HT:w9 st.vars env nm with
 |some v=>
  obtain⟨hg3,hg4,hg5⟩:=hg2 v HT;obtain⟨x,hx⟩:∃x,st.vars[v]? =some x:=⟨_,Zg hg4⟩;obtain⟨y,hy⟩:∃y,Vs[v]? =some y:=⟨_,Zg (by rw[hR.vl];exact hg4)⟩;have hyq:y.q=tf Vs v:=by unfold tf;rw[Vb,hy];rfl
  have hfx:=(hR.vn v x y hx hy).2.2.1;have m2:kC.cell y.q 2 (.bool y.fixed)∈WK U Vs:=iY hy _ (kI.2 ⟨2,.bool y.fixed,rfl,Zs⟩);rw[hfx]at m2;simp only[mh,Qw,kM,if_false,vK];rw[<- hyq];generalize hB:WK U Vs=B at m2|-;cases hxa:x.arg with
  |true=>
   rw[hxa]at m2;by_cases ri:k=3
   ·subst ri;have fO:(decide (3=3)&&((st.vars[v]?).map (·.arg)).getD false)=true:=by rw[hx];simp[hxa]
    have gp:=Ge (F:=F) (G:=G) (env:=env) (u:=i) (p:=p) hk HT fO hf;refine ae ?_;refine kL (cW 182 p) Zr ZP (fun v Post hv=>hv.elim) (fun ch Post hz=>?_);obtain⟨q,rfl,rfl⟩:=hz;exact⟨[j9 q 182 p],ZI,q,182,gp,rfl,rfl⟩
   ·have fO:(decide (k=3)&&((st.vars[v]?).map (·.arg)).getD false)=false:=by simp[ri]
    refine ae ?_;rw[show decide ((k:Int)=3)=false from Zf Zo];exact zAL
  |false=>
   rw[hxa]at m2;have fO:(decide (k=3)&&((st.vars[v]?).map (·.arg)).getD false)=false:=by rw[hx];simp[hxa]
   exact zAL
 |none=>
  simp only[mh,Qv,if_false,vK];refine ae ?_;refine wx (E:=yC) (V:=fun n:Nat=>.int .i64 n) (k:=nm) Zr Zr rfl Zax hF1 ?_;rw[hF2];cases hfi:F.findIdx? (fun s=>decide (s=nm))with
  |some fi=>
   simp only[mh,Qw,if_true];refine ae ?_;rw[yj hk HT hfi];exact jM ⟨.inr rfl,_,[kA wq 0 [.map (some fb),.map (some gb),us],[.obj fb (.map bI fc)],[.obj gb (.map bM gc)],WK U Vs,[.obj b (.map es c)]],.aJ (us:=jX ⟨7,fi,0,e0⟩) Zr Zr (fun y hy=>by simp only[V9,QA];exact .inl hy) (.tmp Zr .nil),ZI,U,Vs,⟨hf,rfl,hR,rfl,rfl,rfl⟩,rfl⟩
  |none=>
   simp only[mh,Qv,if_true];refine ae ?_;refine wx (E:=yC) (V:=fun n:Nat=>.int .i64 n) (k:=nm) Zr Zr rfl Zax hG1 ?_;have hg:=hG2 nm;cases hga:G.any (fun s=>decide (s=nm))with
   |true=>
    rw[hga]at hg;have ck:(ky nm mG).getD 0≠0:=by simpa using hg
    obtain⟨n,hn⟩:∃n,ky nm mG=some n:=by
     cases e:ky nm mG with
     |none=>rw[e]at ck;exact absurd rfl ck
     |some n=>exact⟨n,rfl⟩
    rw[hn]at ck|-;simp only[Qs]at ck;simp only[mh,Qw,if_false,vK];refine ae ?_;rw[show decide ((n:Int)=0)=false from Zf Zo];refine ae ?_;rw[B7 hk HT hfi hga];exact jM ⟨.inr rfl,_,[kA wq 0 [.map (some fb),.map (some gb),us],[.obj fb (.map bI fc)],[.obj gb (.map bM gc)],WK U Vs,[.obj b (.map es c)]],.aJ (us:=jX ⟨8,0,0,nm⟩) Zr Zr (fun y hy=>by simp only[V9,QA];exact .inl hy) (.tmp Zr .nil),ZI,U,Vs,⟨hf,rfl,hR,rfl,rfl,rfl⟩,rfl⟩
   |false=>
    rw[hga]at hg;have gp:=B8 (F:=F) (G:=G) (st:=st) (env:=env) (nm:=nm) (u:=i) (p:=p) (put:=decide (k=3)) hk HT hfi hga hf;have hz0:(ky nm mG).getD 0=0:=by simpa using hg
    have Z1:mh false (.int .i64 0) ((ky nm mG).map fun n:Nat=>.int .i64 n)=.int .i64 0:=by
     cases e:ky nm mG with
     |none=>rfl
     |some n=>rw[e]at hz0;simp only[Qs]at hz0;rw[hz0];rfl
    rw[Z1];refine ae ?_;refine kL (cW 181 p) Zr ZP (fun v Post hv=>hv.elim) (fun ch Post hz=>?_);obtain⟨q,rfl,rfl⟩:=hz;exact⟨[j9 q 181 p],ZI,q,181,gp,rfl,rfl⟩
structure Fix where
 F:List ByteArray
 G:List ByteArray
 wq:Nat
 fb:Nat
 gb:Nat
 bI:Array MapEntry
 bM:Array MapEntry
 fc:Nat
 gc:Nat
 S:List kC
structure MM (X:Fix):Prop where
 f:pu X.F X.bI X.fc
 g:tW X.G X.bM X.gc
def rp(X:Fix)(f:Nat)(args:List Value)(st He:ah)(us:Value)(bz:List Value)(U:List UC)(Vs:List ax)(T:List kC)(b:Nat)(es:Array MapEntry)(c:Nat)(R:Value->List Nat->List kC->Prop):Prop:=
 jf Tryz.prog f args [kA X.wq 0 [.map (some X.fb),.map (some X.gb),us],ai us (U.map fun u=>kM (some u.q)) bz,[.obj X.fb (.map X.bI X.fc)],[.obj X.gb (.map X.bM X.gc)],WK U Vs,T,[.obj b (.map es c)],X.S]
  (fun v Post=>∃SJ R0 U' nN T' B,(gM He SJ R0 U' nN T'/\U.map UC.q <+:U'.map UC.q/\Vs.map ax.q <+:nN.map ax.q/\R v (nN.map ax.q) B)/\
    Post=[kA X.wq 0 [.map (some X.fb),.map (some X.gb),SJ],ai SJ (U'.map fun u=>kM (some u.q)) R0,[.obj X.fb (.map X.bI X.fc)],[.obj X.gb (.map X.bM X.gc)],WK U' nN,T',[.obj b (.map es c)],X.S,B])
  (fun ch Post=>∃q e p,He.f=some (e,p)/\ch=oH q/\Post=[X.S,j9 q e p])
def Xa(pn:PN)(v:Value)(qs:List Nat)(B:List kC):Prop:=∃ws,v=.agg ws.toArray/\uJ B qs pn ws
def AllR(l:List PN)(v:Value)(qs:List Nat)(B:List kC):Prop:=∃rows sp B',jG 13 v l.length rows.flatten sp/\zW B' qs l rows/\B=ai v rows.flatten sp++B'
def ot(X:Fix)(x:Nd)(vs:List Value):Prop:=
 ∀st us bz U Vs T,gM st us bz U Vs T->∀(i:Nat) (u:UC),U[i]? =some u->∀env b es c,z7 st Vs env es c->(∀v∈env,st.af v∈st.line i)->Room st (pE x)->
  rp X 172 [kF X.wq,.agg vs.toArray,kF u.q,.map (some b)] st (jH X.F X.G x st env i).2 us bz U Vs T b es c (Xa (jH X.F X.G x st env i).1)
theorem sA {st He:ah}(h:Gr st He)(hw:Wf st)(rX:Wf He){i:Nat}(hi:i < st.outer.length){v:Nat}(hv:v < st.vars.length):He.line i=st.line i/\He.af v=st.af v:=by
 refine⟨?_,?_⟩
 ·induction i using Nat.strongRecOn with
  |_ i ih=>
   have ho:He.outer.getD i (-1)=st.outer.getD i (-1):=by
    obtain⟨t,ht⟩:=h.outer;rw[<- ht,Vb,Vb,Vd hi]
   have hl:=h.outer.length_le;rw[rX.line Zo,hw.line Zo,ho]
   congr 1
   split
   ·rfl
   ·have:=hw.ff i;exact ih _ Zo Zo
 ·obtain⟨t,ht⟩:=h.vars;unfold ah.af;rw[<- ht,Vd hv]
theorem uN(X:Fix)(l:List Nd)(a:Option Addr)(ac bk o:Nat)(ks:Nat->List Value)(K2:l.length < 1073741824)(ha:0 < l.length->a=some ⟨bk,o,none⟩)(hm:∀i,i < l.length->∀y∈kA bk (o+i*11) (ks i),y∈X.S)(hr:∀i x,l[i]? =some x->jJ X.S x (ks i))(aM:∀i x,l[i]? =some x->ot X x (ks i))
 (st:ah) (us:Value) (bz:List Value) (U:List UC) (Vs:List ax) (T:List kC) (hS:gM st us bz U Vs T) (i:Nat) (u:UC) (hu:U[i]? =some u) (env:List Nat) (b:Nat) (es:Array MapEntry) (c:Nat) (hs:z7 st Vs env es c) (DY:∀v∈env,st.af v∈st.line i) (bV:Room st (jN l)):
 rp X 112 [kF X.wq,.slice a l.length ac,kF u.q,.map (some b)] st (kV X.F X.G l st env i).2 us bz U Vs T b es c (AllR (kV X.F X.G l st env i).1):=by
 refine jf.intro aag (by simp[n112]) ?_;refine ae ?_;refine VC.loop (α:=Nat×ah×Value×List Value×List UC×List ax×List kC×Value×List (List Value)×List Value×List kC×List PN) (bn:=fun s=>[(0,kF X.wq),(2,kF u.q),(3,.map (some b)),(9,s.2.2.2.2.2.2.2.1),(12,.slice a l.length ac),(13,vi l.length),(14,vi s.1)])
  (Hf:=fun s=>[kA X.wq 0 [.map (some X.fb),.map (some X.gb),s.2.2.1],ai s.2.2.1 (s.2.2.2.2.1.map fun u=>kM (some u.q)) s.2.2.2.1,[.obj X.fb (.map X.bI X.fc)],[.obj X.gb (.map X.bM X.gc)],WK s.2.2.2.2.1 s.2.2.2.2.2.1,s.2.2.2.2.2.2.1,[.obj b (.map es c)],X.S,ai s.2.2.2.2.2.2.2.1 s.2.2.2.2.2.2.2.2.1.flatten s.2.2.2.2.2.2.2.2.2.1,s.2.2.2.2.2.2.2.2.2.2.1])
  (I:=fun s=>s.1<=l.length/\(∃w,s.2.2.2.2.1[i]? =some w/\w.q=u.q)/\gM s.2.1 s.2.2.1 s.2.2.2.1 s.2.2.2.2.1 s.2.2.2.2.2.1 s.2.2.2.2.2.2.1/\Gr st s.2.1/\U.map UC.q <+:s.2.2.2.2.1.map UC.q/\Vs.map ax.q <+:s.2.2.2.2.2.1.map ax.q/\Room s.2.1 (jN (l.drop s.1))/\
    (kV X.F X.G l st env i).2=(kV X.F X.G (l.drop s.1) s.2.1 env i).2/\(kV X.F X.G l st env i).1=s.2.2.2.2.2.2.2.2.2.2.2++(kV X.F X.G (l.drop s.1) s.2.1 env i).1/\s.2.2.2.2.2.2.2.2.2.2.2.length=s.1/\
    jG 13 s.2.2.2.2.2.2.2.1 s.1 s.2.2.2.2.2.2.2.2.1.flatten s.2.2.2.2.2.2.2.2.2.1/\zW s.2.2.2.2.2.2.2.2.2.2.1 (s.2.2.2.2.2.1.map ax.q) s.2.2.2.2.2.2.2.2.2.2.2 s.2.2.2.2.2.2.2.2.1) (μ:=fun s=>l.length - s.1) (0,st,us,bz,U,Vs,T,Nz,[],[],[],[])
  ⟨Qp _,⟨u,hu,rfl⟩,hS,Gr.refl st,QV _,QV _,bV,rfl,rfl,rfl,.nil,zW.nil _ _⟩ ZU (ao.cut (M:=[kA X.wq 0 [.map (some X.fb),.map (some X.gb),us],ai us (U.map fun u=>kM (some u.q)) bz,[.obj X.fb (.map X.bI X.fc)],[.obj X.gb (.map X.bM X.gc)],WK U Vs,T,[.obj b (.map es c)],X.S]) ZI (ao.perm (by simp[ai]))) ?_
 rintro⟨j,bN,AI,nY,U1,V1,T1,sv,rows,sp,B,Wj⟩ ⟨hj,⟨w,hw,po⟩,KQ,DW,hpU,hpV,Sx,Tq,Sp,pK,bF,du⟩
 simp only at hj hw po KQ DW hpU hpV Sx Tq Sp pK bF du;dsimp only;obtain⟨sa,sc,gq⟩:=bF.form;subst gq;refine ae ?_;by_cases aO:j < l.length;rotate_left
 ·rw[show decide ((j:Int) < (l.length:Int))=false from Zf Zo];have Ba:j=l.length:=by omega
  rw[Ba,List.drop_length,kV]at Sp Tq;simp only[vg]at Sp Tq;have hpl2:Wj.length=j:=pK;refine ae ?_;refine jM (kG (Post:=[kA X.wq 0 [.map (some X.fb),.map (some X.gb),AI],ai AI (U1.map fun u=>kM (some u.q)) nY,[.obj X.fb (.map X.bI X.fc)],[.obj X.gb (.map X.bM X.gc)],WK U1 V1,T1,[.obj b (.map es c)],X.S,ai (.slice sa j sc) rows.flatten sp++B]) (.inr rfl) (.tmp (v:=.slice sa j sc) Zr .nil)
   ⟨AI,nY,U1,V1,T1,_,⟨?_,hpU,hpV,rows,sp,B,?_,?_,rfl⟩,rfl⟩ (ao.cut (M:=[kA X.wq 0 [.map (some X.fb),.map (some X.gb),AI],ai AI (U1.map fun u=>kM (some u.q)) nY,[.obj X.fb (.map X.bI X.fc)],[.obj X.gb (.map X.bM X.gc)],WK U1 V1,T1,[.obj b (.map es c)],X.S,ai (.slice sa j sc) rows.flatten sp,B]) ZI (ao.perm Zs)))
  ·rw[Tq];exact KQ
  ·rw[Sp,hpl2];exact bF
  ·rw[Sp];exact du
 obtain rfl:=ha Zo;rw[show decide ((j:Int) < (l.length:Int))=true from Zt Zo];obtain⟨y,hy⟩:∃y,l[j]? =some y:=⟨_,Zg aO⟩;have NH:l.drop j=y::l.drop (j+1):=by
  rw[vp aO]
  congr 1
  rw[Zg aO]at hy;exact Qx hy
 rw[NH]at Sp Tq Sx;simp only[jN]at Sx;rw[wX]at Sp Tq;simp only at Sp Tq;have cH:=hm j aO;have bL:=hr j y hy;have et:i < st.outer.length:=by have:=(Vm.1 hu).1;rw[hS.rep.ul]at this;exact this
 have aE:=aM j y hy bN AI nY U1 V1 T1 KQ i w hw env b es c (hs.more DW.vars hpV hS.rep.vl) (fun v hv=>by
  obtain⟨k1,k2⟩:=sA DW hS.rep.wf KQ.rep.wf et (hs.lt v hv);rw[k1,k2];exact DY v hv) (Sx.mono Zo)
 have hgp:=(zo X.F X.G _ y (Qh _) bN env i).1;have ZB:=(mY X.F X.G _ y (Qh _) bN env i).1;rw[po]at aE;generalize ks j=kj at*;obtain⟨e1,e2,e3,e4,e5,e6,e7,e8,e9,tF,tG,tH,tI,GX,GY,GZ,rfl⟩:=qd bL;refine ae ?_;refine kX Zr (fun z hz=>by have h9:=cH z hz;simp[h9]) rfl ?_;refine ae ?_;refine kN (fun LO=>?_);refine ae ?_;refine kL aE Zr ZP (fun v Post hv=>?_) (fun ch Post hz=>?_);rotate_left
 ·obtain⟨q,e,p,gp,rfl,rfl⟩:=hz;refine⟨[X.S,j9 q e p],ZI,q,e,p,?_,rfl,rfl⟩;rw[Tq];exact(wn X.F X.G (l.drop (j+1)) _ env i).f _ gp
 obtain⟨GJ,ij,U2,V2,T2,B2,⟨G0,tR,tS,ws,rfl,hn⟩,rfl⟩:=hv;simp only[aH];obtain⟨f1,f2,f3,f4,f5,f6,f7,r1,r2,r3,p1,p2,p3,k1,k2,k3,Sz⟩:=iK hn;subst Sz;generalize Bf:(jH X.F X.G y bN env i).1=pn at hn Sp|-;refine jE (out:=[.int .u8 pn.kind,.string pn.name,.int .u8 f1,.int .i64 f2,.int .u64 f3,.string f4,.slice f5 f6 f7,.slice r1 r2 r3,.int .i64 pn.unit,.bool pn.super,.slice none 0 0,.slice p1 p2 p3,.slice k1 k2 k3]) Zr Zr (fun r=>?_);refine jK (k:=j) (m:=1) (xs:=rows.flatten) (sp:=sp) (ys:=[.int .u8 pn.kind,.string pn.name,.int .u8 f1,.int .i64 f2,.int .u64 f3,.string f4,.slice f5 f6 f7,.slice r1 r2 r3,.int .i64 pn.unit,.bool pn.super,.slice none 0 0,.slice p1 p2 p3,.slice k1 k2 k3]) Zr Zr bF ZK Zr ?_ rfl Zr Zr Zd Zo (fun eK bE aR=>?_)
 ·exact Eg
 have fG:rows.flatten++([.int .u8 pn.kind,.string pn.name,.int .u8 f1,.int .i64 f2,.int .u64 f3,.string f4,.slice f5 f6 f7,.slice r1 r2 r3,.int .i64 pn.unit,.bool pn.super,Nz,.slice p1 p2 p3,.slice k1 k2 k3]:List Value)=(rows++[([.int .u8 pn.kind,.string pn.name,.int .u8 f1,.int .i64 f2,.int .u64 f3,.string f4,.slice f5 f6 f7,.slice r1 r2 r3,.int .i64 pn.unit,.bool pn.super,Nz,.slice p1 p2 p3,.slice k1 k2 k3]:List Value)]).flatten:=by simp
 rw[fG]at aR|-;obtain⟨nE,nF,rfl⟩:=aR.form;refine ae ?_;refine⟨(j+1,_,GJ,ij,U2,V2,T2,.slice nE (j+1) nF,rows++[[.int .u8 pn.kind,.string pn.name,.int .u8 f1,.int .i64 f2,.int .u64 f3,.string f4,.slice f5 f6 f7,.slice r1 r2 r3,.int .i64 pn.unit,.bool pn.super,Nz,.slice p1 p2 p3,.slice k1 k2 k3]],bE,B++B2,Wj++[pn]),⟨by simp only;omega,?_,G0,DW.trans hgp,hpU.trans tR,hpV.trans tS,Sx.less ZB,Tq,by simp only;rw[Sp];simp,by simp[pK],aR,?_⟩,by simp only;omega,ZU,?_⟩
 ·obtain⟨t,ht⟩:=tR;have h1:(U1.map UC.q)[i]? =some w.q:=by rw[Vn,hw];rfl
  have h2:(U2.map UC.q)[i]? =some w.q:=by
   rw[<- ht,Vd (Vm.1 h1).1];exact h1
  rw[Vn]at h2;obtain⟨w',h3,h4⟩:=Qu.1 h2;exact⟨w',h3,h4.trans po⟩
 ·exact(du.more (fun x hx=>Zw _ hx) tS).snoc (hn.more (fun x hx=>QB _ hx) (QV _))
 ·simp only;refine ao.cut (M:=[kA X.wq 0 [.map (some X.fb),.map (some X.gb),GJ],ai GJ (U2.map fun u=>kM (some u.q)) ij,[.obj X.fb (.map X.bI X.fc)],[.obj X.gb (.map X.bM X.gc)],WK U2 V2,T2,[.obj b (.map es c)],X.S,ai (.slice nE (j+1) nF) (rows++[([.int .u8 pn.kind,.string pn.name,.int .u8 f1,.int .i64 f2,.int .u64 f3,.string f4,.slice f5 f6 f7,.slice r1 r2 r3,.int .i64 pn.unit,.bool pn.super,Nz,.slice p1 p2 p3,.slice k1 k2 k3]:List Value)]).flatten bE,B,B2]) ZI (ao.perm Zs)
theorem Ta {U:List UC}{Vs:List ax}{q:Nat}{w:World}{L:List kC}{M:List kC}(hs:Sat w (L++M))(hq:kC.own q 9∈L)(hm:∀x∈WK U Vs,x∈M):q∉U.map UC.q:=by
 intro aY;obtain⟨u,hu,rfl⟩:=QH.1 aY;have hn:=hs.nodup;rw[Q5,QM]at hn;have h1:kC.own u.q 9∈WK U Vs:=Zw _ (QG.2 ⟨u,hu,QE ..⟩);exact hn.2.2 _ (QH.2 ⟨_,hq,rfl⟩) _ (QH.2 ⟨_,hm _ h1,rfl⟩) rfl
theorem uT(X:Fix)(vk l1 l2 l3 l4 l5:Value)(vn:Value)(args ab:List ByteArray)(av tv:Value)(bK:eg X.S av args)(bG:eg X.S tv ab)(kids:List Nd)(a:Option Addr)(ac bk ko:Nat)(ks:Nat->List Value)(K2:kids.length < 1073741824)(ha:0 < kids.length->a=some ⟨bk,ko,none⟩)(hm:∀i,i < kids.length->∀y∈kA bk (ko+i*11) (ks i),y∈X.S)(hr:∀i x,kids[i]? =some x->jJ X.S x (ks i))(aM:∀i x,kids[i]? =some x->ot X x (ks i))(p:Int)
 (st:ah) (us:Value) (bz:List Value) (U:List UC) (Vs:List ax) (T:List kC) (hS:gM st us bz U Vs T) (o:Int) (ho:-1<=o/\o < st.outer.length) (env:List Nat) (b:Nat) (es:Array MapEntry) (c:Nat) (hs:z7 st Vs env es c) (DY:∀v∈env,∃i:Nat,o=i/\st.af v∈st.line i) (bV:Room st (iy args ab (jN kids))):
 jf Tryz.prog 49 [kF X.wq,.agg #[vk,vn,l1,l2,l3,l4,l5,av,tv,.slice a kids.length ac,.int .i64 p],kM (ml U o),.map (some b)]
  [kA X.wq 0 [.map (some X.fb),.map (some X.gb),us],ai us (U.map fun u=>kM (some u.q)) bz,[.obj X.fb (.map X.bI X.fc)],[.obj X.gb (.map X.bM X.gc)],WK U Vs,T,[.obj b (.map es c)],X.S]
  (fun v Post=>∃SJ R0 U' nN T',(gM (oj X.F X.G args ab kids p st env o) SJ R0 U' nN T'/\U.map UC.q <+:U'.map UC.q/\Vs.map ax.q <+:nN.map ax.q/\∃w,U'[st.outer.length]? =some w/\v=kF w.q)/\
    Post=[kA X.wq 0 [.map (some X.fb),.map (some X.gb),SJ],ai SJ (U'.map fun u=>kM (some u.q)) R0,[.obj X.fb (.map X.bI X.fc)],[.obj X.gb (.map X.bM X.gc)],WK U' nN,T',[.obj b (.map es c)],X.S])
  (fun ch Post=>∃q e p',(oj X.F X.G args ab kids p st env o).f=some (e,p')/\ch=oH q/\Post=[X.S,j9 q e p']):=by
 obtain⟨ua,uc,C5⟩:=hS.sl.form;have bF:=hS.sl;subst C5;have Nx:=bK;have C4:=bG;obtain⟨aa,Jj,rfl,sQ,dQ⟩:=bK;obtain⟨ta,J9,rfl,ue,JL⟩:=bG;have N4:=hS.rep.ul;have hUl:U.length=(U.map fun u=>kM (some u.q)).length:=by simp
 obtain⟨r1,r2,r3⟩:=bV;simp only[iy]at r1 r2 r3;obtain⟨pa,hpa⟩:∃pa,kM (ml U o)=.pointer pa:=by cases ml U o <;> exact⟨_,rfl⟩
 rw[hpa];refine jf.intro low49 (by simp[n49]) ?_;refine ae ?_;refine kY Zr (fun q5=>?_);simp only[Value.cells];refine ae ?_;refine ia (fun nb=>?_);refine ae ?_;refine WL Zr (fun q=>?_);simp only[Value.cells];refine VO.know (φ:=q∉U.map UC.q) (fun w F gU=>?_) (fun xx=>?_)
 ·refine Ta (Vs:=Vs) (L:=_) (M:=_) (by rw[V9,vf]at gU;exact gU) (QE ..) (fun x hx=>?_);simp[hx]
 refine VO.imp (H':=[[.own q 9],kA q 0 [vi 0,vi 0,vi 0,.pointer pa,vi U.length,Nz,.map (some nb),Nz,Nz],[.obj nb (.map #[] 0)],kA q5 0 [vk,vn,l1,l2,l3,l4,l5,.slice aa args.length Jj,.slice ta ab.length J9,.slice a kids.length ac,.int .i64 p],
  kA X.wq 0 [.map (some X.fb),.map (some X.gb),.slice ua U.length uc],ai (.slice ua U.length uc) (U.map fun u=>kM (some u.q)) bz,[.obj X.fb (.map X.bI X.fc)],[.obj X.gb (.map X.bM X.gc)],WK U Vs,T,[.obj b (.map es c)],X.S]) (ao.perm Zs) ?_
 refine ae ?_;refine kN (fun k9=>?_);refine ae ?_;refine jE (out:=[kF q]) Zr Zr (fun r=>?_);refine jK (k:=U.length) (m:=1) (xs:=U.map fun u=>kM (some u.q)) (sp:=bz) (ys:=[kF q]) Zr Zr bF ZK Zr ?_ rfl Zr Zr Zd Zo (fun eK bE aR=>?_)
 ·exact Eg
 obtain⟨ua',uc',rfl⟩:=aR.form;have fG:(U.map fun u=>kM (some u.q))++[kF q]=(U++[x7 q args.length (ml U o) st.outer.length nb]).map fun u=>kM (some u.q):=by simp[kM,x7]
 rw[fG]at aR|-;refine ae ?_;have hR1:cA (st.aN o args.length) (U++[x7 q args.length (ml U o) st.outer.length nb]) Vs:=hS.rep.aN ho xx;obtain⟨U1,KR⟩:∃U1,U1=U++[x7 q args.length (ml U o) st.outer.length nb]:=⟨_,rfl⟩;have D4:(U1.map UC.q)[st.outer.length]? =some q:=by
  rw[KR,Q5,Ve (by rw[Vz,N4];exact Qh _),Vz,N4,Qn];rfl
 have D0:(st.aN o args.length).args.getD st.outer.length 0=args.length:=by
  show(st.args++[args.length]).getD st.outer.length 0=args.length;rw[Vb,<- hS.rep.wf.al,Ve (Qh _),Qn];rfl
 have hol:(st.aN o args.length).outer.length=st.outer.length+1:=by unfold ah.aN;simp
 have hwk1:(WK U1 Vs).Perm ([.own q 9]++(kA q 0 [vi args.length,vi 0,vi 0,.pointer pa,vi U.length,Nz,.map (some nb),Nz,Nz]++([.obj nb (.map #[] 0)]++WK U Vs))):=by
  rw[KR];refine(R8 U Vs _).trans ?_;have e:(x7 q args.length (ml U o) st.outer.length nb).atoms=.own q 9::(kA q 0 [vi args.length,vi 0,vi 0,.pointer pa,vi U.length,Nz,.map (some nb),Nz,Nz]++[.obj nb (.map #[] 0)]):=by
   unfold UC.atoms UC.row x7;simp only[hpa,N4,ai,QL];rfl
  rw[e];simp
 rw[<- KR]at hR1 aR|-;refine VO.imp (H':=[kA k9 0 [kF q],WK U1 Vs,[.obj b (.map es c)],X.S,kA q5 0 [vk,vn,l1,l2,l3,l4,l5,.slice aa args.length Jj,.slice ta ab.length J9,.slice a kids.length ac,.int .i64 p],kA X.wq 0 [.map (some X.fb),.map (some X.gb),.slice ua' (U.length+1) uc'],ai (.slice ua' (U.length+1) uc') (U1.map fun u=>kM (some u.q)) bE,[.obj X.fb (.map X.bI X.fc)],[.obj X.gb (.map X.bM X.gc)],T]) ?_ ?_
 ·refine ao.cut (M:=[kA k9 0 [kF q],[.own q 9],kA q 0 [vi args.length,vi 0,vi 0,.pointer pa,vi U.length,Nz,.map (some nb),Nz,Nz],[.obj nb (.map #[] 0)],WK U Vs,[.obj b (.map es c)],X.S,kA q5 0 [vk,vn,l1,l2,l3,l4,l5,.slice aa args.length Jj,.slice ta ab.length J9,.slice a kids.length ac,.int .i64 p],kA X.wq 0 [.map (some X.fb),.map (some X.gb),.slice ua' (U.length+1) uc'],ai (.slice ua' (U.length+1) uc') (U1.map fun u=>kM (some u.q)) bE,[.obj X.fb (.map X.bI X.fc)],[.obj X.gb (.map X.bM X.gc)],T]) ZI (ao.perm ?_);have h:=fun R=>(vW R hwk1).symm
  simp only[vf]at h;simp only[V9,VV,vg];exact vV _ (h _)
 have ud:z7 (st.aN o args.length) Vs env es c:=hs.more (QV _) (QV _) hS.rep.vl;have gp:∀e:Nat×Int,(bi args ab p st env o).1.f=some e->(oj X.F X.G args ab kids p st env o).f=some e:=fun e he=>by
  rw[zc];exact(wn X.F X.G kids _ _ _).f e he
 have Ny:∀e:Nat×Int,(kQ st.outer.length true true p args 0 (st.aN o args.length) env).1.f=some e->(oj X.F X.G args ab kids p st env o).f=some e:=fun e he=>gp e (rJ st.outer.length false true p ab 0 _ _ he)
 refine kL (nL X.S st.outer.length args.length true true p args (.slice aa args.length Jj) Nx (.func (.func 109) #[] #[kF k9]) (fun _ A=>A=kA k9 0 [kF q]) (st.aN o args.length) U1 Vs (abH _ st.outer.length args.length q k9 D4 Zo) hR1 (by rw[hol];omega) D0 hS.ok (by show st.vars.length+args.length < _;omega) _ rfl env b es c ud) Zr ZP (fun v Post hv=>?_) (fun ch Post hz=>?_);rotate_left
 ·obtain⟨G2,q1,rfl,rfl⟩:=hz;exact⟨[X.S,j9 q1 180 p],ZI,q1,180,p,Ny _ G2,rfl,rfl⟩
 obtain⟨b2,DU,c2,U2,V2,A2,⟨CT,rfl,JC,im,sR,sU,xF,rfl⟩,rfl⟩:=hv;simp only[aH];refine ae ?_;obtain⟨g1,g2,g3,g4⟩:=jv st.outer.length true true p args 0 (st.aN o args.length) env;refine kL (nL X.S st.outer.length args.length false true p ab (.slice ta ab.length J9) C4 (.func (.func 110) #[] #[kF k9]) (fun _ A=>A=kA k9 0 [kF q]) _ U2 V2 (Uz _ st.outer.length args.length q k9 ab.length (by rw[im];exact D4)) JC (by rw[g1,hol];omega) (by rw[g2];exact D0) CT (by rw[g4];show st.vars.length+args.length+ab.length < _;omega) _ rfl _ b2 DU c2 xF) Zr ZP (fun v Post hv=>?_) (fun ch Post hz=>?_);rotate_left
 ·obtain⟨G2,q1,rfl,rfl⟩:=hz;exact⟨[X.S,j9 q1 180 p],ZI,q1,180,p,gp _ G2,rfl,rfl⟩
 obtain⟨b3,es3,c3,U3,V3,A3,⟨hf3,rfl,hR3,H0,Ms,hp3,NY,rfl⟩,rfl⟩:=hv;simp only[aH];obtain⟨d1,d2,d3,d4⟩:=jv st.outer.length false true p ab 0 (kQ st.outer.length true true p args 0 (st.aN o args.length) env).1 (kQ st.outer.length true true p args 0 (st.aN o args.length) env).2;have aY:kQ st.outer.length false true p ab 0 (kQ st.outer.length true true p args 0 (st.aN o args.length) env).1 (kQ st.outer.length true true p args 0 (st.aN o args.length) env).2=bi args ab p st env o:=rfl;have HX:∀v∈(bi args ab p st env o).2,(bi args ab p st env o).1.af v∈(bi args ab p st env o).1.line st.outer.length:=fun v hv=>by
  have hwf3:Wf (bi args ab p st env o).1:=hR3.wf;have My:(bi args ab p st env o).1.outer=(st.aN o args.length).outer:=d1.trans g1;have Xs:=hwf3.line (u:=st.outer.length) (by rw[My,hol];omega);have l9:st.outer.length∈(bi args ab p st env o).1.line st.outer.length:=by rw[Xs];exact QE ..
  have hlt1:∀v∈env,v < (st.aN o args.length).vars.length:=fun v hv=>hs.lt v hv
  have tP:∀v∈(kQ st.outer.length true true p args 0 (st.aN o args.length) env).2,v < (kQ st.outer.length true true p args 0 (st.aN o args.length) env).1.vars.length:=fun v hv=>(eS _ _ _ _ _ _ _ _ hlt1 v hv).1
  obtain⟨_,hk⟩:=eS st.outer.length false true p ab 0 _ _ tP v hv;rcases hk with⟨tL,xA⟩|hk
  ·obtain⟨_,ri⟩:=eS st.outer.length true true p args 0 _ _ hlt1 v tL;rcases ri with⟨hk4,hk5⟩|ri
   ·obtain⟨i,hi1,K1⟩:=DY v hk4;have he:(bi args ab p st env o).1.af v=st.af v:=xA.trans hk5;have Mt:(bi args ab p st env o).1.outer.getD st.outer.length (-1)=o:=by
     rw[My];show(st.outer++[o]).getD st.outer.length (-1)=o;exact zC4
    rw[Mt,if_neg Zo,show o.toNat=i by omega]at Xs;have hli:(bi args ab p st env o).1.line i=st.line i:=by
     have:=hS.rep.wf.pR (n:=args.length) ho i Zo;rw[<- this];unfold ah.line;rw[My]
    rw[he,Xs,hli];exact QD _ K1
   ·have he:(bi args ab p st env o).1.af v=st.outer.length:=xA.trans ri;rw[he];exact l9
  ·have he:(bi args ab p st env o).1.af v=st.outer.length:=hk;rw[he];exact l9
 rw[aY]at hf3 hR3 NY d1 d2 d3 d4;have hS3:gM (bi args ab p st env o).1 (.slice ua' (U.length+1) uc') bE U3 V3 T:=by
  have TZ:U3.map UC.q=U1.map UC.q:=H0.trans im;have hbb:U3.map UC.body=U1.map UC.body:=Ms.trans sR;have EZ:U3.length=U.length+1:=by
   have:=congrArg List.length TZ;rw[Vz,Vz,KR,Vt]at this;exact this
  have G6:∀W:List UC,(W.map fun u=>kM (some u.q))=(W.map UC.q).map fun b=>kM (some b):=fun W=>by rw[Q8];rfl
  refine⟨hR3,hf3,?_,fun i w hw=>?_⟩
  ·rw[EZ,G6,TZ,<- G6];exact aR
  ·have eC:(U1.map UC.body)[i]? =some w.body:=by rw[<- hbb,Vn,hw];rfl
   have HQ:(bi args ab p st env o).1.aj=st.aj++[[]]:=d3.trans g3;rw[HQ];rw[Vn]at eC;obtain⟨w1,Ha,hwb⟩:=Qu.1 eC;rw[KR,Vc]at Ha;split at Ha
   ·rename_i hi;rw[cC (by rw[hS.rep.wf.bl,<- N4];exact hi),<- hwb];exact(hS.Xg i w1 Ha).more (fun x hx=>hx) (sU.trans hp3)
   ·rename_i hi;have Tv:=(Vm.1 Ha).1;simp only[Q3]at Tv;have e:i=st.aj.length:=by rw[hS.rep.wf.bl];omega
    have e2:i - U.length=0:=by omega
    rw[e2]at Ha;have hw1':x7 q args.length (ml U o) st.outer.length nb=w1:=by simpa using Ha
    rw[<- hwb,<- hw1',e,Vb,Ve (Qh _),Qn];exact tx.nil _ _
 have rW:Room (bi args ab p st env o).1 (jN kids):=by
  have h1:zb st (bi args ab p st env o).1 (1+(args.length+ab.length)):=(r8 st o args.length).trans ((wU _ _ _ _ _ _ _ _).trans (wU _ _ _ _ _ _ _ _));obtain⟨k1,k2,k3⟩:=h1;exact⟨Zo,Zo,Zo⟩
 obtain⟨w3,hw3,Z6⟩:∃w,U3[st.outer.length]? =some w/\w.q=q:=iW rfl (by rw[H0,im];exact D4);have au:=uN X kids a ac bk ko ks K2 ha hm hr aM _ _ _ _ _ _ hS3 st.outer.length w3 hw3 _ b3 es3 c3 NY HX rW;rw[Z6]at au;have H5:(U3.map fun u=>kM (some u.q))=U1.map fun u=>kM (some u.q):=by
  have G6:∀W:List UC,(W.map fun u=>kM (some u.q))=(W.map UC.q).map fun b=>kM (some b):=fun W=>by rw[Q8];rfl
  rw[G6,H0.trans im,<- G6]
 have Tr:∀(iX:Value) (cV:List Value) (U4:List UC) (V4:List ax) (T4:List kC) (rows:List (List Value)) (yw:List Value) (B5:List kC) (va:Option Addr) (vc:Nat) (w4:UC),gM (kV X.F X.G kids (bi args ab p st env o).1 (bi args ab p st env o).2 st.outer.length).2 iX cV U4 V4 T4->jG 13 (.slice va (kV X.F X.G kids (bi args ab p st env o).1 (bi args ab p st env o).2 st.outer.length).1.length vc) (kV X.F X.G kids (bi args ab p st env o).1 (bi args ab p st env o).2 st.outer.length).1.length rows.flatten yw->zW B5 (V4.map ax.q) (kV X.F X.G kids (bi args ab p st env o).1 (bi args ab p st env o).2 st.outer.length).1 rows->U4[st.outer.length]? =some w4->w4.q=q->U3.map UC.q <+:U4.map UC.q->V3.map ax.q <+:V4.map ax.q->
  gM (oj X.F X.G args ab kids p st env o) iX cV (U4.set st.outer.length {w4 with body:=.slice va (kV X.F X.G kids (bi args ab p st env o).1 (bi args ab p st env o).2 st.outer.length).1.length vc}) V4 (T4++(ai (.slice va (kV X.F X.G kids (bi args ab p st env o).1 (bi args ab p st env o).2 st.outer.length).1.length vc) rows.flatten yw++B5))/\U.map UC.q <+:(U4.set st.outer.length {w4 with body:=.slice va (kV X.F X.G kids (bi args ab p st env o).1 (bi args ab p st env o).2 st.outer.length).1.length vc}).map UC.q/\Vs.map ax.q <+:V4.map ax.q/\(∃w,(U4.set st.outer.length {w4 with body:=.slice va (kV X.F X.G kids (bi args ab p st env o).1 (bi args ab p st env o).2 st.outer.length).1.length vc})[st.outer.length]? =some w/\kF q=kF w.q)/\
  ((U4.set st.outer.length {w4 with body:=.slice va (kV X.F X.G kids (bi args ab p st env o).1 (bi args ab p st env o).2 st.outer.length).1.length vc}).map fun u=>kM (some u.q))=U4.map fun u=>kM (some u.q):=fun iX cV U4 V4 T4 rows yw B5 va vc w4 k1 k2 k3 k4 k5 k6 k7=>by
  have G4:=zS (w':={w4 with body:=.slice va (kV X.F X.G kids (bi args ab p st env o).1 (bi args ab p st env o).2 st.outer.length).1.length vc}) k4 rfl;have G6:∀W:List UC,(W.map fun u=>kM (some u.q))=(W.map UC.q).map fun b=>kM (some b):=fun W=>by rw[Q8];rfl
  have hpm2:((U4.set st.outer.length {w4 with body:=.slice va (kV X.F X.G kids (bi args ab p st env o).1 (bi args ab p st env o).2 st.outer.length).1.length vc}).map fun u=>kM (some u.q))=U4.map fun u=>kM (some u.q):=by rw[G6,G4,<- G6]
  refine⟨?_,?_,(sU.trans hp3).trans k7,⟨{w4 with body:=.slice va (kV X.F X.G kids (bi args ab p st env o).1 (bi args ab p st env o).2 st.outer.length).1.length vc},by rw[Vp];simp[(Vm.1 k4).1],by rw[<- k5]⟩,hpm2⟩
  ·rw[zc];refine⟨k1.rep.body k4 _ _,k1.ok,by rw[hpm2,Q1];exact k1.sl,fun i w hw=>?_⟩;rcases iR k4 hw with⟨rfl,rfl⟩|⟨ck,rX⟩
   ·have KT:=k1.rep.wf.bl;have K2:=(Vm.1 k4).1;rw[k1.rep.ul]at K2;have e:((kV X.F X.G kids (bi args ab p st env o).1 (bi args ab p st env o).2 st.outer.length).2.aj.set st.outer.length (kV X.F X.G kids (bi args ab p st env o).1 (bi args ab p st env o).2 st.outer.length).1).getD st.outer.length []=(kV X.F X.G kids (bi args ab p st env o).1 (bi args ab p st env o).2 st.outer.length).1:=by
     rw[Vb,Vp];simp[KT,K2]
    show tx _ _ (.slice va (kV X.F X.G kids (bi args ab p st env o).1 (bi args ab p st env o).2 st.outer.length).1.length vc) (((kV X.F X.G kids (bi args ab p st env o).1 (bi args ab p st env o).2 st.outer.length).2.aj.set st.outer.length (kV X.F X.G kids (bi args ab p st env o).1 (bi args ab p st env o).2 st.outer.length).1).getD st.outer.length []);rw[e];exact(UQ k2 k3).more (fun x hx=>QB _ hx) (QV _)
   ·have e:((kV X.F X.G kids (bi args ab p st env o).1 (bi args ab p st env o).2 st.outer.length).2.aj.set st.outer.length (kV X.F X.G kids (bi args ab p st env o).1 (bi args ab p st env o).2 st.outer.length).1).getD i []=(kV X.F X.G kids (bi args ab p st env o).1 (bi args ab p st env o).2 st.outer.length).2.aj.getD i []:=by
     rw[Vb,Vb,Vp,if_neg (fun e=>ck e.symm)]
    show tx _ _ w.body (((kV X.F X.G kids (bi args ab p st env o).1 (bi args ab p st env o).2 st.outer.length).2.aj.set st.outer.length (kV X.F X.G kids (bi args ab p st env o).1 (bi args ab p st env o).2 st.outer.length).1).getD i []);rw[e];exact(k1.Xg i w rX).more (fun x hx=>Zw _ hx) (QV _)
  ·rw[G4];refine List.IsPrefix.trans ?_ k6;rw[H0.trans im,KR,Q5];exact QU _ _
 unfold rp at au;rw[H5]at au;refine ae ?_;cases Sq:(kV X.F X.G kids (bi args ab p st env o).1 (bi args ab p st env o).2 st.outer.length).2.f with
 |some e=>
  refine VC.seq (VC.AV ⟨⟨[_,_,_,_,_,_],_,_,_,_,rfl,?_⟩,⟨[_,_,_,_,_],_,_,_,_,rfl,?_⟩,trivial⟩)
  ·refine⟨?_,?_,?_,trivial⟩
   all_goals
    exact zBI
  ·refine⟨?_,trivial⟩;exact zBI
 |none=>
  refine VC.seq (VC.draws ⟨?_,?_,trivial⟩)
  ·skip
   exact zA4
  ·skip
   exact zA4
def InlR(pn:PN)(a n:Nat)(v:Value)(qs:List Nat)(B:List kC):Prop:=∃ws,v=.tuple #[.agg ws.toArray,cz ((qs.drop a).take n)]/\uJ B qs pn ws
theorem Fa(X:Fix)(vk l1 l2 l3 l4 l5:Value)(vn:Value)(k:Nat)(s:ByteArray)(lit:Lt)(args ab:List ByteArray)(av tv:Value)(bK:eg X.S av args)(bG:eg X.S tv ab)(kids:List Nd)(a:Option Addr)(ac bk ko:Nat)(ks:Nat->List Value)(K2:kids.length < 1073741824)(ha:0 < kids.length->a=some ⟨bk,ko,none⟩)(hm:∀i,i < kids.length->∀y∈kA bk (ko+i*11) (ks i),y∈X.S)(hr:∀i x,kids[i]? =some x->jJ X.S x (ks i))(aM:∀i x,kids[i]? =some x->ot X x (ks i))(p:Int)
 (st:ah) (us:Value) (bz:List Value) (U:List UC) (Vs:List ax) (T:List kC) (hS:gM st us bz U Vs T) (i:Nat) (u:UC) (hu:U[i]? =some u) (env:List Nat) (b:Nat) (es:Array MapEntry) (c:Nat) (hs:z7 st Vs env es c) (DY:∀v∈env,st.af v∈st.line i) (bV:Room st (iy args ab (jN kids))):
 rp X 231 [kF X.wq,.agg #[vk,vn,l1,l2,l3,l4,l5,av,tv,.slice a kids.length ac,.int .i64 p],kF u.q,.map (some b)] st (cI X.F X.G (.mk k s lit args ab kids p) st env i).2 us bz U Vs T b es c (InlR (cI X.F X.G (.mk k s lit args ab kids p) st env i).1 st.vars.length args.length):=by
 have Nx:=bK;have C4:=bG;obtain⟨aa,Jj,rfl,sQ,dQ⟩:=bK;obtain⟨ta,J9,rfl,ue,JL⟩:=bG;obtain⟨r1,r2,r3⟩:=bV;simp only[iy]at r1 r2 r3;have et:i < st.outer.length:=by have:=(Vm.1 hu).1;rw[hS.rep.ul]at this;exact this
 have huq:(U.map UC.q)[i]? =some u.q:=by rw[Vn,hu];rfl
 rw[iE];simp only;obtain⟨D1,Jz⟩:∃D1,D1=kQ i true false p args 0 st env:=⟨_,rfl⟩;obtain⟨D2,JA⟩:∃D2,D2=kQ i false false p ab 0 D1.1 D1.2:=⟨_,rfl⟩;rw[<- Jz,<- JA];have Xo:∀e:Nat×Int,D2.1.f=some e->(kV X.F X.G kids D2.1 D2.2 i).2.f=some e:=fun e he=>(wn X.F X.G kids _ _ _).f e he
 have Ny:∀e:Nat×Int,D1.1.f=some e->(kV X.F X.G kids D2.1 D2.2 i).2.f=some e:=fun e he=>Xo e (by rw[JA];exact rJ _ _ _ _ _ _ _ _ he)
 refine jf.intro abp (by simp[n231]) ?_;refine ae ?_;refine kY Zr (fun q5=>?_);simp only[Value.cells];refine ae ?_;refine kY Zr (fun q6=>?_);simp only[Value.cells];refine ae ?_;refine kN (fun q8=>?_);refine ae ?_;refine kN (fun nW=>?_);refine ae ?_;refine kN (fun LO=>?_);refine ae ?_;obtain⟨g1,g2,g3,g4⟩:=jv i true false p args 0 st env;rw[<- Jz]at g1 g2 g3 g4;obtain⟨d1,d2,d3,d4⟩:=jv i false false p ab 0 D1.1 D1.2;rw[<- JA]at d1 d2 d3 d4;have Ha:=nL X.S i (st.args.getD i 0) true false p args (.slice aa args.length Jj) Nx (.func (.func 251) #[] #[kF q6,kF nW]) (fun ps A=>A=kA q6 0 [kF u.q]++kA nW 0 [cz ps]) st U Vs (OQ _ i _ u.q q6 nW args.length huq) hS.rep et rfl hS.ok Zo (kA q6 0 [kF u.q]++kA nW 0 [.pointer none]) rfl env b es c hs;rw[<- Jz]at Ha;have unf:jk Nz Nz =[.int .u8 14,.string ⟨#[]⟩,.int .u8 0,.int .i64 0,.int .u64 0,.string ⟨#[]⟩,Nz,Nz,.int .i64 0,.bool false,Nz,Nz,Nz]:=rfl;refine VO.imp (H':=[kA q6 0 [kF u.q]++kA nW 0 [.pointer none],WK U Vs,[.obj b (.map es c)],X.S,kA LO 0 (jk Nz Nz),kA q8 0 [.int .u8 0,.string e0,.int .u8 0,.int .i64 0,.int .u64 0,.string e0,Nz,Nz,.int .i64 0,.bool false,Nz,Nz,Nz],kA q5 0 [vk,vn,l1,l2,l3,l4,l5,.slice aa args.length Jj,.slice ta ab.length J9,.slice a kids.length ac,.int .i64 p],kA X.wq 0 [.map (some X.fb),.map (some X.gb),us],ai us (U.map fun u=>kM (some u.q)) bz,[.obj X.fb (.map X.bI X.fc)],[.obj X.gb (.map X.bM X.gc)],T]) (ao.cut (M:=[kA q6 0 [kF u.q],kA nW 0 [.pointer none],WK U Vs,[.obj b (.map es c)],X.S,kA LO 0 (jk Nz Nz),kA q8 0 [.int .u8 0,.string e0,.int .u8 0,.int .i64 0,.int .u64 0,.string e0,Nz,Nz,.int .i64 0,.bool false,Nz,Nz,Nz],kA q5 0 [vk,vn,l1,l2,l3,l4,l5,.slice aa args.length Jj,.slice ta ab.length J9,.slice a kids.length ac,.int .i64 p],kA X.wq 0 [.map (some X.fb),.map (some X.gb),us],ai us (U.map fun u=>kM (some u.q)) bz,[.obj X.fb (.map X.bI X.fc)],[.obj X.gb (.map X.bM X.gc)],T]) (by unfold e0;rw[unf];exact bQ) (ao.perm Zs)) ?_;refine kL Ha Zr ZP (fun v Post hv=>?_) (fun ch Post hz=>?_);rotate_left
 ·obtain⟨G2,q1,rfl,rfl⟩:=hz;exact⟨[X.S,j9 q1 180 p],ZI,q1,180,p,Ny _ G2,rfl,rfl⟩
 obtain⟨b2,DU,c2,U2,V2,A2,⟨CT,rfl,JC,im,sR,sU,xF,rfl⟩,rfl⟩:=hv;simp only[aH];obtain⟨SI,hps1⟩:∃SI,SI=(V2.map ax.q).drop Vs.length:=⟨_,rfl⟩;rw[<- hps1];have Z4:=nL X.S i (st.args.getD i 0) false false p ab (.slice ta ab.length J9) C4 (.func (.func 252) #[] #[kF q6,kF LO]) (MJ u.q q6 LO) D1.1 U2 V2 (Uy _ i _ u.q q6 LO ab.length (by rw[im];exact huq) Zo) JC (by rw[g1];exact et) (by rw[g2]) CT (by rw[g4];omega) (kA q6 0 [kF u.q]++(kA LO 0 (jk Nz Nz)++[])) ⟨Nz,[],.nil,rfl⟩ D1.2 b2 DU c2 xF;rw[<- JA]at Z4;refine VO.imp (H':=[kA q6 0 [kF u.q],kA nW 0 [cz SI],WK U2 V2,[.obj b2 (.map DU c2)],[.obj b (.map es c)],X.S,kA LO 0 (jk Nz Nz),kA q8 0 [.int .u8 0,.string e0,.int .u8 0,.int .i64 0,.int .u64 0,.string e0,Nz,Nz,.int .i64 0,.bool false,Nz,Nz,Nz],kA q5 0 [vk,vn,l1,l2,l3,l4,l5,.slice aa args.length Jj,.slice ta ab.length J9,.slice a kids.length ac,.int .i64 p],kA X.wq 0 [.map (some X.fb),.map (some X.gb),us],ai us (U.map fun u=>kM (some u.q)) bz,[.obj X.fb (.map X.bI X.fc)],[.obj X.gb (.map X.bM X.gc)],T]) (ao.cut (M:=[kA q6 0 [kF u.q]++kA nW 0 [cz SI],WK U2 V2,[.obj b2 (.map DU c2)],[.obj b (.map es c)],X.S,kA LO 0 (jk Nz Nz),kA q8 0 [.int .u8 0,.string e0,.int .u8 0,.int .i64 0,.int .u64 0,.string e0,Nz,Nz,.int .i64 0,.bool false,Nz,Nz,Nz],kA q5 0 [vk,vn,l1,l2,l3,l4,l5,.slice aa args.length Jj,.slice ta ab.length J9,.slice a kids.length ac,.int .i64 p],kA X.wq 0 [.map (some X.fb),.map (some X.gb),us],ai us (U.map fun u=>kM (some u.q)) bz,[.obj X.fb (.map X.bI X.fc)],[.obj X.gb (.map X.bM X.gc)],T]) ZI (ao.perm Zs)) ?_;refine ae ?_;refine VO.imp (H':=[kA q6 0 [kF u.q]++(kA LO 0 (jk Nz Nz)++[]),WK U2 V2,[.obj b2 (.map DU c2)],X.S,[.obj b (.map es c)],kA nW 0 [cz SI],kA q8 0 [.int .u8 0,.string e0,.int .u8 0,.int .i64 0,.int .u64 0,.string e0,Nz,Nz,.int .i64 0,.bool false,Nz,Nz,Nz],kA q5 0 [vk,vn,l1,l2,l3,l4,l5,.slice aa args.length Jj,.slice ta ab.length J9,.slice a kids.length ac,.int .i64 p],kA X.wq 0 [.map (some X.fb),.map (some X.gb),us],ai us (U.map fun u=>kM (some u.q)) bz,[.obj X.fb (.map X.bI X.fc)],[.obj X.gb (.map X.bM X.gc)],T]) (ao.cut (M:=[kA q6 0 [kF u.q],kA LO 0 (jk Nz Nz),WK U2 V2,[.obj b2 (.map DU c2)],X.S,[.obj b (.map es c)],kA nW 0 [cz SI],kA q8 0 [.int .u8 0,.string e0,.int .u8 0,.int .i64 0,.int .u64 0,.string e0,Nz,Nz,.int .i64 0,.bool false,Nz,Nz,Nz],kA q5 0 [vk,vn,l1,l2,l3,l4,l5,.slice aa args.length Jj,.slice ta ab.length J9,.slice a kids.length ac,.int .i64 p],kA X.wq 0 [.map (some X.fb),.map (some X.gb),us],ai us (U.map fun u=>kM (some u.q)) bz,[.obj X.fb (.map X.bI X.fc)],[.obj X.gb (.map X.bM X.gc)],T]) ZI (ao.perm Zs)) ?_;refine kL Z4 Zr ZP (fun v Post hv=>?_) (fun ch Post hz=>?_);rotate_left
 ·obtain⟨G2,q1,rfl,rfl⟩:=hz;exact⟨[X.S,j9 q1 180 p],ZI,q1,180,p,Xo _ G2,rfl,rfl⟩
 obtain⟨b3,es3,c3,U3,V3,A3,⟨hf3,rfl,hR3,H0,Ms,hp3,NY,hJ3⟩,rfl⟩:=hv;obtain⟨tv0,ig,ZS,rfl⟩:=hJ3;simp only[aH];obtain⟨Bx,hps2⟩:∃Bx,Bx=(V3.map ax.q).drop V2.length:=⟨_,rfl⟩;rw[<- hps2]at ZS|-;obtain⟨RP,RQ,rfl⟩:=ZS.form;refine VO.imp (H':=[kA q6 0 [kF u.q],kA LO 0 (jk (.slice RP Bx.length RQ) (.slice none 0 0)),ai (.slice RP Bx.length RQ) (Bx.map fun b=>kM (some b)) ig,WK U3 V3,[.obj b3 (.map es3 c3)],X.S,[.obj b (.map es c)],kA nW 0 [cz SI],kA q8 0 [.int .u8 0,.string e0,.int .u8 0,.int .i64 0,.int .u64 0,.string e0,.slice none 0 0,.slice none 0 0,.int .i64 0,.bool false,.slice none 0 0,.slice none 0 0,.slice none 0 0],kA q5 0 [vk,vn,l1,l2,l3,l4,l5,.slice aa args.length Jj,.slice ta ab.length J9,.slice a kids.length ac,.int .i64 p],kA X.wq 0 [.map (some X.fb),.map (some X.gb),us],ai us (U.map fun u=>kM (some u.q)) bz,[.obj X.fb (.map X.bI X.fc)],[.obj X.gb (.map X.bM X.gc)],T]) (ao.cut (M:=[kA q6 0 [kF u.q]++(kA LO 0 (jk (.slice RP Bx.length RQ) (.slice none 0 0))++ai (.slice RP Bx.length RQ) (Bx.map fun b=>kM (some b)) ig),WK U3 V3,[.obj b3 (.map es3 c3)],X.S,[.obj b (.map es c)],kA nW 0 [cz SI],kA q8 0 [.int .u8 0,.string e0,.int .u8 0,.int .i64 0,.int .u64 0,.string e0,.slice none 0 0,.slice none 0 0,.int .i64 0,.bool false,.slice none 0 0,.slice none 0 0,.slice none 0 0],kA q5 0 [vk,vn,l1,l2,l3,l4,l5,.slice aa args.length Jj,.slice ta ab.length J9,.slice a kids.length ac,.int .i64 p],kA X.wq 0 [.map (some X.fb),.map (some X.gb),us],ai us (U.map fun u=>kM (some u.q)) bz,[.obj X.fb (.map X.bI X.fc)],[.obj X.gb (.map X.bM X.gc)],T]) ZI (ao.perm Zs)) ?_;have G6:∀W:List UC,(W.map fun u=>kM (some u.q))=(W.map UC.q).map fun b=>kM (some b):=fun W=>by rw[Q8];rfl
 have TZ:U3.map UC.q=U.map UC.q:=H0.trans im;have H5:(U3.map fun u=>kM (some u.q))=U.map fun u=>kM (some u.q):=by rw[G6,TZ,<- G6]
 have hS3:gM D2.1 us bz U3 V3 T:=by
  have EZ:U3.length=U.length:=by have:=congrArg List.length TZ;rwa [Vz,Vz]at this
  refine⟨hR3,hf3,by rw[EZ,H5];exact hS.sl,fun j w hw=>?_⟩;have eC:(U.map UC.body)[j]? =some w.body:=by rw[<- Ms.trans sR,Vn,hw];rfl
  rw[Vn]at eC;obtain⟨w1,Ha,hwb⟩:=Qu.1 eC;rw[d3,g3,<- hwb];exact(hS.Xg j w1 Ha).more (fun x hx=>hx) (sU.trans hp3)
 have HX:∀v∈D2.2,D2.1.af v∈D2.1.line i:=fun v hv=>by
  have Xs:D2.1.line i=st.line i:=by unfold ah.line;rw[d1,g1]
  have l9:i∈st.line i:=by rw[hS.rep.wf.line Zo];exact QE ..
  have tP:∀v∈D1.2,v < D1.1.vars.length:=fun v hv=>by rw[Jz]at hv|-;exact(eS _ _ _ _ _ _ _ _ hs.lt v hv).1
  rw[Xs];rw[JA]at hv|-;obtain⟨_,hk⟩:=eS i false false p ab 0 _ _ tP v hv;rcases hk with⟨tL,xA⟩|hk
  ·rw[xA];rw[Jz]at tL|-;obtain⟨_,ri⟩:=eS i true false p args 0 _ _ hs.lt v tL;rcases ri with⟨hk4,hk5⟩|ri
   ·rw[hk5];exact DY v hk4
   ·rw[ri];exact l9
  ·rw[hk];exact l9
 have rW:Room D2.1 (jN kids):=by
  have h1:zb st D2.1 (args.length+ab.length):=by
   rw[JA,Jz];exact(wU _ _ _ _ _ _ _ _).trans (wU _ _ _ _ _ _ _ _)
  obtain⟨k1,k2,k3⟩:=h1;exact⟨Zo,Zo,Zo⟩
 obtain⟨w3,hw3,Z6⟩:∃w,U3[i]? =some w/\w.q=u.q:=iW rfl (by rw[TZ];exact huq);have au:=uN X kids a ac bk ko ks K2 ha hm hr aM _ _ _ _ _ _ hS3 i w3 hw3 _ b3 es3 c3 NY HX rW;rw[Z6]at au;unfold rp at au;rw[H5]at au;refine ae ?_;refine kL au Zr ZP (fun v Post hv=>?_) (fun ch Post hz=>?_);rotate_left
 ·obtain⟨q1,e1,p1,eC,rfl,rfl⟩:=hz;exact⟨[X.S,j9 q1 e1 p1],ZI,q1,e1,p1,eC,rfl,rfl⟩
 obtain⟨iX,cV,U4,V4,T4,B4,⟨Tg,K9,CZ,rows,yw,B5,Af,cG,rfl⟩,rfl⟩:=hv;simp only[aH];obtain⟨va,vc,rfl⟩:=Af.form;have fE:V2.length=st.vars.length+args.length:=by rw[JC.vl,g4]
 have Xs:V3.length=D1.1.vars.length+ab.length:=by rw[hR3.vl,d4]
 have hps2':((V4.map ax.q).drop D1.1.vars.length).take ab.length=Bx:=by
  rw[drop_take CZ (by rw[Vz];exact Xs),hps2,JC.vl]
 have hps1':((V4.map ax.q).drop st.vars.length).take args.length=SI:=by
  rw[drop_take (hp3.trans CZ) (by rw[Vz];exact fE),hps1,hS.rep.vl]
 have NM:InlR (.mk 14 e0 fP ((List.range' D1.1.vars.length ab.length).map dH) 0 false (kV X.F X.G kids D2.1 D2.2 i).1) st.vars.length args.length (.tuple #[.agg (jk (.slice RP Bx.length RQ) (.slice va (kV X.F X.G kids D2.1 D2.2 i).1.length vc)).toArray,cz SI]) (V4.map ax.q) (ai (.slice va (kV X.F X.G kids D2.1 D2.2 i).1.length vc) rows.flatten yw++(B5++ai (.slice RP Bx.length RQ) (Bx.map fun b=>kM (some b)) ig)):=by
  refine⟨_,by rw[hps1'],?_⟩;have hle:D1.1.vars.length+ab.length<=(V4.map ax.q).length:=by
   have:=CZ.length_le;rw[Vz,Xs]at this;exact this
  have:=x4 (k:=14) (nm:=e0) (lit:=fP) (refs:=(List.range' D1.1.vars.length ab.length).map dH) (unit:=0) (iU:=false) (rv:=Nz) (vv:=.slice RP Bx.length RQ) (B:=B5++ai (.slice RP Bx.length RQ) (Bx.map fun b=>kM (some b)) ig) Af (cG.more (fun x hx=>Zw _ hx) (QV _)) (oO _) (by rw[Dw];exact w8.nil _) (by
   rw[IJ,Ja hle,hps2'];exact(gZ rfl ZS).more (fun x hx=>QB _ hx)) (IK hle)
  exact this
 unfold jk;refine ae ?_;refine VC.seq ?_;refine VC.draws ⟨?_,?_,trivial⟩
 ·exact zAJ
 ·exact zAJ
set_option maxHeartbeats 12800000
theorem GQ(S:List kC)(x:Nd)(vs:List Value)(h:jJ S x vs):aq Tryz.prog 136 [.agg vs.toArray] [S] (fun v Post=>v=.bool (jq x)/\Post=[S]):=by
 obtain⟨e1,e2,e3,e4,e5,e6,e7,a1,c1,a2,c2,a3,c3,bk,o,us,rfl,_⟩:=fk h;refine aq.intro aan (by simp[n136]) ?_;refine ae ?_;refine kY Zr (fun q=>?_);simp only[Value.cells];unfold jq;refine ae ?_;by_cases hk:x.kind=7
 ·rw[show decide ((x.kind:Int)=7)=true from Zt Zo,Zt hk,vS];refine ae ?_;rw[show decide ((x.args.length:Int)=0)=decide (x.args.length=0)from decide_eq_decide.2 Zo];exact zDF
 ·rw[show decide ((x.kind:Int)=7)=false from Zf Zo,Zf hk,vJ];exact zDF
theorem sK(S:List kC)(x:Nd)(vs:List Value)(h:jJ S x vs):aq Tryz.prog 70 [.agg vs.toArray] [S] (fun v Post=>(∃f t:Nat,v=.tuple #[vi f,vi t,.bool (gw x)]/\(gw x=true->f=jB (jP x.name)/\t=io (jP x.name)))/\Post=[S]):=by
 obtain⟨e1,e2,e3,e4,e5,e6,e7,a1,c1,a2,c2,a3,c3,bk,o,us,rfl,oL,bK,bG,hk8,ha,hm,hr,rU⟩:=fk h;have dR:∀b:Bool,b=false->gw x=b->∃f t:Nat,(Value.tuple #[vi 0,vi 0,.bool false]:Value)=.tuple #[vi f,vi t,.bool (gw x)]/\(gw x=true->f=jB (jP x.name)/\t=io (jP x.name)):=fun b hb h'=>⟨0,0,by rw[h',hb];rfl,fun h2=>by rw[h',hb]at h2;cases h2⟩
 refine aq.intro low70 (by simp[n70]) ?_;refine VC.join (α:=Nat) (bn:=fun q=>[(1,kF q)]) (Hf:=fun q=>[kA q 0 (rN x.kind x.name e1 e2 e3 e4 e5 e6 e7 a1 x.args.length c1 a2 x.ab.length c2 a3 x.kids.length c3 x.at_),S]) (I:=fun _=>True) ?_ (fun q _=>?_)
 ·exact zE4
 refine VC.join (α:=Unit) (bn:=fun _=>[(1,kF q)]) (Hf:=fun _=>[kA q 0 (rN x.kind x.name e1 e2 e3 e4 e5 e6 e7 a1 x.args.length c1 a2 x.ab.length c2 a3 x.kids.length c3 x.at_),S]) (I:=fun _=>x.kind=4/\0 < x.kids.length/\jW x.kids=false) ?_ (fun _ hI=>?_)
 ·refine ae ?_;by_cases hk:x.kind=4;rotate_left
  ·rw[show decide ((x.kind:Int)=4)=false from Zf Zo];refine ae ?_;exact kG (Post:=[S]) (.inr rfl) (.tmp Zr (.tmp Zr (.tmp Zr .nil))) ⟨dR _ rfl (by unfold gw iD;simp[hk]),rfl⟩ ZI
  rw[show decide ((x.kind:Int)=4)=true from Zt Zo];refine ae ?_;by_cases HV:x.kids.length=0
  ·rw[show decide ((x.kids.length:Int)=0)=true from Zt Zo];refine ae ?_;have xC:x.kids=[]:=vt HV;refine kG (Post:=[S]) (.inr rfl) (.tmp Zr (.tmp Zr (.tmp Zr .nil))) ⟨dR _ rfl ?_,rfl⟩ ZI;unfold gw iD;rw[xC];have:ej (jP x.name) []=false:=by unfold ej;split <;> rfl
   rw[this];simp
  obtain rfl:=ha Zo;rw[show decide ((x.kids.length:Int)=0)=false from Zf Zo];obtain⟨r,E3⟩:∃r,x.kids[0]? =some r:=⟨_,Zg Zo⟩;obtain⟨r1,r2,r3,r4,r5,r6,r7,p1,d1,p2,d2,p3,d3,Yx,o2,GJ,N6,_⟩:=fk (hr 0 r E3);have f0:kC.cell bk o (.int .u8 r.kind)∈S:=hm 0 Zo _ (by rw[N6];exact kI.2 ⟨0,_,rfl,Zs⟩);have f1:kC.cell bk (o+1) (.string r.name)∈S:=hm 0 Zo _ (by rw[N6];exact kI.2 ⟨1,_,rfl,Zs⟩);have E7:jW x.kids=jQ r:=by
   exact zDM
  refine ae ?_;by_cases NQ:r.kind=2
  ·rw[show decide ((r.kind:Int)=2)=true from Zt Zo];refine ae ?_;by_cases hrn:r.name=⟨#[115,117,112,101,114]⟩
   ·rw[Zt hrn];refine ae ?_;refine kG (Post:=[S]) (.inr rfl) (.tmp Zr (.tmp Zr (.tmp Zr .nil))) ⟨dR _ rfl ?_,rfl⟩ ZI;have:jQ r=true:=by unfold jQ;rw[Zt NQ,Zt (iV.2 hrn)];rfl
    unfold gw iD;rw[E7,this];simp
   rw[Zf hrn];have hsr:jQ r=false:=by unfold jQ;rw[Zf (fun e=>hrn (iV.1 e))];simp
   refine ae ?_;exact⟨(),⟨hk,Zo,by rw[E7];exact hsr⟩,ZU,ZI⟩
  ·rw[show decide ((r.kind:Int)=2)=false from Zf Zo];have hsr:jQ r=false:=by unfold jQ;rw[Zf NQ];rfl
   refine ae ?_;exact⟨(),⟨hk,Zo,by rw[E7];exact hsr⟩,ZU,ZI⟩
 obtain⟨hk,HV,E7⟩:=hI;obtain rfl:=ha HV;refine VC.join (α:=Unit) (bn:=fun _=>[(1,kF q),(5,vi 1),(6,vi 2)]) (Hf:=fun _=>[kA q 0 (rN x.kind x.name e1 e2 e3 e4 e5 e6 e7 a1 x.args.length c1 a2 x.ab.length c2 (some ⟨bk,o,none⟩) x.kids.length c3 x.at_),S]) (I:=fun _=>True) ?_ (fun _ _=>?_)
 ·exact W8
 refine VC.join (α:=Nat) (bn:=fun n=>[(1,kF q),(5,vi (jB n)),(6,vi (io n))]) (Hf:=fun _=>[kA q 0 (rN x.kind x.name e1 e2 e3 e4 e5 e6 e7 a1 x.args.length c1 a2 x.ab.length c2 (some ⟨bk,o,none⟩) x.kids.length c3 x.at_),S]) (I:=fun n=>jP x.name=n/\(n=1∨n=2∨n=3∨n=4)) ?_ (fun n hn=>?_)
 ·refine ae ?_;by_cases g0:x.name=⟨#[105,102,84,114,117,101,58]⟩
  ·rw[Zt g0];refine ae ?_;exact⟨1,⟨by rw[g0];decide,Zd⟩,ZU,ZI⟩
  rw[Zf g0];refine ae ?_;by_cases g1:x.name=⟨#[105,102,70,97,108,115,101,58]⟩
  ·rw[Zt g1];refine ae ?_;exact⟨1,⟨by rw[g1];decide,Zd⟩,ZU,ZI⟩
  rw[Zf g1];refine ae ?_;by_cases g2:x.name=⟨#[97,110,100,58]⟩
  ·rw[Zt g2];refine ae ?_;exact⟨1,⟨by rw[g2];decide,Zd⟩,ZU,ZI⟩
  rw[Zf g2];refine ae ?_;by_cases g3:x.name=⟨#[111,114,58]⟩
  ·rw[Zt g3];refine ae ?_;exact⟨1,⟨by rw[g3];decide,Zd⟩,ZU,ZI⟩
  rw[Zf g3];refine ae ?_;by_cases g4:x.name=⟨#[105,102,84,114,117,101,58,105,102,70,97,108,115,101,58]⟩
  ·rw[Zt g4];refine ae ?_;exact⟨2,⟨by rw[g4];decide,Zd⟩,ZU,ZI⟩
  rw[Zf g4];refine ae ?_;by_cases g5:x.name=⟨#[105,102,70,97,108,115,101,58,105,102,84,114,117,101,58]⟩
  ·rw[Zt g5];refine ae ?_;exact⟨2,⟨by rw[g5];decide,Zd⟩,ZU,ZI⟩
  rw[Zf g5];refine ae ?_;by_cases g6:x.name=⟨#[119,104,105,108,101,84,114,117,101,58]⟩
  ·rw[Zt g6];refine ae ?_;exact⟨3,⟨by rw[g6];decide,Zd⟩,ZU,ZI⟩
  rw[Zf g6];refine ae ?_;by_cases g7:x.name=⟨#[119,104,105,108,101,70,97,108,115,101,58]⟩
  ·rw[Zt g7];refine ae ?_;exact⟨3,⟨by rw[g7];decide,Zd⟩,ZU,ZI⟩
  rw[Zf g7];refine ae ?_;by_cases g8:x.name=⟨#[119,104,105,108,101,84,114,117,101]⟩
  ·rw[Zt g8];refine ae ?_;exact⟨4,⟨by rw[g8];decide,Zd⟩,ZU,ZI⟩
  rw[Zf g8];refine ae ?_;by_cases g9:x.name=⟨#[119,104,105,108,101,70,97,108,115,101]⟩
  ·rw[Zt g9];refine ae ?_;exact⟨4,⟨by rw[g9];decide,Zd⟩,ZU,ZI⟩
  rw[Zf g9];refine ae ?_;by_cases g10:x.name=⟨#[116,111,58,100,111,58]⟩
  ·rw[Zt g10];have bW:jP x.name=5:=by rw[g10];decide
   have aY:gw x=ej 5 x.kids:=by unfold gw iD;rw[bW,E7,Zt hk];rfl
   have lZ:∀b:Bool,ej 5 x.kids=b->∃f t:Nat,(Value.tuple #[vi 2,vi 3,.bool b]:Value)=.tuple #[vi f,vi t,.bool (gw x)]/\(gw x=true->f=jB (jP x.name)/\t=io (jP x.name)):=fun b hb=>⟨2,3,by rw[aY,hb];rfl,fun _=>by rw[bW];exact⟨rfl,rfl⟩⟩
   refine ae ?_;by_cases h3:x.kids.length=3;rotate_left
   ·rw[show decide ((x.kids.length:Int)=3)=false from Zf Zo];refine ae ?_;refine kG (Post:=[S]) (.inr rfl) (.tmp Zr (.tmp Zr (.tmp Zr .nil))) ⟨lZ _ ?_,rfl⟩ ZI;cases e:ej 5 x.kids with
    |false=>rfl
    |true=>
     exfalso;unfold ej at e;simp only at e;split at e
     ·rename_i G3;rw[G3]at h3;exact h3 rfl
     ·cases e
   rw[show decide ((x.kids.length:Int)=3)=true from Zt Zo];obtain⟨y,hy⟩:∃y,x.kids[2]? =some y:=⟨_,Zg Zo⟩;obtain⟨r1,r2,r3,r4,r5,r6,r7,p1,d1,p2,d2,p3,d3,Yx,o2,GJ,hus2,_⟩:=fk (hr 2 y hy);have f0:kC.cell bk (o+22) (.int .u8 y.kind)∈S:=hm 2 Zo _ (by rw[hus2];exact kI.2 ⟨0,_,rfl,Zs⟩);have f7:kC.cell bk (o+29) (.slice p1 y.args.length d1)∈S:=hm 2 Zo _ (by rw[hus2];exact kI.2 ⟨7,_,rfl,Zs⟩);have CU:ej 5 x.kids=(decide (y.kind=7)&&decide (y.args.length=1)):=by
    match G3:x.kids,h3 with
    |[a,b,c],_=>
     rw[G3]at hy;obtain rfl:c=y:=by simpa using hy
     rfl
   refine ae ?_;by_cases hy7:y.kind=7
   ·rw[show decide ((y.kind:Int)=7)=true from Zt Zo];refine ae ?_;rw[show decide ((y.args.length:Int)=1)=decide (y.args.length=1)from decide_eq_decide.2 Zo];refine ae ?_;refine kG (Post:=[S]) (.inr rfl) (.tmp Zr (.tmp Zr (.tmp Zr .nil))) ⟨lZ _ ?_,rfl⟩ ZI;rw[CU,Zt hy7,vS]
   ·rw[show decide ((y.kind:Int)=7)=false from Zf Zo];refine ae ?_;refine kG (Post:=[S]) (.inr rfl) (.tmp Zr (.tmp Zr (.tmp Zr .nil))) ⟨lZ _ ?_,rfl⟩ ZI;rw[CU,Zf hy7,vJ]
  rw[Zf g10];refine ae ?_;refine kG (Post:=[S]) (.inr rfl) (.tmp Zr (.tmp Zr (.tmp Zr .nil))) ⟨dR _ rfl ?_,rfl⟩ ZI;have bW:jP x.name=0:=by
   unfold jP;rw[if_neg (by rintro(e|e|e|e) <;> contradiction),if_neg (by rintro(e|e) <;> contradiction),if_neg (by rintro(e|e) <;> contradiction),if_neg (by rintro(e|e) <;> contradiction)];exact if_neg g10
  unfold gw iD;rw[bW];simp[ej]
 obtain⟨bW,hn4⟩:=hn;have aY:gw x=ej n x.kids:=by unfold gw iD;rw[bW,E7,Zt hk];rfl
 have Zn:jB n < io n/\io n<=3:=by rcases hn4 with rfl|rfl|rfl|rfl <;> decide
 refine ae ?_;by_cases hlen:x.kids.length=io n;rotate_left
 ·rw[show decide ((x.kids.length:Int)=(io n:Int))=false from Zf Zo];refine ae ?_;refine kG (Post:=[S]) (.inr rfl) (.tmp Zr (.tmp Zr (.tmp Zr .nil))) ⟨dR _ rfl ?_,rfl⟩ ZI;rw[aY];cases e:ej n x.kids with
  |false=>rfl
  |true=>exact absurd (CL hn4 e) hlen
 rw[show decide ((x.kids.length:Int)=(io n:Int))=true from Zt Zo];refine ae ?_;refine RE Zr Zr Zr rfl rfl (l:=jB n) (h:=io n) ⟨Zo,Zo⟩ ?_;rw[if_neg (show ¬c3=jB n by omega)];refine ae ?_;refine VC.loop (α:=Nat) (bn:=fun s=>[(5,vi (jB n)),(6,vi (io n)),(82,.slice (some ⟨bk,o+jB n*11,none⟩) (io n - jB n) (c3 - jB n)),(83,.int .i64 ((io n - jB n:Nat):Int)),(84,vi s)]) (Hf:=fun _=>[S]) (I:=fun s=>s<=io n - jB n/\∀j y,jB n<=j->j < jB n+s->x.kids[j]? =some y->jq y=true) (μ:=fun s=>io n - jB n - s) 0
  ⟨Qp _,fun j y h1 h2=>by omega⟩ ZU ZI ?_
 rintro i ⟨hi,pK⟩
 refine ae ?_;by_cases aO:i < io n - jB n;rotate_left
 ·rw[show decide ((i:Int) < ((io n - jB n:Nat):Int))=false from Zf Zo];refine ae ?_;refine kG (Post:=[S]) (.inr rfl) (.tmp (v:=vi (jB n)) Zr (.tmp (v:=vi (io n)) Zr (.tmp (v:=.bool true) Zr .nil))) ⟨⟨jB n,io n,?_,fun _=>by rw[bW];exact⟨rfl,rfl⟩⟩,rfl⟩ ZI;rw[aY,YS hn4 hlen (fun j y h1 h2=>pK j y h1 (by have:=(Vm.1 h2).1;omega) h2)];rfl
 rw[show decide ((i:Int) < ((io n - jB n:Nat):Int))=true from Zt Zo];obtain⟨y,hy⟩:∃y,x.kids[jB n+i]? =some y:=⟨_,Zg Zo⟩;have cH:=hm (jB n+i) Zo;have bL:=hr (jB n+i) y hy;rw[show o+(jB n+i)*11=o+(jB n*11+i*11) by omega]at cH;generalize us (jB n+i)=kj at cH bL;have Mz:=GQ S y kj bL;obtain⟨g1,g2,g3,g4,g5,g6,g7,g8,g9,g10,g11,g12,g13,g14,g15,g16,rfl⟩:=qd bL;refine ae ?_;refine kX Zr (fun z hz=>by have h9:=cH z hz;simp[h9]) rfl ?_;refine ae ?_;refine kN (fun q8=>?_);refine ae ?_;refine kJ Mz Zr ZP (fun v Post hv=>?_);obtain⟨rfl,rfl⟩:=hv;simp only[aH];cases hp:jq y with
 |false=>
  refine ae ?_;refine kG (Post:=[S]) (.inr rfl) (.tmp Zr (.tmp Zr (.tmp Zr .nil))) ⟨dR _ rfl ?_,rfl⟩ ZI;rw[aY];exact CM hn4 (Nat.le_add_right _ _) hy hp
 |true=>
  refine ae ?_;refine⟨i+1,⟨Zo,fun j z h1 h2 h3=>?_⟩,Zo,ZU,ZI⟩;by_cases hj:j < jB n+i
  ·exact pK j z h1 hj h3
  ·have e:j=jB n+i:=by omega
   rw[e,hy]at h3;rw[<- Qx h3];exact hp
set_option maxHeartbeats 3200000
theorem pO(S:List kC)(x:Nd)(vs:List Value)(h:jJ S x vs):aq Tryz.prog 26 [.agg vs.toArray] [S] (fun v Post=>v=.bool (gw x)/\Post=[S]):=by
 have hb:=sK S x vs h;obtain⟨g1,g2,g3,g4,g5,g6,g7,g8,g9,g10,g11,g12,g13,g14,g15,g16,rfl⟩:=qd h;refine aq.intro low26 (by simp[n26]) ?_;refine ae ?_;refine kY Zr (fun q=>?_);simp only[Value.cells];refine ae ?_;refine kJ hb Zr ZP (fun v Post hv=>?_);obtain⟨⟨f,t,rfl,_⟩,rfl⟩:=hv;simp only[aH];exact zDF
end Go.Proofs.YtijnokbblmbpkaaGreatDoor
namespace Go.V
open Go
section
variable {P:Program} {n:Nat} {Γ:Env} {H:SH} {Q:Exit->Env->SH->Prop}
end
abbrev NV:=Nd×List Value
theorem OV {A:List kC}{x:Nd}{vs:List Value}(h:jJ A x vs):∃(e1:Nat) (e2:Int) (e3:Nat) (e4:ByteArray) (e5:Option Addr) (e6 e7:Nat) (e8:Option Addr) (e9 tF:Nat) (tG:Option Addr) (tH tI:Nat) (a:Option Addr) (c bk o:Nat) (us:Nat->List Value),
 vs=(rA x.kind x.name e1 e2 e3 e4 e5 e6 e7 e8 e9 tF tG tH tI a x.kids.length c x.at_)/\x.kids.length<=140737488355328/\(0 < x.kids.length->a=some ⟨bk,o,none⟩)/\
 (∀i,i < x.kids.length->∀y∈kA bk (o+i*11) (us i),y∈A)/\∀i y,x.kids[i]? =some y->jJ A y (us i):=by
 cases h with
 |mk wf hl bK bG ha hm hr rU=>
  obtain⟨_,_,rfl,_⟩:=bK;obtain⟨_,_,rfl,_⟩:=bG;cases hl with
  |mk R5 HP rV dS=>exact⟨_,_,_,_,_,_,_,_,_,_,_,_,_,_,_,_,_,_,rfl,wf.many,ha,hm,hr⟩
inductive gK:Lt->List Value->List kC->Prop
 |mk {k:Nat} {n:Int} {b:Nat} {t:ByteArray} {items:List Lt} {sv:Value} {rows:List (List Value)} {sp:List Value} {Ls:Nat->List kC} {L:List kC} (bF:jG 5 sv items.length rows.flatten sp) (hl:rows.length=items.length) (h5:∀r∈rows,r.length=5)
   (hr:∀(i:Nat) x r,items[i]? =some x->rows[i]? =some r->gK x r (Ls i)) (wf:MP k n b t items.length) (hL:L.Perm (ai sv rows.flatten sp++(List.range items.length).flatMap Ls)):gK (.mk k n b t items) [cv k,vi n,uv b,.string t,sv] L
def uM(v:Value)(l:List ByteArray)(L:List kC):Prop:=∃sp,jG 1 v l.length (l.map Value.string) sp/\L=ai v (l.map Value.string) sp/\l.length<=1099511627776/\∀t∈l,t.size<=140737488355328
inductive Ed:Nd->List Value->List kC->Prop
 |mk {k:Nat} {s:ByteArray} {lit:Lt} {args ab:List ByteArray} {kids:List Nd} {p:Int} {lv:List Value} {av tv sv:Value} {rows:List (List Value)} {sp:List Value} {Ls:Nat->List kC} {LL LA LT L:List kC} (bF:jG 11 sv kids.length rows.flatten sp) (hl:rows.length=kids.length) (Nu:∀r∈rows,r.length=11)
   (hr:∀(i:Nat) x r,kids[i]? =some x->rows[i]? =some r->Ed x r (Ls i)) (wf:NdWf k s kids.length p) (aO:gK lit lv LL) (bK:uM av args LA) (bG:uM tv ab LT)
   (hL:L.Perm (LL++(LA++(LT++(ai sv rows.flatten sp++(List.range kids.length).flatMap Ls))))):Ed (.mk k s lit args ab kids p) ([cv k,.string s]++lv++[av,tv,sv,vi p]) L
theorem gK.rd {x:Lt}{vs:List Value}{L:List kC}(h:gK x vs L):zw L x vs:=by
 induction h with
 |@mk k n b t items sv rows sp Ls L bF hl h5 hr wf hL ih=>
  have:=Uo (B:=(List.range items.length).flatMap Ls) (k:=k) (n:=n) (b:=b) (t:=t) bF hl h5 (fun i x r e1 e2=>(ih i x r e1 e2).more fun z hz=>QG.2 ⟨i,QJ.2 (Vm.1 e1).1,hz⟩) wf;exact this.more fun z hz=>hL.symm.subset hz
theorem uM.rd {v:Value}{l:List ByteArray}{L:List kC}(h:uM v l L):eg L v l:=by
 obtain⟨sp,h1,rfl,h3,h4⟩:=h;exact I6 rfl h1 h3 h4
end Go.V

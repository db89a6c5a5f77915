/-
  A node's part.
-/
import Derived.Test.YtijnokbblmbpkaaGreatDoorM23
import Derived.Test.YtijnokbblmbpkaaGreatDoorM19
import Derived.Test.YtijnokbblmbpkaaGreatDoorM12
import Derived.Test.YtijnokbblmbpkaaGreatDoorM21
import Derived.Test.YtijnokbblmbpkaaGreatDoorM15
import Derived.Test.YtijnokbblmbpkaaGreatDoorM9
import Derived.KernelRfl
import Derived.Test.YtijnokbblmbpkaaGreatDoorProg
set_option linter.all false
namespace Go.Proofs.YtijnokbblmbpkaaGreatDoor
open Go Go.V
set_option maxHeartbeats 12800000
set_option maxRecDepth 100000
structure PaS where
 k:Nat
 nm:ByteArray
 lit:Lt
 l1:Value
 l2:Value
 l3:Value
 l4:Value
 l5:Value
 refs:List zY
 rv:Value
 vv:Value
 l:List Nd
 a:Option Addr
 ac:Nat
 bk:Nat
 o:Nat
 ks:Nat->List Value
 st:ah
 us:Value
 bA:List Value
 U:List UC
 V:List az
 T:List kC
 B:List kC
structure PaI (X:Fix)(x:Nd)(N:Nat)(st:ah)(env:List Nat)(i:Nat)(Uq Vq:List Nat)(s:PaS):Prop where
 eq:j9 X.F X.G x st env i=(.mk s.k s.nm s.lit s.refs 0 false (if x.kind=5 then zD (jS x.kids) (kT X.F X.G s.l s.st env i).1 else(kT X.F X.G s.l s.st env i).1),(kT X.F X.G s.l s.st env i).2)
 lt:zk s.B s.lit [s.l1,s.l2,s.l3,s.l4,s.l5]
 rr:jy s.B s.rv (zE s.refs)
 pr:z5 s.B s.vv ((eu s.refs).map fun r=>(s.V.map az.q).getD r.index.toNat 0)
 rok:yC (s.V.map az.q) s.refs
 rz:zE s.refs=[]->s.rv=Nz
 ok:ii s.st s.us s.bA s.U s.V s.T
 gr:Gr st s.st
 pU:Uq <+:s.U.map UC.q
 pV:Vq <+:s.V.map az.q
 room:Room s.st (jM s.l)
 ha:0 < s.l.length->s.a=some ⟨s.bk,s.o,none⟩
 hm:∀j,j < s.l.length->∀y∈kA s.bk (s.o+j*11) (s.ks j),y∈X.S
 hr:∀j y,s.l[j]? =some y->jJ X.S y (s.ks j)
 sz:Nd.aq s.l<=N
 okl:qR s.l=true
 ne:x.kind=5->0 < s.l.length
theorem XK {F G:List ByteArray}{st:ah}{env:List Nat}{nm:ByteArray}{u:Nat}{p:Int}{put:Bool}(h:(wD F G st env nm u p put).1.kind=99):∃v∈env,(wD F G st env nm u p put).1=cG v:=by
 unfold wD at h|-;split at h
 ·have:=Er nm;simp only at h;omega
 ·rename_i hk;rw[if_neg hk];split at h
  ·rename_i v hv;exact⟨v,Co hv,rfl⟩
  ·split at h
   ·simp at h
   ·simp at h
theorem MM(X:Fix)(hX:NZ X)(N:Nat)(hN2:N < 1073741824)(ih:∀x,x.size<=N->Se x=true->∀vs,jJ X.S x vs->oL X x vs)(x:Nd)(hx:x.size<=N+1)(aP:Se x=true)(vs:List Value)(h:jJ X.S x vs):oL X x vs:=by
 intro st us bA U Vs T hS i u hu env b es c hs EX bX;have h':=h;obtain⟨e1,e2,e3,e4,e5,e6,e7,a1,c1,a2,c2,a3,c3,bk,ko,ks,rfl,mO,bJ,bF,hk8,ha,hm,hr,ss⟩:=fF h;have Ie:x.size=1+Nd.aq x.kids:=by cases x;rfl
 have IV:pW x=iV x.args x.ab (jM x.kids):=by cases x;rfl
 have hokk:okK x.kind x.kids=true/\x.lit.size<=274877906944/\qR x.kids=true:=by
  cases x;simp only[Se,vF,decide_eq_true_eq]at aP;exact⟨aP.1.1,aP.1.2,aP.2⟩
 obtain⟨um,hlb,ir⟩:=hokk;unfold okK at um;simp only[vF,vR,vN,decide_eq_true_eq,decide_eq_false_iff_not]at um;obtain⟨⟨⟨hk12,hk5⟩,hk19⟩,hk4⟩:=um;have hlen:=Ej x.kids;have A5:Nd.aq x.kids<=N:=by omega
 have mT:Room st (jM x.kids):=bX.mono (by rw[IV];unfold iV;omega);have hsb:st.uses.length < 1073741824:=by obtain⟨_,k,_⟩:=bX;omega
 have cF:i < st.outer.length:=by have:=(Vt.1 hu).1;rw[hS.rep.ul]at this;exact this
 refine ji.intro low172 (by simp[n172]) ?_;refine VC.join (α:=Nat×Nat) (bi:=fun q=>[(0,kF X.wq),(2,kF u.q),(3,.map (some b)),(5,kF q.1),(8,kF q.2)]) (Hf:=fun q=>[kA q.1 0 (rN x.kind x.name e1 e2 e3 e4 e5 e6 e7 a1 x.args.length c1 a2 x.ab.length c2 a3 x.kids.length c3 x.at_),kA q.2 0 [.int .u8 0,.string e0,.int .u8 0,.int .i64 0,.int .u64 0,.string e0,Nz,Nz,.int .i64 0,.bool false,Nz,Nz,Nz],kA X.wq 0 [.map (some X.fb),.map (some X.gb),us],aj us (U.map fun u=>kM (some u.q)) bA,[.obj X.fb (.map X.bG X.fc)],[.obj X.gb (.map X.bL X.gc)],WK U Vs,T,[.obj b (.map es c)],X.S]) (I:=fun _=>True) ?_ ?_
 ·refine ae ?_;refine kX Zr (fun q5=>?_);simp only[Value.cells];refine kO (fun q8=>?_);refine ae ?_;exact⟨(q5,q8),trivial,ZU,by unfold e0;exact bS⟩
 rintro⟨q5,q8⟩ _
 dsimp only;refine VC.join (α:=Unit) (bi:=fun _=>[(0,kF X.wq),(2,kF u.q),(3,.map (some b)),(5,kF q5),(8,kF q8)]) (Hf:=fun _=>[kA q5 0 (rN x.kind x.name e1 e2 e3 e4 e5 e6 e7 a1 x.args.length c1 a2 x.ab.length c2 a3 x.kids.length c3 x.at_),kA q8 0 [.int .u8 0,.string e0,.int .u8 0,.int .i64 0,.int .u64 0,.string e0,Nz,Nz,.int .i64 0,.bool false,Nz,Nz,Nz],kA X.wq 0 [.map (some X.fb),.map (some X.gb),us],aj us (U.map fun u=>kM (some u.q)) bA,[.obj X.fb (.map X.bG X.fc)],[.obj X.gb (.map X.bL X.gc)],WK U Vs,T,[.obj b (.map es c)],X.S]) (I:=fun _=>gV x=false) ?_ (fun _ aL=>?_)
 ·refine ae ?_;refine kH (td X.S x _ h') Zr ZP (fun v Post hv=>?_);obtain⟨⟨f,t,rfl,hft⟩,rfl⟩:=hv;simp only[aJ];cases aL:gV x with
  |false=>
   exact Yq
  |true=>
   obtain⟨rfl,rfl⟩:=hft aL;have DG:eA (jQ x.name) x.kids=true:=by
    unfold gV fU at aL;simp only[vF]at aL;exact aL.2
   have hP:=zd X.F X.G x.kind x.name x.lit x.args x.ab x.kids x.at_ st env i aL;rw[<- Nd.eta x]at hP;have Gw:=Ez X (.int .u8 e1) (.int .i64 e2) (.int .u64 e3) (.string e4) (.slice e5 e6 e7) (.int .u8 x.kind) (.slice a1 x.args.length c1) (.slice a2 x.ab.length c2) x.name x.kids a3 c3 bk ko ks Zo ha hm hr N Zo hN2 ir ih x.at_ DG st us bA U Vs T hS i u hu env b es c hs EX mT;refine ae ?_;refine kL Gw Zr ZP (fun v Post hv=>?_) (fun ch Post hz=>?_);rotate_left
   ·exact zE1
   obtain⟨ow,iL,U2,V2,T2,B2,⟨H6,ux,uy,ws,rfl,hn⟩,rfl⟩:=hv;simp only[aJ];obtain⟨pn,Cv⟩:∃pn,pn=(j9 X.F X.G x st env i).1:=⟨_,rfl⟩;have AY:xd B2 (V2.map az.q) pn ws:=by rw[Cv,hP];exact hn
   obtain⟨f1,f2,f3,f4,f5,f6,f7,r1,r2,r3,p1,p2,p3,k1,k2,k3,Um⟩:=lr AY;subst Um;refine ae ?_;refine jL ⟨.inr rfl,_,[kA X.wq 0 [.map (some X.fb),.map (some X.gb),ow],aj ow (U2.map fun u=>kM (some u.q)) iL,[.obj X.fb (.map X.bG X.fc)],[.obj X.gb (.map X.bL X.gc)],WK U2 V2,T2,[.obj b (.map es c)],X.S,B2],.aN (us:=[.int .u8 pn.kind,.string pn.name,.int .u8 f1,.int .i64 f2,.int .u64 f3,.string f4,.slice f5 f6 f7,.slice r1 r2 r3,.int .i64 pn.unit,.bool pn.super,Nz,.slice p1 p2 p3,.slice k1 k2 k3]) Zr Zr (fun y hy=>by simp only[Vd,QF];repeat (first|exact Or.inl hy|refine Or.inr ?_)) .nil,ZI,⟨ow,iL,U2,V2,T2,_,⟨by rw[hP];exact H6,ux,uy,_,rfl,by rw[<- Cv];exact AY⟩,rfl⟩⟩
 refine VC.join (α:=Nat) (bi:=fun fR=>[(0,kF X.wq),(2,kF u.q),(3,.map (some b)),(5,kF q5),(8,kF q8),(12,kF fR)]) (Hf:=fun fR=>[kA fR 0 [.int .u8 0,.string e0,.int .u8 0,.int .i64 0,.int .u64 0,.string e0,Nz,Nz,.int .i64 0,.bool false,Nz,Nz,Nz],kA q5 0 (rN x.kind x.name e1 e2 e3 e4 e5 e6 e7 a1 x.args.length c1 a2 x.ab.length c2 a3 x.kids.length c3 x.at_),kA q8 0 [.int .u8 0,.string e0,.int .u8 0,.int .i64 0,.int .u64 0,.string e0,Nz,Nz,.int .i64 0,.bool false,Nz,Nz,Nz],kA X.wq 0 [.map (some X.fb),.map (some X.gb),us],aj us (U.map fun u=>kM (some u.q)) bA,[.obj X.fb (.map X.bG X.fc)],[.obj X.gb (.map X.bL X.gc)],WK U Vs,T,[.obj b (.map es c)],X.S]) (I:=fun _=>True) ?_ (fun fR _=>?_)
 ·refine ae ?_;refine kO (fun fR=>?_);refine ae ?_;exact⟨fR,trivial,ZU,by unfold e0;exact bS⟩
 refine VC.join (α:=Unit) (bi:=fun _=>[(0,kF X.wq),(2,kF u.q),(3,.map (some b)),(5,kF q5),(8,kF q8),(12,kF fR),(13,.slice a3 x.kids.length c3)]) (Hf:=fun _=>[kA fR 0 [.int .u8 0,.string e0,.int .u8 0,.int .i64 0,.int .u64 0,.string e0,Nz,Nz,.int .i64 0,.bool false,Nz,Nz,Nz],kA q5 0 (rN x.kind x.name e1 e2 e3 e4 e5 e6 e7 a1 x.args.length c1 a2 x.ab.length c2 a3 x.kids.length c3 x.at_),kA q8 0 [.int .u8 0,.string e0,.int .u8 0,.int .i64 0,.int .u64 0,.string e0,Nz,Nz,.int .i64 0,.bool false,Nz,Nz,Nz],kA X.wq 0 [.map (some X.fb),.map (some X.gb),us],aj us (U.map fun u=>kM (some u.q)) bA,[.obj X.fb (.map X.bG X.fc)],[.obj X.gb (.map X.bL X.gc)],WK U Vs,T,[.obj b (.map es c)],X.S]) (I:=fun _=>True) ?_ (fun _ _=>?_)
 ·refine ae ?_;exact⟨(),trivial,ZU,ZI⟩
 refine VC.join (α:=Unit) (bi:=fun _=>[(0,kF X.wq),(2,kF u.q),(3,.map (some b)),(5,kF q5),(8,kF q8),(12,kF fR),(13,.slice a3 x.kids.length c3),(14,.bool (jS x.kids))]) (Hf:=fun _=>[kA fR 0 [.int .u8 0,.string e0,.int .u8 0,.int .i64 0,.int .u64 0,.string e0,Nz,Nz,.int .i64 0,.bool false,Nz,Nz,Nz],kA q5 0 (rN x.kind x.name e1 e2 e3 e4 e5 e6 e7 a1 x.args.length c1 a2 x.ab.length c2 a3 x.kids.length c3 x.at_),kA q8 0 [.int .u8 0,.string e0,.int .u8 0,.int .i64 0,.int .u64 0,.string e0,Nz,Nz,.int .i64 0,.bool false,Nz,Nz,Nz],kA X.wq 0 [.map (some X.fb),.map (some X.gb),us],aj us (U.map fun u=>kM (some u.q)) bA,[.obj X.fb (.map X.bG X.fc)],[.obj X.gb (.map X.bL X.gc)],WK U Vs,T,[.obj b (.map es c)],X.S]) (I:=fun _=>True) ?_ (fun _ _=>?_)
 ·refine ae ?_;by_cases EW:0 < x.kids.length;rotate_left
  ·rw[show decide ((0:Int) < (x.kids.length:Int))=false from Zf Zo];refine ae ?_;have xU:x.kids=[]:=vz Zo;exact⟨(),trivial,by rw[xU];exact AO,ZI⟩
  obtain rfl:=ha Zo;rw[show decide ((0:Int) < (x.kids.length:Int))=true from Zt Zo];obtain⟨r,Gq⟩:∃r,x.kids[0]? =some r:=⟨_,Zg Zo⟩;obtain⟨r1,r2,r3,r4,r5,r6,r7,p1,d1,p2,d2,p3,d3,bk2,o2,Dj,Pv,_⟩:=fF (hr 0 r Gq);have f0:kC.cell bk ko (.int .u8 r.kind)∈X.S:=hm 0 Zo _ (by rw[Pv];exact kJ.2 ⟨0,_,rfl,Zs⟩);have f1:kC.cell bk (ko+1) (.string r.name)∈X.S:=hm 0 Zo _ (by rw[Pv];exact kJ.2 ⟨1,_,rfl,Zs⟩);have Gv:jS x.kids=jR r:=by
   exact zDS
  refine ae ?_;by_cases Pe:r.kind=2
  ·rw[show decide ((r.kind:Int)=2)=true from Zt Zo];refine ae ?_;have Wt:jR r=decide (r.name=⟨#[115,117,112,101,114]⟩):=by
    unfold jR;rw[Zt Pe,vU];exact decide_eq_decide.2 lH
   exact⟨(),trivial,by rw[Gv,Wt];exact AO,ZI⟩
  ·rw[show decide ((r.kind:Int)=2)=false from Zf Zo];refine ae ?_;have Wt:jR r=false:=by
    unfold jR;rw[Zf Pe,vK]
   exact⟨(),trivial,by rw[Gv,Wt];exact AO,ZI⟩
 refine VC.join (α:=PaS) (bi:=fun p=>[(0,kF X.wq),(2,kF u.q),(3,.map (some b)),(5,kF q5),(8,kF q8),(12,kF fR),(13,.slice p.a p.l.length p.ac),(14,.bool (jS x.kids))]) (Hf:=fun p=>[kA fR 0 [.int .u8 p.k,.string p.nm,p.l1,p.l2,p.l3,p.l4,p.l5,p.rv,.int .i64 0,.bool false,Nz,p.vv,Nz],kA q5 0 (rN x.kind x.name e1 e2 e3 e4 e5 e6 e7 a1 x.args.length c1 a2 x.ab.length c2 a3 x.kids.length c3 x.at_),kA q8 0 [.int .u8 0,.string e0,.int .u8 0,.int .i64 0,.int .u64 0,.string e0,Nz,Nz,.int .i64 0,.bool false,Nz,Nz,Nz],kA X.wq 0 [.map (some X.fb),.map (some X.gb),p.us],aj p.us (p.U.map fun u=>kM (some u.q)) p.bA,[.obj X.fb (.map X.bG X.fc)],[.obj X.gb (.map X.bL X.gc)],WK p.U p.V,p.T,[.obj b (.map es c)],X.S,p.B]) (I:=PaI X x N st env i (U.map UC.q) (Vs.map az.q)) ?_ ?_
 ·skip
  have simple:∀(k:Nat) (nm:ByteArray) (l:List Nd) (a:Option Addr) (ac bk ko:Nat) (ks:Nat->List Value),j9 X.F X.G x st env i=(.mk k nm fV [] 0 false (if x.kind=5 then zD (jS x.kids) (kT X.F X.G l st env i).1 else(kT X.F X.G l st env i).1),(kT X.F X.G l st env i).2)->
   Room st (jM l)->(0 < l.length->a=some ⟨bk,ko,none⟩)->(∀j,j < l.length->∀y∈kA bk (ko+j*11) (ks j),y∈X.S)->(∀j y,l[j]? =some y->jJ X.S y (ks j))->Nd.aq l<=N->qR l=true->(x.kind=5->0 < l.length)->
   PaI X x N st env i (U.map UC.q) (Vs.map az.q) ⟨k,nm,fV,.int .u8 0,.int .i64 0,.int .u64 0,.string e0,Nz,[],Nz,Nz,l,a,ac,bk,ko,ks,st,us,bA,U,Vs,T,[]⟩:=fun k nm l a ac bk ko ks h1 h2 h3 h4 h5 h6 h7 h8=>
   ⟨h1,o9 _,jy.nil _,z5.nil _,yC.nil _,fun _=>rfl,hS,Gr.refl _,Qc _,Qc _,h2,h3,h4,h5,h6,h7,h8⟩
  refine jF ?_;by_cases h1:x.kind=1
  ·rw[show decide ((x.kind:Int)=1)=true from Zt Zo];have xU:x.kids=[]:=vz (by rcases hk12 with k|k;exact absurd (.inl h1) k;exact k);have hP:=eF X.F X.G x.kind x.name x.lit x.args x.ab x.kids x.at_ st env i aL h1;rw[<- Nd.eta x]at hP;refine ae ?_;refine kH (M3 X.S _ x.lit (Qn _) hlb _ mO) Zr ZP (fun v Post hv=>?_);obtain⟨ws,BL,rfl,DK,rfl⟩:=hv;simp only[aJ];have NE:=DK.rd;obtain⟨lsv,lrows,lsp,lK,rfl,_⟩:=DK.parts;obtain⟨lea,lec,hlsv⟩:=yj NE;simp only[vq,and_true,true_and]at hlsv;subst hlsv;refine ae ?_;refine⟨⟨1,e0,x.lit,cv x.lit.kind,vi x.lit.n,uv x.lit.bits,.string x.lit.text,.slice lea x.lit.items.length lec,[],.slice none 0 0,.slice none 0 0,x.kids,a3,c3,bk,ko,ks,st,us,bA,U,Vs,T,BL⟩,⟨?_,NE,jy.nil _,z5.nil _,yC.nil _,fun _=>rfl,hS,Gr.refl _,Qc _,Qc _,mT,ha,hm,hr,A5,ir,fun e=>absurd e Zo⟩,ZU,ao.cut (M:=[kA fR 0 [.int .u8 1,.string e0,cv x.lit.kind,vi x.lit.n,uv x.lit.bits,.string x.lit.text,.slice lea x.lit.items.length lec,.slice none 0 0,.int .i64 0,.bool false,.slice none 0 0,.slice none 0 0,.slice none 0 0],kA q5 0 (rN x.kind x.name e1 e2 e3 e4 e5 e6 e7 a1 x.args.length c1 a2 x.ab.length c2 a3 x.kids.length c3 x.at_),kA q8 0 [.int .u8 0,.string e0,.int .u8 0,.int .i64 0,.int .u64 0,.string e0,.slice none 0 0,.slice none 0 0,.int .i64 0,.bool false,.slice none 0 0,.slice none 0 0,.slice none 0 0],kA X.wq 0 [.map (some X.fb),.map (some X.gb),us],aj us (U.map fun u=>kM (some u.q)) bA,[.obj X.fb (.map X.bG X.fc)],[.obj X.gb (.map X.bL X.gc)],WK U Vs,T,[.obj b (.map es c)],X.S,BL]) ZI (ao.perm Zs)⟩;simp only;rw[hP,xU,if_neg Zo,kT]
  rw[show decide ((x.kind:Int)=1)=false from Zf Zo];refine jF ?_;refine VC.join (α:=Unit) (bi:=fun _=>[(0,kF X.wq),(2,kF u.q),(3,.map (some b)),(5,kF q5),(8,kF q8),(12,kF fR),(13,.slice a3 x.kids.length c3),(14,.bool (jS x.kids)),(52,.int .u8 x.kind),(73,.bool (decide (x.kind=2∨x.kind=3)))]) (Hf:=fun _=>[kA fR 0 [.int .u8 0,.string e0,.int .u8 0,.int .i64 0,.int .u64 0,.string e0,Nz,Nz,.int .i64 0,.bool false,Nz,Nz,Nz],kA q5 0 (rN x.kind x.name e1 e2 e3 e4 e5 e6 e7 a1 x.args.length c1 a2 x.ab.length c2 a3 x.kids.length c3 x.at_),kA q8 0 [.int .u8 0,.string e0,.int .u8 0,.int .i64 0,.int .u64 0,.string e0,Nz,Nz,.int .i64 0,.bool false,Nz,Nz,Nz],kA X.wq 0 [.map (some X.fb),.map (some X.gb),us],aj us (U.map fun u=>kM (some u.q)) bA,[.obj X.fb (.map X.bG X.fc)],[.obj X.gb (.map X.bL X.gc)],WK U Vs,T,[.obj b (.map es c)],X.S]) (I:=fun _=>True) ?_ (fun _ _=>?_)
  ·refine ae ?_;by_cases h2:x.kind=2
   ·rw[show decide ((x.kind:Int)=2)=true from Zt Zo,Zt (show x.kind=2∨x.kind=3 from .inl h2)];exact Yq
   ·rw[show decide ((x.kind:Int)=2)=false from Zf Zo,show decide (x.kind=2∨x.kind=3)=decide ((x.kind:Int)=3)from decide_eq_decide.2 Zo];exact Yq
  by_cases h23:x.kind=2∨x.kind=3
  ·rw[Zt h23];refine jF ?_;refine VC.join (α:=Unit) (bi:=fun _=>[(0,kF X.wq),(2,kF u.q),(3,.map (some b)),(5,kF q5),(8,kF q8),(12,kF fR),(13,.slice a3 x.kids.length c3),(14,.bool (jS x.kids))]) (Hf:=fun _=>[kA fR 0 [.int .u8 x.kind,.string e0,.int .u8 0,.int .i64 0,.int .u64 0,.string e0,Nz,Nz,.int .i64 0,.bool false,Nz,Nz,Nz],kA q5 0 (rN x.kind x.name e1 e2 e3 e4 e5 e6 e7 a1 x.args.length c1 a2 x.ab.length c2 a3 x.kids.length c3 x.at_),kA q8 0 [.int .u8 0,.string e0,.int .u8 0,.int .i64 0,.int .u64 0,.string e0,Nz,Nz,.int .i64 0,.bool false,Nz,Nz,Nz],kA X.wq 0 [.map (some X.fb),.map (some X.gb),us],aj us (U.map fun u=>kM (some u.q)) bA,[.obj X.fb (.map X.bG X.fc)],[.obj X.gb (.map X.bL X.gc)],WK U Vs,T,[.obj b (.map es c)],X.S]) (I:=fun _=>True) ?_ (fun _ _=>?_)
   ·refine ae ?_;by_cases h3:x.kind=3
    ·rw[show decide ((x.kind:Int)=3)=true from Zt Zo];refine ae ?_;exact⟨(),trivial,ZU,ao.cut (M:=[kA fR 0 [.int .u8 3,.string e0,.int .u8 0,.int .i64 0,.int .u64 0,.string e0,Nz,Nz,.int .i64 0,.bool false,Nz,Nz,Nz],kA q5 0 (rN x.kind x.name e1 e2 e3 e4 e5 e6 e7 a1 x.args.length c1 a2 x.ab.length c2 a3 x.kids.length c3 x.at_),kA q8 0 [.int .u8 0,.string e0,.int .u8 0,.int .i64 0,.int .u64 0,.string e0,Nz,Nz,.int .i64 0,.bool false,Nz,Nz,Nz],kA X.wq 0 [.map (some X.fb),.map (some X.gb),us],aj us (U.map fun u=>kM (some u.q)) bA,[.obj X.fb (.map X.bG X.fc)],[.obj X.gb (.map X.bL X.gc)],WK U Vs,T,[.obj b (.map es c)],X.S]) ZI (ao.perm (by simp[h3]))⟩
    ·have h2:x.kind=2:=by omega
     rw[show decide ((x.kind:Int)=3)=false from Zf Zo];refine ae ?_;exact⟨(),trivial,ZU,ao.cut (M:=[kA fR 0 [.int .u8 2,.string e0,.int .u8 0,.int .i64 0,.int .u64 0,.string e0,Nz,Nz,.int .i64 0,.bool false,Nz,Nz,Nz],kA q5 0 (rN x.kind x.name e1 e2 e3 e4 e5 e6 e7 a1 x.args.length c1 a2 x.ab.length c2 a3 x.kids.length c3 x.at_),kA q8 0 [.int .u8 0,.string e0,.int .u8 0,.int .i64 0,.int .u64 0,.string e0,Nz,Nz,.int .i64 0,.bool false,Nz,Nz,Nz],kA X.wq 0 [.map (some X.fb),.map (some X.gb),us],aj us (U.map fun u=>kM (some u.q)) bA,[.obj X.fb (.map X.bG X.fc)],[.obj X.gb (.map X.bL X.gc)],WK U Vs,T,[.obj b (.map es c)],X.S]) ZI (ao.perm (by simp[h2]))⟩
   have iu:=J4 X.F X.G X.wq X.fb X.gb us X.bG X.bL X.fc X.gc hX.f hX.g x.kind x.name (.int .u8 e1) (.int .i64 e2) (.int .u64 e3) (.string e4) (.slice e5 e6 e7) (.slice a1 x.args.length c1) (.slice a2 x.ab.length c2) (.slice a3 x.kids.length c3) x.at_ st U Vs hS.rep i u hu hS.ok hsb env b es c hs EX;have NE:=yc X.F X.G st env x.name i x.at_ (decide (x.kind=3));have DI:=sn X.F X.G st env x.name i x.at_ (decide (x.kind=3));have IT:=fI X.F X.G st env x.name i x.at_ (decide (x.kind=3));have Pf:=XK (F:=X.F) (G:=X.G) (st:=st) (env:=env) (nm:=x.name) (u:=i) (p:=x.at_) (put:=decide (x.kind=3));obtain⟨R,hR⟩:∃R,R=wD X.F X.G st env x.name i x.at_ (decide (x.kind=3)):=⟨_,rfl⟩;rw[<- hR]at iu NE DI IT Pf;have hP:j9 X.F X.G x st env i=(.mk x.kind e0 fV [R.1] 0 false (kT X.F X.G x.kids R.2 env i).1,(kT X.F X.G x.kids R.2 env i).2):=by
    rcases h23 with h2|h3
    ·have xU:x.kids=[]:=vz (by rcases hk12 with k|k;exact absurd (.inr h2) k;exact k);have hP:=eG X.F X.G x.kind x.name x.lit x.args x.ab x.kids x.at_ st env i aL h2;rw[<- Nd.eta x]at hP;rw[hP,xU,kT,hR,h2];rfl
    ·have hP:=eH X.F X.G x.kind x.name x.lit x.args x.ab x.kids x.at_ st env i aL h3;rw[<- Nd.eta x]at hP;rw[hP,hR,h3];rfl
   have sA:Room R.2 (jM x.kids):=Room.less (n:=1) (bX.mono (by rw[IV];unfold iV;omega)) NE;refine ae ?_;refine kL iu Zr ZP (fun v Post hv=>?_) (fun ch Post hz=>?_);rotate_left
   ·obtain⟨q1,Nv,ep,rfl,rfl⟩:=hz;exact⟨[X.S,jP q1 Nv x.at_],ZI,q1,Nv,x.at_,by rw[hP];exact(wV _ _ _ _ _ _).f _ ep,rfl,rfl⟩
   obtain⟨U2,V2,⟨DF,hv,Kv,iN,p7,tz⟩,rfl⟩:=hv;simp only[aJ];have Ib:∀W:List UC,(W.map fun u=>kM (some u.q))=(W.map UC.q).map fun b=>kM (some b):=fun W=>by rw[QD];rfl
   have I7:(U2.map fun u=>kM (some u.q))=U.map fun u=>kM (some u.q):=by rw[Ib,iN,<- Ib]
   have H6:ii R.2 us bA U2 V2 T:=by
    have Gm:U2.length=U.length:=by have:=congrArg List.length iN;rwa [Q5,Q5]at this
    refine⟨Kv,DF,by rw[Gm,I7];exact hS.sl,fun j w hw=>?_⟩;have ep:(U.map UC.body)[j]? =some w.body:=by rw[<- p7,Vu,hw];rfl
    rw[Vu]at ep;obtain⟨w1,E4,hwb⟩:=X0.1 ep;rw[IT,<- hwb];exact(hS.Yz j w1 E4).more (fun x hx=>hx) (by rw[tz];exact Qc _)
   have DV:V2.length=R.2.vars.length:=Kv.vl;by_cases h99:R.1.kind=99
   ·obtain⟨vv,hve,hvr⟩:=Pf h99;have Pw:vv < (V2.map az.q).length:=by
     rw[Q5,DV];exact Qq (hs.lt vv hve) DI.vars.length_le
    have hqe:(V2.map az.q).getD vv 0=tL V2 vv:=by
     have hvlt2:vv < V2.length:=by rwa [Q5]at Pw
     unfold tL;rw[Vh,Vh,Vu,Zg hvlt2];rfl
    have mQ:sT V2 R.1=.tuple #[.agg rz.toArray,kF (tL V2 vv)]:=by
     rw[hvr];rfl
    rw[mQ]at hv;subst hv;unfold rz;refine ae ?_;refine kO (fun q15=>?_);refine ae ?_;refine jB (out:=[kF (tL V2 vv)]) Zr Zr (fun rr=>?_);refine ae ?_;refine⟨⟨x.kind,e0,fV,.int .u8 0,.int .i64 0,.int .u64 0,.string e0,Nz,[cG vv],Nz,.slice (some ⟨rr,0,none⟩) 1 1,x.kids,a3,c3,bk,ko,ks,R.2,us,bA,U2,V2,T,kA rr 0 [kF (tL V2 vv)]⟩,
     ⟨?_,o9 _,jy.nil _,?_,?_,fun _=>rfl,H6,DI,by rw[iN];exact Qc _,by rw[tz];exact Qc _,sA,ha,hm,hr,A5,ir,fun e=>absurd e Zo⟩,ZU,by simp only[I7];exact bS⟩
    ·simp only;rw[hP,hvr,if_neg Zo]
    ·show z5 _ _ [(V2.map az.q).getD ((vv:Int)).toNat 0];rw[vV,hqe];refine⟨_,_,rfl,fun j q hj=>⟨rr,0,rfl,?_⟩⟩;cases j with
     |zero=>
      obtain rfl:tL V2 vv=q:=by simpa using hj
      exact kJ.2 ⟨0,_,rfl,rfl⟩
     |succ j=>simp at hj
    ·exact⟨.inl fun r hr=>by rw[QR.1 hr];rfl,fun r hr _=>⟨vv,QR.1 hr,Pw⟩⟩
   ·have mQ:sT V2 R.1=.tuple #[.agg (jN R.1).toArray,.pointer none]:=by
     unfold sT;rw[if_neg h99]
    rw[mQ]at hv;subst hv;unfold jN;refine ae ?_;refine kO (fun q15=>?_);refine ae ?_;refine jB (out:=[.int .u8 R.1.kind,.int .i64 R.1.index,.int .i64 R.1.slot,.string R.1.name]) Zr Zr (fun rr=>?_);refine ae ?_;have oC:zE [R.1]=[R.1]:=by unfold zE;rw[V6,if_pos (Zt h99)];rfl
    have hrw:eu [R.1]=[]:=by unfold eu;rw[V6,if_neg (by simpa using h99)];rfl
    refine⟨⟨x.kind,e0,fV,.int .u8 0,.int .i64 0,.int .u64 0,.string e0,Nz,[R.1],.slice (some ⟨rr,0,none⟩) 1 1,Nz,x.kids,a3,c3,bk,ko,ks,R.2,us,bA,U2,V2,T,kA rr 0 (jN R.1)⟩,
     ⟨?_,o9 _,?_,?_,?_,fun e=>?_,H6,DI,by rw[iN];exact Qc _,by rw[tz];exact Qc _,sA,ha,hm,hr,A5,ir,fun e=>absurd e Zo⟩,ZU,by simp only[I7];unfold jN;exact bS⟩
    ·simp only;rw[hP,if_neg Zo]
    ·show jy _ _ (zE [R.1]);rw[oC];refine⟨_,_,rfl,fun j q hj=>⟨rr,0,rfl,fun y hy=>?_⟩⟩;cases j with
     |zero=>
      obtain rfl:R.1=q:=by simpa using hj
      exact hy
     |succ j=>simp at hj
    ·show z5 _ _ ((eu [R.1]).map _);rw[hrw];exact z5.nil _
    ·exact⟨.inr fun r hr=>by rw[QR.1 hr];exact h99,fun r hr e=>by rw[QR.1 hr]at e;exact absurd e h99⟩
    ·have e:zE [R.1]=[]:=e;rw[oC]at e;cases e
  rw[Zf h23];refine jF ?_;by_cases h7:x.kind=7
  ·rw[show decide ((x.kind:Int)=7)=true from Zt Zo];have hP:=eL X.F X.G x.kind x.name x.lit x.args x.ab x.kids x.at_ st env i aL h7;rw[<- Nd.eta x]at hP;have H7:=xp X (.int .u8 x.kind) (.int .u8 e1) (.int .i64 e2) (.int .u64 e3) (.string e4) (.slice e5 e6 e7) (.string x.name) x.args x.ab (.slice a1 x.args.length c1) (.slice a2 x.ab.length c2) bJ bF x.kids a3 c3 bk ko ks Zo ha hm hr
    (fun i' x' oE=>ih x' (by have:=Nd.aD (Zv oE);omega) (nh ir (Zv oE)) _ (hr i' x' oE)) x.at_ st us bA U Vs T hS (i:Int) ⟨Zo,Zo⟩ env b es c hs (fun v hv=>⟨i,rfl,EX v hv⟩) (by rw[<- IV];exact bX)
   have hoq:ni U (i:Int)=some u.q:=by
    unfold ni;rw[if_neg Zo,vV,hu];rfl
   rw[hoq]at H7;refine ae ?_;refine kL H7 Zr ZP (fun v Post hv=>?_) (fun ch Post hz=>?_);rotate_left
   ·exact zE1
   obtain⟨ow,iL,U2,V2,T2,⟨H6,ux,uy,w,hw,rfl⟩,rfl⟩:=hv;simp only[aJ];have hnum:w.num=st.outer.length:=(H6.rep.un _ w hw).2.2.2.1;have f4:kC.cell w.q 4 (.int .i64 st.outer.length)∈WK U2 V2:=zy hw _ (QI _ (Zw _ (kJ.2 ⟨4,_,by unfold UC.row;rw[hnum];rfl,rfl⟩)));refine ae ?_;refine jL ⟨.inr rfl,_,[kA X.wq 0 [.map (some X.fb),.map (some X.gb),ow],aj ow (U2.map fun u=>kM (some u.q)) iL,[.obj X.fb (.map X.bG X.fc)],[.obj X.gb (.map X.bL X.gc)],WK U2 V2,T2,[.obj b (.map es c)],X.S,[]],.aN (us:=[.int .u8 8,.string e0,.int .u8 0,.int .i64 0,.int .u64 0,.string e0,Nz,Nz,.int .i64 st.outer.length,.bool false,Nz,Nz,Nz]) Zr Zr (fun y hy=>by simp only[Vd,QF];repeat (first|exact Or.inl hy|refine Or.inr ?_)) .nil,ao.cut (M:=[kA X.wq 0 [.map (some X.fb),.map (some X.gb),ow],aj ow (U2.map fun u=>kM (some u.q)) iL,[.obj X.fb (.map X.bG X.fc)],[.obj X.gb (.map X.bL X.gc)],WK U2 V2,T2,[.obj b (.map es c)],X.S]) ZI (ao.perm Zs),⟨ow,iL,U2,V2,T2,_,⟨by rw[hP];exact H6,ux,uy,_,rfl,?_⟩,rfl⟩⟩;rw[hP];exact yo (k:=8) (nm:=e0) (lit:=fV) (refs:=[]) (unit:=st.outer.length) (fM:=false) (kids:=[]) (rows:=[]) (sv:=Nz) (sp:=[]) (vv:=Nz) (B:=[]) .nil (zh.nil _ _) (o9 _) (jy.nil _) (z5.nil _) (yC.nil _)
  rw[show decide ((x.kind:Int)=7)=false from Zf Zo];refine jF ?_;by_cases h8:x.kind=8
  ·rw[show decide ((x.kind:Int)=8)=true from Zt Zo];have hP:=eM X.F X.G x.kind x.name x.lit x.args x.ab x.kids x.at_ st env i aL h8;rw[<- Nd.eta x]at hP;refine ae ?_;exact⟨_,simple 9 e0 x.kids a3 c3 bk ko ks (by rw[hP,if_neg Zo]) mT ha hm hr A5 ir (fun e=>absurd e Zo),ZU,ao.cut (M:=[kA fR 0 [.int .u8 9,.string e0,.int .u8 0,.int .i64 0,.int .u64 0,.string e0,Nz,Nz,.int .i64 0,.bool false,Nz,Nz,Nz],kA q5 0 (rN x.kind x.name e1 e2 e3 e4 e5 e6 e7 a1 x.args.length c1 a2 x.ab.length c2 a3 x.kids.length c3 x.at_),kA q8 0 [.int .u8 0,.string e0,.int .u8 0,.int .i64 0,.int .u64 0,.string e0,Nz,Nz,.int .i64 0,.bool false,Nz,Nz,Nz],kA X.wq 0 [.map (some X.fb),.map (some X.gb),us],aj us (U.map fun u=>kM (some u.q)) bA,[.obj X.fb (.map X.bG X.fc)],[.obj X.gb (.map X.bL X.gc)],WK U Vs,T,[.obj b (.map es c)],X.S]) ZI (ao.perm Zs)⟩
  rw[show decide ((x.kind:Int)=8)=false from Zf Zo];refine jF ?_;by_cases h9:x.kind=9
  ·rw[show decide ((x.kind:Int)=9)=true from Zt Zo];have hP:=eN X.F X.G x.kind x.name x.lit x.args x.ab x.kids x.at_ st env i aL h9;rw[<- Nd.eta x]at hP;refine ae ?_;exact⟨_,simple 10 e0 x.kids a3 c3 bk ko ks (by rw[hP,if_neg Zo]) mT ha hm hr A5 ir (fun e=>absurd e Zo),ZU,ao.cut (M:=[kA fR 0 [.int .u8 10,.string e0,.int .u8 0,.int .i64 0,.int .u64 0,.string e0,Nz,Nz,.int .i64 0,.bool false,Nz,Nz,Nz],kA q5 0 (rN x.kind x.name e1 e2 e3 e4 e5 e6 e7 a1 x.args.length c1 a2 x.ab.length c2 a3 x.kids.length c3 x.at_),kA q8 0 [.int .u8 0,.string e0,.int .u8 0,.int .i64 0,.int .u64 0,.string e0,Nz,Nz,.int .i64 0,.bool false,Nz,Nz,Nz],kA X.wq 0 [.map (some X.fb),.map (some X.gb),us],aj us (U.map fun u=>kM (some u.q)) bA,[.obj X.fb (.map X.bG X.fc)],[.obj X.gb (.map X.bL X.gc)],WK U Vs,T,[.obj b (.map es c)],X.S]) ZI (ao.perm Zs)⟩
  rw[show decide ((x.kind:Int)=9)=false from Zf Zo];refine jF ?_;by_cases h6:x.kind=6
  ·rw[show decide ((x.kind:Int)=6)=true from Zt Zo];have hP:=eK X.F X.G x.kind x.name x.lit x.args x.ab x.kids x.at_ st env i aL h6;rw[<- Nd.eta x]at hP;refine jF ?_;refine VC.draws ⟨?_,?_,trivial⟩
   all_goals
    refine ae ?_;exact⟨_,simple 7 x.name x.kids a3 c3 bk ko ks (by rw[hP,if_neg Zo]) mT ha hm hr A5 ir (fun e=>absurd e Zo),ZU,ao.cut (M:=[kA fR 0 [.int .u8 7,.string x.name,.int .u8 0,.int .i64 0,.int .u64 0,.string e0,Nz,Nz,.int .i64 0,.bool false,Nz,Nz,Nz],kA q5 0 (rN x.kind x.name e1 e2 e3 e4 e5 e6 e7 a1 x.args.length c1 a2 x.ab.length c2 a3 x.kids.length c3 x.at_),kA q8 0 [.int .u8 0,.string e0,.int .u8 0,.int .i64 0,.int .u64 0,.string e0,Nz,Nz,.int .i64 0,.bool false,Nz,Nz,Nz],kA X.wq 0 [.map (some X.fb),.map (some X.gb),us],aj us (U.map fun u=>kM (some u.q)) bA,[.obj X.fb (.map X.bG X.fc)],[.obj X.gb (.map X.bL X.gc)],WK U Vs,T,[.obj b (.map es c)],X.S]) ZI (ao.perm Zs)⟩
  rw[show decide ((x.kind:Int)=6)=false from Zf Zo];refine jF ?_;by_cases h5:x.kind=5
  ·rw[show decide ((x.kind:Int)=5)=true from Zt Zo];have hP:=eJ X.F X.G x.kind x.name x.lit x.args x.ab x.kids x.at_ st env i aL h5;rw[<- Nd.eta x]at hP;refine ae ?_;exact⟨_,simple 6 e0 x.kids a3 c3 bk ko ks (by rw[hP,if_pos h5]) mT ha hm hr A5 ir (fun e=>by rcases hk5 with k|k;exact absurd e k;exact k),ZU,ao.cut (M:=[kA fR 0 [.int .u8 6,.string e0,.int .u8 0,.int .i64 0,.int .u64 0,.string e0,.slice none 0 0,.slice none 0 0,.int .i64 0,.bool false,.slice none 0 0,.slice none 0 0,.slice none 0 0],kA q5 0 (rN x.kind x.name e1 e2 e3 e4 e5 e6 e7 a1 x.args.length c1 a2 x.ab.length c2 a3 x.kids.length c3 x.at_),kA q8 0 [.int .u8 0,.string e0,.int .u8 0,.int .i64 0,.int .u64 0,.string e0,.slice none 0 0,.slice none 0 0,.int .i64 0,.bool false,.slice none 0 0,.slice none 0 0,.slice none 0 0],kA X.wq 0 [.map (some X.fb),.map (some X.gb),us],aj us (U.map fun u=>kM (some u.q)) bA,[.obj X.fb (.map X.bG X.fc)],[.obj X.gb (.map X.bL X.gc)],WK U Vs,T,[.obj b (.map es c)],X.S]) ZI (ao.perm Zs)⟩
  rw[show decide ((x.kind:Int)=5)=false from Zf Zo];refine jF ?_;have h4:x.kind=4:=by omega
  have Ct:0 < x.kids.length:=by rcases hk4 with k|k;exact absurd h4 k;exact k
  cases xZ:jS x.kids with
  |false=>
   have hP:=eI X.F X.G x.kind x.name x.lit x.args x.ab x.kids x.at_ st env i aL Zo xZ;rw[<- Nd.eta x]at hP;refine VC.seq (VC.draws ⟨?_,?_,trivial⟩)
   all_goals
    refine ae ?_;exact⟨_,simple 4 x.name x.kids a3 c3 bk ko ks (by rw[hP,if_neg Zo]) mT ha hm hr A5 ir (fun e=>absurd e Zo),ZU,ao.cut (M:=[kA fR 0 [.int .u8 4,.string x.name,.int .u8 0,.int .i64 0,.int .u64 0,.string e0,Nz,Nz,.int .i64 0,.bool false,Nz,Nz,Nz],kA q5 0 (rN x.kind x.name e1 e2 e3 e4 e5 e6 e7 a1 x.args.length c1 a2 x.ab.length c2 a3 x.kids.length c3 x.at_),kA q8 0 [.int .u8 0,.string e0,.int .u8 0,.int .i64 0,.int .u64 0,.string e0,Nz,Nz,.int .i64 0,.bool false,Nz,Nz,Nz],kA X.wq 0 [.map (some X.fb),.map (some X.gb),us],aj us (U.map fun u=>kM (some u.q)) bA,[.obj X.fb (.map X.bG X.fc)],[.obj X.gb (.map X.bL X.gc)],WK U Vs,T,[.obj b (.map es c)],X.S]) ZI (ao.perm Zs)⟩
  |true=>
   have hP:=yJ X.F X.G x.kind x.name x.lit x.args x.ab x.kids x.at_ st env i aL Zo xZ;rw[<- Nd.eta x]at hP;obtain rfl:=ha Ct;have sE:x.kids.tail.length=x.kids.length - 1:=List.length_tail;have hgt:∀j,x.kids.tail[j]? =x.kids[j+1]?:=fun j=>by rw[List.getElem?_tail]
   have hsz2:Nd.aq x.kids.tail<=N/\jM x.kids.tail<=jM x.kids/\qR x.kids.tail=true:=by
    cases hkk2:x.kids with
    |nil=>rw[hkk2]at Ct;simp at Ct
    |cons y l=>
     rw[hkk2]at A5 ir;simp only[Nd.aq]at A5;simp only[qR,vF]at ir;simp only[List.tail_cons,jM];exact⟨Zo,Zo,ir.2⟩
   obtain⟨o',xV⟩:∃o',o'=(if c3=1 then ko else ko+1*11):=⟨_,rfl⟩;refine VC.seq (VC.draws ⟨?_,?_,trivial⟩)
   all_goals
    refine ae ?_;refine nA (l:=1) Zr Zr rfl ⟨Zo,ss⟩ ?_;rw[<- xV,show x.kids.length - 1=x.kids.tail.length from sE.symm];refine ae ?_;exact⟨_,simple 5 x.name x.kids.tail (some ⟨bk,o',none⟩) (c3 - 1) bk (ko+11) (fun j=>ks (j+1)) (by rw[hP,if_neg Zo]) (mT.mono hsz2.2.1) (fun h0=>by rw[xV,if_neg Zo]) (fun j hj y hy=>hm (j+1) Zo y (by rw[show ko+(j+1)*11=ko+11+j*11 by omega];exact hy)) (fun j y hy=>hr (j+1) y (by rw[<- hgt];exact hy)) hsz2.1 hsz2.2.2 (fun e=>absurd e Zo),ZU,ao.cut (M:=[kA fR 0 [.int .u8 5,.string x.name,.int .u8 0,.int .i64 0,.int .u64 0,.string e0,Nz,Nz,.int .i64 0,.bool false,Nz,Nz,Nz],kA q5 0 (rN x.kind x.name e1 e2 e3 e4 e5 e6 e7 a1 x.args.length c1 a2 x.ab.length c2 (some ⟨bk,ko,none⟩) x.kids.length c3 x.at_),kA q8 0 [.int .u8 0,.string e0,.int .u8 0,.int .i64 0,.int .u64 0,.string e0,Nz,Nz,.int .i64 0,.bool false,Nz,Nz,Nz],kA X.wq 0 [.map (some X.fb),.map (some X.gb),us],aj us (U.map fun u=>kM (some u.q)) bA,[.obj X.fb (.map X.bG X.fc)],[.obj X.gb (.map X.bL X.gc)],WK U Vs,T,[.obj b (.map es c)],X.S]) ZI (ao.perm Zs)⟩
 rintro⟨k,nm,lit,l1,l2,l3,l4,l5,refs,rv,vv,l,a,ac,Yy,o',ks',bN,Bx,ox,U1,V1,T1,B⟩ hp
 obtain⟨g1,g2,g3,g4,g5,g6,g7,g8,g9,g10,g11,g12,g13,g14,g15,g16,g17⟩:=hp;simp only at g1 g2 g3 g4 g5 g6 g7 g8 g9 g10 g11 g12 g13 g14 g15 g16 g17;dsimp only;obtain⟨w,hw,pK⟩:=s5 hu g9;have Wl:∀v∈env,bN.af v∈bN.line i:=fun v hv=>by
  obtain⟨k1,k2⟩:=sW g8 hS.rep.wf g7.rep.wf cF (hs.lt v hv);rw[k1,k2];exact EX v hv
 have KC:=Ej l;have au:=xi X l a ac Yy o' ks' Zo g12 g13 g14 (fun j y hy=>ih y (by have:=Nd.aD (Zv hy);omega) (nh g16 (Zv hy)) _ (g14 j y hy)) bN Bx ox U1 V1 T1 g7 i w hw env b es c (hs.more g8.vars g10 hS.rep.vl) Wl g11;rw[pK]at au;have hlA:=N8 X.F X.G l bN env i;obtain⟨A,hA⟩:∃A,A=kT X.F X.G l bN env i:=⟨_,rfl⟩;rw[<- hA]at au g1 hlA;obtain⟨ra,rc,Ic⟩:∃ra rc,rv=.slice ra (zE refs).length rc:=let⟨x1,x2,x3,_⟩:=g3;⟨x1,x2,x3⟩;obtain⟨va,vc,NL⟩:∃va vc,vv=.slice va ((eu refs).map fun r=>(V1.map az.q).getD r.index.toNat 0).length vc:=let⟨x1,x2,x3,_⟩:=g4;⟨x1,x2,x3⟩;obtain⟨y1,y2,y3,y4,y5,y6,y7,I1⟩:∃(y1:Nat) (y2:Int) (y3:Nat) (y4:ByteArray) (y5:Option Addr) (y6 y7:Nat),[l1,l2,l3,l4,l5]=[.int .u8 y1,.int .i64 y2,.int .u64 y3,.string y4,.slice y5 y6 y7]:=by
  generalize hx:[l1,l2,l3,l4,l5]=lv at g2;cases g2 with
  |mk Tt IS p8 du=>exact⟨_,_,_,_,_,_,_,rfl⟩
 simp only[vq,and_true]at I1;obtain⟨rfl,rfl,rfl,rfl,rfl⟩:=I1;have Pc:∀(lJ:Value) (de:List Value) (U4:List UC) (V4:List az) (T4:List kC) (sv:Value) (rows:List (List Value)) (sp:List Value) (B':List kC) (ps:List PN),V1.map az.q <+:V4.map az.q->jA 13 sv ps.length rows.flatten sp->zh B' (V4.map az.q) ps rows->
  xd (aj sv rows.flatten sp++(B'++B)) (V4.map az.q) (.mk k nm lit refs 0 false ps) ([cv k,.string nm]++[.int .u8 y1,.int .i64 y2,.int .u64 y3,.string y4,.slice y5 y6 y7]++[rv,.int .i64 0,.bool false,Nz,vv,sv]):=fun lJ de U4 V4 T4 sv rows sp B' ps DN bD dJ=>by
  refine yo bD (dJ.more (fun x hx=>Zw _ hx) (Qc _)) (g2.more fun x hx=>QG _ hx) (g3.more fun x hx=>QG _ hx) ?_ (g5.more DN) g6;rw[C0 g5 DN];exact g4.more fun x hx=>QG _ hx
 subst Ic;subst NL;generalize L7:(zE refs).length=n1 at*;generalize AY:((eu refs).map fun r=>(V1.map az.q).getD r.index.toNat 0).length=n2 at*;refine ae ?_;refine kL au Zr ZP (fun v Post hv=>?_) (fun ch Post hz=>?_);rotate_left
 ·obtain⟨q1,Nv,p1,ep,rfl,rfl⟩:=hz;exact⟨[X.S,jP q1 Nv p1],ZI,q1,Nv,p1,by rw[g1];exact ep,rfl,rfl⟩
 obtain⟨lJ,de,U4,V4,T4,B4,⟨U0,Mc,DM,rows,Ap,B5,A4,cP,rfl⟩,rfl⟩:=hv;simp only[aJ];obtain⟨sa,sc,rfl⟩:=A4.form;refine jF ?_;refine VC.join (α:=List (List Value)×List PN) (bi:=fun _=>[(8,kF q8),(12,kF fR)]) (Hf:=fun p=>[kA fR 0 [.int .u8 k,.string nm,.int .u8 y1,.int .i64 y2,.int .u64 y3,.string y4,.slice y5 y6 y7,.slice ra n1 rc,.int .i64 0,.bool false,Nz,.slice va n2 vc,.slice sa A.1.length sc],kA q8 0 [.int .u8 0,.string e0,.int .u8 0,.int .i64 0,.int .u64 0,.string e0,Nz,Nz,.int .i64 0,.bool false,Nz,Nz,Nz],kA X.wq 0 [.map (some X.fb),.map (some X.gb),lJ],aj lJ (U4.map fun u=>kM (some u.q)) de,[.obj X.fb (.map X.bG X.fc)],[.obj X.gb (.map X.bL X.gc)],WK U4 V4,T4,[.obj b (.map es c)],X.S,aj (.slice sa A.1.length sc) p.1.flatten Ap,B5,B]) (I:=fun p=>p.2=(if x.kind=5 then zD (jS x.kids) A.1 else A.1)/\jA 13 (.slice sa A.1.length sc) p.2.length p.1.flatten Ap/\zh B5 (V4.map az.q) p.2 p.1) ?_ ?_
 ·refine jF ?_;by_cases h5:x.kind=5;rotate_left
  ·rw[show decide ((x.kind:Int)=5)=false from Zf Zo];refine ae ?_;exact⟨(rows,A.1),⟨by rw[if_neg h5],A4,cP⟩,ZU,ao.cut (M:=[kA fR 0 [.int .u8 k,.string nm,.int .u8 y1,.int .i64 y2,.int .u64 y3,.string y4,.slice y5 y6 y7,.slice ra n1 rc,.int .i64 0,.bool false,Nz,.slice va n2 vc,.slice sa A.1.length sc],kA q8 0 [.int .u8 0,.string e0,.int .u8 0,.int .i64 0,.int .u64 0,.string e0,Nz,Nz,.int .i64 0,.bool false,Nz,Nz,Nz],kA X.wq 0 [.map (some X.fb),.map (some X.gb),lJ],aj lJ (U4.map fun u=>kM (some u.q)) de,[.obj X.fb (.map X.bG X.fc)],[.obj X.gb (.map X.bL X.gc)],WK U4 V4,T4,[.obj b (.map es c)],X.S,aj (.slice sa A.1.length sc) rows.flatten Ap++B5,B]) ZI (ao.perm Zs)⟩
  rw[show decide ((x.kind:Int)=5)=true from Zt Zo];have EW:=g17 h5;obtain⟨sb,so,sc2,gT,hscl,hsla⟩:=Cx A4 Zo;simp only[Value.slice.injEq,true_and]at gT;obtain⟨rfl,rfl⟩:=gT;have hrl:rows.length=A.1.length:=cP.len;obtain⟨so',hso'⟩:∃so',so'=(if sc=1 then so else so+1*13):=⟨_,rfl⟩;refine ae ?_;refine nA (l:=1) Zr Zr rfl ⟨Zo,hscl⟩ ?_;rw[<- hso'];refine ae ?_;refine VC.loop (α:=Nat) (bi:=fun j=>[(8,kF q8),(12,kF fR),(14,.bool (jS x.kids)),(144,vi ((A.1.length - 1:Nat):Int)),(145,vi j)]) (Hf:=fun j=>[kA fR 0 [.int .u8 k,.string nm,.int .u8 y1,.int .i64 y2,.int .u64 y3,.string y4,.slice y5 y6 y7,.slice ra n1 rc,.int .i64 0,.bool false,Nz,.slice va n2 vc,.slice (some ⟨sb,so,none⟩) A.1.length sc],kA q8 0 [.int .u8 0,.string e0,.int .u8 0,.int .i64 0,.int .u64 0,.string e0,Nz,Nz,.int .i64 0,.bool false,Nz,Nz,Nz],kA X.wq 0 [.map (some X.fb),.map (some X.gb),lJ],aj lJ (U4.map fun u=>kM (some u.q)) de,[.obj X.fb (.map X.bG X.fc)],[.obj X.gb (.map X.bL X.gc)],WK U4 V4,T4,[.obj b (.map es c)],X.S,kA sb so ((wu (jS x.kids) rows j).flatten++Ap),B5,B]) (I:=fun j=>j<=A.1.length - 1) (μ:=fun j=>A.1.length - 1 - j) 0 (Qv _) ZU (by rw[M0,<- hsla];exact ao.cut (M:=[kA fR 0 [.int .u8 k,.string nm,.int .u8 y1,.int .i64 y2,.int .u64 y3,.string y4,.slice y5 y6 y7,.slice ra n1 rc,.int .i64 0,.bool false,Nz,.slice va n2 vc,.slice (some ⟨sb,so,none⟩) A.1.length sc],kA q8 0 [.int .u8 0,.string e0,.int .u8 0,.int .i64 0,.int .u64 0,.string e0,Nz,Nz,.int .i64 0,.bool false,Nz,Nz,Nz],kA X.wq 0 [.map (some X.fb),.map (some X.gb),lJ],aj lJ (U4.map fun u=>kM (some u.q)) de,[.obj X.fb (.map X.bG X.fc)],[.obj X.gb (.map X.bL X.gc)],WK U4 V4,T4,[.obj b (.map es c)],X.S,aj (.slice (some ⟨sb,so,none⟩) A.1.length sc) rows.flatten Ap++B5,B]) ZI (ao.perm Zs)) ?_;intro j hj;refine ae ?_;by_cases aS:j < A.1.length - 1;rotate_left
  ·rw[show decide ((j:Int) < ((A.1.length - 1:Nat):Int))=false from Zf Zo];have hje:j=A.1.length - 1:=by omega
   subst hje;refine ae ?_;refine⟨(wu (jS x.kids) rows (A.1.length - 1),zD (jS x.kids) A.1),⟨by rw[if_pos h5],?_,Ek cP _⟩,ZU,by rw[hsla];exact bS⟩;rw[JW];exact A4.other (by rw[pZ (iF cP.w),pZ cP.w,wT])
  rw[show decide ((j:Int) < ((A.1.length - 1:Nat):Int))=true from Zt Zo];obtain⟨r,Gq⟩:∃r,rows[j+1]? =some r:=⟨_,Zg Zo⟩;have hrw:=cP.w r (Zv Gq);have hsj:(wu (jS x.kids) rows j)[j+1]? =some r:=by rw[zP Gq,if_neg Zo]
  have DQ:((wu (jS x.kids) rows j).flatten++Ap).set ((j+1)*13+9) (.bool (jS x.kids))=(wu (jS x.kids) rows (j+1)).flatten++Ap:=by
   have gS:=pZ (iF (b:=jS x.kids) (j:=j) cP.w);rw[wT]at gS;rw[List.set_append_left _ _ (by rw[gS];omega),OV (iF cP.w) hsj Zd,Ew Gq]
  refine ae ?_;refine eV (us:=[.bool (jS x.kids)]) Zr Zr Zr Zr Zr (.there (.there (.there (.there (.there (.there (.there (.there (.there (.there (Lh.set1 (i:=(j+1)*13+9) Zo ?_))))))))))) ?_
  ·have gS:=pZ (iF (b:=jS x.kids) (j:=j) cP.w);rw[wT]at gS;rw[Vy,gS];omega
  rw[DQ];refine ae ?_;exact⟨j+1,Zo,Zo,ZU,ZI⟩
 rintro⟨ZE,ps⟩ ⟨NJ,hsl5,Pm⟩
 simp only at NJ hsl5 Pm;dsimp only;rw[<- NJ]at g1;have E1:=Pc lJ de U4 V4 T4 _ _ _ _ ps DM hsl5 Pm;refine ae ?_;refine jL ⟨.inr rfl,_,[kA X.wq 0 [.map (some X.fb),.map (some X.gb),lJ],aj lJ (U4.map fun u=>kM (some u.q)) de,[.obj X.fb (.map X.bG X.fc)],[.obj X.gb (.map X.bL X.gc)],WK U4 V4,T4,[.obj b (.map es c)],X.S,aj (.slice sa A.1.length sc) ZE.flatten Ap++(B5++B)],.aN (us:=[.int .u8 k,.string nm,.int .u8 y1,.int .i64 y2,.int .u64 y3,.string y4,.slice y5 y6 y7,.slice ra n1 rc,.int .i64 0,.bool false,Nz,.slice va n2 vc,.slice sa A.1.length sc]) Zr Zr (fun y hy=>by simp only[Vd,QF];repeat (first|exact Or.inl hy|refine Or.inr ?_)) .nil,ao.cut (M:=[kA X.wq 0 [.map (some X.fb),.map (some X.gb),lJ],aj lJ (U4.map fun u=>kM (some u.q)) de,[.obj X.fb (.map X.bG X.fc)],[.obj X.gb (.map X.bL X.gc)],WK U4 V4,T4,[.obj b (.map es c)],X.S,aj (.slice sa A.1.length sc) ZE.flatten Ap,B5,B]) ZI (ao.perm Zs),⟨lJ,de,U4,V4,T4,_,⟨by rw[g1];exact U0,g9.trans Mc,g10.trans DM,_,rfl,by rw[g1];exact E1⟩,rfl⟩⟩
theorem XC(X:Fix)(hX:NZ X):∀N,N < 1073741824->∀x,x.size<=N->Se x=true->∀vs,jJ X.S x vs->oL X x vs:=by
 intro N
 induction N with
 |zero=>intro _ x hx;have:=x.size_pos;omega
 |succ N ih=>exact fun hN x hx aP vs h=>MM X hX N Zo (ih Zo) x hx aP vs h
end Go.Proofs.YtijnokbblmbpkaaGreatDoor
namespace Go.V
open Go
structure B6 (F:List ByteArray)(j:Nat)(es:Array MapEntry)(c:Nat):Prop where
 is:∃m:List (ByteArray×Nat),zu yK (fun n:Nat=>.int .i64 n) es c m/\∀nm,kz nm m=(F.take j).findIdx? (fun s=>decide (s=nm))
structure B8 (G:List ByteArray)(j:Nat)(es:Array MapEntry)(c:Nat):Prop where
 is:∃m:List (ByteArray×Nat),zu yK (fun n:Nat=>.int .i64 n) es c m/\(∀nm,decide ((kz nm m).getD 0=0)=!(G.take j).any (fun s=>decide (s=nm)))/\∀nm,(kz nm m).getD 0<=j
theorem B6.nil(F:List ByteArray):B6 F 0 #[] 0:=⟨[],.nil,fun _=>by rw[Qh];rfl⟩
theorem B8.nil(G:List ByteArray):B8 G 0 #[] 0:=⟨[],.nil,fun _=>by rw[Qh];rfl,fun _=>Qv _⟩
theorem B6.all {F:List ByteArray}{j:Nat}{es:Array MapEntry}{c:Nat}(h:B6 F j es c)(hj:F.length<=j):pM F es c:=by
 obtain⟨m,h1,h2⟩:=h.is;rw[Qg hj]at h2;exact⟨m,h1,h2⟩
theorem B8.all {G:List ByteArray}{j:Nat}{es:Array MapEntry}{c:Nat}(h:B8 G j es c)(hj:G.length<=j):uD G es c:=by
 obtain⟨m,h1,h2,_⟩:=h.is;rw[Qg hj]at h2;exact⟨m,h1,h2⟩
theorem Ga {F:List ByteArray}{j:Nat}{s:ByteArray}(hs:F[j]? =some s)(nm:ByteArray):(F.take (j+1)).findIdx? (fun t=>decide (t=nm))=((F.take j).findIdx? (fun t=>decide (t=nm))).or (if s=nm then some j else none):=by
 have hl:=(Vt.1 hs).1;have e:F.take (j+1)=F.take j++[s]:=by rw[Qe,hs];rfl
 rw[e,List.findIdx?_append,Q9,Nat.min_eq_left Zo]
 congr 1
 rw[V9,List.findIdx?_nil];by_cases c:s=nm
 ·rw[Zt c,if_pos c];simp
 ·rw[Zf c,if_neg c];simp
theorem Ge {G:List ByteArray}{j:Nat}{s:ByteArray}(hs:G[j]? =some s)(nm:ByteArray):(G.take (j+1)).any (fun t=>decide (t=nm))=((G.take j).any (fun t=>decide (t=nm))||decide (s=nm)):=by
 have e:G.take (j+1)=G.take j++[s]:=by rw[Qe,hs];rfl
 rw[e,List.any_append,vf,List.any_nil,vT]
theorem C8(F G args ab:List ByteArray)(kids:List Nd)(hk:∀y∈kids,kN y≠none):jl F G (dU F G args ab kids) [] (jz ([]++args++ab) [] kids):=by
 unfold dU;rw[wC];have Ks:=cY (F:=F) (G:=G) 0 true true 0 args 0 (mg.aF (-1) args.length) [] [] rfl;have hE:jr (mg.aF (-1) args.length) [] []:=⟨(fun v h=>by cases h),fun nm=>by rw[cM];simp⟩;have IP:=jr.decl 0 true true 0 args 0 _ [] [] hE;have IQ:jr (aW args ab 0 mg [] (-1)).1 (aW args ab 0 mg [] (-1)).2 ([]++args++ab):=jr.decl 0 false true 0 ab 0 _ _ _ IP;have Kt:jl F G (aW args ab 0 mg [] (-1)).1 [] []:=Ks.comp (fun hf=>cY 0 false true 0 ab 0 _ _ [] hf) (zf _ _ _ _ _ _ _ _) (fun _ k=>k);have au:∀(l:List Nd),(∀y∈l,kN y≠none)->∀st env u seen out,st.f=none->jr st env seen->jl F G (kT F G l st env u).2 out (jz seen out l):=by
  intro l
  induction l with
  |nil=>intro _ st env u seen out h hs;rw[kT,jz];exact jl.refl h
  |cons x r oj=>
   intro hd st env u seen out h hs;rw[je,jz];have g:=(wd F G _ x (Qn _) st env u).1;exact(MI F G _ x (Qn _) (hd x Zs) st env u seen out h hs).1.comp (fun hf=>oj (fun y hy=>hd y B9) _ env u seen _ hf (hs.gr g.vars)) (wV F G r _ env u) (wX seen r _)
 exact(Kt.comp (fun hf=>au kids hk (aW args ab 0 mg [] (-1)).1 (aW args ab 0 mg [] (-1)).2 0 _ [] hf IQ) (wV F G kids _ _ _) (wX _ kids _)).of rfl
theorem Fl {st:ah}{e:Nat}{p:Int}(h:st.f=some (e,p)):st.answer=([],e,p):=by
 unfold ah.answer;rw[h]
end Go.V
namespace Go.Proofs.YtijnokbblmbpkaaGreatDoor
open Go Go.V
set_option maxHeartbeats 12800000
set_option maxRecDepth 100000
theorem MT(a b:Nat)(A:List kC)(B:List kC):ic Tryz.prog 48 [kF a,kF b] .returning .returning [A,B] (fun Post=>Post=[A,B]):=by
 refine ic.intro Zx (by simp[n48]) .none ?_;refine ae ?_;refine oN.seq (oN.lU ?_);refine ae ?_;refine oN.cond (t:=false) Zr (fun h=>by cases h) (fun _=>oN.skip ?_);exact kG (Post:=[A,B]) (.inl rfl) .nil rfl ZI
theorem C7(q6 q7 q e:Nat)(p:Int)(v1:Value)(v2:Value)(v3:Value)(v4:Value):ic Tryz.prog 48 [kF q6,kF q7] (.panicking (oW q)) (.panicking [{v:=F5 q,recovered:=true}]) [kA q6 0 [v1,v2,v3],kA q7 0 [v4],jP q e p] (fun Post=>Post=[kA q6 0 [.string e0,.int .i64 0,Nz],kA q7 0 [F5 q],jP q e p]):=by
 refine ic.intro Zx (by simp[n48]) .some ?_;unfold F5;refine ae ?_;refine oN.seq (oN.lU ?_);refine ae ?_;refine oN.cond (t:=true) Zr (fun _=>oN.lU ?_) (fun h=>by cases h);refine ae ?_;exact kG (Post:=[kA q6 0 [.string e0,.int .i64 0,Nz],kA q7 0 [.iface 80 (kF q)],jP q e p]) (.inl rfl) .nil rfl (by unfold e0;exact bS)
def gK(F G:List ByteArray)(x:Md):List wY×Nat×Int:=if wO x=0 then(dU F G x.args x.ab x.body).answer else([],wO x,0)
def Z5(S:List kC)(F G:List ByteArray)(x:Md)(v:Value)(Post:SH):Prop:=
 (∃l uY B,gK F G x=(l,0,0)/\v=.tuple #[.agg #[.string x.aE,vi x.ax,uY],.nilIface]/\pN B uY l/\Post=[S,B])∨
 (∃e p q,gK F G x=([],e,p)/\e≠0/\v=.tuple #[.agg #[.string e0,.int .i64 0,Nz],.iface 80 (kF q)]/\Post=[S,jP q e p])
theorem nZ {x:Md}(h:wO x=0):∀y∈x.body,kN y≠none:=by
 have hm:dz x≠none:=by
  intro e;unfold wO at h;rw[e]at h;cases h
 unfold dz at hm;have h1:=(qK (qK (wa hm).2).2).2;rw[<- jq]at h1;exact HC (yl h1)
theorem MF {x:Md}(h:wO x=0)(hw:Nd.ws x.body<=274877906944):qR x.body=true:=KT fun y hy=>R7 y (nZ h y hy) (by have:=Nd.cy hy;omega)
theorem ez(S:List kC)(x:Md)(vs:List Value)(h:Fe S x vs)(F G:List ByteArray)(fv gv:Value)(hF:dG S fv F)(hG:dG S gv G)(hFl:F.length<=1048576)(hGl:G.length<=1048576)(Wb:iU x.args x.ab x.body<=1048576)(eC:Nd.aq x.body<=1048576)(hw:Nd.ws x.body<=274877906944):
 aw Tryz.prog 15 [.agg vs.toArray,fv,gv] [S] (fun v Post=>Z5 S F G x v Post):=by
 have Wa:=Ij S x vs h;obtain⟨⟨aa,ac,ta,tc,a,c,bk,o,us,rfl,bJ,bF,bh⟩,bY,qg⟩:=h;obtain⟨fa,fc,rfl,gS,uG⟩:=hF;obtain⟨ga,gc,rfl,hgl,DI⟩:=hG;refine aw.KK low15 (by simp[n15]) ?_;simp only[F15,Cz,VDP];refine ae ?_;refine kX Zr (fun q3=>?_);simp only[Value.cells];refine kO (fun q6=>?_);refine kO (fun q7=>?_);refine ae ?_;refine kH Wa Zr ZP (fun v Post hv=>?_);obtain⟨rfl,rfl⟩:=hv;simp only[aJ];refine ae ?_;have hc255:wO x < 256:=by
  unfold wO OM
  repeat' split
  all_goals omega
 by_cases hc:wO x=0;rotate_left
 ·rw[show decide ((wO x:Int)=0)=false from Zf Zo];refine ae ?_;refine kX Zr (fun q=>?_);simp only[Value.cells];refine ae ?_;refine⟨.inr rfl,[.agg #[.string e0,.int .i64 0,Nz],.iface 80 (kF q)],[S,jP q (wO x) 0],.aN (us:=[.string e0,.int .i64 0,Nz]) Zr Zr (fun y hy=>by simp only[Vd,QF];repeat (first|exact Or.inl hy|refine Or.inr ?_)) (.bV Zr Ka .nil),by unfold jP R6;exact bS,.inr ⟨wO x,0,q,by unfold gK;rw[if_neg hc],hc,rfl,rfl⟩⟩
 rw[show decide ((wO x:Int)=0)=true from Zt Zo];have xO:gK F G x=(dU F G x.args x.ab x.body).answer:=by unfold gK;rw[if_pos hc]
 have hkD:=nZ hc;have ir:=MF hc hw;refine ae ?_;refine⟨[kF q6,kF q7],Zr,?_⟩;refine ae ?_;refine iG (fun fb=>?_);refine ae ?_;refine iG (fun gb=>?_);refine ae ?_;refine kX Zr (fun wq=>?_);simp only[Value.cells];refine jF ?_;refine VC.join (α:=Array MapEntry×Nat) (bi:=fun _=>[(2,.slice ga G.length gc),(3,kF q3),(6,kF q6),(7,kF q7),(9,kF wq)]) (Hf:=fun s=>[kA wq 0 [.map (some fb),.map (some gb),Nz],[.obj fb (.map s.1 s.2)],[.obj gb (.map #[] 0)],S,kA q7 0 [.nilIface],kA q6 0 [.string e0,.int .i64 0,Nz],kA q3 0 [.string x.aE,.slice aa x.args.length ac,.slice ta x.ab.length tc,vi x.ax,.slice a x.body.length c]]) (I:=fun s=>pM F s.1 s.2) ?_ ?_
 ·refine ae ?_;refine VC.loop (α:=Nat×Array MapEntry×Nat) (bi:=fun s=>[(2,.slice ga G.length gc),(3,kF q3),(6,kF q6),(7,kF q7),(9,kF wq),(31,.slice fa F.length fc),(32,vi F.length),(33,vi s.1)]) (Hf:=fun s=>[kA wq 0 [.map (some fb),.map (some gb),Nz],[.obj fb (.map s.2.1 s.2.2)],[.obj gb (.map #[] 0)],S,kA q7 0 [.nilIface],kA q6 0 [.string e0,.int .i64 0,Nz],kA q3 0 [.string x.aE,.slice aa x.args.length ac,.slice ta x.ab.length tc,vi x.ax,.slice a x.body.length c]]) (I:=fun s=>s.1<=F.length/\B6 F s.1 s.2.1 s.2.2) (μ:=fun s=>F.length - s.1) (0,#[],0) ⟨Qv _,B6.nil F⟩ ZU (by unfold e0;exact bS) ?_
  rintro⟨j,es,c0⟩ ⟨hj,Ue⟩
  simp only at hj Ue;dsimp only;refine ae ?_;by_cases aS:j < F.length;rotate_left
  ·rw[show decide ((j:Int) < (F.length:Int))=false from Zf Zo];refine ae ?_;exact⟨(es,c0),Ue.all Zo,ZU,ZI⟩
  rw[show decide ((j:Int) < (F.length:Int))=true from Zt Zo];obtain⟨s,hs⟩:∃s,F[j]? =some s:=⟨_,Zg aS⟩;obtain⟨b1,o1,rfl,gh,hss⟩:=uG j s hs;obtain⟨m,AJ,p8⟩:=Ue.is;refine ae ?_;refine zB (E:=yK) (V:=fun n:Nat=>.int .i64 n) (k:=s) Zr Zr rfl (.there .here) AJ ?_;cases hg:kz s m with
  |some i0=>
   refine ae ?_;refine⟨(j+1,es,c0),⟨by simp only;omega,⟨m,AJ,fun nm=>?_⟩⟩,by simp only;omega,ZU,ZI⟩;show kz nm m=(F.take (j+1)).findIdx? _;rw[Ga hs,<- p8];by_cases e:s=nm
   ·subst e;rw[hg];rfl
   ·rw[if_neg e];simp
  |none=>
   refine ae ?_;refine zA (E:=yK) (V:=fun n:Nat=>.int .i64 n) (k:=s) (v:=j) Zr Zr Zr rfl ZK AJ (fun cB c' l6=>?_);refine ae ?_;refine⟨(j+1,cB,c'),⟨by simp only;omega,⟨jk s j m,l6,fun nm=>?_⟩⟩,by simp only;omega,ZU,ZI⟩;show kz nm (jk s j m)=(F.take (j+1)).findIdx? _;rw[Ga hs,<- p8,wK];by_cases e:s=nm
   ·subst e;rw[if_pos rfl,if_pos rfl,hg];rfl
   ·rw[if_neg e,if_neg e];simp
 rintro⟨bG,fcl⟩ Ky
 simp only at Ky;dsimp only;refine VC.join (α:=Array MapEntry×Nat) (bi:=fun _=>[(3,kF q3),(6,kF q6),(7,kF q7),(9,kF wq)]) (Hf:=fun s=>[kA wq 0 [.map (some fb),.map (some gb),Nz],[.obj fb (.map bG fcl)],[.obj gb (.map s.1 s.2)],S,kA q7 0 [.nilIface],kA q6 0 [.string e0,.int .i64 0,Nz],kA q3 0 [.string x.aE,.slice aa x.args.length ac,.slice ta x.ab.length tc,vi x.ax,.slice a x.body.length c]]) (I:=fun s=>uD G s.1 s.2) ?_ ?_
 ·refine ae ?_;refine VC.loop (α:=Nat×Array MapEntry×Nat) (bi:=fun s=>[(3,kF q3),(6,kF q6),(7,kF q7),(9,kF wq),(56,.slice ga G.length gc),(57,vi G.length),(58,vi s.1)]) (Hf:=fun s=>[kA wq 0 [.map (some fb),.map (some gb),Nz],[.obj fb (.map bG fcl)],[.obj gb (.map s.2.1 s.2.2)],S,kA q7 0 [.nilIface],kA q6 0 [.string e0,.int .i64 0,Nz],kA q3 0 [.string x.aE,.slice aa x.args.length ac,.slice ta x.ab.length tc,vi x.ax,.slice a x.body.length c]]) (I:=fun s=>s.1<=G.length/\B8 G s.1 s.2.1 s.2.2) (μ:=fun s=>G.length - s.1) (0,#[],0) ⟨Qv _,B8.nil G⟩ ZU ZI ?_
  rintro⟨j,es,c0⟩ ⟨hj,hgd⟩
  simp only at hj hgd;dsimp only;refine ae ?_;by_cases aS:j < G.length;rotate_left
  ·rw[show decide ((j:Int) < (G.length:Int))=false from Zf Zo];refine ae ?_;exact⟨(es,c0),hgd.all Zo,ZU,ZI⟩
  rw[show decide ((j:Int) < (G.length:Int))=true from Zt Zo];obtain⟨s,hs⟩:∃s,G[j]? =some s:=⟨_,Zg aS⟩;obtain⟨b1,o1,rfl,gh,hss⟩:=DI j s hs;obtain⟨m,AJ,p8,hm3⟩:=hgd.is;have YZ:=hm3 s;refine ae ?_;refine zB (E:=yK) (V:=fun n:Nat=>.int .i64 n) (k:=s) Zr Zr rfl (.there (.there .here)) AJ ?_;have I1:ng false (.int .i64 0) ((kz s m).map fun n:Nat=>.int .i64 n)=.int .i64 ((kz s m).getD 0:Nat):=by cases kz s m <;> rfl
  rw[I1];generalize hgn:(kz s m).getD 0=gn at YZ;refine ae ?_;refine zA (E:=yK) (V:=fun n:Nat=>.int .i64 n) (k:=s) (v:=gn+1) Zr Zr Zr rfl ZK AJ (fun cB c' l6=>?_);refine ae ?_;refine⟨(j+1,cB,c'),⟨by simp only;omega,⟨jk s (gn+1) m,l6,fun nm=>?_,fun nm=>?_⟩⟩,by simp only;omega,ZU,ZI⟩
  ·show decide ((kz nm (jk s (gn+1) m)).getD 0=0)=!(G.take (j+1)).any _;rw[Ge hs,wK];by_cases e:s=nm
   ·subst e;simp
   ·rw[if_neg e,Zf e,vT];exact p8 nm
  ·show(kz nm (jk s (gn+1) m)).getD 0<=j+1;rw[wK];by_cases e:s=nm
   ·rw[if_pos e];show gn+1<=j+1;omega
   ·rw[if_neg e];have:=hm3 nm;omega
 rintro⟨bL,gcl⟩ O8
 simp only at O8;dsimp only;obtain⟨X,hX⟩:∃X:Fix,X=⟨F,G,wq,fb,gb,bG,bL,fcl,gcl,S⟩:=⟨_,rfl⟩;have hXok:NZ X:=by rw[hX];exact⟨Ky,O8⟩
 have hnl:=Ej x.body;refine ae ?_;refine iG (fun mb=>?_);have hS0:ii mg Nz [] [] [] []:=⟨⟨ph0.wf,rfl,rfl,.nil,(fun i u h=>by simp at h),(fun i u h=>by simp at h),(fun i u h=>by simp at h),(fun i u h=>by simp at h),(fun v x y h=>by simp[mg]at h)⟩,rfl,.nil,fun i u h=>by simp at h⟩;have H7:=xp X (.int .u8 0) (.int .u8 0) (.int .i64 0) (.int .u64 0) (.string e0) Nz (.string e0) x.args x.ab (.slice aa x.args.length ac) (.slice ta x.ab.length tc) (by rw[hX];exact bJ) (by rw[hX];exact bF) x.body a c bk o us Zo bh.at_ (by rw[hX];exact bh.mem) (by rw[hX];exact bh.rd)
  (fun i' x' oE=>XC X hXok 1048576 Zo x' (by have:=Nd.aD (Zv oE);omega) (nh ir (Zv oE)) _ (by rw[hX];exact bh.rd i' x' oE)) 0 mg Nz [] [] [] [] hS0 (-1) ⟨Zo,Zd⟩ [] mb #[] 0 ⟨.nil,(fun v h=>by cases h),.nil⟩ (fun v h=>by cases h) ⟨by show 0+_ < _;unfold iU at Wb;omega,by show 0+_ < _;unfold iU at Wb;omega,by show 0+_ < _;unfold iU at Wb;omega⟩
 rw[hX]at H7;simp only at H7;have Pk:oH F G x.args x.ab x.body 0 mg [] (-1)=dU F G x.args x.ab x.body:=rfl;rw[Pk]at H7;have O3:ji Tryz.prog 49 [kF wq,.agg #[.int .u8 0,.string e0,.int .u8 0,.int .i64 0,.int .u64 0,.string e0,Nz,.slice aa x.args.length ac,.slice ta x.ab.length tc,.slice a x.body.length c,.int .i64 0],.pointer none,.map (some mb)] [kA wq 0 [.map (some fb),.map (some gb),Nz],[.obj fb (.map bG fcl)],[.obj gb (.map bL gcl)],[.obj mb (.map #[] 0)],S] _ _:=(H7.conv (R:=[]) (by simp[V.eo,aj,WK]) (fun v Post h=>⟨Post,h,by rw[vm];exact ao.refl _⟩) (fun ch Post h=>⟨Post,h,by rw[vm];exact ao.refl _⟩));have hrt:=KY F G x.args x.ab x.body;have Y4:=C8 F G x.args x.ab x.body hkD;obtain⟨st,l7⟩:∃st,st=dU F G x.args x.ab x.body:=⟨_,rfl⟩;rw[<- l7]at xO hrt Y4;simp only[<- l7]at O3;refine kL O3 Zr ZP (fun v Post hv=>?_) (fun ch Post hz=>?_);rotate_left
 ·obtain⟨q,e,p,hf,rfl,rfl⟩:=hz;have hae:=Fl hf;have he0:e≠0:=by rcases Y4.err e p hf with h|h|h <;> omega
  refine⟨[kA q6 0 [.string e0,.int .i64 0,Nz],kA q7 0 [.nilIface],jP q e p],_,_,_,C7 q6 q7 q e p _ _ _ _,rfl,ZP,?_⟩;exact zB2
 obtain⟨Bx,ox,U1,V1,T1,⟨LX,_,_,w,E4,rfl⟩,rfl⟩:=hv;simp only[aJ];obtain⟨l1,l2,l3⟩:=hrt.less;have hbnds:Bnds st:=⟨⟨Zo,Zo,fun j=>by
  rw[Vh];cases e:st.args[j]? with
  |none=>simp
  |some a=>have:=hrt.bw.ar a (Zv e);simp only[Qy];omega⟩,fun l hl=>by have:=hrt.bw.bd l hl;omega⟩
 have hsc:=JM st hrt.ph hbnds LX.ok U1 V1 LX.rep.laid Bx ox LX.sl T1 LX.Yz wq (.map (some fb)) (.map (some gb)) (.slice aa x.args.length ac) (.slice ta x.ab.length tc) (.slice a x.body.length c) x.aE x.ax;refine ae ?_;refine kL hsc Zr ZP (fun v Post hv=>?_) (fun ch Post hz=>?_);rotate_left
 ·obtain⟨q,hae,rfl,rfl⟩:=hz;obtain⟨e,he⟩:∃e:Nat,e=183:=⟨_,rfl⟩;obtain⟨p,hp⟩:∃p:Int,p=0:=⟨_,rfl⟩;rw[<- he,<- hp]at hae;have he0:e≠0:=by omega
  rw[show jP q 183 0=jP q e p by rw[he,hp]];refine⟨[kA q6 0 [.string e0,.int .i64 0,Nz],kA q7 0 [.nilIface],jP q e p],_,_,_,C7 q6 q7 q e p _ _ _ _,rfl,ZP,?_⟩;exact zB2
 obtain⟨uY,B,⟨IS,rfl,Wz⟩,rfl⟩:=hv;obtain⟨usa,usc,hue⟩:∃usa usc,uY=.slice usa ((List.range st.outer.length).map st.aG).length usc:=let⟨e1,e2,_,_,_,e3,_⟩:=Wz;⟨e1,e2,e3⟩;subst hue;generalize hl:(List.range st.outer.length).map st.aG=lu at*;generalize EX:lu.length=ln at*;simp only[aJ];refine ae ?_;refine⟨.inr rfl,[kA q6 0 [.string x.aE,vi x.ax,.slice usa ln usc],kA q7 0 [.nilIface]],_,_,MT q6 q7 _ _,ZP,?_⟩
 rintro Post rfl
 refine⟨.inr rfl,[.agg #[.string x.aE,vi x.ax,.slice usa ln usc],.nilIface],[S,B],.aN (us:=[.string x.aE,vi x.ax,.slice usa ln usc]) Zr Zr (fun y hy=>by simp only[vr,QS,Vd,QF];repeat (first|exact Or.inl hy|refine Or.inr ?_)) (.bV Zr Ka .nil),by simp only[aJ];exact bS,.inl ⟨_,_,B,xO.trans IS,rfl,Wz,rfl⟩⟩
set_option maxHeartbeats 3200000
section
variable (A:List kC)
theorem Li:aw Tryz.prog 16 [.nilIface] [A] (fun v Post=>v=.tuple #[.int .i64 0,.int .i64 0]/\Post=[A]):=by
 refine aw.intro Zu (by simp[n16]) ?_;refine ae ?_;refine kG (.inr rfl) (.tmp Zr (.tmp Zr .nil)) ⟨by simp[bH],rfl⟩ ZI
variable (hE:Ys∈A)
include hE
theorem Fg(k:Nat)(a n:Int)(ha:kC.cell k 1 (.int .i64 a)∈A)(hk:kC.cell k 2 (.iface 44 (.int .i64 n))∈A):aw Tryz.prog 16 [flP k] [A] (fun v Post=>v=.tuple #[.int .i64 n,.int .i64 a]/\Post=[A]):=by
 refine aw.intro Zu (by simp[n16]) ?_;unfold flP;refine ae ?_;refine kO (fun pe=>?_);refine ae ?_;refine kO (fun pf=>?_);refine ae ?_;refine kH (Ux A hE k pf _) Zr ZP (fun v Post hv=>?_);obtain⟨rfl,rfl⟩:=hv;simp only[aJ];refine ae ?_;refine kH (As_in A hE k n hk pe _) Zr ZP (fun v Post hv=>?_);obtain⟨rfl,rfl⟩:=hv;simp only[aJ];refine ae ?_;refine kG (.inr rfl) (.tmp Zr (.tmp Zr .nil)) ⟨by simp[bH],rfl⟩ ZI
end
noncomputable def F73:aQ:=bb (o:=gF pq Tryz.f73 [])
theorem n73:F73.n=8:=rfl
theorem low73:aY Tryz.prog 73 []=some F73:=by kernel_rfl
end Go.Proofs.YtijnokbblmbpkaaGreatDoor
namespace Go.V
open Go
structure u7 (out:List ByteArray)(es:Array MapEntry)(c:Nat):Prop where
 is:∃m,zu yK (fun n:Nat=>.int .i64 n) es c m/\∀s,((kz s m).getD 0=0↔wx s=0/\s∉out)
structure rO (seen:List ByteArray)(es:Array MapEntry)(c:Nat):Prop where
 is:∃m,zu yK (fun n:Nat=>.int .i64 n) es c m/\(∀s,((kz s m).getD 0=0↔s∉seen))/\∀s,(kz s m).getD 0<=seen.length
theorem rO.nil:rO [] #[] 0:=⟨⟨[],.nil,fun s=>by simp[kz],fun s=>by simp[kz]⟩⟩
theorem KN {m:List (ByteArray×Nat)}{s:ByteArray}:ng false (.int .i64 0) ((kz s m).map fun n:Nat=>.int .i64 n)=.int .i64 ((kz s m).getD 0:Nat):=by cases kz s m <;> rfl
theorem W2 {out:List ByteArray}{m:List (ByteArray×Nat)}{k:Nat}{s:ByteArray}(h:∀s,((kz s m).getD 0=0↔wx s=0/\s∉out)):∀t,((kz t (jk s (k+1) m)).getD 0=0↔wx t=0/\t∉out++[s]):=by
 intro t;rw[wK,QF,QR];by_cases e:s=t
 ·rw[if_pos e];exact⟨fun h=>absurd h Zs,fun h=>absurd (.inr e.symm) h.2⟩
 ·rw[if_neg e,h t];exact⟨fun g=>⟨g.1,fun c=>c.elim g.2 (fun c=>e c.symm)⟩,fun g=>⟨g.1,fun c=>g.2 (.inl c)⟩⟩
theorem O6 {seen:List ByteArray}{m:List (ByteArray×Nat)}{s:ByteArray}(h:∀s,((kz s m).getD 0=0↔s∉seen))(hl:∀s,(kz s m).getD 0<=seen.length):
 (∀t,((kz t (jk s ((kz s m).getD 0+1) m)).getD 0=0↔t∉seen++[s]))/\∀t,(kz t (jk s ((kz s m).getD 0+1) m)).getD 0<=(seen++[s]).length:=by
 refine⟨fun t=>?_,fun t=>?_⟩
 ·rw[wK,QF,QR];by_cases e:s=t
  ·rw[if_pos e];exact⟨fun h=>absurd h Zs,fun h=>absurd (.inr e.symm) h⟩
  ·rw[if_neg e,h t];exact⟨fun g c=>c.elim g (fun c=>e c.symm),fun g c=>g (.inl c)⟩
 ·rw[wK,Vy,Q8];have:=hl s;have:=hl t;by_cases e:s=t
  ·rw[if_pos e];show(kz s m).getD 0+1<=_;omega
  ·rw[if_neg e];omega
theorem Rq:∀s,((kz s (jk qP 1 (jk yw 1 (jk G3 1 (jk nP 1 (jk yv 1 ([]:List (ByteArray×Nat)))))))).getD 0=0↔wx s=0/\s∉([]:List ByteArray)):=by
 intro s;rw[wK,wK,wK,wK,wK];by_cases a:qP=s
 ·rw[if_pos a];subst a;exact⟨fun h=>absurd h Zs,fun h=>absurd h.1 Zd⟩
 rw[if_neg a];by_cases b:yw=s
 ·rw[if_pos b];subst b;exact⟨fun h=>absurd h Zs,fun h=>absurd h.1 Zd⟩
 rw[if_neg b];by_cases c:G3=s
 ·rw[if_pos c];subst c;exact⟨fun h=>absurd h Zs,fun h=>absurd h.1 Zd⟩
 rw[if_neg c];by_cases d:nP=s
 ·rw[if_pos d];subst d;exact⟨fun h=>absurd h Zs,fun h=>absurd h.1 Zd⟩
 rw[if_neg d];by_cases e:yv=s
 ·rw[if_pos e];subst e;exact⟨fun h=>absurd h Zs,fun h=>absurd h.1 Zd⟩
 rw[if_neg e];have hz:wx s=0:=by
  unfold wx;rw[if_neg (fun k=>k.elim (fun k=>e k.symm) (fun k=>d k.symm)),if_neg (fun k=>c k.symm),if_neg (fun k=>b k.symm),if_neg (fun k=>a k.symm)]
 exact⟨fun _=>⟨hz,Zs⟩,fun _=>rfl⟩
mutual
theorem Kp(seen:List ByteArray):∀(x:Nd) (out:List ByteArray),(lZ seen out x).length<=out.length+x.w
 |.mk k s lit args ab kids p,out=>by
  rw[lZ];have:=xI (if k=7 then seen++args++ab else seen) kids (if(k=2∨k=3)/\wx s=0/\s∉seen/\s∉out then out++[s]else out);have h2:(if(k=2∨k=3)/\wx s=0/\s∉seen/\s∉out then out++[s]else out).length<=out.length+1:=by
   split
   ·rw[Vy,Q8];exact Qn _
   ·omega
  simp only[Nd.w];omega
theorem xI(seen:List ByteArray):∀(l:List Nd) (out:List ByteArray),(jz seen out l).length<=out.length+Nd.ws l
 |[],out=>by rw[jz];simp only[Nd.ws];omega
 |x::r,out=>by
  rw[jz];have h1:=Kp seen x out;have h2:=xI seen r (lZ seen out x);simp only[Nd.ws];omega
end
mutual
theorem Gc(seen:List ByteArray)(B:Nat):∀(x:Nd) (out:List ByteArray),x.w<=B->(∀t∈out,t.size<=B)->∀t∈lZ seen out x,t.size<=B
 |.mk k s lit args ab kids p,out,hw,ho=>by
  rw[lZ];simp only[Nd.w]at hw;refine Cp _ B kids _ Zo ?_;split
  ·intro t ht;rcases QF.1 ht with h|h
   ·exact ho t h
   ·rw[QR.1 h];omega
  ·exact ho
theorem Cp(seen:List ByteArray)(B:Nat):∀(l:List Nd) (out:List ByteArray),Nd.ws l<=B->(∀t∈out,t.size<=B)->∀t∈jz seen out l,t.size<=B
 |[],out,hw,ho=>by rw[jz];exact ho
 |x::r,out,hw,ho=>by
  rw[jz];simp only[Nd.ws]at hw;exact Cp seen B r _ Zo (Gc seen B x out Zo ho)
end
theorem El(b:List Nd):∀(a:List Nd),Nd.ws (a++b)=Nd.ws a+Nd.ws b
 |[]=>by rw[QS,Nd.ws,Qu]
 |x::r=>by rw[vr,Nd.ws,Nd.ws,El b r,Qi]
theorem Cq(seen:List ByteArray)(z:Nd):∀(l:List Nd) (out:List ByteArray),jz seen out (l++[z])=lZ seen (jz seen out l) z
 |[],out=>by rw[QS,jz,jz,jz]
 |x::r,out=>by rw[vr,jz,jz,Cq seen z r]
structure FrOk (seen out:List ByteArray)(Bf:Array MapEntry)(mc:Nat)(l6:Array MapEntry)(hc:Nat)(sv:Value)(sp:List Value):Prop where
 met:u7 out Bf mc
 held:rO seen l6 hc
 sl:jA 1 sv out.length (out.map Value.string) sp
theorem M5 {A:List kC}{a:Option Addr}{c:Nat}{l:List ByteArray}(h:dG A (.slice a l.length c) l)(hl:0 < l.length):Src A 1 l.length (l.map Value.string) (.slice a l.length c):=by
 obtain⟨a',c',e,_,hr⟩:=h;cases e;obtain⟨t,ht⟩:∃t,l[0]? =some t:=⟨_,Zg hl⟩;obtain⟨b,o,had,_⟩:=hr 0 t ht;cases had;exact zCH
end Go.V

/-
  A node's part.
-/
import Derived.Test.YtijnokbblmbpkaaGreatDoorN22
import Derived.Test.YtijnokbblmbpkaaGreatDoorN18
import Derived.Test.YtijnokbblmbpkaaGreatDoorN12
import Derived.Test.YtijnokbblmbpkaaGreatDoorN20
import Derived.Test.YtijnokbblmbpkaaGreatDoorN15
import Derived.Test.YtijnokbblmbpkaaGreatDoorN9
import Derived.KernelRfl
import Derived.Test.YtijnokbblmbpkaaGreatDoorProg
set_option linter.all false
namespace Go.Proofs.YtijnokbblmbpkaaGreatDoor
open Go Go.V
set_option maxHeartbeats 12800000
set_option maxRecDepth 100000
structure PaS where
 k:Nat
 nm:ByteArray
 lit:Lt
 l1:Value
 l2:Value
 l3:Value
 l4:Value
 l5:Value
 refs:List zV
 rv:Value
 vv:Value
 l:List Nd
 a:Option Addr
 ac:Nat
 bk:Nat
 o:Nat
 ks:Nat->List Value
 st:ah
 us:Value
 bC:List Value
 U:List UC
 V:List au
 T:List kB
 B:List kB
structure PaI (X:Fix)(x:Nd)(N:Nat)(st:ah)(env:List Nat)(i:Nat)(Uq Vq:List Nat)(s:PaS):Prop where
 eq:jF X.F X.G x st env i=(.mk s.k s.nm s.lit s.refs 0 false (if x.kind=5 then zK (jM x.kids) (kT X.F X.G s.l s.st env i).1 else(kT X.F X.G s.l s.st env i).1),(kT X.F X.G s.l s.st env i).2)
 lt:zN s.B s.lit [s.l1,s.l2,s.l3,s.l4,s.l5]
 rr:js s.B s.rv (wg s.refs)
 pr:wX s.B s.vv ((et s.refs).map fun r=>(s.V.map au.q).getD r.index.toNat 0)
 rok:zg (s.V.map au.q) s.refs
 rz:wg s.refs=[]->s.rv=Nz
 ok:gB s.st s.us s.bC s.U s.V s.T
 gr:Gr st s.st
 pU:Uq <+:s.U.map UC.q
 pV:Vq <+:s.V.map au.q
 room:Room s.st (jO s.l)
 ha:0 < s.l.length->s.a=some ⟨s.bk,s.o,none⟩
 hm:∀j,j < s.l.length->∀y∈kA s.bk (s.o+j*11) (s.ks j),y∈X.S
 hr:∀j y,s.l[j]? =some y->j7 X.S y (s.ks j)
 sz:Nd.aq s.l<=N
 okl:qg s.l=true
 ne:x.kind=5->0 < s.l.length
theorem W7 {F G:List ByteArray}{st:ah}{env:List Nat}{nm:ByteArray}{u:Nat}{p:Int}{put:Bool}(h:(wF F G st env nm u p put).1.kind=99):∃v∈env,(wF F G st env nm u p put).1=dL v:=by
 unfold wF at h|-;split at h
 ·have:=Ki nm;simp only at h;omega
 ·rename_i hk;rw[if_neg hk];split at h
  ·rename_i v hv;exact⟨v,AT hv,rfl⟩
  ·split at h
   ·simp at h
   ·simp at h
theorem Mz(X:Fix)(hX:NI X)(N:Nat)(hN2:N < 1073741824)(ih:∀x,x.size<=N->Rw x=true->∀vs,j7 X.S x vs->ot X x vs)(x:Nd)(hx:x.size<=N+1)(aN:Rw x=true)(vs:List Value)(h:j7 X.S x vs):ot X x vs:=by
 intro st us bC U Vs T hS i u hu env b es c hs DB bm;have h':=h;obtain⟨e1,e2,e3,e4,e5,e6,e7,a1,c1,a2,c2,a3,c3,bk,ko,ks,rfl,xu,bB,bu,hk8,ha,hm,hr,tX⟩:=wI h;have A7:x.size=1+Nd.aq x.kids:=by cases x;rfl
 have OM:tA x=lN x.args x.ab (jO x.kids):=by cases x;rfl
 have hokk:okK x.kind x.kids=true/\x.lit.size<=274877906944/\qg x.kids=true:=by
  cases x;simp only[Rw,vF,decide_eq_true_eq]at aN;exact⟨aN.1.1,aN.1.2,aN.2⟩
 obtain⟨tD,hlb,iy⟩:=hokk;unfold okK at tD;simp only[vF,vO,vL,decide_eq_true_eq,decide_eq_false_iff_not]at tD;obtain⟨⟨⟨hk12,hk5⟩,hk19⟩,hk4⟩:=tD;have hlen:=C6 x.kids;have Af:Nd.aq x.kids<=N:=by omega
 have l9:Room st (jO x.kids):=bm.mono (by rw[OM];unfold lN;omega);have hsb:st.uses.length < 1073741824:=by obtain⟨_,k,_⟩:=bm;omega
 have cf:i < st.outer.length:=by have:=(Vh.1 hu).1;rw[hS.rep.ul]at this;exact this
 refine jb.intro low172 (by simp[n172]) ?_;refine VC.join (α:=Nat×Nat) (aW:=fun q=>[(0,kE X.wq),(2,kE u.q),(3,.map (some b)),(5,kE q.1),(8,kE q.2)]) (Hf:=fun q=>[kA q.1 0 (rN x.kind x.name e1 e2 e3 e4 e5 e6 e7 a1 x.args.length c1 a2 x.ab.length c2 a3 x.kids.length c3 x.at_),kA q.2 0 [.int .u8 0,.string e0,.int .u8 0,.int .i64 0,.int .u64 0,.string e0,Nz,Nz,.int .i64 0,.bool false,Nz,Nz,Nz],kA X.wq 0 [.map (some X.fb),.map (some X.gb),us],ai us (U.map fun u=>kL (some u.q)) bC,[.obj X.fb (.map X.bF X.fc)],[.obj X.gb (.map X.bH X.gc)],WK U Vs,T,[.obj b (.map es c)],X.S]) (I:=fun _=>True) ?_ ?_
 ·refine ae ?_;refine kW Zr (fun q5=>?_);simp only[Value.cells];refine kM (fun q8=>?_);refine ae ?_;exact⟨(q5,q8),trivial,ZU,by unfold e0;exact bE⟩
 rintro⟨q5,q8⟩ _
 dsimp only;refine VC.join (α:=Unit) (aW:=fun _=>[(0,kE X.wq),(2,kE u.q),(3,.map (some b)),(5,kE q5),(8,kE q8)]) (Hf:=fun _=>[kA q5 0 (rN x.kind x.name e1 e2 e3 e4 e5 e6 e7 a1 x.args.length c1 a2 x.ab.length c2 a3 x.kids.length c3 x.at_),kA q8 0 [.int .u8 0,.string e0,.int .u8 0,.int .i64 0,.int .u64 0,.string e0,Nz,Nz,.int .i64 0,.bool false,Nz,Nz,Nz],kA X.wq 0 [.map (some X.fb),.map (some X.gb),us],ai us (U.map fun u=>kL (some u.q)) bC,[.obj X.fb (.map X.bF X.fc)],[.obj X.gb (.map X.bH X.gc)],WK U Vs,T,[.obj b (.map es c)],X.S]) (I:=fun _=>wM x=false) ?_ (fun _ bf=>?_)
 ·refine ae ?_;refine kI (sD X.S x _ h') Zr ZP (fun v Post hv=>?_);obtain⟨⟨f,t,rfl,hft⟩,rfl⟩:=hv;simp only[aE];cases bf:wM x with
  |false=>
   exact zCH
  |true=>
   obtain⟨rfl,rfl⟩:=hft bf;have cE:zl (kb x.name) x.kids=true:=by
    unfold wM fD at bf;simp only[vF]at bf;exact bf.2
   have hP:=eE X.F X.G x.kind x.name x.lit x.args x.ab x.kids x.at_ st env i bf;rw[<- Nd.eta x]at hP;have EO:=Dn X (.int .u8 e1) (.int .i64 e2) (.int .u64 e3) (.string e4) (.slice e5 e6 e7) (.int .u8 x.kind) (.slice a1 x.args.length c1) (.slice a2 x.ab.length c2) x.name x.kids a3 c3 bk ko ks Zo ha hm hr N Zo hN2 iy ih x.at_ cE st us bC U Vs T hS i u hu env b es c hs DB l9;refine ae ?_;refine kK EO Zr ZP (fun v Post hv=>?_) (fun ch Post hz=>?_);rotate_left
   ·exact zDU
   obtain⟨nX,ig,U2,V2,T2,B2,⟨Cu,tG,tH,ws,rfl,hn⟩,rfl⟩:=hv;simp only[aE];obtain⟨pn,sM⟩:∃pn,pn=(jF X.F X.G x st env i).1:=⟨_,rfl⟩;have JY:uJ B2 (V2.map au.q) pn ws:=by rw[sM,hP];exact hn
   obtain⟨f1,f2,f3,f4,f5,f6,f7,r1,r2,r3,p1,p2,p3,k1,k2,k3,GX⟩:=iG JY;subst GX;refine ae ?_;refine jJ ⟨.inr rfl,_,[kA X.wq 0 [.map (some X.fb),.map (some X.gb),nX],ai nX (U2.map fun u=>kL (some u.q)) ig,[.obj X.fb (.map X.bF X.fc)],[.obj X.gb (.map X.bH X.gc)],WK U2 V2,T2,[.obj b (.map es c)],X.S,B2],.aS (us:=[.int .u8 pn.kind,.string pn.name,.int .u8 f1,.int .i64 f2,.int .u64 f3,.string f4,.slice f5 f6 f7,.slice r1 r2 r3,.int .i64 pn.unit,.bool pn.super,Nz,.slice p1 p2 p3,.slice k1 k2 k3]) Zr Zr (fun y hy=>by simp only[V6,Q7];repeat (first|exact Or.inl hy|refine Or.inr ?_)) .nil,ZI,⟨nX,ig,U2,V2,T2,_,⟨by rw[hP];exact Cu,tG,tH,_,rfl,by rw[<- sM];exact JY⟩,rfl⟩⟩
 refine VC.join (α:=Nat) (aW:=fun fB=>[(0,kE X.wq),(2,kE u.q),(3,.map (some b)),(5,kE q5),(8,kE q8),(12,kE fB)]) (Hf:=fun fB=>[kA fB 0 [.int .u8 0,.string e0,.int .u8 0,.int .i64 0,.int .u64 0,.string e0,Nz,Nz,.int .i64 0,.bool false,Nz,Nz,Nz],kA q5 0 (rN x.kind x.name e1 e2 e3 e4 e5 e6 e7 a1 x.args.length c1 a2 x.ab.length c2 a3 x.kids.length c3 x.at_),kA q8 0 [.int .u8 0,.string e0,.int .u8 0,.int .i64 0,.int .u64 0,.string e0,Nz,Nz,.int .i64 0,.bool false,Nz,Nz,Nz],kA X.wq 0 [.map (some X.fb),.map (some X.gb),us],ai us (U.map fun u=>kL (some u.q)) bC,[.obj X.fb (.map X.bF X.fc)],[.obj X.gb (.map X.bH X.gc)],WK U Vs,T,[.obj b (.map es c)],X.S]) (I:=fun _=>True) ?_ (fun fB _=>?_)
 ·refine ae ?_;refine kM (fun fB=>?_);refine ae ?_;exact⟨fB,trivial,ZU,by unfold e0;exact bE⟩
 refine VC.join (α:=Unit) (aW:=fun _=>[(0,kE X.wq),(2,kE u.q),(3,.map (some b)),(5,kE q5),(8,kE q8),(12,kE fB),(13,.slice a3 x.kids.length c3)]) (Hf:=fun _=>[kA fB 0 [.int .u8 0,.string e0,.int .u8 0,.int .i64 0,.int .u64 0,.string e0,Nz,Nz,.int .i64 0,.bool false,Nz,Nz,Nz],kA q5 0 (rN x.kind x.name e1 e2 e3 e4 e5 e6 e7 a1 x.args.length c1 a2 x.ab.length c2 a3 x.kids.length c3 x.at_),kA q8 0 [.int .u8 0,.string e0,.int .u8 0,.int .i64 0,.int .u64 0,.string e0,Nz,Nz,.int .i64 0,.bool false,Nz,Nz,Nz],kA X.wq 0 [.map (some X.fb),.map (some X.gb),us],ai us (U.map fun u=>kL (some u.q)) bC,[.obj X.fb (.map X.bF X.fc)],[.obj X.gb (.map X.bH X.gc)],WK U Vs,T,[.obj b (.map es c)],X.S]) (I:=fun _=>True) ?_ (fun _ _=>?_)
 ·refine ae ?_;exact⟨(),trivial,ZU,ZI⟩
 refine VC.join (α:=Unit) (aW:=fun _=>[(0,kE X.wq),(2,kE u.q),(3,.map (some b)),(5,kE q5),(8,kE q8),(12,kE fB),(13,.slice a3 x.kids.length c3),(14,.bool (jM x.kids))]) (Hf:=fun _=>[kA fB 0 [.int .u8 0,.string e0,.int .u8 0,.int .i64 0,.int .u64 0,.string e0,Nz,Nz,.int .i64 0,.bool false,Nz,Nz,Nz],kA q5 0 (rN x.kind x.name e1 e2 e3 e4 e5 e6 e7 a1 x.args.length c1 a2 x.ab.length c2 a3 x.kids.length c3 x.at_),kA q8 0 [.int .u8 0,.string e0,.int .u8 0,.int .i64 0,.int .u64 0,.string e0,Nz,Nz,.int .i64 0,.bool false,Nz,Nz,Nz],kA X.wq 0 [.map (some X.fb),.map (some X.gb),us],ai us (U.map fun u=>kL (some u.q)) bC,[.obj X.fb (.map X.bF X.fc)],[.obj X.gb (.map X.bH X.gc)],WK U Vs,T,[.obj b (.map es c)],X.S]) (I:=fun _=>True) ?_ (fun _ _=>?_)
 ·refine ae ?_;by_cases AY:0 < x.kids.length;rotate_left
  ·rw[show decide ((0:Int) < (x.kids.length:Int))=false from Zf Zo];refine ae ?_;have tF:x.kids=[]:=vj Zo;exact⟨(),trivial,by rw[tF];exact Nh,ZI⟩
  obtain rfl:=ha Zo;rw[show decide ((0:Int) < (x.kids.length:Int))=true from Zt Zo];obtain⟨r,ud⟩:∃r,x.kids[0]? =some r:=⟨_,Zg Zo⟩;obtain⟨r1,r2,r3,r4,r5,r6,r7,p1,d1,p2,d2,p3,d3,XR,o2,DG,HU,_⟩:=wI (hr 0 r ud);have f0:kB.cell bk ko (.int .u8 r.kind)∈X.S:=hm 0 Zo _ (by rw[HU];exact kH.2 ⟨0,_,rfl,Zs⟩);have f1:kB.cell bk (ko+1) (.string r.name)∈X.S:=hm 0 Zo _ (by rw[HU];exact kH.2 ⟨1,_,rfl,Zs⟩);have Ad:jM x.kids=jh r:=by
   exact zBY
  refine ae ?_;by_cases EL:r.kind=2
  ·rw[show decide ((r.kind:Int)=2)=true from Zt Zo];refine ae ?_;have UO:jh r=decide (r.name=⟨#[115,117,112,101,114]⟩):=by
    unfold jh;rw[Zt EL,vR];exact decide_eq_decide.2 cT
   exact⟨(),trivial,by rw[Ad,UO];exact Nh,ZI⟩
  ·rw[show decide ((r.kind:Int)=2)=false from Zf Zo];refine ae ?_;have UO:jh r=false:=by
    unfold jh;rw[Zf EL,vI]
   exact⟨(),trivial,by rw[Ad,UO];exact Nh,ZI⟩
 refine VC.join (α:=PaS) (aW:=fun p=>[(0,kE X.wq),(2,kE u.q),(3,.map (some b)),(5,kE q5),(8,kE q8),(12,kE fB),(13,.slice p.a p.l.length p.ac),(14,.bool (jM x.kids))]) (Hf:=fun p=>[kA fB 0 [.int .u8 p.k,.string p.nm,p.l1,p.l2,p.l3,p.l4,p.l5,p.rv,.int .i64 0,.bool false,Nz,p.vv,Nz],kA q5 0 (rN x.kind x.name e1 e2 e3 e4 e5 e6 e7 a1 x.args.length c1 a2 x.ab.length c2 a3 x.kids.length c3 x.at_),kA q8 0 [.int .u8 0,.string e0,.int .u8 0,.int .i64 0,.int .u64 0,.string e0,Nz,Nz,.int .i64 0,.bool false,Nz,Nz,Nz],kA X.wq 0 [.map (some X.fb),.map (some X.gb),p.us],ai p.us (p.U.map fun u=>kL (some u.q)) p.bC,[.obj X.fb (.map X.bF X.fc)],[.obj X.gb (.map X.bH X.gc)],WK p.U p.V,p.T,[.obj b (.map es c)],X.S,p.B]) (I:=PaI X x N st env i (U.map UC.q) (Vs.map au.q)) ?_ ?_
 ·skip
  have simple:∀(k:Nat) (nm:ByteArray) (l:List Nd) (a:Option Addr) (ac bk ko:Nat) (ks:Nat->List Value),jF X.F X.G x st env i=(.mk k nm ij [] 0 false (if x.kind=5 then zK (jM x.kids) (kT X.F X.G l st env i).1 else(kT X.F X.G l st env i).1),(kT X.F X.G l st env i).2)->
   Room st (jO l)->(0 < l.length->a=some ⟨bk,ko,none⟩)->(∀j,j < l.length->∀y∈kA bk (ko+j*11) (ks j),y∈X.S)->(∀j y,l[j]? =some y->j7 X.S y (ks j))->Nd.aq l<=N->qg l=true->(x.kind=5->0 < l.length)->
   PaI X x N st env i (U.map UC.q) (Vs.map au.q) ⟨k,nm,ij,.int .u8 0,.int .i64 0,.int .u64 0,.string e0,Nz,[],Nz,Nz,l,a,ac,bk,ko,ks,st,us,bC,U,Vs,T,[]⟩:=fun k nm l a ac bk ko ks h1 h2 h3 h4 h5 h6 h7 h8=>
   ⟨h1,oS _,js.nil _,wX.nil _,zg.nil _,fun _=>rfl,hS,Gr.refl _,QT _,QT _,h2,h3,h4,h5,h6,h7,h8⟩
  refine jW ?_;by_cases h1:x.kind=1
  ·rw[show decide ((x.kind:Int)=1)=true from Zt Zo];have tF:x.kids=[]:=vj (by rcases hk12 with k|k;exact absurd (.inl h1) k;exact k);have hP:=nk X.F X.G x.kind x.name x.lit x.args x.ab x.kids x.at_ st env i bf h1;rw[<- Nd.eta x]at hP;refine ae ?_;refine kI (MS X.S _ x.lit (Qj _) hlb _ xu) Zr ZP (fun v Post hv=>?_);obtain⟨ws,BL,rfl,GN,rfl⟩:=hv;simp only[aE];have Lo:=GN.rd;obtain⟨lsv,lrows,lsp,lK,rfl,_⟩:=GN.parts;obtain⟨lea,lec,hlsv⟩:=xO Lo;simp only[ve,and_true,true_and]at hlsv;subst hlsv;refine ae ?_;refine⟨⟨1,e0,x.lit,cv x.lit.kind,vi x.lit.n,uv x.lit.bits,.string x.lit.text,.slice lea x.lit.items.length lec,[],.slice none 0 0,.slice none 0 0,x.kids,a3,c3,bk,ko,ks,st,us,bC,U,Vs,T,BL⟩,⟨?_,Lo,js.nil _,wX.nil _,zg.nil _,fun _=>rfl,hS,Gr.refl _,QT _,QT _,l9,ha,hm,hr,Af,iy,fun e=>absurd e Zo⟩,ZU,aj.cut (M:=[kA fB 0 [.int .u8 1,.string e0,cv x.lit.kind,vi x.lit.n,uv x.lit.bits,.string x.lit.text,.slice lea x.lit.items.length lec,.slice none 0 0,.int .i64 0,.bool false,.slice none 0 0,.slice none 0 0,.slice none 0 0],kA q5 0 (rN x.kind x.name e1 e2 e3 e4 e5 e6 e7 a1 x.args.length c1 a2 x.ab.length c2 a3 x.kids.length c3 x.at_),kA q8 0 [.int .u8 0,.string e0,.int .u8 0,.int .i64 0,.int .u64 0,.string e0,.slice none 0 0,.slice none 0 0,.int .i64 0,.bool false,.slice none 0 0,.slice none 0 0,.slice none 0 0],kA X.wq 0 [.map (some X.fb),.map (some X.gb),us],ai us (U.map fun u=>kL (some u.q)) bC,[.obj X.fb (.map X.bF X.fc)],[.obj X.gb (.map X.bH X.gc)],WK U Vs,T,[.obj b (.map es c)],X.S,BL]) ZI (aj.perm Zs)⟩;simp only;rw[hP,tF,if_neg Zo,kT]
  rw[show decide ((x.kind:Int)=1)=false from Zf Zo];refine jW ?_;refine VC.join (α:=Unit) (aW:=fun _=>[(0,kE X.wq),(2,kE u.q),(3,.map (some b)),(5,kE q5),(8,kE q8),(12,kE fB),(13,.slice a3 x.kids.length c3),(14,.bool (jM x.kids)),(52,.int .u8 x.kind),(73,.bool (decide (x.kind=2∨x.kind=3)))]) (Hf:=fun _=>[kA fB 0 [.int .u8 0,.string e0,.int .u8 0,.int .i64 0,.int .u64 0,.string e0,Nz,Nz,.int .i64 0,.bool false,Nz,Nz,Nz],kA q5 0 (rN x.kind x.name e1 e2 e3 e4 e5 e6 e7 a1 x.args.length c1 a2 x.ab.length c2 a3 x.kids.length c3 x.at_),kA q8 0 [.int .u8 0,.string e0,.int .u8 0,.int .i64 0,.int .u64 0,.string e0,Nz,Nz,.int .i64 0,.bool false,Nz,Nz,Nz],kA X.wq 0 [.map (some X.fb),.map (some X.gb),us],ai us (U.map fun u=>kL (some u.q)) bC,[.obj X.fb (.map X.bF X.fc)],[.obj X.gb (.map X.bH X.gc)],WK U Vs,T,[.obj b (.map es c)],X.S]) (I:=fun _=>True) ?_ (fun _ _=>?_)
  ·refine ae ?_;by_cases h2:x.kind=2
   ·rw[show decide ((x.kind:Int)=2)=true from Zt Zo,Zt (show x.kind=2∨x.kind=3 from .inl h2)];exact zCH
   ·rw[show decide ((x.kind:Int)=2)=false from Zf Zo,show decide (x.kind=2∨x.kind=3)=decide ((x.kind:Int)=3)from decide_eq_decide.2 Zo];exact zCH
  by_cases h23:x.kind=2∨x.kind=3
  ·rw[Zt h23];refine jW ?_;refine VC.join (α:=Unit) (aW:=fun _=>[(0,kE X.wq),(2,kE u.q),(3,.map (some b)),(5,kE q5),(8,kE q8),(12,kE fB),(13,.slice a3 x.kids.length c3),(14,.bool (jM x.kids))]) (Hf:=fun _=>[kA fB 0 [.int .u8 x.kind,.string e0,.int .u8 0,.int .i64 0,.int .u64 0,.string e0,Nz,Nz,.int .i64 0,.bool false,Nz,Nz,Nz],kA q5 0 (rN x.kind x.name e1 e2 e3 e4 e5 e6 e7 a1 x.args.length c1 a2 x.ab.length c2 a3 x.kids.length c3 x.at_),kA q8 0 [.int .u8 0,.string e0,.int .u8 0,.int .i64 0,.int .u64 0,.string e0,Nz,Nz,.int .i64 0,.bool false,Nz,Nz,Nz],kA X.wq 0 [.map (some X.fb),.map (some X.gb),us],ai us (U.map fun u=>kL (some u.q)) bC,[.obj X.fb (.map X.bF X.fc)],[.obj X.gb (.map X.bH X.gc)],WK U Vs,T,[.obj b (.map es c)],X.S]) (I:=fun _=>True) ?_ (fun _ _=>?_)
   ·refine ae ?_;by_cases h3:x.kind=3
    ·rw[show decide ((x.kind:Int)=3)=true from Zt Zo];refine ae ?_;exact⟨(),trivial,ZU,aj.cut (M:=[kA fB 0 [.int .u8 3,.string e0,.int .u8 0,.int .i64 0,.int .u64 0,.string e0,Nz,Nz,.int .i64 0,.bool false,Nz,Nz,Nz],kA q5 0 (rN x.kind x.name e1 e2 e3 e4 e5 e6 e7 a1 x.args.length c1 a2 x.ab.length c2 a3 x.kids.length c3 x.at_),kA q8 0 [.int .u8 0,.string e0,.int .u8 0,.int .i64 0,.int .u64 0,.string e0,Nz,Nz,.int .i64 0,.bool false,Nz,Nz,Nz],kA X.wq 0 [.map (some X.fb),.map (some X.gb),us],ai us (U.map fun u=>kL (some u.q)) bC,[.obj X.fb (.map X.bF X.fc)],[.obj X.gb (.map X.bH X.gc)],WK U Vs,T,[.obj b (.map es c)],X.S]) ZI (aj.perm (by simp[h3]))⟩
    ·have h2:x.kind=2:=by omega
     rw[show decide ((x.kind:Int)=3)=false from Zf Zo];refine ae ?_;exact⟨(),trivial,ZU,aj.cut (M:=[kA fB 0 [.int .u8 2,.string e0,.int .u8 0,.int .i64 0,.int .u64 0,.string e0,Nz,Nz,.int .i64 0,.bool false,Nz,Nz,Nz],kA q5 0 (rN x.kind x.name e1 e2 e3 e4 e5 e6 e7 a1 x.args.length c1 a2 x.ab.length c2 a3 x.kids.length c3 x.at_),kA q8 0 [.int .u8 0,.string e0,.int .u8 0,.int .i64 0,.int .u64 0,.string e0,Nz,Nz,.int .i64 0,.bool false,Nz,Nz,Nz],kA X.wq 0 [.map (some X.fb),.map (some X.gb),us],ai us (U.map fun u=>kL (some u.q)) bC,[.obj X.fb (.map X.bF X.fc)],[.obj X.gb (.map X.bH X.gc)],WK U Vs,T,[.obj b (.map es c)],X.S]) ZI (aj.perm (by simp[h2]))⟩
   have n6:=Ji X.F X.G X.wq X.fb X.gb us X.bF X.bH X.fc X.gc hX.f hX.g x.kind x.name (.int .u8 e1) (.int .i64 e2) (.int .u64 e3) (.string e4) (.slice e5 e6 e7) (.slice a1 x.args.length c1) (.slice a2 x.ab.length c2) (.slice a3 x.kids.length c3) x.at_ st U Vs hS.rep i u hu hS.ok hsb env b es c hs DB;have Lo:=xI X.F X.G st env x.name i x.at_ (decide (x.kind=3));have Ew:=xj X.F X.G st env x.name i x.at_ (decide (x.kind=3));have Hx:=o8 X.F X.G st env x.name i x.at_ (decide (x.kind=3));have OX:=W7 (F:=X.F) (G:=X.G) (st:=st) (env:=env) (nm:=x.name) (u:=i) (p:=x.at_) (put:=decide (x.kind=3));obtain⟨R,hR⟩:∃R,R=wF X.F X.G st env x.name i x.at_ (decide (x.kind=3)):=⟨_,rfl⟩;rw[<- hR]at n6 Lo Ew Hx OX;have hP:jF X.F X.G x st env i=(.mk x.kind e0 ij [R.1] 0 false (kT X.F X.G x.kids R.2 env i).1,(kT X.F X.G x.kids R.2 env i).2):=by
    rcases h23 with h2|h3
    ·have tF:x.kids=[]:=vj (by rcases hk12 with k|k;exact absurd (.inr h2) k;exact k);have hP:=np X.F X.G x.kind x.name x.lit x.args x.ab x.kids x.at_ st env i bf h2;rw[<- Nd.eta x]at hP;rw[hP,tF,kT,hR,h2];rfl
    ·have hP:=nq X.F X.G x.kind x.name x.lit x.args x.ab x.kids x.at_ st env i bf h3;rw[<- Nd.eta x]at hP;rw[hP,hR,h3];rfl
   have rS:Room R.2 (jO x.kids):=Room.less (n:=1) (bm.mono (by rw[OM];unfold lN;omega)) Lo;refine ae ?_;refine kK n6 Zr ZP (fun v Post hv=>?_) (fun ch Post hz=>?_);rotate_left
   ·obtain⟨q1,Ni,eg,rfl,rfl⟩:=hz;exact⟨[X.S,jL q1 Ni x.at_],ZI,q1,Ni,x.at_,by rw[hP];exact(wU _ _ _ _ _ _).f _ eg,rfl,rfl⟩
   obtain⟨U2,V2,⟨Cy,hv,JK,l7,sK,rh⟩,rfl⟩:=hv;simp only[aE];have AZ:∀W:List UC,(W.map fun u=>kL (some u.q))=(W.map UC.q).map fun b=>kL (some b):=fun W=>by rw[Q5];rfl
   have GV:(U2.map fun u=>kL (some u.q))=U.map fun u=>kL (some u.q):=by rw[AZ,l7,<- AZ]
   have Cu:gB R.2 us bC U2 V2 T:=by
    have EF:U2.length=U.length:=by have:=congrArg List.length l7;rwa [Vv,Vv]at this
    refine⟨JK,Cy,by rw[EF,GV];exact hS.sl,fun j w hw=>?_⟩;have eg:(U.map UC.body)[j]? =some w.body:=by rw[<- sK,Vi,hw];rfl
    rw[Vi]at eg;obtain⟨w1,GW,hwb⟩:=Qx.1 eg;rw[Hx,<- hwb];exact(hS.XS j w1 GW).more (fun x hx=>hx) (by rw[rh];exact QT _)
   have CR:V2.length=R.2.vars.length:=JK.vl;by_cases h99:R.1.kind=99
   ·obtain⟨vv,Tf,hvr⟩:=OX h99;have O8:vv < (V2.map au.q).length:=by
     rw[Vv,CR];exact Qm (hs.lt vv Tf) Ew.vars.length_le
    have hqe:(V2.map au.q).getD vv 0=sZ V2 vv:=by
     have hvlt2:vv < V2.length:=by rwa [Vv]at O8
     unfold sZ;rw[V8,V8,Vi,Zg hvlt2];rfl
    have lZ:sg V2 R.1=.tuple #[.agg rz.toArray,kE (sZ V2 vv)]:=by
     rw[hvr];rfl
    rw[lZ]at hv;subst hv;unfold rz;refine ae ?_;refine kM (fun q15=>?_);refine ae ?_;refine kg (out:=[kE (sZ V2 vv)]) Zr Zr (fun rr=>?_);refine ae ?_;refine⟨⟨x.kind,e0,ij,.int .u8 0,.int .i64 0,.int .u64 0,.string e0,Nz,[dL vv],Nz,.slice (some ⟨rr,0,none⟩) 1 1,x.kids,a3,c3,bk,ko,ks,R.2,us,bC,U2,V2,T,kA rr 0 [kE (sZ V2 vv)]⟩,
     ⟨?_,oS _,js.nil _,?_,?_,fun _=>rfl,Cu,Ew,by rw[l7];exact QT _,by rw[rh];exact QT _,rS,ha,hm,hr,Af,iy,fun e=>absurd e Zo⟩,ZU,by simp only[GV];exact bE⟩
    ·simp only;rw[hP,hvr,if_neg Zo]
    ·show wX _ _ [(V2.map au.q).getD ((vv:Int)).toNat 0];rw[vS,hqe];refine⟨_,_,rfl,fun j q hj=>⟨rr,0,rfl,?_⟩⟩;cases j with
     |zero=>
      obtain rfl:sZ V2 vv=q:=by simpa using hj
      exact kH.2 ⟨0,_,rfl,rfl⟩
     |succ j=>simp at hj
    ·exact⟨.inl fun r hr=>by rw[QI.1 hr];rfl,fun r hr _=>⟨vv,QI.1 hr,O8⟩⟩
   ·have lZ:sg V2 R.1=.tuple #[.agg (jS R.1).toArray,.pointer none]:=by
     unfold sg;rw[if_neg h99]
    rw[lZ]at hv;subst hv;unfold jS;refine ae ?_;refine kM (fun q15=>?_);refine ae ?_;refine kg (out:=[.int .u8 R.1.kind,.int .i64 R.1.index,.int .i64 R.1.slot,.string R.1.name]) Zr Zr (fun rr=>?_);refine ae ?_;have ii:wg [R.1]=[R.1]:=by unfold wg;rw[vq,if_pos (Zt h99)];rfl
    have hrw:et [R.1]=[]:=by unfold et;rw[vq,if_neg (by simpa using h99)];rfl
    refine⟨⟨x.kind,e0,ij,.int .u8 0,.int .i64 0,.int .u64 0,.string e0,Nz,[R.1],.slice (some ⟨rr,0,none⟩) 1 1,Nz,x.kids,a3,c3,bk,ko,ks,R.2,us,bC,U2,V2,T,kA rr 0 (jS R.1)⟩,
     ⟨?_,oS _,?_,?_,?_,fun e=>?_,Cu,Ew,by rw[l7];exact QT _,by rw[rh];exact QT _,rS,ha,hm,hr,Af,iy,fun e=>absurd e Zo⟩,ZU,by simp only[GV];unfold jS;exact bE⟩
    ·simp only;rw[hP,if_neg Zo]
    ·show js _ _ (wg [R.1]);rw[ii];refine⟨_,_,rfl,fun j q hj=>⟨rr,0,rfl,fun y hy=>?_⟩⟩;cases j with
     |zero=>
      obtain rfl:R.1=q:=by simpa using hj
      exact hy
     |succ j=>simp at hj
    ·show wX _ _ ((et [R.1]).map _);rw[hrw];exact wX.nil _
    ·exact⟨.inr fun r hr=>by rw[QI.1 hr];exact h99,fun r hr e=>by rw[QI.1 hr]at e;exact absurd e h99⟩
    ·have e:wg [R.1]=[]:=e;rw[ii]at e;cases e
  rw[Zf h23];refine jW ?_;by_cases h7:x.kind=7
  ·rw[show decide ((x.kind:Int)=7)=true from Zt Zo];have hP:=ny X.F X.G x.kind x.name x.lit x.args x.ab x.kids x.at_ st env i bf h7;rw[<- Nd.eta x]at hP;have Ld:=uU X (.int .u8 x.kind) (.int .u8 e1) (.int .i64 e2) (.int .u64 e3) (.string e4) (.slice e5 e6 e7) (.string x.name) x.args x.ab (.slice a1 x.args.length c1) (.slice a2 x.ab.length c2) bB bu x.kids a3 c3 bk ko ks Zo ha hm hr
    (fun i' x' ob=>ih x' (by have:=Nd.aH (Zv ob);omega) (mu iy (Zv ob)) _ (hr i' x' ob)) x.at_ st us bC U Vs T hS (i:Int) ⟨Zo,Zo⟩ env b es c hs (fun v hv=>⟨i,rfl,DB v hv⟩) (by rw[<- OM];exact bm)
   have hoq:mw U (i:Int)=some u.q:=by
    unfold mw;rw[if_neg Zo,vS,hu];rfl
   rw[hoq]at Ld;refine ae ?_;refine kK Ld Zr ZP (fun v Post hv=>?_) (fun ch Post hz=>?_);rotate_left
   ·exact zDU
   obtain⟨nX,ig,U2,V2,T2,⟨Cu,tG,tH,w,hw,rfl⟩,rfl⟩:=hv;simp only[aE];have hnum:w.num=st.outer.length:=(Cu.rep.un _ w hw).2.2.2.1;have f4:kB.cell w.q 4 (.int .i64 st.outer.length)∈WK U2 V2:=za hw _ (QA _ (Zw _ (kH.2 ⟨4,_,by unfold UC.row;rw[hnum];rfl,rfl⟩)));refine ae ?_;refine jJ ⟨.inr rfl,_,[kA X.wq 0 [.map (some X.fb),.map (some X.gb),nX],ai nX (U2.map fun u=>kL (some u.q)) ig,[.obj X.fb (.map X.bF X.fc)],[.obj X.gb (.map X.bH X.gc)],WK U2 V2,T2,[.obj b (.map es c)],X.S,[]],.aS (us:=[.int .u8 8,.string e0,.int .u8 0,.int .i64 0,.int .u64 0,.string e0,Nz,Nz,.int .i64 st.outer.length,.bool false,Nz,Nz,Nz]) Zr Zr (fun y hy=>by simp only[V6,Q7];repeat (first|exact Or.inl hy|refine Or.inr ?_)) .nil,aj.cut (M:=[kA X.wq 0 [.map (some X.fb),.map (some X.gb),nX],ai nX (U2.map fun u=>kL (some u.q)) ig,[.obj X.fb (.map X.bF X.fc)],[.obj X.gb (.map X.bH X.gc)],WK U2 V2,T2,[.obj b (.map es c)],X.S]) ZI (aj.perm Zs),⟨nX,ig,U2,V2,T2,_,⟨by rw[hP];exact Cu,tG,tH,_,rfl,?_⟩,rfl⟩⟩;rw[hP];exact xV (k:=8) (nm:=e0) (lit:=ij) (refs:=[]) (unit:=st.outer.length) (iQ:=false) (kids:=[]) (rows:=[]) (sv:=Nz) (sp:=[]) (vv:=Nz) (B:=[]) .nil (zJ.nil _ _) (oS _) (js.nil _) (wX.nil _) (zg.nil _)
  rw[show decide ((x.kind:Int)=7)=false from Zf Zo];refine jW ?_;by_cases h8:x.kind=8
  ·rw[show decide ((x.kind:Int)=8)=true from Zt Zo];have hP:=nz X.F X.G x.kind x.name x.lit x.args x.ab x.kids x.at_ st env i bf h8;rw[<- Nd.eta x]at hP;refine ae ?_;exact⟨_,simple 9 e0 x.kids a3 c3 bk ko ks (by rw[hP,if_neg Zo]) l9 ha hm hr Af iy (fun e=>absurd e Zo),ZU,aj.cut (M:=[kA fB 0 [.int .u8 9,.string e0,.int .u8 0,.int .i64 0,.int .u64 0,.string e0,Nz,Nz,.int .i64 0,.bool false,Nz,Nz,Nz],kA q5 0 (rN x.kind x.name e1 e2 e3 e4 e5 e6 e7 a1 x.args.length c1 a2 x.ab.length c2 a3 x.kids.length c3 x.at_),kA q8 0 [.int .u8 0,.string e0,.int .u8 0,.int .i64 0,.int .u64 0,.string e0,Nz,Nz,.int .i64 0,.bool false,Nz,Nz,Nz],kA X.wq 0 [.map (some X.fb),.map (some X.gb),us],ai us (U.map fun u=>kL (some u.q)) bC,[.obj X.fb (.map X.bF X.fc)],[.obj X.gb (.map X.bH X.gc)],WK U Vs,T,[.obj b (.map es c)],X.S]) ZI (aj.perm Zs)⟩
  rw[show decide ((x.kind:Int)=8)=false from Zf Zo];refine jW ?_;by_cases h9:x.kind=9
  ·rw[show decide ((x.kind:Int)=9)=true from Zt Zo];have hP:=nA X.F X.G x.kind x.name x.lit x.args x.ab x.kids x.at_ st env i bf h9;rw[<- Nd.eta x]at hP;refine ae ?_;exact⟨_,simple 10 e0 x.kids a3 c3 bk ko ks (by rw[hP,if_neg Zo]) l9 ha hm hr Af iy (fun e=>absurd e Zo),ZU,aj.cut (M:=[kA fB 0 [.int .u8 10,.string e0,.int .u8 0,.int .i64 0,.int .u64 0,.string e0,Nz,Nz,.int .i64 0,.bool false,Nz,Nz,Nz],kA q5 0 (rN x.kind x.name e1 e2 e3 e4 e5 e6 e7 a1 x.args.length c1 a2 x.ab.length c2 a3 x.kids.length c3 x.at_),kA q8 0 [.int .u8 0,.string e0,.int .u8 0,.int .i64 0,.int .u64 0,.string e0,Nz,Nz,.int .i64 0,.bool false,Nz,Nz,Nz],kA X.wq 0 [.map (some X.fb),.map (some X.gb),us],ai us (U.map fun u=>kL (some u.q)) bC,[.obj X.fb (.map X.bF X.fc)],[.obj X.gb (.map X.bH X.gc)],WK U Vs,T,[.obj b (.map es c)],X.S]) ZI (aj.perm Zs)⟩
  rw[show decide ((x.kind:Int)=9)=false from Zf Zo];refine jW ?_;by_cases h6:x.kind=6
  ·rw[show decide ((x.kind:Int)=6)=true from Zt Zo];have hP:=nw X.F X.G x.kind x.name x.lit x.args x.ab x.kids x.at_ st env i bf h6;rw[<- Nd.eta x]at hP;refine jW ?_;refine VC.draws ⟨?_,?_,trivial⟩
   all_goals
    refine ae ?_;exact⟨_,simple 7 x.name x.kids a3 c3 bk ko ks (by rw[hP,if_neg Zo]) l9 ha hm hr Af iy (fun e=>absurd e Zo),ZU,aj.cut (M:=[kA fB 0 [.int .u8 7,.string x.name,.int .u8 0,.int .i64 0,.int .u64 0,.string e0,Nz,Nz,.int .i64 0,.bool false,Nz,Nz,Nz],kA q5 0 (rN x.kind x.name e1 e2 e3 e4 e5 e6 e7 a1 x.args.length c1 a2 x.ab.length c2 a3 x.kids.length c3 x.at_),kA q8 0 [.int .u8 0,.string e0,.int .u8 0,.int .i64 0,.int .u64 0,.string e0,Nz,Nz,.int .i64 0,.bool false,Nz,Nz,Nz],kA X.wq 0 [.map (some X.fb),.map (some X.gb),us],ai us (U.map fun u=>kL (some u.q)) bC,[.obj X.fb (.map X.bF X.fc)],[.obj X.gb (.map X.bH X.gc)],WK U Vs,T,[.obj b (.map es c)],X.S]) ZI (aj.perm Zs)⟩
  rw[show decide ((x.kind:Int)=6)=false from Zf Zo];refine jW ?_;by_cases h5:x.kind=5
  ·rw[show decide ((x.kind:Int)=5)=true from Zt Zo];have hP:=nu X.F X.G x.kind x.name x.lit x.args x.ab x.kids x.at_ st env i bf h5;rw[<- Nd.eta x]at hP;refine ae ?_;exact⟨_,simple 6 e0 x.kids a3 c3 bk ko ks (by rw[hP,if_pos h5]) l9 ha hm hr Af iy (fun e=>by rcases hk5 with k|k;exact absurd e k;exact k),ZU,aj.cut (M:=[kA fB 0 [.int .u8 6,.string e0,.int .u8 0,.int .i64 0,.int .u64 0,.string e0,.slice none 0 0,.slice none 0 0,.int .i64 0,.bool false,.slice none 0 0,.slice none 0 0,.slice none 0 0],kA q5 0 (rN x.kind x.name e1 e2 e3 e4 e5 e6 e7 a1 x.args.length c1 a2 x.ab.length c2 a3 x.kids.length c3 x.at_),kA q8 0 [.int .u8 0,.string e0,.int .u8 0,.int .i64 0,.int .u64 0,.string e0,.slice none 0 0,.slice none 0 0,.int .i64 0,.bool false,.slice none 0 0,.slice none 0 0,.slice none 0 0],kA X.wq 0 [.map (some X.fb),.map (some X.gb),us],ai us (U.map fun u=>kL (some u.q)) bC,[.obj X.fb (.map X.bF X.fc)],[.obj X.gb (.map X.bH X.gc)],WK U Vs,T,[.obj b (.map es c)],X.S]) ZI (aj.perm Zs)⟩
  rw[show decide ((x.kind:Int)=5)=false from Zf Zo];refine jW ?_;have h4:x.kind=4:=by omega
  have tZ:0 < x.kids.length:=by rcases hk4 with k|k;exact absurd h4 k;exact k
  cases Lu:jM x.kids with
  |false=>
   have hP:=nt X.F X.G x.kind x.name x.lit x.args x.ab x.kids x.at_ st env i bf Zo Lu;rw[<- Nd.eta x]at hP;refine VC.seq (VC.draws ⟨?_,?_,trivial⟩)
   all_goals
    refine ae ?_;exact⟨_,simple 4 x.name x.kids a3 c3 bk ko ks (by rw[hP,if_neg Zo]) l9 ha hm hr Af iy (fun e=>absurd e Zo),ZU,aj.cut (M:=[kA fB 0 [.int .u8 4,.string x.name,.int .u8 0,.int .i64 0,.int .u64 0,.string e0,Nz,Nz,.int .i64 0,.bool false,Nz,Nz,Nz],kA q5 0 (rN x.kind x.name e1 e2 e3 e4 e5 e6 e7 a1 x.args.length c1 a2 x.ab.length c2 a3 x.kids.length c3 x.at_),kA q8 0 [.int .u8 0,.string e0,.int .u8 0,.int .i64 0,.int .u64 0,.string e0,Nz,Nz,.int .i64 0,.bool false,Nz,Nz,Nz],kA X.wq 0 [.map (some X.fb),.map (some X.gb),us],ai us (U.map fun u=>kL (some u.q)) bC,[.obj X.fb (.map X.bF X.fc)],[.obj X.gb (.map X.bH X.gc)],WK U Vs,T,[.obj b (.map es c)],X.S]) ZI (aj.perm Zs)⟩
  |true=>
   have hP:=gX X.F X.G x.kind x.name x.lit x.args x.ab x.kids x.at_ st env i bf Zo Lu;rw[<- Nd.eta x]at hP;obtain rfl:=ha tZ;have tI:x.kids.tail.length=x.kids.length - 1:=List.length_tail;have hgt:∀j,x.kids.tail[j]? =x.kids[j+1]?:=fun j=>by rw[List.getElem?_tail]
   have hsz2:Nd.aq x.kids.tail<=N/\jO x.kids.tail<=jO x.kids/\qg x.kids.tail=true:=by
    cases hkk2:x.kids with
    |nil=>rw[hkk2]at tZ;simp at tZ
    |cons y l=>
     rw[hkk2]at Af iy;simp only[Nd.aq]at Af;simp only[qg,vF]at iy;simp only[List.tail_cons,jO];exact⟨Zo,Zo,iy.2⟩
   obtain⟨o',xw⟩:∃o',o'=(if c3=1 then ko else ko+1*11):=⟨_,rfl⟩;refine VC.seq (VC.draws ⟨?_,?_,trivial⟩)
   all_goals
    refine ae ?_;refine mO (l:=1) Zr Zr rfl ⟨Zo,tX⟩ ?_;rw[<- xw,show x.kids.length - 1=x.kids.tail.length from tI.symm];refine ae ?_;exact⟨_,simple 5 x.name x.kids.tail (some ⟨bk,o',none⟩) (c3 - 1) bk (ko+11) (fun j=>ks (j+1)) (by rw[hP,if_neg Zo]) (l9.mono hsz2.2.1) (fun h0=>by rw[xw,if_neg Zo]) (fun j hj y hy=>hm (j+1) Zo y (by rw[show ko+(j+1)*11=ko+11+j*11 by omega];exact hy)) (fun j y hy=>hr (j+1) y (by rw[<- hgt];exact hy)) hsz2.1 hsz2.2.2 (fun e=>absurd e Zo),ZU,aj.cut (M:=[kA fB 0 [.int .u8 5,.string x.name,.int .u8 0,.int .i64 0,.int .u64 0,.string e0,Nz,Nz,.int .i64 0,.bool false,Nz,Nz,Nz],kA q5 0 (rN x.kind x.name e1 e2 e3 e4 e5 e6 e7 a1 x.args.length c1 a2 x.ab.length c2 (some ⟨bk,ko,none⟩) x.kids.length c3 x.at_),kA q8 0 [.int .u8 0,.string e0,.int .u8 0,.int .i64 0,.int .u64 0,.string e0,Nz,Nz,.int .i64 0,.bool false,Nz,Nz,Nz],kA X.wq 0 [.map (some X.fb),.map (some X.gb),us],ai us (U.map fun u=>kL (some u.q)) bC,[.obj X.fb (.map X.bF X.fc)],[.obj X.gb (.map X.bH X.gc)],WK U Vs,T,[.obj b (.map es c)],X.S]) ZI (aj.perm Zs)⟩
 rintro⟨k,nm,lit,l1,l2,l3,l4,l5,refs,rv,vv,l,a,ac,XQ,o',ks',bJ,Ay,nY,U1,V1,T1,B⟩ hp
 obtain⟨g1,g2,g3,g4,g5,g6,g7,g8,g9,g10,g11,g12,g13,g14,g15,g16,g17⟩:=hp;simp only at g1 g2 g3 g4 g5 g6 g7 g8 g9 g10 g11 g12 g13 g14 g15 g16 g17;dsimp only;obtain⟨w,hw,pD⟩:=su hu g9;have UE:∀v∈env,bJ.af v∈bJ.line i:=fun v hv=>by
  obtain⟨k1,k2⟩:=sn g8 hS.rep.wf g7.rep.wf cf (hs.lt v hv);rw[k1,k2];exact DB v hv
 have Ln:=C6 l;have ap:=uP X l a ac XQ o' ks' Zo g12 g13 g14 (fun j y hy=>ih y (by have:=Nd.aH (Zv hy);omega) (mu g16 (Zv hy)) _ (g14 j y hy)) bJ Ay nY U1 V1 T1 g7 i w hw env b es c (hs.more g8.vars g10 hS.rep.vl) UE g11;rw[pD]at ap;have hlA:=NT X.F X.G l bJ env i;obtain⟨A,hA⟩:∃A,A=kT X.F X.G l bJ env i:=⟨_,rfl⟩;rw[<- hA]at ap g1 hlA;obtain⟨ra,rc,GU⟩:∃ra rc,rv=.slice ra (wg refs).length rc:=let⟨x1,x2,x3,_⟩:=g3;⟨x1,x2,x3⟩;obtain⟨va,vc,Tg⟩:∃va vc,vv=.slice va ((et refs).map fun r=>(V1.map au.q).getD r.index.toNat 0).length vc:=let⟨x1,x2,x3,_⟩:=g4;⟨x1,x2,x3⟩;obtain⟨y1,y2,y3,y4,y5,y6,y7,JT⟩:∃(y1:Nat) (y2:Int) (y3:Nat) (y4:ByteArray) (y5:Option Addr) (y6 y7:Nat),[l1,l2,l3,l4,l5]=[.int .u8 y1,.int .i64 y2,.int .u64 y3,.string y4,.slice y5 y6 y7]:=by
  generalize hx:[l1,l2,l3,l4,l5]=lv at g2;cases g2 with
  |mk Nw GL pC ez=>exact⟨_,_,_,_,_,_,_,rfl⟩
 simp only[ve,and_true]at JT;obtain⟨rfl,rfl,rfl,rfl,rfl⟩:=JT;have bP:∀(iT:Value) (cW:List Value) (U4:List UC) (V4:List au) (T4:List kB) (sv:Value) (rows:List (List Value)) (sp:List Value) (B':List kB) (ps:List PN),V1.map au.q <+:V4.map au.q->kY 13 sv ps.length rows.flatten sp->zJ B' (V4.map au.q) ps rows->
  uJ (ai sv rows.flatten sp++(B'++B)) (V4.map au.q) (.mk k nm lit refs 0 false ps) ([cv k,.string nm]++[.int .u8 y1,.int .i64 y2,.int .u64 y3,.string y4,.slice y5 y6 y7]++[rv,.int .i64 0,.bool false,Nz,vv,sv]):=fun iT cW U4 V4 T4 sv rows sp B' ps CP bh dB=>by
  refine xV bh (dB.more (fun x hx=>Zw _ hx) (QT _)) (g2.more fun x hx=>Q8 _ hx) (g3.more fun x hx=>Q8 _ hx) ?_ (g5.more CP) g6;rw[Bq g5 CP];exact g4.more fun x hx=>Q8 _ hx
 subst GU;subst Tg;generalize Nl:(wg refs).length=n1 at*;generalize JY:((et refs).map fun r=>(V1.map au.q).getD r.index.toNat 0).length=n2 at*;refine ae ?_;refine kK ap Zr ZP (fun v Post hv=>?_) (fun ch Post hz=>?_);rotate_left
 ·obtain⟨q1,Ni,p1,eg,rfl,rfl⟩:=hz;exact⟨[X.S,jL q1 Ni p1],ZI,q1,Ni,p1,by rw[g1];exact eg,rfl,rfl⟩
 obtain⟨iT,cW,U4,V4,T4,B4,⟨Us,Lr,CO,rows,yo,B5,Ae,cG,rfl⟩,rfl⟩:=hv;simp only[aE];obtain⟨sa,sc,rfl⟩:=Ae.form;refine jW ?_;refine VC.join (α:=List (List Value)×List PN) (aW:=fun _=>[(8,kE q8),(12,kE fB)]) (Hf:=fun p=>[kA fB 0 [.int .u8 k,.string nm,.int .u8 y1,.int .i64 y2,.int .u64 y3,.string y4,.slice y5 y6 y7,.slice ra n1 rc,.int .i64 0,.bool false,Nz,.slice va n2 vc,.slice sa A.1.length sc],kA q8 0 [.int .u8 0,.string e0,.int .u8 0,.int .i64 0,.int .u64 0,.string e0,Nz,Nz,.int .i64 0,.bool false,Nz,Nz,Nz],kA X.wq 0 [.map (some X.fb),.map (some X.gb),iT],ai iT (U4.map fun u=>kL (some u.q)) cW,[.obj X.fb (.map X.bF X.fc)],[.obj X.gb (.map X.bH X.gc)],WK U4 V4,T4,[.obj b (.map es c)],X.S,ai (.slice sa A.1.length sc) p.1.flatten yo,B5,B]) (I:=fun p=>p.2=(if x.kind=5 then zK (jM x.kids) A.1 else A.1)/\kY 13 (.slice sa A.1.length sc) p.2.length p.1.flatten yo/\zJ B5 (V4.map au.q) p.2 p.1) ?_ ?_
 ·refine jW ?_;by_cases h5:x.kind=5;rotate_left
  ·rw[show decide ((x.kind:Int)=5)=false from Zf Zo];refine ae ?_;exact⟨(rows,A.1),⟨by rw[if_neg h5],Ae,cG⟩,ZU,aj.cut (M:=[kA fB 0 [.int .u8 k,.string nm,.int .u8 y1,.int .i64 y2,.int .u64 y3,.string y4,.slice y5 y6 y7,.slice ra n1 rc,.int .i64 0,.bool false,Nz,.slice va n2 vc,.slice sa A.1.length sc],kA q8 0 [.int .u8 0,.string e0,.int .u8 0,.int .i64 0,.int .u64 0,.string e0,Nz,Nz,.int .i64 0,.bool false,Nz,Nz,Nz],kA X.wq 0 [.map (some X.fb),.map (some X.gb),iT],ai iT (U4.map fun u=>kL (some u.q)) cW,[.obj X.fb (.map X.bF X.fc)],[.obj X.gb (.map X.bH X.gc)],WK U4 V4,T4,[.obj b (.map es c)],X.S,ai (.slice sa A.1.length sc) rows.flatten yo++B5,B]) ZI (aj.perm Zs)⟩
  rw[show decide ((x.kind:Int)=5)=true from Zt Zo];have AY:=g17 h5;obtain⟨sb,so,sc2,gO,hscl,hsla⟩:=A8 Ae Zo;simp only[Value.slice.injEq,true_and]at gO;obtain⟨rfl,rfl⟩:=gO;have hrl:rows.length=A.1.length:=cG.len;obtain⟨so',hso'⟩:∃so',so'=(if sc=1 then so else so+1*13):=⟨_,rfl⟩;refine ae ?_;refine mO (l:=1) Zr Zr rfl ⟨Zo,hscl⟩ ?_;rw[<- hso'];refine ae ?_;refine VC.loop (α:=Nat) (aW:=fun j=>[(8,kE q8),(12,kE fB),(14,.bool (jM x.kids)),(144,vi ((A.1.length - 1:Nat):Int)),(145,vi j)]) (Hf:=fun j=>[kA fB 0 [.int .u8 k,.string nm,.int .u8 y1,.int .i64 y2,.int .u64 y3,.string y4,.slice y5 y6 y7,.slice ra n1 rc,.int .i64 0,.bool false,Nz,.slice va n2 vc,.slice (some ⟨sb,so,none⟩) A.1.length sc],kA q8 0 [.int .u8 0,.string e0,.int .u8 0,.int .i64 0,.int .u64 0,.string e0,Nz,Nz,.int .i64 0,.bool false,Nz,Nz,Nz],kA X.wq 0 [.map (some X.fb),.map (some X.gb),iT],ai iT (U4.map fun u=>kL (some u.q)) cW,[.obj X.fb (.map X.bF X.fc)],[.obj X.gb (.map X.bH X.gc)],WK U4 V4,T4,[.obj b (.map es c)],X.S,kA sb so ((wQ (jM x.kids) rows j).flatten++yo),B5,B]) (I:=fun j=>j<=A.1.length - 1) (μ:=fun j=>A.1.length - 1 - j) 0 (Qs _) ZU (by rw[MQ,<- hsla];exact aj.cut (M:=[kA fB 0 [.int .u8 k,.string nm,.int .u8 y1,.int .i64 y2,.int .u64 y3,.string y4,.slice y5 y6 y7,.slice ra n1 rc,.int .i64 0,.bool false,Nz,.slice va n2 vc,.slice (some ⟨sb,so,none⟩) A.1.length sc],kA q8 0 [.int .u8 0,.string e0,.int .u8 0,.int .i64 0,.int .u64 0,.string e0,Nz,Nz,.int .i64 0,.bool false,Nz,Nz,Nz],kA X.wq 0 [.map (some X.fb),.map (some X.gb),iT],ai iT (U4.map fun u=>kL (some u.q)) cW,[.obj X.fb (.map X.bF X.fc)],[.obj X.gb (.map X.bH X.gc)],WK U4 V4,T4,[.obj b (.map es c)],X.S,ai (.slice (some ⟨sb,so,none⟩) A.1.length sc) rows.flatten yo++B5,B]) ZI (aj.perm Zs)) ?_;intro j hj;refine ae ?_;by_cases aI:j < A.1.length - 1;rotate_left
  ·rw[show decide ((j:Int) < ((A.1.length - 1:Nat):Int))=false from Zf Zo];have Z1:j=A.1.length - 1:=by omega
   subst Z1;refine ae ?_;refine⟨(wQ (jM x.kids) rows (A.1.length - 1),zK (jM x.kids) A.1),⟨by rw[if_pos h5],?_,Da cG _⟩,ZU,by rw[hsla];exact bE⟩;rw[Ja];exact Ae.other (by rw[pN (hZ cG.w),pN cG.w,wC])
  rw[show decide ((j:Int) < ((A.1.length - 1:Nat):Int))=true from Zt Zo];obtain⟨r,ud⟩:∃r,rows[j+1]? =some r:=⟨_,Zg Zo⟩;have hrw:=cG.w r (Zv ud);have hsj:(wQ (jM x.kids) rows j)[j+1]? =some r:=by rw[wu ud,if_neg Zo]
  have xz:((wQ (jM x.kids) rows j).flatten++yo).set ((j+1)*13+9) (.bool (jM x.kids))=(wQ (jM x.kids) rows (j+1)).flatten++yo:=by
   have fJ:=pN (hZ (b:=jM x.kids) (j:=j) cG.w);rw[wC]at fJ;rw[List.set_append_left _ _ (by rw[fJ];omega),Ot (hZ cG.w) hsj Zd,Dm ud]
  refine ae ?_;refine jk (us:=[.bool (jM x.kids)]) Zr Zr Zr Zr Zr (.there (.there (.there (.there (.there (.there (.there (.there (.there (.there (iY.IZ (i:=(j+1)*13+9) Zo ?_))))))))))) ?_
  ·have fJ:=pN (hZ (b:=jM x.kids) (j:=j) cG.w);rw[wC]at fJ;rw[Vo,fJ];omega
  rw[xz];refine ae ?_;exact⟨j+1,Zo,Zo,ZU,ZI⟩
 rintro⟨YJ,ps⟩ ⟨GQ,hsl5,O0⟩
 simp only at GQ hsl5 O0;dsimp only;rw[<- GQ]at g1;have CN:=bP iT cW U4 V4 T4 _ _ _ _ ps CO hsl5 O0;refine ae ?_;refine jJ ⟨.inr rfl,_,[kA X.wq 0 [.map (some X.fb),.map (some X.gb),iT],ai iT (U4.map fun u=>kL (some u.q)) cW,[.obj X.fb (.map X.bF X.fc)],[.obj X.gb (.map X.bH X.gc)],WK U4 V4,T4,[.obj b (.map es c)],X.S,ai (.slice sa A.1.length sc) YJ.flatten yo++(B5++B)],.aS (us:=[.int .u8 k,.string nm,.int .u8 y1,.int .i64 y2,.int .u64 y3,.string y4,.slice y5 y6 y7,.slice ra n1 rc,.int .i64 0,.bool false,Nz,.slice va n2 vc,.slice sa A.1.length sc]) Zr Zr (fun y hy=>by simp only[V6,Q7];repeat (first|exact Or.inl hy|refine Or.inr ?_)) .nil,aj.cut (M:=[kA X.wq 0 [.map (some X.fb),.map (some X.gb),iT],ai iT (U4.map fun u=>kL (some u.q)) cW,[.obj X.fb (.map X.bF X.fc)],[.obj X.gb (.map X.bH X.gc)],WK U4 V4,T4,[.obj b (.map es c)],X.S,ai (.slice sa A.1.length sc) YJ.flatten yo,B5,B]) ZI (aj.perm Zs),⟨iT,cW,U4,V4,T4,_,⟨by rw[g1];exact Us,g9.trans Lr,g10.trans CO,_,rfl,by rw[g1];exact CN⟩,rfl⟩⟩
theorem WZ(X:Fix)(hX:NI X):∀N,N < 1073741824->∀x,x.size<=N->Rw x=true->∀vs,j7 X.S x vs->ot X x vs:=by
 intro N
 induction N with
 |zero=>intro _ x hx;have:=x.size_pos;omega
 |succ N ih=>exact fun hN x hx aN vs h=>Mz X hX N Zo (ih Zo) x hx aN vs h
end Go.Proofs.YtijnokbblmbpkaaGreatDoor
namespace Go.V
open Go
structure AD (F:List ByteArray)(j:Nat)(es:Array MapEntry)(c:Nat):Prop where
 is:∃m:List (ByteArray×Nat),zW zw (fun n:Nat=>.int .i64 n) es c m/\∀nm,ky nm m=(F.take j).findIdx? (fun s=>decide (s=nm))
structure AG (G:List ByteArray)(j:Nat)(es:Array MapEntry)(c:Nat):Prop where
 is:∃m:List (ByteArray×Nat),zW zw (fun n:Nat=>.int .i64 n) es c m/\(∀nm,decide ((ky nm m).getD 0=0)=!(G.take j).any (fun s=>decide (s=nm)))/\∀nm,(ky nm m).getD 0<=j
theorem AD.nil(F:List ByteArray):AD F 0 #[] 0:=⟨[],.nil,fun _=>by rw[Qd];rfl⟩
theorem AG.nil(G:List ByteArray):AG G 0 #[] 0:=⟨[],.nil,fun _=>by rw[Qd];rfl,fun _=>Qs _⟩
theorem AD.all {F:List ByteArray}{j:Nat}{es:Array MapEntry}{c:Nat}(h:AD F j es c)(hj:F.length<=j):pE F es c:=by
 obtain⟨m,h1,h2⟩:=h.is;rw[Qc hj]at h2;exact⟨m,h1,h2⟩
theorem AG.all {G:List ByteArray}{j:Nat}{es:Array MapEntry}{c:Nat}(h:AG G j es c)(hj:G.length<=j):tS G es c:=by
 obtain⟨m,h1,h2,_⟩:=h.is;rw[Qc hj]at h2;exact⟨m,h1,h2⟩
theorem xi {F:List ByteArray}{j:Nat}{s:ByteArray}(hs:F[j]? =some s)(nm:ByteArray):(F.take (j+1)).findIdx? (fun t=>decide (t=nm))=((F.take j).findIdx? (fun t=>decide (t=nm))).or (if s=nm then some j else none):=by
 have hl:=(Vh.1 hs).1;have e:F.take (j+1)=F.take j++[s]:=by rw[QY,hs];rfl
 rw[e,List.findIdx?_append,Vz,Nat.min_eq_left Zo]
 congr 1
 rw[vw,List.findIdx?_nil];by_cases c:s=nm
 ·rw[Zt c,if_pos c];simp
 ·rw[Zf c,if_neg c];simp
theorem Ow {G:List ByteArray}{j:Nat}{s:ByteArray}(hs:G[j]? =some s)(nm:ByteArray):(G.take (j+1)).any (fun t=>decide (t=nm))=((G.take j).any (fun t=>decide (t=nm))||decide (s=nm)):=by
 have e:G.take (j+1)=G.take j++[s]:=by rw[QY,hs];rfl
 rw[e,List.any_append,List.any_cons,List.any_nil,vQ]
theorem MM(F G args ab:List ByteArray)(kids:List Nd)(hk:∀y∈kids,kN y≠none):jd F G (s8 F G args ab kids) [] (jp ([]++args++ab) [] kids):=by
 unfold s8;rw[zP];have JI:=cO (F:=F) (G:=G) 0 true true 0 args 0 (qK.aM (-1) args.length) [] [] rfl;have hE:zI (qK.aM (-1) args.length) [] []:=⟨(fun v h=>by cases h),fun nm=>by rw[eV];simp⟩;have Up:=zI.decl 0 true true 0 args 0 _ [] [] hE;have Ur:zI (bn args ab 0 qK [] (-1)).1 (bn args ab 0 qK [] (-1)).2 ([]++args++ab):=zI.decl 0 false true 0 ab 0 _ _ _ Up;have JJ:jd F G (bn args ab 0 qK [] (-1)).1 [] []:=JI.comp (fun hf=>cO 0 false true 0 ab 0 _ _ [] hf) (zE _ _ _ _ _ _ _ _) (fun _ k=>k);have ap:∀(l:List Nd),(∀y∈l,kN y≠none)->∀st env u seen out,st.f=none->zI st env seen->jd F G (kT F G l st env u).2 out (jp seen out l):=by
  intro l
  induction l with
  |nil=>intro _ st env u seen out h hs;rw[kT,jp];exact jd.refl h
  |cons x r xB=>
   intro hd st env u seen out h hs;rw[wL,jp];have g:=(zZ F G _ x (Qj _) st env u).1;exact(Mv F G _ x (Qj _) (hd x Zs) st env u seen out h hs).1.comp (fun hf=>xB (fun y hy=>hd y (by simp[hy])) _ env u seen _ hf (hs.gr g.vars)) (wU F G r _ env u) (zU seen r _)
 exact(JJ.comp (fun hf=>ap kids hk (bn args ab 0 qK [] (-1)).1 (bn args ab 0 qK [] (-1)).2 0 _ [] hf Ur) (wU F G kids _ _ _) (zU _ kids _)).of rfl
theorem NY {st:ah}{e:Nat}{p:Int}(h:st.f=some (e,p)):st.answer=([],e,p):=by
 unfold ah.answer;rw[h]
end Go.V
namespace Go.Proofs.YtijnokbblmbpkaaGreatDoor
open Go Go.V
set_option maxHeartbeats 12800000
set_option maxRecDepth 100000
theorem MI(a b:Nat)(A:List kB)(B:List kB):gz Tryz.prog 48 [kE a,kE b] .returning .returning [A,B] (fun Post=>Post=[A,B]):=by
 refine gz.intro Yx (by simp[n48]) .none ?_;refine ae ?_;refine ox.seq (ox.lE ?_);refine ae ?_;refine ox.cond (t:=false) Zr (fun h=>by cases h) (fun _=>ox.skip ?_);exact kG (Post:=[A,B]) (.inl rfl) .nil rfl ZI
theorem Bv(q6 q7 q e:Nat)(p:Int)(v1:Value)(v2:Value)(v3:Value)(v4:Value):gz Tryz.prog 48 [kE q6,kE q7] (.panicking (oI q)) (.panicking [{v:=Ej q,recovered:=true}]) [kA q6 0 [v1,v2,v3],kA q7 0 [v4],jL q e p] (fun Post=>Post=[kA q6 0 [.string e0,.int .i64 0,Nz],kA q7 0 [Ej q],jL q e p]):=by
 refine gz.intro Yx (by simp[n48]) .some ?_;unfold Ej;refine ae ?_;refine ox.seq (ox.lE ?_);refine ae ?_;refine ox.cond (t:=true) Zr (fun _=>ox.lE ?_) (fun h=>by cases h);refine ae ?_;exact kG (Post:=[kA q6 0 [.string e0,.int .i64 0,Nz],kA q7 0 [.iface 80 (kE q)],jL q e p]) (.inl rfl) .nil rfl (by unfold e0;exact bE)
def DS(F G:List ByteArray)(x:Md):List yA×Nat×Int:=if zM x=0 then(s8 F G x.args x.ab x.body).answer else([],zM x,0)
def ResR(S:List kB)(F G:List ByteArray)(x:Md)(v:Value)(Post:SH):Prop:=
 (∃l Gv B,DS F G x=(l,0,0)/\v=.tuple #[.agg #[.string x.aQ,vi x.aL,Gv],.nilIface]/\NP B Gv l/\Post=[S,B])∨
 (∃e p q,DS F G x=([],e,p)/\e≠0/\v=.tuple #[.agg #[.string e0,.int .i64 0,Nz],.iface 80 (kE q)]/\Post=[S,jL q e p])
theorem Cc {x:Md}(h:zM x=0):∀y∈x.body,kN y≠none:=by
 have hm:eB x≠none:=by
  intro e;unfold zM at h;rw[e]at h;cases h
 unfold eB at hm;have h1:=(p8 (p8 (wH hm).2).2).2;rw[<- jZ]at h1;exact Gk (xR h1)
theorem Ms {x:Md}(h:zM x=0)(hw:Nd.ws x.body<=274877906944):qg x.body=true:=Ke fun y hy=>Re y (Cc h y hy) (by have:=Nd.bY hy;omega)
theorem pG(S:List kB)(x:Md)(vs:List Value)(h:DN S x vs)(F G:List ByteArray)(fv gv:Value)(hF:du S fv F)(hG:du S gv G)(hFl:F.length<=1048576)(hGl:G.length<=1048576)(ZN:tz x.args x.ab x.body<=1048576)(gh:Nd.aq x.body<=1048576)(hw:Nd.ws x.body<=274877906944):
 ao Tryz.prog 15 [.agg vs.toArray,fv,gv] [S] (fun v Post=>ResR S F G x v Post):=by
 have hchk:=G2 S x vs h;obtain⟨⟨aa,ac,ta,tc,a,c,bk,o,us,rfl,bB,bu,bA⟩,bK,J1⟩:=h;obtain⟨fa,fc,rfl,fJ,AV⟩:=hF;obtain⟨ga,gc,rfl,hgl,Ew⟩:=hG;refine ao.J7 low15 (by simp[n15]) ?_;simp only[F15,Ba,VDP];refine ae ?_;refine kW Zr (fun q3=>?_);simp only[Value.cells];refine kM (fun q6=>?_);refine kM (fun q7=>?_);refine ae ?_;refine kI hchk Zr ZP (fun v Post hv=>?_);obtain⟨rfl,rfl⟩:=hv;simp only[aE];refine ae ?_;have hc255:zM x < 256:=by
  unfold zM Ub
  repeat' split
  all_goals omega
 by_cases hc:zM x=0;rotate_left
 ·rw[show decide ((zM x:Int)=0)=false from Zf Zo];refine ae ?_;refine kW Zr (fun q=>?_);simp only[Value.cells];refine ae ?_;refine⟨.inr rfl,[.agg #[.string e0,.int .i64 0,Nz],.iface 80 (kE q)],[S,jL q (zM x) 0],.aS (us:=[.string e0,.int .i64 0,Nz]) Zr Zr (fun y hy=>by simp only[V6,Q7];repeat (first|exact Or.inl hy|refine Or.inr ?_)) (.bT Zr Jo .nil),by unfold jL Ra;exact bE,.inr ⟨zM x,0,q,by unfold DS;rw[if_neg hc],hc,rfl,rfl⟩⟩
 rw[show decide ((zM x:Int)=0)=true from Zt Zo];have Lc:DS F G x=(s8 F G x.args x.ab x.body).answer:=by unfold DS;rw[if_pos hc]
 have hkD:=Cc hc;have iy:=Ms hc hw;refine ae ?_;refine⟨[kE q6,kE q7],Zr,?_⟩;refine ae ?_;refine ia (fun fb=>?_);refine ae ?_;refine ia (fun gb=>?_);refine ae ?_;refine kW Zr (fun wq=>?_);simp only[Value.cells];refine jW ?_;refine VC.join (α:=Array MapEntry×Nat) (aW:=fun _=>[(2,.slice ga G.length gc),(3,kE q3),(6,kE q6),(7,kE q7),(9,kE wq)]) (Hf:=fun s=>[kA wq 0 [.map (some fb),.map (some gb),Nz],[.obj fb (.map s.1 s.2)],[.obj gb (.map #[] 0)],S,kA q7 0 [.nilIface],kA q6 0 [.string e0,.int .i64 0,Nz],kA q3 0 [.string x.aQ,.slice aa x.args.length ac,.slice ta x.ab.length tc,vi x.aL,.slice a x.body.length c]]) (I:=fun s=>pE F s.1 s.2) ?_ ?_
 ·refine ae ?_;refine VC.loop (α:=Nat×Array MapEntry×Nat) (aW:=fun s=>[(2,.slice ga G.length gc),(3,kE q3),(6,kE q6),(7,kE q7),(9,kE wq),(31,.slice fa F.length fc),(32,vi F.length),(33,vi s.1)]) (Hf:=fun s=>[kA wq 0 [.map (some fb),.map (some gb),Nz],[.obj fb (.map s.2.1 s.2.2)],[.obj gb (.map #[] 0)],S,kA q7 0 [.nilIface],kA q6 0 [.string e0,.int .i64 0,Nz],kA q3 0 [.string x.aQ,.slice aa x.args.length ac,.slice ta x.ab.length tc,vi x.aL,.slice a x.body.length c]]) (I:=fun s=>s.1<=F.length/\AD F s.1 s.2.1 s.2.2) (μ:=fun s=>F.length - s.1) (0,#[],0) ⟨Qs _,AD.nil F⟩ ZU (by unfold e0;exact bE) ?_
  rintro⟨j,es,c0⟩ ⟨hj,S8⟩
  simp only at hj S8;dsimp only;refine ae ?_;by_cases aI:j < F.length;rotate_left
  ·rw[show decide ((j:Int) < (F.length:Int))=false from Zf Zo];refine ae ?_;exact⟨(es,c0),S8.all Zo,ZU,ZI⟩
  rw[show decide ((j:Int) < (F.length:Int))=true from Zt Zo];obtain⟨s,hs⟩:∃s,F[j]? =some s:=⟨_,Zg aI⟩;obtain⟨b1,o1,rfl,lg,Ψ⟩:=AV j s hs;obtain⟨m,re,pC⟩:=S8.is;refine ae ?_;refine wd (E:=zw) (V:=fun n:Nat=>.int .i64 n) (k:=s) Zr Zr rfl (.there .here) re ?_;cases hg:ky s m with
  |some i0=>
   refine ae ?_;refine⟨(j+1,es,c0),⟨by simp only;omega,⟨m,re,fun nm=>?_⟩⟩,by simp only;omega,ZU,ZI⟩;show ky nm m=(F.take (j+1)).findIdx? _;rw[xi hs,<- pC];by_cases e:s=nm
   ·subst e;rw[hg];rfl
   ·rw[if_neg e];simp
  |none=>
   refine ae ?_;refine wa (E:=zw) (V:=fun n:Nat=>.int .i64 n) (k:=s) (v:=j) Zr Zr Zr rfl ZK re (fun cp c' ly=>?_);refine ae ?_;refine⟨(j+1,cp,c'),⟨by simp only;omega,⟨jc s j m,ly,fun nm=>?_⟩⟩,by simp only;omega,ZU,ZI⟩;show ky nm (jc s j m)=(F.take (j+1)).findIdx? _;rw[xi hs,<- pC,jv];by_cases e:s=nm
   ·subst e;rw[if_pos rfl,if_pos rfl,hg];rfl
   ·rw[if_neg e,if_neg e];simp
 rintro⟨bF,fcl⟩ JP
 simp only at JP;dsimp only;refine VC.join (α:=Array MapEntry×Nat) (aW:=fun _=>[(3,kE q3),(6,kE q6),(7,kE q7),(9,kE wq)]) (Hf:=fun s=>[kA wq 0 [.map (some fb),.map (some gb),Nz],[.obj fb (.map bF fcl)],[.obj gb (.map s.1 s.2)],S,kA q7 0 [.nilIface],kA q6 0 [.string e0,.int .i64 0,Nz],kA q3 0 [.string x.aQ,.slice aa x.args.length ac,.slice ta x.ab.length tc,vi x.aL,.slice a x.body.length c]]) (I:=fun s=>tS G s.1 s.2) ?_ ?_
 ·refine ae ?_;refine VC.loop (α:=Nat×Array MapEntry×Nat) (aW:=fun s=>[(3,kE q3),(6,kE q6),(7,kE q7),(9,kE wq),(56,.slice ga G.length gc),(57,vi G.length),(58,vi s.1)]) (Hf:=fun s=>[kA wq 0 [.map (some fb),.map (some gb),Nz],[.obj fb (.map bF fcl)],[.obj gb (.map s.2.1 s.2.2)],S,kA q7 0 [.nilIface],kA q6 0 [.string e0,.int .i64 0,Nz],kA q3 0 [.string x.aQ,.slice aa x.args.length ac,.slice ta x.ab.length tc,vi x.aL,.slice a x.body.length c]]) (I:=fun s=>s.1<=G.length/\AG G s.1 s.2.1 s.2.2) (μ:=fun s=>G.length - s.1) (0,#[],0) ⟨Qs _,AG.nil G⟩ ZU ZI ?_
  rintro⟨j,es,c0⟩ ⟨hj,hgd⟩
  simp only at hj hgd;dsimp only;refine ae ?_;by_cases aI:j < G.length;rotate_left
  ·rw[show decide ((j:Int) < (G.length:Int))=false from Zf Zo];refine ae ?_;exact⟨(es,c0),hgd.all Zo,ZU,ZI⟩
  rw[show decide ((j:Int) < (G.length:Int))=true from Zt Zo];obtain⟨s,hs⟩:∃s,G[j]? =some s:=⟨_,Zg aI⟩;obtain⟨b1,o1,rfl,lg,Ψ⟩:=Ew j s hs;obtain⟨m,re,pC,hm3⟩:=hgd.is;have JW:=hm3 s;refine ae ?_;refine wd (E:=zw) (V:=fun n:Nat=>.int .i64 n) (k:=s) Zr Zr rfl (.there (.there .here)) re ?_;have JT:mo false (.int .i64 0) ((ky s m).map fun n:Nat=>.int .i64 n)=.int .i64 ((ky s m).getD 0:Nat):=by cases ky s m <;> rfl
  rw[JT];generalize hgn:(ky s m).getD 0=gn at JW;refine ae ?_;refine wa (E:=zw) (V:=fun n:Nat=>.int .i64 n) (k:=s) (v:=gn+1) Zr Zr Zr rfl ZK re (fun cp c' ly=>?_);refine ae ?_;refine⟨(j+1,cp,c'),⟨by simp only;omega,⟨jc s (gn+1) m,ly,fun nm=>?_,fun nm=>?_⟩⟩,by simp only;omega,ZU,ZI⟩
  ·show decide ((ky nm (jc s (gn+1) m)).getD 0=0)=!(G.take (j+1)).any _;rw[Ow hs,jv];by_cases e:s=nm
   ·subst e;simp
   ·rw[if_neg e,Zf e,vQ];exact pC nm
  ·show(ky nm (jc s (gn+1) m)).getD 0<=j+1;rw[jv];by_cases e:s=nm
   ·rw[if_pos e];show gn+1<=j+1;omega
   ·rw[if_neg e];have:=hm3 nm;omega
 rintro⟨bH,gcl⟩ OS
 simp only at OS;dsimp only;obtain⟨X,hX⟩:∃X:Fix,X=⟨F,G,wq,fb,gb,bF,bH,fcl,gcl,S⟩:=⟨_,rfl⟩;have hXok:NI X:=by rw[hX];exact⟨JP,OS⟩
 have Yh:=C6 x.body;refine ae ?_;refine ia (fun mb=>?_);have hS0:gB qK Nz [] [] [] []:=⟨⟨ph0.wf,rfl,rfl,.nil,(fun i u h=>by simp at h),(fun i u h=>by simp at h),(fun i u h=>by simp at h),(fun i u h=>by simp at h),(fun v x y h=>by simp[qK]at h)⟩,rfl,.nil,fun i u h=>by simp at h⟩;have Ld:=uU X (.int .u8 0) (.int .u8 0) (.int .i64 0) (.int .u64 0) (.string e0) Nz (.string e0) x.args x.ab (.slice aa x.args.length ac) (.slice ta x.ab.length tc) (by rw[hX];exact bB) (by rw[hX];exact bu) x.body a c bk o us Zo bA.at_ (by rw[hX];exact bA.mem) (by rw[hX];exact bA.rd)
  (fun i' x' ob=>WZ X hXok 1048576 Zo x' (by have:=Nd.aH (Zv ob);omega) (mu iy (Zv ob)) _ (by rw[hX];exact bA.rd i' x' ob)) 0 qK Nz [] [] [] [] hS0 (-1) ⟨Zo,Zd⟩ [] mb #[] 0 ⟨.nil,(fun v h=>by cases h),.nil⟩ (fun v h=>by cases h) ⟨by show 0+_ < _;unfold tz at ZN;omega,by show 0+_ < _;unfold tz at ZN;omega,by show 0+_ < _;unfold tz at ZN;omega⟩
 rw[hX]at Ld;simp only at Ld;have hroot:oj F G x.args x.ab x.body 0 qK [] (-1)=s8 F G x.args x.ab x.body:=rfl;rw[hroot]at Ld;have OL:jb Tryz.prog 49 [kE wq,.agg #[.int .u8 0,.string e0,.int .u8 0,.int .i64 0,.int .u64 0,.string e0,Nz,.slice aa x.args.length ac,.slice ta x.ab.length tc,.slice a x.body.length c,.int .i64 0],.pointer none,.map (some mb)] [kA wq 0 [.map (some fb),.map (some gb),Nz],[.obj fb (.map bF fcl)],[.obj gb (.map bH gcl)],[.obj mb (.map #[] 0)],S] _ _:=(Ld.conv (R:=[]) (by simp[V.cz,ai,WK]) (fun v Post h=>⟨Post,h,by rw[vd];exact aj.refl _⟩) (fun ch Post h=>⟨Post,h,by rw[vd];exact aj.refl _⟩));have ο:=Xe F G x.args x.ab x.body;have Ym:=MM F G x.args x.ab x.body hkD;obtain⟨st,DF⟩:∃st,st=s8 F G x.args x.ab x.body:=⟨_,rfl⟩;rw[<- DF]at Lc ο Ym;simp only[<- DF]at OL;refine kK OL Zr ZP (fun v Post hv=>?_) (fun ch Post hz=>?_);rotate_left
 ·obtain⟨q,e,p,hf,rfl,rfl⟩:=hz;have hae:=NY hf;have he0:e≠0:=by rcases Ym.err e p hf with h|h|h <;> omega
  refine⟨[kA q6 0 [.string e0,.int .i64 0,Nz],kA q7 0 [.nilIface],jL q e p],_,_,_,Bv q6 q7 q e p _ _ _ _,rfl,ZP,?_⟩;exact zB2
 obtain⟨Ay,nY,U1,V1,T1,⟨GK,_,_,w,GW,rfl⟩,rfl⟩:=hv;simp only[aE];obtain⟨l1,l2,l3⟩:=ο.less;have hbnds:Bnds st:=⟨⟨Zo,Zo,fun j=>by
  rw[V8];cases e:st.args[j]? with
  |none=>simp
  |some a=>have:=ο.bw.ar a (Zv e);simp only[Qv];omega⟩,fun l hl=>by have:=ο.bw.bd l hl;omega⟩
 have hsc:=IY st ο.ph hbnds GK.ok U1 V1 GK.rep.laid Ay nY GK.sl T1 GK.XS wq (.map (some fb)) (.map (some gb)) (.slice aa x.args.length ac) (.slice ta x.ab.length tc) (.slice a x.body.length c) x.aQ x.aL;refine ae ?_;refine kK hsc Zr ZP (fun v Post hv=>?_) (fun ch Post hz=>?_);rotate_left
 ·obtain⟨q,hae,rfl,rfl⟩:=hz;obtain⟨e,he⟩:∃e:Nat,e=183:=⟨_,rfl⟩;obtain⟨p,hp⟩:∃p:Int,p=0:=⟨_,rfl⟩;rw[<- he,<- hp]at hae;have he0:e≠0:=by omega
  rw[show jL q 183 0=jL q e p by rw[he,hp]];refine⟨[kA q6 0 [.string e0,.int .i64 0,Nz],kA q7 0 [.nilIface],jL q e p],_,_,_,Bv q6 q7 q e p _ _ _ _,rfl,ZP,?_⟩;exact zB2
 obtain⟨Gv,B,⟨GL,rfl,UT⟩,rfl⟩:=hv;obtain⟨usa,usc,hue⟩:∃usa usc,Gv=.slice usa ((List.range st.outer.length).map st.aK).length usc:=let⟨e1,e2,_,_,_,e3,_⟩:=UT;⟨e1,e2,e3⟩;subst hue;generalize hl:(List.range st.outer.length).map st.aK=lu at*;generalize DB:lu.length=ln at*;simp only[aE];refine ae ?_;refine⟨.inr rfl,[kA q6 0 [.string x.aQ,vi x.aL,.slice usa ln usc],kA q7 0 [.nilIface]],_,_,MI q6 q7 _ _,ZP,?_⟩
 rintro Post rfl
 refine⟨.inr rfl,[.agg #[.string x.aQ,vi x.aL,.slice usa ln usc],.nilIface],[S,B],.aS (us:=[.string x.aQ,vi x.aL,.slice usa ln usc]) Zr Zr (fun y hy=>by simp only[vf,QJ,V6,Q7];repeat (first|exact Or.inl hy|refine Or.inr ?_)) (.bT Zr Jo .nil),by simp only[aE];exact bE,.inl ⟨_,_,B,Lc.trans GL,rfl,UT,rfl⟩⟩
set_option maxHeartbeats 3200000
section
variable (A:List kB)
variable (hE:YQ∈A)
include hE
theorem NQ(k:Nat)(a n:Int)(ha:kB.cell k 1 (.int .i64 a)∈A)(hk:kB.cell k 2 (.iface 44 (.int .i64 n))∈A):ao Tryz.prog 16 [flP k] [A] (fun v Post=>v=.tuple #[.int .i64 n,.int .i64 a]/\Post=[A]):=by
 refine ao.intro low16 (by simp[n16]) ?_;unfold flP;refine ae ?_;refine kM (fun pe=>?_);refine ae ?_;refine kM (fun pf=>?_);refine ae ?_;refine kI (Tt A hE k pf _) Zr ZP (fun v Post hv=>?_);obtain⟨rfl,rfl⟩:=hv;simp only[aE];refine ae ?_;refine kI (As_in A hE k n hk pe _) Zr ZP (fun v Post hv=>?_);obtain⟨rfl,rfl⟩:=hv;simp only[aE];refine ae ?_;refine kG (.inr rfl) (.tmp Zr (.tmp Zr .nil)) ⟨by simp[gw],rfl⟩ ZI
end
noncomputable def F73:aR:=bj (o:=gF pq Tryz.f73 [])
theorem n73:F73.n=8:=rfl
theorem low73:bi Tryz.prog 73 []=some F73:=by kernel_rfl
end Go.Proofs.YtijnokbblmbpkaaGreatDoor
namespace Go.V
open Go
structure uI (out:List ByteArray)(es:Array MapEntry)(c:Nat):Prop where
 is:∃m,zW zw (fun n:Nat=>.int .i64 n) es c m/\∀s,((ky s m).getD 0=0↔wS s=0/\s∉out)
structure rl (seen:List ByteArray)(es:Array MapEntry)(c:Nat):Prop where
 is:∃m,zW zw (fun n:Nat=>.int .i64 n) es c m/\(∀s,((ky s m).getD 0=0↔s∉seen))/\∀s,(ky s m).getD 0<=seen.length
theorem rl.nil:rl [] #[] 0:=⟨⟨[],.nil,fun s=>by simp[ky],fun s=>by simp[ky]⟩⟩
theorem J9 {m:List (ByteArray×Nat)}{s:ByteArray}:mo false (.int .i64 0) ((ky s m).map fun n:Nat=>.int .i64 n)=.int .i64 ((ky s m).getD 0:Nat):=by cases ky s m <;> rfl
theorem Wh {out:List ByteArray}{m:List (ByteArray×Nat)}{k:Nat}{s:ByteArray}(h:∀s,((ky s m).getD 0=0↔wS s=0/\s∉out)):∀t,((ky t (jc s (k+1) m)).getD 0=0↔wS t=0/\t∉out++[s]):=by
 intro t;rw[jv,Q7,QI];by_cases e:s=t
 ·rw[if_pos e];exact⟨fun h=>absurd h Zs,fun h=>absurd (.inr e.symm) h.2⟩
 ·rw[if_neg e,h t];exact⟨fun g=>⟨g.1,fun c=>c.elim g.2 (fun c=>e c.symm)⟩,fun g=>⟨g.1,fun c=>g.2 (.inl c)⟩⟩
theorem OP {seen:List ByteArray}{m:List (ByteArray×Nat)}{s:ByteArray}(h:∀s,((ky s m).getD 0=0↔s∉seen))(hl:∀s,(ky s m).getD 0<=seen.length):
 (∀t,((ky t (jc s ((ky s m).getD 0+1) m)).getD 0=0↔t∉seen++[s]))/\∀t,(ky t (jc s ((ky s m).getD 0+1) m)).getD 0<=(seen++[s]).length:=by
 refine⟨fun t=>?_,fun t=>?_⟩
 ·rw[jv,Q7,QI];by_cases e:s=t
  ·rw[if_pos e];exact⟨fun h=>absurd h Zs,fun h=>absurd (.inr e.symm) h⟩
  ·rw[if_neg e,h t];exact⟨fun g c=>c.elim g (fun c=>e c.symm),fun g c=>g (.inl c)⟩
 ·rw[jv,Vo,Vy];have:=hl s;have:=hl t;by_cases e:s=t
  ·rw[if_pos e];show(ky s m).getD 0+1<=_;omega
  ·rw[if_neg e];omega
theorem P2:∀s,((ky s (jc qd 1 (jc x6 1 (jc Fb 1 (jc nj 1 (jc x5 1 ([]:List (ByteArray×Nat)))))))).getD 0=0↔wS s=0/\s∉([]:List ByteArray)):=by
 intro s;rw[jv,jv,jv,jv,jv];by_cases a:qd=s
 ·rw[if_pos a];subst a;exact⟨fun h=>absurd h Zs,fun h=>absurd h.1 Zd⟩
 rw[if_neg a];by_cases b:x6=s
 ·rw[if_pos b];subst b;exact⟨fun h=>absurd h Zs,fun h=>absurd h.1 Zd⟩
 rw[if_neg b];by_cases c:Fb=s
 ·rw[if_pos c];subst c;exact⟨fun h=>absurd h Zs,fun h=>absurd h.1 Zd⟩
 rw[if_neg c];by_cases d:nj=s
 ·rw[if_pos d];subst d;exact⟨fun h=>absurd h Zs,fun h=>absurd h.1 Zd⟩
 rw[if_neg d];by_cases e:x5=s
 ·rw[if_pos e];subst e;exact⟨fun h=>absurd h Zs,fun h=>absurd h.1 Zd⟩
 rw[if_neg e];have hz:wS s=0:=by
  unfold wS;rw[if_neg (fun k=>k.elim (fun k=>e k.symm) (fun k=>d k.symm)),if_neg (fun k=>c k.symm),if_neg (fun k=>b k.symm),if_neg (fun k=>a k.symm)]
 exact⟨fun _=>⟨hz,Zs⟩,fun _=>rfl⟩
mutual
theorem tW(seen:List ByteArray):∀(x:Nd) (out:List ByteArray),(fH seen out x).length<=out.length+x.w
 |.mk k s lit args ab kids p,out=>by
  rw[fH];have:=pP (if k=7 then seen++args++ab else seen) kids (if(k=2∨k=3)/\wS s=0/\s∉seen/\s∉out then out++[s]else out);have h2:(if(k=2∨k=3)/\wS s=0/\s∉seen/\s∉out then out++[s]else out).length<=out.length+1:=by
   split
   ·rw[Vo,Vy];exact Qj _
   ·omega
  simp only[Nd.w];omega
theorem pP(seen:List ByteArray):∀(l:List Nd) (out:List ByteArray),(jp seen out l).length<=out.length+Nd.ws l
 |[],out=>by rw[jp];simp only[Nd.ws];omega
 |x::r,out=>by
  rw[jp];have h1:=tW seen x out;have h2:=pP seen r (fH seen out x);simp only[Nd.ws];omega
end
mutual
theorem pO(seen:List ByteArray)(B:Nat):∀(x:Nd) (out:List ByteArray),x.w<=B->(∀t∈out,t.size<=B)->∀t∈fH seen out x,t.size<=B
 |.mk k s lit args ab kids p,out,hw,ho=>by
  rw[fH];simp only[Nd.w]at hw;refine rO _ B kids _ Zo ?_;split
  ·intro t ht;rcases Q7.1 ht with h|h
   ·exact ho t h
   ·rw[QI.1 h];omega
  ·exact ho
theorem rO(seen:List ByteArray)(B:Nat):∀(l:List Nd) (out:List ByteArray),Nd.ws l<=B->(∀t∈out,t.size<=B)->∀t∈jp seen out l,t.size<=B
 |[],out,hw,ho=>by rw[jp];exact ho
 |x::r,out,hw,ho=>by
  rw[jp];simp only[Nd.ws]at hw;exact rO seen B r _ Zo (pO seen B x out Zo ho)
end
theorem Db(b:List Nd):∀(a:List Nd),Nd.ws (a++b)=Nd.ws a+Nd.ws b
 |[]=>by rw[QJ,Nd.ws,Qr]
 |x::r=>by rw[vf,Nd.ws,Nd.ws,Db b r,Qe]
theorem rQ(seen:List ByteArray)(z:Nd):∀(l:List Nd) (out:List ByteArray),jp seen out (l++[z])=fH seen (jp seen out l) z
 |[],out=>by rw[QJ,jp,jp,jp]
 |x::r,out=>by rw[vf,jp,jp,rQ seen z r]
structure FrOk (seen out:List ByteArray)(Ai:Array MapEntry)(mc:Nat)(ly:Array MapEntry)(hc:Nat)(sv:Value)(sp:List Value):Prop where
 met:uI out Ai mc
 held:rl seen ly hc
 sl:kY 1 sv out.length (out.map Value.string) sp
theorem MU {A:List kB}{a:Option Addr}{c:Nat}{l:List ByteArray}(h:du A (.slice a l.length c) l)(hl:0 < l.length):Src A 1 l.length (l.map Value.string) (.slice a l.length c):=by
 obtain⟨a',c',e,_,hr⟩:=h;cases e;obtain⟨t,ht⟩:∃t,l[0]? =some t:=⟨_,Zg hl⟩;obtain⟨b,o,had,_⟩:=hr 0 t ht;cases had;exact zCD
end Go.V

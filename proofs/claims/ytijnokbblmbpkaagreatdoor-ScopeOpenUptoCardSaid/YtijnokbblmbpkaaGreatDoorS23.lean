/-
  A node's part.
-/
import Derived.Test.YtijnokbblmbpkaaGreatDoorS22
import Derived.Test.YtijnokbblmbpkaaGreatDoorS18
import Derived.Test.YtijnokbblmbpkaaGreatDoorS12
import Derived.Test.YtijnokbblmbpkaaGreatDoorS20
import Derived.Test.YtijnokbblmbpkaaGreatDoorS15
import Derived.Test.YtijnokbblmbpkaaGreatDoorS9
import Derived.KernelRfl
import Derived.Test.YtijnokbblmbpkaaGreatDoorProg
set_option linter.all false
namespace Go.Proofs.YtijnokbblmbpkaaGreatDoor
open Go Go.V
set_option maxHeartbeats 12800000
set_option maxRecDepth 100000
structure PaS where
 k:Nat
 nm:ByteArray
 lit:Lt
 l1:Value
 l2:Value
 l3:Value
 l4:Value
 l5:Value
 refs:List zj
 rv:Value
 vv:Value
 l:List Nd
 a:Option Addr
 ac:Nat
 bk:Nat
 o:Nat
 ks:Nat->List Value
 st:ah
 us:Value
 bz:List Value
 U:List UC
 V:List ax
 T:List kC
 B:List kC
structure PaI (X:Fix)(x:Nd)(N:Nat)(st:ah)(env:List Nat)(i:Nat)(Uq Vq:List Nat)(s:PaS):Prop where
 eq:jH X.F X.G x st env i=(.mk s.k s.nm s.lit s.refs 0 false (if x.kind=5 then zX (jW x.kids) (kV X.F X.G s.l s.st env i).1 else(kV X.F X.G s.l s.st env i).1),(kV X.F X.G s.l s.st env i).2)
 lt:zw s.B s.lit [s.l1,s.l2,s.l3,s.l4,s.l5]
 rr:w8 s.B s.rv (wz s.refs)
 pr:wp s.B s.vv ((ed s.refs).map fun r=>(s.V.map ax.q).getD r.index.toNat 0)
 rok:zv (s.V.map ax.q) s.refs
 rz:wz s.refs=[]->s.rv=Nz
 ok:gM s.st s.us s.bz s.U s.V s.T
 gr:Gr st s.st
 pU:Uq <+:s.U.map UC.q
 pV:Vq <+:s.V.map ax.q
 room:Room s.st (jN s.l)
 ha:0 < s.l.length->s.a=some ⟨s.bk,s.o,none⟩
 hm:∀j,j < s.l.length->∀y∈kA s.bk (s.o+j*11) (s.ks j),y∈X.S
 hr:∀j y,s.l[j]? =some y->jJ X.S y (s.ks j)
 sz:Nd.aw s.l<=N
 okl:qh s.l=true
 ne:x.kind=5->0 < s.l.length
theorem Wm {F G:List ByteArray}{st:ah}{env:List Nat}{nm:ByteArray}{u:Nat}{p:Int}{put:Bool}(h:(wQ F G st env nm u p put).1.kind=99):∃v∈env,(wQ F G st env nm u p put).1=dH v:=by
 unfold wQ at h|-;split at h
 ·have:=J0 nm;simp only at h;omega
 ·rename_i hk;rw[if_neg hk];split at h
  ·rename_i v hv;exact⟨v,A6 hv,rfl⟩
  ·split at h
   ·simp at h
   ·simp at h
theorem LJ(X:Fix)(hX:MM X)(N:Nat)(hN2:N < 1073741824)(ih:∀x,x.size<=N->O8 x=true->∀vs,jJ X.S x vs->ot X x vs)(x:Nd)(hx:x.size<=N+1)(aM:O8 x=true)(vs:List Value)(h:jJ X.S x vs):ot X x vs:=by
 intro st us bz U Vs T hS i u hu env b es c hs DY bV;have h':=h;obtain⟨e1,e2,e3,e4,e5,e6,e7,a1,c1,a2,c2,a3,c3,bk,ko,ks,rfl,oL,bK,bG,hk8,ha,hm,hr,rU⟩:=fk h;have Hb:x.size=1+Nd.aw x.kids:=by cases x;rfl
 have NG:pE x=iy x.args x.ab (jN x.kids):=by cases x;rfl
 have hokk:okK x.kind x.kids=true/\x.lit.size<=274877906944/\qh x.kids=true:=by
  cases x;simp only[O8,vF,decide_eq_true_eq]at aM;exact⟨aM.1.1,aM.1.2,aM.2⟩
 obtain⟨tL,hlb,mT⟩:=hokk;unfold okK at tL;simp only[vF,vP,vM,decide_eq_true_eq,decide_eq_false_iff_not]at tL;obtain⟨⟨⟨hk12,hk5⟩,hk19⟩,hk4⟩:=tL;have hlen:=Ds x.kids;have Ah:Nd.aw x.kids<=N:=by omega
 have l8:Room st (jN x.kids):=bV.mono (by rw[NG];unfold iy;omega);have hsb:st.uses.length < 1073741824:=by obtain⟨_,k,_⟩:=bV;omega
 have et:i < st.outer.length:=by have:=(Vm.1 hu).1;rw[hS.rep.ul]at this;exact this
 refine jf.intro aaI (by simp[n172]) ?_;refine VC.join (α:=Nat×Nat) (bn:=fun q=>[(0,kF X.wq),(2,kF u.q),(3,.map (some b)),(5,kF q.1),(8,kF q.2)]) (Hf:=fun q=>[kA q.1 0 (rN x.kind x.name e1 e2 e3 e4 e5 e6 e7 a1 x.args.length c1 a2 x.ab.length c2 a3 x.kids.length c3 x.at_),kA q.2 0 [.int .u8 0,.string e0,.int .u8 0,.int .i64 0,.int .u64 0,.string e0,Nz,Nz,.int .i64 0,.bool false,Nz,Nz,Nz],kA X.wq 0 [.map (some X.fb),.map (some X.gb),us],ai us (U.map fun u=>kM (some u.q)) bz,[.obj X.fb (.map X.bI X.fc)],[.obj X.gb (.map X.bM X.gc)],WK U Vs,T,[.obj b (.map es c)],X.S]) (I:=fun _=>True) ?_ ?_
 ·refine ae ?_;refine kY Zr (fun q5=>?_);simp only[Value.cells];refine kN (fun q8=>?_);refine ae ?_;exact⟨(q5,q8),trivial,ZU,by unfold e0;exact bQ⟩
 rintro⟨q5,q8⟩ _
 dsimp only;refine VC.join (α:=Unit) (bn:=fun _=>[(0,kF X.wq),(2,kF u.q),(3,.map (some b)),(5,kF q5),(8,kF q8)]) (Hf:=fun _=>[kA q5 0 (rN x.kind x.name e1 e2 e3 e4 e5 e6 e7 a1 x.args.length c1 a2 x.ab.length c2 a3 x.kids.length c3 x.at_),kA q8 0 [.int .u8 0,.string e0,.int .u8 0,.int .i64 0,.int .u64 0,.string e0,Nz,Nz,.int .i64 0,.bool false,Nz,Nz,Nz],kA X.wq 0 [.map (some X.fb),.map (some X.gb),us],ai us (U.map fun u=>kM (some u.q)) bz,[.obj X.fb (.map X.bI X.fc)],[.obj X.gb (.map X.bM X.gc)],WK U Vs,T,[.obj b (.map es c)],X.S]) (I:=fun _=>gw x=false) ?_ (fun _ aY=>?_)
 ·refine ae ?_;refine kJ (sK X.S x _ h') Zr ZP (fun v Post hv=>?_);obtain⟨⟨f,t,rfl,Zn⟩,rfl⟩:=hv;simp only[aH];cases aY:gw x with
  |false=>
   exact W8
  |true=>
   obtain⟨rfl,rfl⟩:=Zn aY;have CU:ej (jP x.name) x.kids=true:=by
    unfold gw iD at aY;simp only[vF]at aY;exact aY.2
   have hP:=eE X.F X.G x.kind x.name x.lit x.args x.ab x.kids x.at_ st env i aY;rw[<- Nd.eta x]at hP;have E8:=DE X (.int .u8 e1) (.int .i64 e2) (.int .u64 e3) (.string e4) (.slice e5 e6 e7) (.int .u8 x.kind) (.slice a1 x.args.length c1) (.slice a2 x.ab.length c2) x.name x.kids a3 c3 bk ko ks Zo ha hm hr N Zo hN2 mT ih x.at_ CU st us bz U Vs T hS i u hu env b es c hs DY l8;refine ae ?_;refine kL E8 Zr ZP (fun v Post hv=>?_) (fun ch Post hz=>?_);rotate_left
   ·exact zDV
   obtain⟨nX,ij,U2,V2,T2,B2,⟨G0,tR,tS,ws,rfl,hn⟩,rfl⟩:=hv;simp only[aH];obtain⟨pn,Bf⟩:∃pn,pn=(jH X.F X.G x st env i).1:=⟨_,rfl⟩;have CY:uJ B2 (V2.map ax.q) pn ws:=by rw[Bf,hP];exact hn
   obtain⟨f1,f2,f3,f4,f5,f6,f7,r1,r2,r3,p1,p2,p3,k1,k2,k3,Sz⟩:=iK CY;subst Sz;refine ae ?_;refine jM ⟨.inr rfl,_,[kA X.wq 0 [.map (some X.fb),.map (some X.gb),nX],ai nX (U2.map fun u=>kM (some u.q)) ij,[.obj X.fb (.map X.bI X.fc)],[.obj X.gb (.map X.bM X.gc)],WK U2 V2,T2,[.obj b (.map es c)],X.S,B2],.aJ (us:=[.int .u8 pn.kind,.string pn.name,.int .u8 f1,.int .i64 f2,.int .u64 f3,.string f4,.slice f5 f6 f7,.slice r1 r2 r3,.int .i64 pn.unit,.bool pn.super,Nz,.slice p1 p2 p3,.slice k1 k2 k3]) Zr Zr (fun y hy=>by simp only[V9,QA];repeat (first|exact Or.inl hy|refine Or.inr ?_)) .nil,ZI,⟨nX,ij,U2,V2,T2,_,⟨by rw[hP];exact G0,tR,tS,_,rfl,by rw[<- Bf];exact CY⟩,rfl⟩⟩
 refine VC.join (α:=Nat) (bn:=fun eF=>[(0,kF X.wq),(2,kF u.q),(3,.map (some b)),(5,kF q5),(8,kF q8),(12,kF eF)]) (Hf:=fun eF=>[kA eF 0 [.int .u8 0,.string e0,.int .u8 0,.int .i64 0,.int .u64 0,.string e0,Nz,Nz,.int .i64 0,.bool false,Nz,Nz,Nz],kA q5 0 (rN x.kind x.name e1 e2 e3 e4 e5 e6 e7 a1 x.args.length c1 a2 x.ab.length c2 a3 x.kids.length c3 x.at_),kA q8 0 [.int .u8 0,.string e0,.int .u8 0,.int .i64 0,.int .u64 0,.string e0,Nz,Nz,.int .i64 0,.bool false,Nz,Nz,Nz],kA X.wq 0 [.map (some X.fb),.map (some X.gb),us],ai us (U.map fun u=>kM (some u.q)) bz,[.obj X.fb (.map X.bI X.fc)],[.obj X.gb (.map X.bM X.gc)],WK U Vs,T,[.obj b (.map es c)],X.S]) (I:=fun _=>True) ?_ (fun eF _=>?_)
 ·refine ae ?_;refine kN (fun eF=>?_);refine ae ?_;exact⟨eF,trivial,ZU,by unfold e0;exact bQ⟩
 refine VC.join (α:=Unit) (bn:=fun _=>[(0,kF X.wq),(2,kF u.q),(3,.map (some b)),(5,kF q5),(8,kF q8),(12,kF eF),(13,.slice a3 x.kids.length c3)]) (Hf:=fun _=>[kA eF 0 [.int .u8 0,.string e0,.int .u8 0,.int .i64 0,.int .u64 0,.string e0,Nz,Nz,.int .i64 0,.bool false,Nz,Nz,Nz],kA q5 0 (rN x.kind x.name e1 e2 e3 e4 e5 e6 e7 a1 x.args.length c1 a2 x.ab.length c2 a3 x.kids.length c3 x.at_),kA q8 0 [.int .u8 0,.string e0,.int .u8 0,.int .i64 0,.int .u64 0,.string e0,Nz,Nz,.int .i64 0,.bool false,Nz,Nz,Nz],kA X.wq 0 [.map (some X.fb),.map (some X.gb),us],ai us (U.map fun u=>kM (some u.q)) bz,[.obj X.fb (.map X.bI X.fc)],[.obj X.gb (.map X.bM X.gc)],WK U Vs,T,[.obj b (.map es c)],X.S]) (I:=fun _=>True) ?_ (fun _ _=>?_)
 ·refine ae ?_;exact⟨(),trivial,ZU,ZI⟩
 refine VC.join (α:=Unit) (bn:=fun _=>[(0,kF X.wq),(2,kF u.q),(3,.map (some b)),(5,kF q5),(8,kF q8),(12,kF eF),(13,.slice a3 x.kids.length c3),(14,.bool (jW x.kids))]) (Hf:=fun _=>[kA eF 0 [.int .u8 0,.string e0,.int .u8 0,.int .i64 0,.int .u64 0,.string e0,Nz,Nz,.int .i64 0,.bool false,Nz,Nz,Nz],kA q5 0 (rN x.kind x.name e1 e2 e3 e4 e5 e6 e7 a1 x.args.length c1 a2 x.ab.length c2 a3 x.kids.length c3 x.at_),kA q8 0 [.int .u8 0,.string e0,.int .u8 0,.int .i64 0,.int .u64 0,.string e0,Nz,Nz,.int .i64 0,.bool false,Nz,Nz,Nz],kA X.wq 0 [.map (some X.fb),.map (some X.gb),us],ai us (U.map fun u=>kM (some u.q)) bz,[.obj X.fb (.map X.bI X.fc)],[.obj X.gb (.map X.bM X.gc)],WK U Vs,T,[.obj b (.map es c)],X.S]) (I:=fun _=>True) ?_ (fun _ _=>?_)
 ·refine ae ?_;by_cases HV:0 < x.kids.length;rotate_left
  ·rw[show decide ((0:Int) < (x.kids.length:Int))=false from Zf Zo];refine ae ?_;have xC:x.kids=[]:=vt Zo;exact⟨(),trivial,by rw[xC];exact tX,ZI⟩
  obtain rfl:=ha Zo;rw[show decide ((0:Int) < (x.kids.length:Int))=true from Zt Zo];obtain⟨r,E3⟩:∃r,x.kids[0]? =some r:=⟨_,Zg Zo⟩;obtain⟨r1,r2,r3,r4,r5,r6,r7,p1,d1,p2,d2,p3,d3,Yx,o2,GJ,N6,_⟩:=fk (hr 0 r E3);have f0:kC.cell bk ko (.int .u8 r.kind)∈X.S:=hm 0 Zo _ (by rw[N6];exact kI.2 ⟨0,_,rfl,Zs⟩);have f1:kC.cell bk (ko+1) (.string r.name)∈X.S:=hm 0 Zo _ (by rw[N6];exact kI.2 ⟨1,_,rfl,Zs⟩);have E7:jW x.kids=jQ r:=by
   exact zDM
  refine ae ?_;by_cases NQ:r.kind=2
  ·rw[show decide ((r.kind:Int)=2)=true from Zt Zo];refine ae ?_;have T5:jQ r=decide (r.name=⟨#[115,117,112,101,114]⟩):=by
    unfold jQ;rw[Zt NQ,vS];exact decide_eq_decide.2 iV
   exact⟨(),trivial,by rw[E7,T5];exact tX,ZI⟩
  ·rw[show decide ((r.kind:Int)=2)=false from Zf Zo];refine ae ?_;have T5:jQ r=false:=by
    unfold jQ;rw[Zf NQ,vJ]
   exact⟨(),trivial,by rw[E7,T5];exact tX,ZI⟩
 refine VC.join (α:=PaS) (bn:=fun p=>[(0,kF X.wq),(2,kF u.q),(3,.map (some b)),(5,kF q5),(8,kF q8),(12,kF eF),(13,.slice p.a p.l.length p.ac),(14,.bool (jW x.kids))]) (Hf:=fun p=>[kA eF 0 [.int .u8 p.k,.string p.nm,p.l1,p.l2,p.l3,p.l4,p.l5,p.rv,.int .i64 0,.bool false,Nz,p.vv,Nz],kA q5 0 (rN x.kind x.name e1 e2 e3 e4 e5 e6 e7 a1 x.args.length c1 a2 x.ab.length c2 a3 x.kids.length c3 x.at_),kA q8 0 [.int .u8 0,.string e0,.int .u8 0,.int .i64 0,.int .u64 0,.string e0,Nz,Nz,.int .i64 0,.bool false,Nz,Nz,Nz],kA X.wq 0 [.map (some X.fb),.map (some X.gb),p.us],ai p.us (p.U.map fun u=>kM (some u.q)) p.bz,[.obj X.fb (.map X.bI X.fc)],[.obj X.gb (.map X.bM X.gc)],WK p.U p.V,p.T,[.obj b (.map es c)],X.S,p.B]) (I:=PaI X x N st env i (U.map UC.q) (Vs.map ax.q)) ?_ ?_
 ·skip
  have simple:∀(k:Nat) (nm:ByteArray) (l:List Nd) (a:Option Addr) (ac bk ko:Nat) (ks:Nat->List Value),jH X.F X.G x st env i=(.mk k nm fP [] 0 false (if x.kind=5 then zX (jW x.kids) (kV X.F X.G l st env i).1 else(kV X.F X.G l st env i).1),(kV X.F X.G l st env i).2)->
   Room st (jN l)->(0 < l.length->a=some ⟨bk,ko,none⟩)->(∀j,j < l.length->∀y∈kA bk (ko+j*11) (ks j),y∈X.S)->(∀j y,l[j]? =some y->jJ X.S y (ks j))->Nd.aw l<=N->qh l=true->(x.kind=5->0 < l.length)->
   PaI X x N st env i (U.map UC.q) (Vs.map ax.q) ⟨k,nm,fP,.int .u8 0,.int .i64 0,.int .u64 0,.string e0,Nz,[],Nz,Nz,l,a,ac,bk,ko,ks,st,us,bz,U,Vs,T,[]⟩:=fun k nm l a ac bk ko ks h1 h2 h3 h4 h5 h6 h7 h8=>
   ⟨h1,oO _,w8.nil _,wp.nil _,zv.nil _,fun _=>rfl,hS,Gr.refl _,QV _,QV _,h2,h3,h4,h5,h6,h7,h8⟩
  refine jD ?_;by_cases h1:x.kind=1
  ·rw[show decide ((x.kind:Int)=1)=true from Zt Zo];have xC:x.kids=[]:=vt (by rcases hk12 with k|k;exact absurd (.inl h1) k;exact k);have hP:=nj X.F X.G x.kind x.name x.lit x.args x.ab x.kids x.at_ st env i aY h1;rw[<- Nd.eta x]at hP;refine ae ?_;refine kJ (L1 X.S _ x.lit (Qh _) hlb _ oL) Zr ZP (fun v Post hv=>?_);obtain⟨ws,BL,rfl,CW,rfl⟩:=hv;simp only[aH];have K3:=CW.rd;obtain⟨lsv,lrows,lsp,lK,rfl,_⟩:=CW.parts;obtain⟨lea,lec,hlsv⟩:=xU K3;simp only[vh,and_true,true_and]at hlsv;subst hlsv;refine ae ?_;refine⟨⟨1,e0,x.lit,cv x.lit.kind,vi x.lit.n,uv x.lit.bits,.string x.lit.text,.slice lea x.lit.items.length lec,[],.slice none 0 0,.slice none 0 0,x.kids,a3,c3,bk,ko,ks,st,us,bz,U,Vs,T,BL⟩,⟨?_,K3,w8.nil _,wp.nil _,zv.nil _,fun _=>rfl,hS,Gr.refl _,QV _,QV _,l8,ha,hm,hr,Ah,mT,fun e=>absurd e Zo⟩,ZU,ao.cut (M:=[kA eF 0 [.int .u8 1,.string e0,cv x.lit.kind,vi x.lit.n,uv x.lit.bits,.string x.lit.text,.slice lea x.lit.items.length lec,.slice none 0 0,.int .i64 0,.bool false,.slice none 0 0,.slice none 0 0,.slice none 0 0],kA q5 0 (rN x.kind x.name e1 e2 e3 e4 e5 e6 e7 a1 x.args.length c1 a2 x.ab.length c2 a3 x.kids.length c3 x.at_),kA q8 0 [.int .u8 0,.string e0,.int .u8 0,.int .i64 0,.int .u64 0,.string e0,.slice none 0 0,.slice none 0 0,.int .i64 0,.bool false,.slice none 0 0,.slice none 0 0,.slice none 0 0],kA X.wq 0 [.map (some X.fb),.map (some X.gb),us],ai us (U.map fun u=>kM (some u.q)) bz,[.obj X.fb (.map X.bI X.fc)],[.obj X.gb (.map X.bM X.gc)],WK U Vs,T,[.obj b (.map es c)],X.S,BL]) ZI (ao.perm Zs)⟩;simp only;rw[hP,xC,if_neg Zo,kV]
  rw[show decide ((x.kind:Int)=1)=false from Zf Zo];refine jD ?_;refine VC.join (α:=Unit) (bn:=fun _=>[(0,kF X.wq),(2,kF u.q),(3,.map (some b)),(5,kF q5),(8,kF q8),(12,kF eF),(13,.slice a3 x.kids.length c3),(14,.bool (jW x.kids)),(52,.int .u8 x.kind),(73,.bool (decide (x.kind=2∨x.kind=3)))]) (Hf:=fun _=>[kA eF 0 [.int .u8 0,.string e0,.int .u8 0,.int .i64 0,.int .u64 0,.string e0,Nz,Nz,.int .i64 0,.bool false,Nz,Nz,Nz],kA q5 0 (rN x.kind x.name e1 e2 e3 e4 e5 e6 e7 a1 x.args.length c1 a2 x.ab.length c2 a3 x.kids.length c3 x.at_),kA q8 0 [.int .u8 0,.string e0,.int .u8 0,.int .i64 0,.int .u64 0,.string e0,Nz,Nz,.int .i64 0,.bool false,Nz,Nz,Nz],kA X.wq 0 [.map (some X.fb),.map (some X.gb),us],ai us (U.map fun u=>kM (some u.q)) bz,[.obj X.fb (.map X.bI X.fc)],[.obj X.gb (.map X.bM X.gc)],WK U Vs,T,[.obj b (.map es c)],X.S]) (I:=fun _=>True) ?_ (fun _ _=>?_)
  ·refine ae ?_;by_cases h2:x.kind=2
   ·rw[show decide ((x.kind:Int)=2)=true from Zt Zo,Zt (show x.kind=2∨x.kind=3 from .inl h2)];exact W8
   ·rw[show decide ((x.kind:Int)=2)=false from Zf Zo,show decide (x.kind=2∨x.kind=3)=decide ((x.kind:Int)=3)from decide_eq_decide.2 Zo];exact W8
  by_cases h23:x.kind=2∨x.kind=3
  ·rw[Zt h23];refine jD ?_;refine VC.join (α:=Unit) (bn:=fun _=>[(0,kF X.wq),(2,kF u.q),(3,.map (some b)),(5,kF q5),(8,kF q8),(12,kF eF),(13,.slice a3 x.kids.length c3),(14,.bool (jW x.kids))]) (Hf:=fun _=>[kA eF 0 [.int .u8 x.kind,.string e0,.int .u8 0,.int .i64 0,.int .u64 0,.string e0,Nz,Nz,.int .i64 0,.bool false,Nz,Nz,Nz],kA q5 0 (rN x.kind x.name e1 e2 e3 e4 e5 e6 e7 a1 x.args.length c1 a2 x.ab.length c2 a3 x.kids.length c3 x.at_),kA q8 0 [.int .u8 0,.string e0,.int .u8 0,.int .i64 0,.int .u64 0,.string e0,Nz,Nz,.int .i64 0,.bool false,Nz,Nz,Nz],kA X.wq 0 [.map (some X.fb),.map (some X.gb),us],ai us (U.map fun u=>kM (some u.q)) bz,[.obj X.fb (.map X.bI X.fc)],[.obj X.gb (.map X.bM X.gc)],WK U Vs,T,[.obj b (.map es c)],X.S]) (I:=fun _=>True) ?_ (fun _ _=>?_)
   ·refine ae ?_;by_cases h3:x.kind=3
    ·rw[show decide ((x.kind:Int)=3)=true from Zt Zo];refine ae ?_;exact⟨(),trivial,ZU,ao.cut (M:=[kA eF 0 [.int .u8 3,.string e0,.int .u8 0,.int .i64 0,.int .u64 0,.string e0,Nz,Nz,.int .i64 0,.bool false,Nz,Nz,Nz],kA q5 0 (rN x.kind x.name e1 e2 e3 e4 e5 e6 e7 a1 x.args.length c1 a2 x.ab.length c2 a3 x.kids.length c3 x.at_),kA q8 0 [.int .u8 0,.string e0,.int .u8 0,.int .i64 0,.int .u64 0,.string e0,Nz,Nz,.int .i64 0,.bool false,Nz,Nz,Nz],kA X.wq 0 [.map (some X.fb),.map (some X.gb),us],ai us (U.map fun u=>kM (some u.q)) bz,[.obj X.fb (.map X.bI X.fc)],[.obj X.gb (.map X.bM X.gc)],WK U Vs,T,[.obj b (.map es c)],X.S]) ZI (ao.perm (by simp[h3]))⟩
    ·have h2:x.kind=2:=by omega
     rw[show decide ((x.kind:Int)=3)=false from Zf Zo];refine ae ?_;exact⟨(),trivial,ZU,ao.cut (M:=[kA eF 0 [.int .u8 2,.string e0,.int .u8 0,.int .i64 0,.int .u64 0,.string e0,Nz,Nz,.int .i64 0,.bool false,Nz,Nz,Nz],kA q5 0 (rN x.kind x.name e1 e2 e3 e4 e5 e6 e7 a1 x.args.length c1 a2 x.ab.length c2 a3 x.kids.length c3 x.at_),kA q8 0 [.int .u8 0,.string e0,.int .u8 0,.int .i64 0,.int .u64 0,.string e0,Nz,Nz,.int .i64 0,.bool false,Nz,Nz,Nz],kA X.wq 0 [.map (some X.fb),.map (some X.gb),us],ai us (U.map fun u=>kM (some u.q)) bz,[.obj X.fb (.map X.bI X.fc)],[.obj X.gb (.map X.bM X.gc)],WK U Vs,T,[.obj b (.map es c)],X.S]) ZI (ao.perm (by simp[h2]))⟩
   have oe:=Jc X.F X.G X.wq X.fb X.gb us X.bI X.bM X.fc X.gc hX.f hX.g x.kind x.name (.int .u8 e1) (.int .i64 e2) (.int .u64 e3) (.string e4) (.slice e5 e6 e7) (.slice a1 x.args.length c1) (.slice a2 x.ab.length c2) (.slice a3 x.kids.length c3) x.at_ st U Vs hS.rep i u hu hS.ok hsb env b es c hs DY;have K3:=xO X.F X.G st env x.name i x.at_ (decide (x.kind=3));have DW:=xl X.F X.G st env x.name i x.at_ (decide (x.kind=3));have HQ:=oY X.F X.G st env x.name i x.at_ (decide (x.kind=3));have NR:=Wm (F:=X.F) (G:=X.G) (st:=st) (env:=env) (nm:=x.name) (u:=i) (p:=x.at_) (put:=decide (x.kind=3));obtain⟨R,hR⟩:∃R,R=wQ X.F X.G st env x.name i x.at_ (decide (x.kind=3)):=⟨_,rfl⟩;rw[<- hR]at oe K3 DW HQ NR;have hP:jH X.F X.G x st env i=(.mk x.kind e0 fP [R.1] 0 false (kV X.F X.G x.kids R.2 env i).1,(kV X.F X.G x.kids R.2 env i).2):=by
    rcases h23 with h2|h3
    ·have xC:x.kids=[]:=vt (by rcases hk12 with k|k;exact absurd (.inr h2) k;exact k);have hP:=nk X.F X.G x.kind x.name x.lit x.args x.ab x.kids x.at_ st env i aY h2;rw[<- Nd.eta x]at hP;rw[hP,xC,kV,hR,h2];rfl
    ·have hP:=np X.F X.G x.kind x.name x.lit x.args x.ab x.kids x.at_ st env i aY h3;rw[<- Nd.eta x]at hP;rw[hP,hR,h3];rfl
   have rW:Room R.2 (jN x.kids):=Room.less (n:=1) (bV.mono (by rw[NG];unfold iy;omega)) K3;refine ae ?_;refine kL oe Zr ZP (fun v Post hv=>?_) (fun ch Post hz=>?_);rotate_left
   ·obtain⟨q1,Mq,eC,rfl,rfl⟩:=hz;exact⟨[X.S,j9 q1 Mq x.at_],ZI,q1,Mq,x.at_,by rw[hP];exact(wn _ _ _ _ _ _).f _ eC,rfl,rfl⟩
   obtain⟨U2,V2,⟨CT,hv,JC,im,sR,sU⟩,rfl⟩:=hv;simp only[aH];have G6:∀W:List UC,(W.map fun u=>kM (some u.q))=(W.map UC.q).map fun b=>kM (some b):=fun W=>by rw[Q8];rfl
   have H5:(U2.map fun u=>kM (some u.q))=U.map fun u=>kM (some u.q):=by rw[G6,im,<- G6]
   have G0:gM R.2 us bz U2 V2 T:=by
    have EZ:U2.length=U.length:=by have:=congrArg List.length im;rwa [Vz,Vz]at this
    refine⟨JC,CT,by rw[EZ,H5];exact hS.sl,fun j w hw=>?_⟩;have eC:(U.map UC.body)[j]? =some w.body:=by rw[<- sR,Vn,hw];rfl
    rw[Vn]at eC;obtain⟨w1,Ha,hwb⟩:=Qu.1 eC;rw[HQ,<- hwb];exact(hS.Xg j w1 Ha).more (fun x hx=>hx) (by rw[sU];exact QV _)
   have C6:V2.length=R.2.vars.length:=JC.vl;by_cases h99:R.1.kind=99
   ·obtain⟨vv,hve,hvr⟩:=NR h99;have N7:vv < (V2.map ax.q).length:=by
     rw[Vz,C6];exact Qk (hs.lt vv hve) DW.vars.length_le
    have hqe:(V2.map ax.q).getD vv 0=tf V2 vv:=by
     have hvlt2:vv < V2.length:=by rwa [Vz]at N7
     unfold tf;rw[Vb,Vb,Vn,Zg hvlt2];rfl
    have lZ:sr V2 R.1=.tuple #[.agg rz.toArray,kF (tf V2 vv)]:=by
     rw[hvr];rfl
    rw[lZ]at hv;subst hv;unfold rz;refine ae ?_;refine kN (fun q15=>?_);refine ae ?_;refine jE (out:=[kF (tf V2 vv)]) Zr Zr (fun rr=>?_);refine ae ?_;refine⟨⟨x.kind,e0,fP,.int .u8 0,.int .i64 0,.int .u64 0,.string e0,Nz,[dH vv],Nz,.slice (some ⟨rr,0,none⟩) 1 1,x.kids,a3,c3,bk,ko,ks,R.2,us,bz,U2,V2,T,kA rr 0 [kF (tf V2 vv)]⟩,
     ⟨?_,oO _,w8.nil _,?_,?_,fun _=>rfl,G0,DW,by rw[im];exact QV _,by rw[sU];exact QV _,rW,ha,hm,hr,Ah,mT,fun e=>absurd e Zo⟩,ZU,by simp only[H5];exact bQ⟩
    ·simp only;rw[hP,hvr,if_neg Zo]
    ·show wp _ _ [(V2.map ax.q).getD ((vv:Int)).toNat 0];rw[vT,hqe];refine⟨_,_,rfl,fun j q hj=>⟨rr,0,rfl,?_⟩⟩;cases j with
     |zero=>
      obtain rfl:tf V2 vv=q:=by simpa using hj
      exact kI.2 ⟨0,_,rfl,rfl⟩
     |succ j=>simp at hj
    ·exact⟨.inl fun r hr=>by rw[QK.1 hr];rfl,fun r hr _=>⟨vv,QK.1 hr,N7⟩⟩
   ·have lZ:sr V2 R.1=.tuple #[.agg (jX R.1).toArray,.pointer none]:=by
     unfold sr;rw[if_neg h99]
    rw[lZ]at hv;subst hv;unfold jX;refine ae ?_;refine kN (fun q15=>?_);refine ae ?_;refine jE (out:=[.int .u8 R.1.kind,.int .i64 R.1.index,.int .i64 R.1.slot,.string R.1.name]) Zr Zr (fun rr=>?_);refine ae ?_;have pK:wz [R.1]=[R.1]:=by unfold wz;rw[vy,if_pos (Zt h99)];rfl
    have hrw:ed [R.1]=[]:=by unfold ed;rw[vy,if_neg (by simpa using h99)];rfl
    refine⟨⟨x.kind,e0,fP,.int .u8 0,.int .i64 0,.int .u64 0,.string e0,Nz,[R.1],.slice (some ⟨rr,0,none⟩) 1 1,Nz,x.kids,a3,c3,bk,ko,ks,R.2,us,bz,U2,V2,T,kA rr 0 (jX R.1)⟩,
     ⟨?_,oO _,?_,?_,?_,fun e=>?_,G0,DW,by rw[im];exact QV _,by rw[sU];exact QV _,rW,ha,hm,hr,Ah,mT,fun e=>absurd e Zo⟩,ZU,by simp only[H5];unfold jX;exact bQ⟩
    ·simp only;rw[hP,if_neg Zo]
    ·show w8 _ _ (wz [R.1]);rw[pK];refine⟨_,_,rfl,fun j q hj=>⟨rr,0,rfl,fun y hy=>?_⟩⟩;cases j with
     |zero=>
      obtain rfl:R.1=q:=by simpa using hj
      exact hy
     |succ j=>simp at hj
    ·show wp _ _ ((ed [R.1]).map _);rw[hrw];exact wp.nil _
    ·exact⟨.inr fun r hr=>by rw[QK.1 hr];exact h99,fun r hr e=>by rw[QK.1 hr]at e;exact absurd e h99⟩
    ·have e:wz [R.1]=[]:=e;rw[pK]at e;cases e
  rw[Zf h23];refine jD ?_;by_cases h7:x.kind=7
  ·rw[show decide ((x.kind:Int)=7)=true from Zt Zo];have hP:=nw X.F X.G x.kind x.name x.lit x.args x.ab x.kids x.at_ st env i aY h7;rw[<- Nd.eta x]at hP;have KT:=uT X (.int .u8 x.kind) (.int .u8 e1) (.int .i64 e2) (.int .u64 e3) (.string e4) (.slice e5 e6 e7) (.string x.name) x.args x.ab (.slice a1 x.args.length c1) (.slice a2 x.ab.length c2) bK bG x.kids a3 c3 bk ko ks Zo ha hm hr
    (fun i' x' oh=>ih x' (by have:=Nd.aD (Zv oh);omega) (mi mT (Zv oh)) _ (hr i' x' oh)) x.at_ st us bz U Vs T hS (i:Int) ⟨Zo,Zo⟩ env b es c hs (fun v hv=>⟨i,rfl,DY v hv⟩) (by rw[<- NG];exact bV)
   have hoq:ml U (i:Int)=some u.q:=by
    unfold ml;rw[if_neg Zo,vT,hu];rfl
   rw[hoq]at KT;refine ae ?_;refine kL KT Zr ZP (fun v Post hv=>?_) (fun ch Post hz=>?_);rotate_left
   ·exact zDV
   obtain⟨nX,ij,U2,V2,T2,⟨G0,tR,tS,w,hw,rfl⟩,rfl⟩:=hv;simp only[aH];have hnum:w.num=st.outer.length:=(G0.rep.un _ w hw).2.2.2.1;have f4:kC.cell w.q 4 (.int .i64 st.outer.length)∈WK U2 V2:=zp hw _ (QD _ (Zw _ (kI.2 ⟨4,_,by unfold UC.row;rw[hnum];rfl,rfl⟩)));refine ae ?_;refine jM ⟨.inr rfl,_,[kA X.wq 0 [.map (some X.fb),.map (some X.gb),nX],ai nX (U2.map fun u=>kM (some u.q)) ij,[.obj X.fb (.map X.bI X.fc)],[.obj X.gb (.map X.bM X.gc)],WK U2 V2,T2,[.obj b (.map es c)],X.S,[]],.aJ (us:=[.int .u8 8,.string e0,.int .u8 0,.int .i64 0,.int .u64 0,.string e0,Nz,Nz,.int .i64 st.outer.length,.bool false,Nz,Nz,Nz]) Zr Zr (fun y hy=>by simp only[V9,QA];repeat (first|exact Or.inl hy|refine Or.inr ?_)) .nil,ao.cut (M:=[kA X.wq 0 [.map (some X.fb),.map (some X.gb),nX],ai nX (U2.map fun u=>kM (some u.q)) ij,[.obj X.fb (.map X.bI X.fc)],[.obj X.gb (.map X.bM X.gc)],WK U2 V2,T2,[.obj b (.map es c)],X.S]) ZI (ao.perm Zs),⟨nX,ij,U2,V2,T2,_,⟨by rw[hP];exact G0,tR,tS,_,rfl,?_⟩,rfl⟩⟩;rw[hP];exact x4 (k:=8) (nm:=e0) (lit:=fP) (refs:=[]) (unit:=st.outer.length) (iU:=false) (kids:=[]) (rows:=[]) (sv:=Nz) (sp:=[]) (vv:=Nz) (B:=[]) .nil (zW.nil _ _) (oO _) (w8.nil _) (wp.nil _) (zv.nil _)
  rw[show decide ((x.kind:Int)=7)=false from Zf Zo];refine jD ?_;by_cases h8:x.kind=8
  ·rw[show decide ((x.kind:Int)=8)=true from Zt Zo];have hP:=ny X.F X.G x.kind x.name x.lit x.args x.ab x.kids x.at_ st env i aY h8;rw[<- Nd.eta x]at hP;refine ae ?_;exact⟨_,simple 9 e0 x.kids a3 c3 bk ko ks (by rw[hP,if_neg Zo]) l8 ha hm hr Ah mT (fun e=>absurd e Zo),ZU,ao.cut (M:=[kA eF 0 [.int .u8 9,.string e0,.int .u8 0,.int .i64 0,.int .u64 0,.string e0,Nz,Nz,.int .i64 0,.bool false,Nz,Nz,Nz],kA q5 0 (rN x.kind x.name e1 e2 e3 e4 e5 e6 e7 a1 x.args.length c1 a2 x.ab.length c2 a3 x.kids.length c3 x.at_),kA q8 0 [.int .u8 0,.string e0,.int .u8 0,.int .i64 0,.int .u64 0,.string e0,Nz,Nz,.int .i64 0,.bool false,Nz,Nz,Nz],kA X.wq 0 [.map (some X.fb),.map (some X.gb),us],ai us (U.map fun u=>kM (some u.q)) bz,[.obj X.fb (.map X.bI X.fc)],[.obj X.gb (.map X.bM X.gc)],WK U Vs,T,[.obj b (.map es c)],X.S]) ZI (ao.perm Zs)⟩
  rw[show decide ((x.kind:Int)=8)=false from Zf Zo];refine jD ?_;by_cases h9:x.kind=9
  ·rw[show decide ((x.kind:Int)=9)=true from Zt Zo];have hP:=nz X.F X.G x.kind x.name x.lit x.args x.ab x.kids x.at_ st env i aY h9;rw[<- Nd.eta x]at hP;refine ae ?_;exact⟨_,simple 10 e0 x.kids a3 c3 bk ko ks (by rw[hP,if_neg Zo]) l8 ha hm hr Ah mT (fun e=>absurd e Zo),ZU,ao.cut (M:=[kA eF 0 [.int .u8 10,.string e0,.int .u8 0,.int .i64 0,.int .u64 0,.string e0,Nz,Nz,.int .i64 0,.bool false,Nz,Nz,Nz],kA q5 0 (rN x.kind x.name e1 e2 e3 e4 e5 e6 e7 a1 x.args.length c1 a2 x.ab.length c2 a3 x.kids.length c3 x.at_),kA q8 0 [.int .u8 0,.string e0,.int .u8 0,.int .i64 0,.int .u64 0,.string e0,Nz,Nz,.int .i64 0,.bool false,Nz,Nz,Nz],kA X.wq 0 [.map (some X.fb),.map (some X.gb),us],ai us (U.map fun u=>kM (some u.q)) bz,[.obj X.fb (.map X.bI X.fc)],[.obj X.gb (.map X.bM X.gc)],WK U Vs,T,[.obj b (.map es c)],X.S]) ZI (ao.perm Zs)⟩
  rw[show decide ((x.kind:Int)=9)=false from Zf Zo];refine jD ?_;by_cases h6:x.kind=6
  ·rw[show decide ((x.kind:Int)=6)=true from Zt Zo];have hP:=nu X.F X.G x.kind x.name x.lit x.args x.ab x.kids x.at_ st env i aY h6;rw[<- Nd.eta x]at hP;refine jD ?_;refine VC.draws ⟨?_,?_,trivial⟩
   all_goals
    refine ae ?_;exact⟨_,simple 7 x.name x.kids a3 c3 bk ko ks (by rw[hP,if_neg Zo]) l8 ha hm hr Ah mT (fun e=>absurd e Zo),ZU,ao.cut (M:=[kA eF 0 [.int .u8 7,.string x.name,.int .u8 0,.int .i64 0,.int .u64 0,.string e0,Nz,Nz,.int .i64 0,.bool false,Nz,Nz,Nz],kA q5 0 (rN x.kind x.name e1 e2 e3 e4 e5 e6 e7 a1 x.args.length c1 a2 x.ab.length c2 a3 x.kids.length c3 x.at_),kA q8 0 [.int .u8 0,.string e0,.int .u8 0,.int .i64 0,.int .u64 0,.string e0,Nz,Nz,.int .i64 0,.bool false,Nz,Nz,Nz],kA X.wq 0 [.map (some X.fb),.map (some X.gb),us],ai us (U.map fun u=>kM (some u.q)) bz,[.obj X.fb (.map X.bI X.fc)],[.obj X.gb (.map X.bM X.gc)],WK U Vs,T,[.obj b (.map es c)],X.S]) ZI (ao.perm Zs)⟩
  rw[show decide ((x.kind:Int)=6)=false from Zf Zo];refine jD ?_;by_cases h5:x.kind=5
  ·rw[show decide ((x.kind:Int)=5)=true from Zt Zo];have hP:=nt X.F X.G x.kind x.name x.lit x.args x.ab x.kids x.at_ st env i aY h5;rw[<- Nd.eta x]at hP;refine ae ?_;exact⟨_,simple 6 e0 x.kids a3 c3 bk ko ks (by rw[hP,if_pos h5]) l8 ha hm hr Ah mT (fun e=>by rcases hk5 with k|k;exact absurd e k;exact k),ZU,ao.cut (M:=[kA eF 0 [.int .u8 6,.string e0,.int .u8 0,.int .i64 0,.int .u64 0,.string e0,.slice none 0 0,.slice none 0 0,.int .i64 0,.bool false,.slice none 0 0,.slice none 0 0,.slice none 0 0],kA q5 0 (rN x.kind x.name e1 e2 e3 e4 e5 e6 e7 a1 x.args.length c1 a2 x.ab.length c2 a3 x.kids.length c3 x.at_),kA q8 0 [.int .u8 0,.string e0,.int .u8 0,.int .i64 0,.int .u64 0,.string e0,.slice none 0 0,.slice none 0 0,.int .i64 0,.bool false,.slice none 0 0,.slice none 0 0,.slice none 0 0],kA X.wq 0 [.map (some X.fb),.map (some X.gb),us],ai us (U.map fun u=>kM (some u.q)) bz,[.obj X.fb (.map X.bI X.fc)],[.obj X.gb (.map X.bM X.gc)],WK U Vs,T,[.obj b (.map es c)],X.S]) ZI (ao.perm Zs)⟩
  rw[show decide ((x.kind:Int)=5)=false from Zf Zo];refine jD ?_;have h4:x.kind=4:=by omega
  have Bd:0 < x.kids.length:=by rcases hk4 with k|k;exact absurd h4 k;exact k
  cases G9:jW x.kids with
  |false=>
   have hP:=nq X.F X.G x.kind x.name x.lit x.args x.ab x.kids x.at_ st env i aY Zo G9;rw[<- Nd.eta x]at hP;refine VC.seq (VC.draws ⟨?_,?_,trivial⟩)
   all_goals
    refine ae ?_;exact⟨_,simple 4 x.name x.kids a3 c3 bk ko ks (by rw[hP,if_neg Zo]) l8 ha hm hr Ah mT (fun e=>absurd e Zo),ZU,ao.cut (M:=[kA eF 0 [.int .u8 4,.string x.name,.int .u8 0,.int .i64 0,.int .u64 0,.string e0,Nz,Nz,.int .i64 0,.bool false,Nz,Nz,Nz],kA q5 0 (rN x.kind x.name e1 e2 e3 e4 e5 e6 e7 a1 x.args.length c1 a2 x.ab.length c2 a3 x.kids.length c3 x.at_),kA q8 0 [.int .u8 0,.string e0,.int .u8 0,.int .i64 0,.int .u64 0,.string e0,Nz,Nz,.int .i64 0,.bool false,Nz,Nz,Nz],kA X.wq 0 [.map (some X.fb),.map (some X.gb),us],ai us (U.map fun u=>kM (some u.q)) bz,[.obj X.fb (.map X.bI X.fc)],[.obj X.gb (.map X.bM X.gc)],WK U Vs,T,[.obj b (.map es c)],X.S]) ZI (ao.perm Zs)⟩
  |true=>
   have hP:=gY X.F X.G x.kind x.name x.lit x.args x.ab x.kids x.at_ st env i aY Zo G9;rw[<- Nd.eta x]at hP;obtain rfl:=ha Bd;have ue:x.kids.tail.length=x.kids.length - 1:=List.length_tail;have hgt:∀j,x.kids.tail[j]? =x.kids[j+1]?:=fun j=>by rw[List.getElem?_tail]
   have ZW:Nd.aw x.kids.tail<=N/\jN x.kids.tail<=jN x.kids/\qh x.kids.tail=true:=by
    cases hkk2:x.kids with
    |nil=>rw[hkk2]at Bd;simp at Bd
    |cons y l=>
     rw[hkk2]at Ah mT;simp only[Nd.aw]at Ah;simp only[qh,vF]at mT;simp only[List.tail_cons,jN];exact⟨Zo,Zo,mT.2⟩
   obtain⟨o',xD⟩:∃o',o'=(if c3=1 then ko else ko+1*11):=⟨_,rfl⟩;refine VC.seq (VC.draws ⟨?_,?_,trivial⟩)
   all_goals
    refine ae ?_;refine mL (l:=1) Zr Zr rfl ⟨Zo,rU⟩ ?_;rw[<- xD,show x.kids.length - 1=x.kids.tail.length from ue.symm];refine ae ?_;exact⟨_,simple 5 x.name x.kids.tail (some ⟨bk,o',none⟩) (c3 - 1) bk (ko+11) (fun j=>ks (j+1)) (by rw[hP,if_neg Zo]) (l8.mono ZW.2.1) (fun h0=>by rw[xD,if_neg Zo]) (fun j hj y hy=>hm (j+1) Zo y (by rw[show ko+(j+1)*11=ko+11+j*11 by omega];exact hy)) (fun j y hy=>hr (j+1) y (by rw[<- hgt];exact hy)) ZW.1 ZW.2.2 (fun e=>absurd e Zo),ZU,ao.cut (M:=[kA eF 0 [.int .u8 5,.string x.name,.int .u8 0,.int .i64 0,.int .u64 0,.string e0,Nz,Nz,.int .i64 0,.bool false,Nz,Nz,Nz],kA q5 0 (rN x.kind x.name e1 e2 e3 e4 e5 e6 e7 a1 x.args.length c1 a2 x.ab.length c2 (some ⟨bk,ko,none⟩) x.kids.length c3 x.at_),kA q8 0 [.int .u8 0,.string e0,.int .u8 0,.int .i64 0,.int .u64 0,.string e0,Nz,Nz,.int .i64 0,.bool false,Nz,Nz,Nz],kA X.wq 0 [.map (some X.fb),.map (some X.gb),us],ai us (U.map fun u=>kM (some u.q)) bz,[.obj X.fb (.map X.bI X.fc)],[.obj X.gb (.map X.bM X.gc)],WK U Vs,T,[.obj b (.map es c)],X.S]) ZI (ao.perm Zs)⟩
 rintro⟨k,nm,lit,l1,l2,l3,l4,l5,refs,rv,vv,l,a,ac,bk',o',ks',bN,AI,nY,U1,V1,T1,B⟩ hp
 obtain⟨g1,g2,g3,g4,g5,g6,g7,g8,g9,g10,g11,g12,g13,g14,g15,g16,g17⟩:=hp;simp only at g1 g2 g3 g4 g5 g6 g7 g8 g9 g10 g11 g12 g13 g14 g15 g16 g17;dsimp only;obtain⟨w,hw,po⟩:=sF hu g9;have Tx:∀v∈env,bN.af v∈bN.line i:=fun v hv=>by
  obtain⟨k1,k2⟩:=sA g8 hS.rep.wf g7.rep.wf et (hs.lt v hv);rw[k1,k2];exact DY v hv
 have K2:=Ds l;have au:=uN X l a ac bk' o' ks' Zo g12 g13 g14 (fun j y hy=>ih y (by have:=Nd.aD (Zv hy);omega) (mi g16 (Zv hy)) _ (g14 j y hy)) bN AI nY U1 V1 T1 g7 i w hw env b es c (hs.more g8.vars g10 hS.rep.vl) Tx g11;rw[po]at au;have hlA:=MV X.F X.G l bN env i;obtain⟨A,hA⟩:∃A,A=kV X.F X.G l bN env i:=⟨_,rfl⟩;rw[<- hA]at au g1 hlA;obtain⟨ra,rc,G8⟩:∃ra rc,rv=.slice ra (wz refs).length rc:=let⟨x1,x2,x3,_⟩:=g3;⟨x1,x2,x3⟩;obtain⟨va,vc,hvv⟩:∃va vc,vv=.slice va ((ed refs).map fun r=>(V1.map ax.q).getD r.index.toNat 0).length vc:=let⟨x1,x2,x3,_⟩:=g4;⟨x1,x2,x3⟩;obtain⟨y1,y2,y3,y4,y5,y6,y7,HX⟩:∃(y1:Nat) (y2:Int) (y3:Nat) (y4:ByteArray) (y5:Option Addr) (y6 y7:Nat),[l1,l2,l3,l4,l5]=[.int .u8 y1,.int .i64 y2,.int .u64 y3,.string y4,.slice y5 y6 y7]:=by
  generalize hx:[l1,l2,l3,l4,l5]=lv at g2;cases g2 with
  |mk R5 HP rV dS=>exact⟨_,_,_,_,_,_,_,rfl⟩
 simp only[vh,and_true]at HX;obtain⟨rfl,rfl,rfl,rfl,rfl⟩:=HX;have NO:∀(iX:Value) (cV:List Value) (U4:List UC) (V4:List ax) (T4:List kC) (sv:Value) (rows:List (List Value)) (sp:List Value) (B':List kC) (ps:List PN),V1.map ax.q <+:V4.map ax.q->jG 13 sv ps.length rows.flatten sp->zW B' (V4.map ax.q) ps rows->
  uJ (ai sv rows.flatten sp++(B'++B)) (V4.map ax.q) (.mk k nm lit refs 0 false ps) ([cv k,.string nm]++[.int .u8 y1,.int .i64 y2,.int .u64 y3,.string y4,.slice y5 y6 y7]++[rv,.int .i64 0,.bool false,Nz,vv,sv]):=fun iX cV U4 V4 T4 sv rows sp B' ps C0 bF du=>by
  refine x4 bF (du.more (fun x hx=>Zw _ hx) (QV _)) (g2.more fun x hx=>QB _ hx) (g3.more fun x hx=>QB _ hx) ?_ (g5.more C0) g6;rw[B0 g5 C0];exact g4.more fun x hx=>QB _ hx
 subst G8;subst hvv;generalize K4:(wz refs).length=n1 at*;generalize CY:((ed refs).map fun r=>(V1.map ax.q).getD r.index.toNat 0).length=n2 at*;refine ae ?_;refine kL au Zr ZP (fun v Post hv=>?_) (fun ch Post hz=>?_);rotate_left
 ·obtain⟨q1,Mq,p1,eC,rfl,rfl⟩:=hz;exact⟨[X.S,j9 q1 Mq p1],ZI,q1,Mq,p1,by rw[g1];exact eC,rfl,rfl⟩
 obtain⟨iX,cV,U4,V4,T4,B4,⟨Tg,K9,CZ,rows,yw,B5,Af,cG,rfl⟩,rfl⟩:=hv;simp only[aH];obtain⟨sa,sc,rfl⟩:=Af.form;refine jD ?_;refine VC.join (α:=List (List Value)×List PN) (bn:=fun _=>[(8,kF q8),(12,kF eF)]) (Hf:=fun p=>[kA eF 0 [.int .u8 k,.string nm,.int .u8 y1,.int .i64 y2,.int .u64 y3,.string y4,.slice y5 y6 y7,.slice ra n1 rc,.int .i64 0,.bool false,Nz,.slice va n2 vc,.slice sa A.1.length sc],kA q8 0 [.int .u8 0,.string e0,.int .u8 0,.int .i64 0,.int .u64 0,.string e0,Nz,Nz,.int .i64 0,.bool false,Nz,Nz,Nz],kA X.wq 0 [.map (some X.fb),.map (some X.gb),iX],ai iX (U4.map fun u=>kM (some u.q)) cV,[.obj X.fb (.map X.bI X.fc)],[.obj X.gb (.map X.bM X.gc)],WK U4 V4,T4,[.obj b (.map es c)],X.S,ai (.slice sa A.1.length sc) p.1.flatten yw,B5,B]) (I:=fun p=>p.2=(if x.kind=5 then zX (jW x.kids) A.1 else A.1)/\jG 13 (.slice sa A.1.length sc) p.2.length p.1.flatten yw/\zW B5 (V4.map ax.q) p.2 p.1) ?_ ?_
 ·refine jD ?_;by_cases h5:x.kind=5;rotate_left
  ·rw[show decide ((x.kind:Int)=5)=false from Zf Zo];refine ae ?_;exact⟨(rows,A.1),⟨by rw[if_neg h5],Af,cG⟩,ZU,ao.cut (M:=[kA eF 0 [.int .u8 k,.string nm,.int .u8 y1,.int .i64 y2,.int .u64 y3,.string y4,.slice y5 y6 y7,.slice ra n1 rc,.int .i64 0,.bool false,Nz,.slice va n2 vc,.slice sa A.1.length sc],kA q8 0 [.int .u8 0,.string e0,.int .u8 0,.int .i64 0,.int .u64 0,.string e0,Nz,Nz,.int .i64 0,.bool false,Nz,Nz,Nz],kA X.wq 0 [.map (some X.fb),.map (some X.gb),iX],ai iX (U4.map fun u=>kM (some u.q)) cV,[.obj X.fb (.map X.bI X.fc)],[.obj X.gb (.map X.bM X.gc)],WK U4 V4,T4,[.obj b (.map es c)],X.S,ai (.slice sa A.1.length sc) rows.flatten yw++B5,B]) ZI (ao.perm Zs)⟩
  rw[show decide ((x.kind:Int)=5)=true from Zt Zo];have HV:=g17 h5;obtain⟨sb,so,sc2,gq,hscl,hsla⟩:=Bg Af Zo;simp only[Value.slice.injEq,true_and]at gq;obtain⟨rfl,rfl⟩:=gq;have hrl:rows.length=A.1.length:=cG.len;obtain⟨so',hso'⟩:∃so',so'=(if sc=1 then so else so+1*13):=⟨_,rfl⟩;refine ae ?_;refine mL (l:=1) Zr Zr rfl ⟨Zo,hscl⟩ ?_;rw[<- hso'];refine ae ?_;refine VC.loop (α:=Nat) (bn:=fun j=>[(8,kF q8),(12,kF eF),(14,.bool (jW x.kids)),(144,vi ((A.1.length - 1:Nat):Int)),(145,vi j)]) (Hf:=fun j=>[kA eF 0 [.int .u8 k,.string nm,.int .u8 y1,.int .i64 y2,.int .u64 y3,.string y4,.slice y5 y6 y7,.slice ra n1 rc,.int .i64 0,.bool false,Nz,.slice va n2 vc,.slice (some ⟨sb,so,none⟩) A.1.length sc],kA q8 0 [.int .u8 0,.string e0,.int .u8 0,.int .i64 0,.int .u64 0,.string e0,Nz,Nz,.int .i64 0,.bool false,Nz,Nz,Nz],kA X.wq 0 [.map (some X.fb),.map (some X.gb),iX],ai iX (U4.map fun u=>kM (some u.q)) cV,[.obj X.fb (.map X.bI X.fc)],[.obj X.gb (.map X.bM X.gc)],WK U4 V4,T4,[.obj b (.map es c)],X.S,kA sb so ((wh (jW x.kids) rows j).flatten++yw),B5,B]) (I:=fun j=>j<=A.1.length - 1) (μ:=fun j=>A.1.length - 1 - j) 0 (Qp _) ZU (by rw[LY,<- hsla];exact ao.cut (M:=[kA eF 0 [.int .u8 k,.string nm,.int .u8 y1,.int .i64 y2,.int .u64 y3,.string y4,.slice y5 y6 y7,.slice ra n1 rc,.int .i64 0,.bool false,Nz,.slice va n2 vc,.slice (some ⟨sb,so,none⟩) A.1.length sc],kA q8 0 [.int .u8 0,.string e0,.int .u8 0,.int .i64 0,.int .u64 0,.string e0,Nz,Nz,.int .i64 0,.bool false,Nz,Nz,Nz],kA X.wq 0 [.map (some X.fb),.map (some X.gb),iX],ai iX (U4.map fun u=>kM (some u.q)) cV,[.obj X.fb (.map X.bI X.fc)],[.obj X.gb (.map X.bM X.gc)],WK U4 V4,T4,[.obj b (.map es c)],X.S,ai (.slice (some ⟨sb,so,none⟩) A.1.length sc) rows.flatten yw++B5,B]) ZI (ao.perm Zs)) ?_;intro j hj;refine ae ?_;by_cases aO:j < A.1.length - 1;rotate_left
  ·rw[show decide ((j:Int) < ((A.1.length - 1:Nat):Int))=false from Zf Zo];have Zu:j=A.1.length - 1:=by omega
   subst Zu;refine ae ?_;refine⟨(wh (jW x.kids) rows (A.1.length - 1),zX (jW x.kids) A.1),⟨by rw[if_pos h5],?_,Du cG _⟩,ZU,by rw[hsla];exact bQ⟩;rw[I3];exact Af.other (by rw[pI (hO cG.w),pI cG.w,wO])
  rw[show decide ((j:Int) < ((A.1.length - 1:Nat):Int))=true from Zt Zo];obtain⟨r,E3⟩:∃r,rows[j+1]? =some r:=⟨_,Zg Zo⟩;have hrw:=cG.w r (Zv E3);have hsj:(wh (jW x.kids) rows j)[j+1]? =some r:=by rw[zF E3,if_neg Zo]
  have C2:((wh (jW x.kids) rows j).flatten++yw).set ((j+1)*13+9) (.bool (jW x.kids))=(wh (jW x.kids) rows (j+1)).flatten++yw:=by
   have fG:=pI (hO (b:=jW x.kids) (j:=j) cG.w);rw[wO]at fG;rw[List.set_append_left _ _ (by rw[fG];omega),Ns (hO cG.w) hsj Zd,DC E3]
  refine ae ?_;refine ie (us:=[.bool (jW x.kids)]) Zr Zr Zr Zr Zr (.there (.there (.there (.there (.there (.there (.there (.there (.there (.there (Mo.set1 (i:=(j+1)*13+9) Zo ?_))))))))))) ?_
  ·have fG:=pI (hO (b:=jW x.kids) (j:=j) cG.w);rw[wO]at fG;rw[Vt,fG];omega
  rw[C2];refine ae ?_;exact⟨j+1,Zo,Zo,ZU,ZI⟩
 rintro⟨XX,ps⟩ ⟨Mz,hsl5,NU⟩
 simp only at Mz hsl5 NU;dsimp only;rw[<- Mz]at g1;have Mw:=NO iX cV U4 V4 T4 _ _ _ _ ps CZ hsl5 NU;refine ae ?_;refine jM ⟨.inr rfl,_,[kA X.wq 0 [.map (some X.fb),.map (some X.gb),iX],ai iX (U4.map fun u=>kM (some u.q)) cV,[.obj X.fb (.map X.bI X.fc)],[.obj X.gb (.map X.bM X.gc)],WK U4 V4,T4,[.obj b (.map es c)],X.S,ai (.slice sa A.1.length sc) XX.flatten yw++(B5++B)],.aJ (us:=[.int .u8 k,.string nm,.int .u8 y1,.int .i64 y2,.int .u64 y3,.string y4,.slice y5 y6 y7,.slice ra n1 rc,.int .i64 0,.bool false,Nz,.slice va n2 vc,.slice sa A.1.length sc]) Zr Zr (fun y hy=>by simp only[V9,QA];repeat (first|exact Or.inl hy|refine Or.inr ?_)) .nil,ao.cut (M:=[kA X.wq 0 [.map (some X.fb),.map (some X.gb),iX],ai iX (U4.map fun u=>kM (some u.q)) cV,[.obj X.fb (.map X.bI X.fc)],[.obj X.gb (.map X.bM X.gc)],WK U4 V4,T4,[.obj b (.map es c)],X.S,ai (.slice sa A.1.length sc) XX.flatten yw,B5,B]) ZI (ao.perm Zs),⟨iX,cV,U4,V4,T4,_,⟨by rw[g1];exact Tg,g9.trans K9,g10.trans CZ,_,rfl,by rw[g1];exact Mw⟩,rfl⟩⟩
theorem We(X:Fix)(hX:MM X):∀N,N < 1073741824->∀x,x.size<=N->O8 x=true->∀vs,jJ X.S x vs->ot X x vs:=by
 intro N
 induction N with
 |zero=>intro _ x hx;have:=x.size_pos;omega
 |succ N ih=>exact fun hN x hx aM vs h=>LJ X hX N Zo (ih Zo) x hx aM vs h
end Go.Proofs.YtijnokbblmbpkaaGreatDoor
namespace Go.V
open Go
structure AM (F:List ByteArray)(j:Nat)(es:Array MapEntry)(c:Nat):Prop where
 is:∃m:List (ByteArray×Nat),zk yC (fun n:Nat=>.int .i64 n) es c m/\∀nm,ky nm m=(F.take j).findIdx? (fun s=>decide (s=nm))
structure AO (G:List ByteArray)(j:Nat)(es:Array MapEntry)(c:Nat):Prop where
 is:∃m:List (ByteArray×Nat),zk yC (fun n:Nat=>.int .i64 n) es c m/\(∀nm,decide ((ky nm m).getD 0=0)=!(G.take j).any (fun s=>decide (s=nm)))/\∀nm,(ky nm m).getD 0<=j
theorem AM.nil(F:List ByteArray):AM F 0 #[] 0:=⟨[],.nil,fun _=>by rw[Qa];rfl⟩
theorem AO.nil(G:List ByteArray):AO G 0 #[] 0:=⟨[],.nil,fun _=>by rw[Qa];rfl,fun _=>Qp _⟩
theorem AM.all {F:List ByteArray}{j:Nat}{es:Array MapEntry}{c:Nat}(h:AM F j es c)(hj:F.length<=j):pu F es c:=by
 obtain⟨m,h1,h2⟩:=h.is;rw[QZ hj]at h2;exact⟨m,h1,h2⟩
theorem AO.all {G:List ByteArray}{j:Nat}{es:Array MapEntry}{c:Nat}(h:AO G j es c)(hj:G.length<=j):tW G es c:=by
 obtain⟨m,h1,h2,_⟩:=h.is;rw[QZ hj]at h2;exact⟨m,h1,h2⟩
theorem EN {F:List ByteArray}{j:Nat}{s:ByteArray}(hs:F[j]? =some s)(nm:ByteArray):(F.take (j+1)).findIdx? (fun t=>decide (t=nm))=((F.take j).findIdx? (fun t=>decide (t=nm))).or (if s=nm then some j else none):=by
 have hl:=(Vm.1 hs).1;have e:F.take (j+1)=F.take j++[s]:=by rw[QX,hs];rfl
 rw[e,List.findIdx?_append,Q4,Nat.min_eq_left Zo]
 congr 1
 rw[V5,List.findIdx?_nil];by_cases c:s=nm
 ·rw[Zt c,if_pos c];simp
 ·rw[Zf c,if_neg c];simp
theorem ER {G:List ByteArray}{j:Nat}{s:ByteArray}(hs:G[j]? =some s)(nm:ByteArray):(G.take (j+1)).any (fun t=>decide (t=nm))=((G.take j).any (fun t=>decide (t=nm))||decide (s=nm)):=by
 have e:G.take (j+1)=G.take j++[s]:=by rw[QX,hs];rfl
 rw[e,List.any_append,vd,List.any_nil,vR]
theorem Cb(F G args ab:List ByteArray)(kids:List Nd)(hk:∀y∈kids,kO y≠none):jh F G (mC F G args ab kids) [] (wJ ([]++args++ab) [] kids):=by
 unfold mC;rw[zc];have Jz:=cP (F:=F) (G:=G) 0 true true 0 args 0 (qJ.aN (-1) args.length) [] [] rfl;have hE:zV (qJ.aN (-1) args.length) [] []:=⟨(fun v h=>by cases h),fun nm=>by rw[eV];simp⟩;have Te:=zV.decl 0 true true 0 args 0 _ [] [] hE;have Tf:zV (bi args ab 0 qJ [] (-1)).1 (bi args ab 0 qJ [] (-1)).2 ([]++args++ab):=zV.decl 0 false true 0 ab 0 _ _ _ Te;have JA:jh F G (bi args ab 0 qJ [] (-1)).1 [] []:=Jz.comp (fun hf=>cP 0 false true 0 ab 0 _ _ [] hf) (zT _ _ _ _ _ _ _ _) (fun _ k=>k);have au:∀(l:List Nd),(∀y∈l,kO y≠none)->∀st env u seen out,st.f=none->zV st env seen->jh F G (kV F G l st env u).2 out (wJ seen out l):=by
  intro l
  induction l with
  |nil=>intro _ st env u seen out h hs;rw[kV,wJ];exact jh.refl h
  |cons x r xI=>
   intro hd st env u seen out h hs;rw[wX,wJ];have g:=(zo F G _ x (Qh _) st env u).1;exact(LF F G _ x (Qh _) (hd x Zs) st env u seen out h hs).1.comp (fun hf=>xI (fun y hy=>hd y (by simp[hy])) _ env u seen _ hf (hs.gr g.vars)) (wn F G r _ env u) (zf seen r _)
 exact(JA.comp (fun hf=>au kids hk (bi args ab 0 qJ [] (-1)).1 (bi args ab 0 qJ [] (-1)).2 0 _ [] hf Tf) (wn F G kids _ _ _) (zf _ kids _)).of rfl
theorem Ej {st:ah}{e:Nat}{p:Int}(h:st.f=some (e,p)):st.answer=([],e,p):=by
 unfold ah.answer;rw[h]
end Go.V
namespace Go.Proofs.YtijnokbblmbpkaaGreatDoor
open Go Go.V
set_option maxHeartbeats 12800000
set_option maxRecDepth 100000
theorem LS(a b:Nat)(A:List kC)(B:List kC):gI Tryz.prog 48 [kF a,kF b] .returning .returning [A,B] (fun Post=>Post=[A,B]):=by
 refine gI.intro XP (by simp[n48]) .none ?_;refine ae ?_;refine ow.seq (ow.ly ?_);refine ae ?_;refine ow.cond (t:=false) Zr (fun h=>by cases h) (fun _=>ow.skip ?_);exact kG (Post:=[A,B]) (.inl rfl) .nil rfl ZI
theorem Ca(q6 q7 q e:Nat)(p:Int)(v1:Value)(v2:Value)(v3:Value)(v4:Value):gI Tryz.prog 48 [kF q6,kF q7] (.panicking (oH q)) (.panicking [{v:=EI q,recovered:=true}]) [kA q6 0 [v1,v2,v3],kA q7 0 [v4],j9 q e p] (fun Post=>Post=[kA q6 0 [.string e0,.int .i64 0,Nz],kA q7 0 [EI q],j9 q e p]):=by
 refine gI.intro XP (by simp[n48]) .some ?_;unfold EI;refine ae ?_;refine ow.seq (ow.ly ?_);refine ae ?_;refine ow.cond (t:=true) Zr (fun _=>ow.ly ?_) (fun h=>by cases h);refine ae ?_;exact kG (Post:=[kA q6 0 [.string e0,.int .i64 0,Nz],kA q7 0 [.iface 80 (kF q)],j9 q e p]) (.inl rfl) .nil rfl (by unfold e0;exact bQ)
def Cx(F G:List ByteArray)(x:Md):List yJ×Nat×Int:=if wK x=0 then(mC F G x.args x.ab x.body).answer else([],wK x,0)
def ResR(S:List kC)(F G:List ByteArray)(x:Md)(v:Value)(Post:SH):Prop:=
 (∃l D5 B,Cx F G x=(l,0,0)/\v=.tuple #[.agg #[.string x.aP,vi x.az,D5],.nilIface]/\MT B D5 l/\Post=[S,B])∨
 (∃e p q,Cx F G x=([],e,p)/\e≠0/\v=.tuple #[.agg #[.string e0,.int .i64 0,Nz],.iface 80 (kF q)]/\Post=[S,j9 q e p])
theorem sC {x:Md}(h:wK x=0):∀y∈x.body,kO y≠none:=by
 have hm:dc x≠none:=by
  intro e;unfold wK at h;rw[e]at h;cases h
 unfold dc at hm;have h1:=(p7 (p7 (wS hm).2).2).2;rw[<- jn]at h1;exact Gv (xW h1)
theorem Ly {x:Md}(h:wK x=0)(hw:Nd.ws x.body<=274877906944):qh x.body=true:=JV fun y hy=>O1 y (sC h y hy) (by have:=Nd.cq hy;omega)
theorem ir(S:List kC)(x:Md)(vs:List Value)(h:Ec S x vs)(F G:List ByteArray)(fv gv:Value)(hF:eg S fv F)(hG:eg S gv G)(hFl:F.length<=1048576)(hGl:G.length<=1048576)(Y6:oC x.args x.ab x.body<=1048576)(eu:Nd.aw x.body<=1048576)(hw:Nd.ws x.body<=274877906944):
 aq Tryz.prog 15 [.agg vs.toArray,fv,gv] [S] (fun v Post=>ResR S F G x v Post):=by
 have Tn:=Hh S x vs h;obtain⟨⟨aa,ac,ta,tc,a,c,bk,o,us,rfl,bK,bG,bh⟩,bW,pL⟩:=h;obtain⟨fa,fc,rfl,fG,xx⟩:=hF;obtain⟨ga,gc,rfl,hgl,DW⟩:=hG;refine aq.JO low15 (by simp[n15]) ?_;simp only[F15,Bi,VDP];refine ae ?_;refine kY Zr (fun q3=>?_);simp only[Value.cells];refine kN (fun q6=>?_);refine kN (fun q7=>?_);refine ae ?_;refine kJ Tn Zr ZP (fun v Post hv=>?_);obtain⟨rfl,rfl⟩:=hv;simp only[aH];refine ae ?_;have hc255:wK x < 256:=by
  unfold wK Nj
  repeat' split
  all_goals omega
 by_cases hc:wK x=0;rotate_left
 ·rw[show decide ((wK x:Int)=0)=false from Zf Zo];refine ae ?_;refine kY Zr (fun q=>?_);simp only[Value.cells];refine ae ?_;refine⟨.inr rfl,[.agg #[.string e0,.int .i64 0,Nz],.iface 80 (kF q)],[S,j9 q (wK x) 0],.aJ (us:=[.string e0,.int .i64 0,Nz]) Zr Zr (fun y hy=>by simp only[V9,QA];repeat (first|exact Or.inl hy|refine Or.inr ?_)) (.bT Zr Ji .nil),by unfold j9 O0;exact bQ,.inr ⟨wK x,0,q,by unfold Cx;rw[if_neg hc],hc,rfl,rfl⟩⟩
 rw[show decide ((wK x:Int)=0)=true from Zt Zo];have CQ:Cx F G x=(mC F G x.args x.ab x.body).answer:=by unfold Cx;rw[if_pos hc]
 have hkD:=sC hc;have mT:=Ly hc hw;refine ae ?_;refine⟨[kF q6,kF q7],Zr,?_⟩;refine ae ?_;refine ia (fun fb=>?_);refine ae ?_;refine ia (fun gb=>?_);refine ae ?_;refine kY Zr (fun wq=>?_);simp only[Value.cells];refine jD ?_;refine VC.join (α:=Array MapEntry×Nat) (bn:=fun _=>[(2,.slice ga G.length gc),(3,kF q3),(6,kF q6),(7,kF q7),(9,kF wq)]) (Hf:=fun s=>[kA wq 0 [.map (some fb),.map (some gb),Nz],[.obj fb (.map s.1 s.2)],[.obj gb (.map #[] 0)],S,kA q7 0 [.nilIface],kA q6 0 [.string e0,.int .i64 0,Nz],kA q3 0 [.string x.aP,.slice aa x.args.length ac,.slice ta x.ab.length tc,vi x.az,.slice a x.body.length c]]) (I:=fun s=>pu F s.1 s.2) ?_ ?_
 ·refine ae ?_;refine VC.loop (α:=Nat×Array MapEntry×Nat) (bn:=fun s=>[(2,.slice ga G.length gc),(3,kF q3),(6,kF q6),(7,kF q7),(9,kF wq),(31,.slice fa F.length fc),(32,vi F.length),(33,vi s.1)]) (Hf:=fun s=>[kA wq 0 [.map (some fb),.map (some gb),Nz],[.obj fb (.map s.2.1 s.2.2)],[.obj gb (.map #[] 0)],S,kA q7 0 [.nilIface],kA q6 0 [.string e0,.int .i64 0,Nz],kA q3 0 [.string x.aP,.slice aa x.args.length ac,.slice ta x.ab.length tc,vi x.az,.slice a x.body.length c]]) (I:=fun s=>s.1<=F.length/\AM F s.1 s.2.1 s.2.2) (μ:=fun s=>F.length - s.1) (0,#[],0) ⟨Qp _,AM.nil F⟩ ZU (by unfold e0;exact bQ) ?_
  rintro⟨j,es,c0⟩ ⟨hj,Sr⟩
  simp only at hj Sr;dsimp only;refine ae ?_;by_cases aO:j < F.length;rotate_left
  ·rw[show decide ((j:Int) < (F.length:Int))=false from Zf Zo];refine ae ?_;exact⟨(es,c0),Sr.all Zo,ZU,ZI⟩
  rw[show decide ((j:Int) < (F.length:Int))=true from Zt Zo];obtain⟨s,hs⟩:∃s,F[j]? =some s:=⟨_,Zg aO⟩;obtain⟨b1,o1,rfl,eX,XC⟩:=xx j s hs;obtain⟨m,yV,rV⟩:=Sr.is;refine ae ?_;refine wx (E:=yC) (V:=fun n:Nat=>.int .i64 n) (k:=s) Zr Zr rfl (.there .here) yV ?_;cases hg:ky s m with
  |some i0=>
   refine ae ?_;refine⟨(j+1,es,c0),⟨by simp only;omega,⟨m,yV,fun nm=>?_⟩⟩,by simp only;omega,ZU,ZI⟩;show ky nm m=(F.take (j+1)).findIdx? _;rw[EN hs,<- rV];by_cases e:s=nm
   ·subst e;rw[hg];rfl
   ·rw[if_neg e];simp
  |none=>
   refine ae ?_;refine ww (E:=yC) (V:=fun n:Nat=>.int .i64 n) (k:=s) (v:=j) Zr Zr Zr rfl ZK yV (fun cw c' lE=>?_);refine ae ?_;refine⟨(j+1,cw,c'),⟨by simp only;omega,⟨jg s j m,lE,fun nm=>?_⟩⟩,by simp only;omega,ZU,ZI⟩;show ky nm (jg s j m)=(F.take (j+1)).findIdx? _;rw[EN hs,<- rV,wC];by_cases e:s=nm
   ·subst e;rw[if_pos rfl,if_pos rfl,hg];rfl
   ·rw[if_neg e,if_neg e];simp
 rintro⟨bI,fcl⟩ JE
 simp only at JE;dsimp only;refine VC.join (α:=Array MapEntry×Nat) (bn:=fun _=>[(3,kF q3),(6,kF q6),(7,kF q7),(9,kF wq)]) (Hf:=fun s=>[kA wq 0 [.map (some fb),.map (some gb),Nz],[.obj fb (.map bI fcl)],[.obj gb (.map s.1 s.2)],S,kA q7 0 [.nilIface],kA q6 0 [.string e0,.int .i64 0,Nz],kA q3 0 [.string x.aP,.slice aa x.args.length ac,.slice ta x.ab.length tc,vi x.az,.slice a x.body.length c]]) (I:=fun s=>tW G s.1 s.2) ?_ ?_
 ·refine ae ?_;refine VC.loop (α:=Nat×Array MapEntry×Nat) (bn:=fun s=>[(3,kF q3),(6,kF q6),(7,kF q7),(9,kF wq),(56,.slice ga G.length gc),(57,vi G.length),(58,vi s.1)]) (Hf:=fun s=>[kA wq 0 [.map (some fb),.map (some gb),Nz],[.obj fb (.map bI fcl)],[.obj gb (.map s.2.1 s.2.2)],S,kA q7 0 [.nilIface],kA q6 0 [.string e0,.int .i64 0,Nz],kA q3 0 [.string x.aP,.slice aa x.args.length ac,.slice ta x.ab.length tc,vi x.az,.slice a x.body.length c]]) (I:=fun s=>s.1<=G.length/\AO G s.1 s.2.1 s.2.2) (μ:=fun s=>G.length - s.1) (0,#[],0) ⟨Qp _,AO.nil G⟩ ZU ZI ?_
  rintro⟨j,es,c0⟩ ⟨hj,hgd⟩
  simp only at hj hgd;dsimp only;refine ae ?_;by_cases aO:j < G.length;rotate_left
  ·rw[show decide ((j:Int) < (G.length:Int))=false from Zf Zo];refine ae ?_;exact⟨(es,c0),hgd.all Zo,ZU,ZI⟩
  rw[show decide ((j:Int) < (G.length:Int))=true from Zt Zo];obtain⟨s,hs⟩:∃s,G[j]? =some s:=⟨_,Zg aO⟩;obtain⟨b1,o1,rfl,eX,XC⟩:=DW j s hs;obtain⟨m,yV,rV,hm3⟩:=hgd.is;have Xu:=hm3 s;refine ae ?_;refine wx (E:=yC) (V:=fun n:Nat=>.int .i64 n) (k:=s) Zr Zr rfl (.there (.there .here)) yV ?_;have HX:mh false (.int .i64 0) ((ky s m).map fun n:Nat=>.int .i64 n)=.int .i64 ((ky s m).getD 0:Nat):=by cases ky s m <;> rfl
  rw[HX];generalize hgn:(ky s m).getD 0=gn at Xu;refine ae ?_;refine ww (E:=yC) (V:=fun n:Nat=>.int .i64 n) (k:=s) (v:=gn+1) Zr Zr Zr rfl ZK yV (fun cw c' lE=>?_);refine ae ?_;refine⟨(j+1,cw,c'),⟨by simp only;omega,⟨jg s (gn+1) m,lE,fun nm=>?_,fun nm=>?_⟩⟩,by simp only;omega,ZU,ZI⟩
  ·show decide ((ky nm (jg s (gn+1) m)).getD 0=0)=!(G.take (j+1)).any _;rw[ER hs,wC];by_cases e:s=nm
   ·subst e;simp
   ·rw[if_neg e,Zf e,vR];exact rV nm
  ·show(ky nm (jg s (gn+1) m)).getD 0<=j+1;rw[wC];by_cases e:s=nm
   ·rw[if_pos e];show gn+1<=j+1;omega
   ·rw[if_neg e];have:=hm3 nm;omega
 rintro⟨bM,gcl⟩ NL
 simp only at NL;dsimp only;obtain⟨X,hX⟩:∃X:Fix,X=⟨F,G,wq,fb,gb,bI,bM,fcl,gcl,S⟩:=⟨_,rfl⟩;have hXok:MM X:=by rw[hX];exact⟨JE,NL⟩
 have ZD:=Ds x.body;refine ae ?_;refine ia (fun mb=>?_);have hS0:gM qJ Nz [] [] [] []:=⟨⟨ph0.wf,rfl,rfl,.nil,(fun i u h=>by simp at h),(fun i u h=>by simp at h),(fun i u h=>by simp at h),(fun i u h=>by simp at h),(fun v x y h=>by simp[qJ]at h)⟩,rfl,.nil,fun i u h=>by simp at h⟩;have KT:=uT X (.int .u8 0) (.int .u8 0) (.int .i64 0) (.int .u64 0) (.string e0) Nz (.string e0) x.args x.ab (.slice aa x.args.length ac) (.slice ta x.ab.length tc) (by rw[hX];exact bK) (by rw[hX];exact bG) x.body a c bk o us Zo bh.at_ (by rw[hX];exact bh.mem) (by rw[hX];exact bh.rd)
  (fun i' x' oh=>We X hXok 1048576 Zo x' (by have:=Nd.aD (Zv oh);omega) (mi mT (Zv oh)) _ (by rw[hX];exact bh.rd i' x' oh)) 0 qJ Nz [] [] [] [] hS0 (-1) ⟨Zo,Zd⟩ [] mb #[] 0 ⟨.nil,(fun v h=>by cases h),.nil⟩ (fun v h=>by cases h) ⟨by show 0+_ < _;unfold oC at Y6;omega,by show 0+_ < _;unfold oC at Y6;omega,by show 0+_ < _;unfold oC at Y6;omega⟩
 rw[hX]at KT;simp only at KT;have hroot:oj F G x.args x.ab x.body 0 qJ [] (-1)=mC F G x.args x.ab x.body:=rfl;rw[hroot]at KT;have ND:jf Tryz.prog 49 [kF wq,.agg #[.int .u8 0,.string e0,.int .u8 0,.int .i64 0,.int .u64 0,.string e0,Nz,.slice aa x.args.length ac,.slice ta x.ab.length tc,.slice a x.body.length c,.int .i64 0],.pointer none,.map (some mb)] [kA wq 0 [.map (some fb),.map (some gb),Nz],[.obj fb (.map bI fcl)],[.obj gb (.map bM gcl)],[.obj mb (.map #[] 0)],S] _ _:=(KT.conv (R:=[]) (by simp[V.dX,ai,WK]) (fun v Post h=>⟨Post,h,by rw[vg];exact ao.refl _⟩) (fun ch Post h=>⟨Post,h,by rw[vg];exact ao.refl _⟩));have ZQ:=Wu F G x.args x.ab x.body;have Xz:=Cb F G x.args x.ab x.body hkD;obtain⟨st,lF⟩:∃st,st=mC F G x.args x.ab x.body:=⟨_,rfl⟩;rw[<- lF]at CQ ZQ Xz;simp only[<- lF]at ND;refine kL ND Zr ZP (fun v Post hv=>?_) (fun ch Post hz=>?_);rotate_left
 ·obtain⟨q,e,p,hf,rfl,rfl⟩:=hz;have hae:=Ej hf;have he0:e≠0:=by rcases Xz.err e p hf with h|h|h <;> omega
  refine⟨[kA q6 0 [.string e0,.int .i64 0,Nz],kA q7 0 [.nilIface],j9 q e p],_,_,_,Ca q6 q7 q e p _ _ _ _,rfl,ZP,?_⟩;exact zB0
 obtain⟨AI,nY,U1,V1,T1,⟨KQ,_,_,w,Ha,rfl⟩,rfl⟩:=hv;simp only[aH];obtain⟨l1,l2,l3⟩:=ZQ.less;have hbnds:Bnds st:=⟨⟨Zo,Zo,fun j=>by
  rw[Vb];cases e:st.args[j]? with
  |none=>simp
  |some a=>have:=ZQ.bw.ar a (Zv e);simp only[Qs];omega⟩,fun l hl=>by have:=ZQ.bw.bd l hl;omega⟩
 have hsc:=IS st ZQ.ph hbnds KQ.ok U1 V1 KQ.rep.laid AI nY KQ.sl T1 KQ.Xg wq (.map (some fb)) (.map (some gb)) (.slice aa x.args.length ac) (.slice ta x.ab.length tc) (.slice a x.body.length c) x.aP x.az;refine ae ?_;refine kL hsc Zr ZP (fun v Post hv=>?_) (fun ch Post hz=>?_);rotate_left
 ·obtain⟨q,hae,rfl,rfl⟩:=hz;obtain⟨e,he⟩:∃e:Nat,e=183:=⟨_,rfl⟩;obtain⟨p,hp⟩:∃p:Int,p=0:=⟨_,rfl⟩;rw[<- he,<- hp]at hae;have he0:e≠0:=by omega
  rw[show j9 q 183 0=j9 q e p by rw[he,hp]];refine⟨[kA q6 0 [.string e0,.int .i64 0,Nz],kA q7 0 [.nilIface],j9 q e p],_,_,_,Ca q6 q7 q e p _ _ _ _,rfl,ZP,?_⟩;exact zB0
 obtain⟨D5,B,⟨HP,rfl,Ub⟩,rfl⟩:=hv;obtain⟨usa,usc,hue⟩:∃usa usc,D5=.slice usa ((List.range st.outer.length).map st.aL).length usc:=let⟨e1,e2,_,_,_,e3,_⟩:=Ub;⟨e1,e2,e3⟩;subst hue;generalize hl:(List.range st.outer.length).map st.aL=lu at*;generalize DY:lu.length=ln at*;simp only[aH];refine ae ?_;refine⟨.inr rfl,[kA q6 0 [.string x.aP,vi x.az,.slice usa ln usc],kA q7 0 [.nilIface]],_,_,LS q6 q7 _ _,ZP,?_⟩
 rintro Post rfl
 refine⟨.inr rfl,[.agg #[.string x.aP,vi x.az,.slice usa ln usc],.nilIface],[S,B],.aJ (us:=[.string x.aP,vi x.az,.slice usa ln usc]) Zr Zr (fun y hy=>by simp only[vj,QL,V9,QA];repeat (first|exact Or.inl hy|refine Or.inr ?_)) (.bT Zr Ji .nil),by simp only[aH];exact bQ,.inl ⟨_,_,B,CQ.trans HP,rfl,Ub,rfl⟩⟩
set_option maxHeartbeats 3200000
section
variable (A:List kC)
theorem Kj:aq Tryz.prog 16 [.nilIface] [A] (fun v Post=>v=.tuple #[.int .i64 0,.int .i64 0]/\Post=[A]):=by
 refine aq.intro XO (by simp[n16]) ?_;refine ae ?_;refine kG (.inr rfl) (.tmp Zr (.tmp Zr .nil)) ⟨by simp[bJ],rfl⟩ ZI
variable (hE:X7∈A)
include hE
theorem Ee(k:Nat)(a n:Int)(ha:kC.cell k 1 (.int .i64 a)∈A)(hk:kC.cell k 2 (.iface 44 (.int .i64 n))∈A):aq Tryz.prog 16 [flP k] [A] (fun v Post=>v=.tuple #[.int .i64 n,.int .i64 a]/\Post=[A]):=by
 refine aq.intro XO (by simp[n16]) ?_;unfold flP;refine ae ?_;refine kN (fun pe=>?_);refine ae ?_;refine kN (fun pf=>?_);refine ae ?_;refine kJ (SN A hE k pf _) Zr ZP (fun v Post hv=>?_);obtain⟨rfl,rfl⟩:=hv;simp only[aH];refine ae ?_;refine kJ (As_in A hE k n hk pe _) Zr ZP (fun v Post hv=>?_);obtain⟨rfl,rfl⟩:=hv;simp only[aH];refine ae ?_;refine kG (.inr rfl) (.tmp Zr (.tmp Zr .nil)) ⟨by simp[bJ],rfl⟩ ZI
end
noncomputable def F73:aQ:=bb (o:=gF pq Tryz.f73 [])
theorem n73:F73.n=8:=rfl
theorem low73:aZ Tryz.prog 73 []=some F73:=by kernel_rfl
end Go.Proofs.YtijnokbblmbpkaaGreatDoor
namespace Go.V
open Go
structure uI (out:List ByteArray)(es:Array MapEntry)(c:Nat):Prop where
 is:∃m,zk yC (fun n:Nat=>.int .i64 n) es c m/\∀s,((ky s m).getD 0=0↔zY s=0/\s∉out)
structure rl (seen:List ByteArray)(es:Array MapEntry)(c:Nat):Prop where
 is:∃m,zk yC (fun n:Nat=>.int .i64 n) es c m/\(∀s,((ky s m).getD 0=0↔s∉seen))/\∀s,(ky s m).getD 0<=seen.length
theorem rl.nil:rl [] #[] 0:=⟨⟨[],.nil,fun s=>by simp[ky],fun s=>by simp[ky]⟩⟩
theorem JQ {m:List (ByteArray×Nat)}{s:ByteArray}:mh false (.int .i64 0) ((ky s m).map fun n:Nat=>.int .i64 n)=.int .i64 ((ky s m).getD 0:Nat):=by cases ky s m <;> rfl
theorem Ux {out:List ByteArray}{m:List (ByteArray×Nat)}{k:Nat}{s:ByteArray}(h:∀s,((ky s m).getD 0=0↔zY s=0/\s∉out)):∀t,((ky t (jg s (k+1) m)).getD 0=0↔zY t=0/\t∉out++[s]):=by
 intro t;rw[wC,QA,QK];by_cases e:s=t
 ·rw[if_pos e];exact⟨fun h=>absurd h Zs,fun h=>absurd (.inr e.symm) h.2⟩
 ·rw[if_neg e,h t];exact⟨fun g=>⟨g.1,fun c=>c.elim g.2 (fun c=>e c.symm)⟩,fun g=>⟨g.1,fun c=>g.2 (.inl c)⟩⟩
theorem NI {seen:List ByteArray}{m:List (ByteArray×Nat)}{s:ByteArray}(h:∀s,((ky s m).getD 0=0↔s∉seen))(hl:∀s,(ky s m).getD 0<=seen.length):
 (∀t,((ky t (jg s ((ky s m).getD 0+1) m)).getD 0=0↔t∉seen++[s]))/\∀t,(ky t (jg s ((ky s m).getD 0+1) m)).getD 0<=(seen++[s]).length:=by
 refine⟨fun t=>?_,fun t=>?_⟩
 ·rw[wC,QA,QK];by_cases e:s=t
  ·rw[if_pos e];exact⟨fun h=>absurd h Zs,fun h=>absurd (.inr e.symm) h⟩
  ·rw[if_neg e,h t];exact⟨fun g c=>c.elim g (fun c=>e c.symm),fun g c=>g (.inl c)⟩
 ·rw[wC,Vt,Q3];have:=hl s;have:=hl t;by_cases e:s=t
  ·rw[if_pos e];show(ky s m).getD 0+1<=_;omega
  ·rw[if_neg e];omega
theorem OP:∀s,((ky s (jg qg 1 (jg x9 1 (jg Fv 1 (jg nh 1 (jg x8 1 ([]:List (ByteArray×Nat)))))))).getD 0=0↔zY s=0/\s∉([]:List ByteArray)):=by
 intro s;rw[wC,wC,wC,wC,wC];by_cases a:qg=s
 ·rw[if_pos a];subst a;exact⟨fun h=>absurd h Zs,fun h=>absurd h.1 Zd⟩
 rw[if_neg a];by_cases b:x9=s
 ·rw[if_pos b];subst b;exact⟨fun h=>absurd h Zs,fun h=>absurd h.1 Zd⟩
 rw[if_neg b];by_cases c:Fv=s
 ·rw[if_pos c];subst c;exact⟨fun h=>absurd h Zs,fun h=>absurd h.1 Zd⟩
 rw[if_neg c];by_cases d:nh=s
 ·rw[if_pos d];subst d;exact⟨fun h=>absurd h Zs,fun h=>absurd h.1 Zd⟩
 rw[if_neg d];by_cases e:x8=s
 ·rw[if_pos e];subst e;exact⟨fun h=>absurd h Zs,fun h=>absurd h.1 Zd⟩
 rw[if_neg e];have hz:zY s=0:=by
  unfold zY;rw[if_neg (fun k=>k.elim (fun k=>e k.symm) (fun k=>d k.symm)),if_neg (fun k=>c k.symm),if_neg (fun k=>b k.symm),if_neg (fun k=>a k.symm)]
 exact⟨fun _=>⟨hz,Zs⟩,fun _=>rfl⟩
mutual
theorem Jw(seen:List ByteArray):∀(x:Nd) (out:List ByteArray),(lV seen out x).length<=out.length+x.w
 |.mk k s lit args ab kids p,out=>by
  rw[lV];have:=xj (if k=7 then seen++args++ab else seen) kids (if(k=2∨k=3)/\zY s=0/\s∉seen/\s∉out then out++[s]else out);have h2:(if(k=2∨k=3)/\zY s=0/\s∉seen/\s∉out then out++[s]else out).length<=out.length+1:=by
   split
   ·rw[Vt,Q3];exact Qh _
   ·omega
  simp only[Nd.w];omega
theorem xj(seen:List ByteArray):∀(l:List Nd) (out:List ByteArray),(wJ seen out l).length<=out.length+Nd.ws l
 |[],out=>by rw[wJ];simp only[Nd.ws];omega
 |x::r,out=>by
  rw[wJ];have h1:=Jw seen x out;have h2:=xj seen r (lV seen out x);simp only[Nd.ws];omega
end
mutual
theorem EP(seen:List ByteArray)(B:Nat):∀(x:Nd) (out:List ByteArray),x.w<=B->(∀t∈out,t.size<=B)->∀t∈lV seen out x,t.size<=B
 |.mk k s lit args ab kids p,out,hw,ho=>by
  rw[lV];simp only[Nd.w]at hw;refine A7 _ B kids _ Zo ?_;split
  ·intro t ht;rcases QA.1 ht with h|h
   ·exact ho t h
   ·rw[QK.1 h];omega
  ·exact ho
theorem A7(seen:List ByteArray)(B:Nat):∀(l:List Nd) (out:List ByteArray),Nd.ws l<=B->(∀t∈out,t.size<=B)->∀t∈wJ seen out l,t.size<=B
 |[],out,hw,ho=>by rw[wJ];exact ho
 |x::r,out,hw,ho=>by
  rw[wJ];simp only[Nd.ws]at hw;exact A7 seen B r _ Zo (EP seen B x out Zo ho)
end
theorem Dv(b:List Nd):∀(a:List Nd),Nd.ws (a++b)=Nd.ws a+Nd.ws b
 |[]=>by rw[QL,Nd.ws,Qo]
 |x::r=>by rw[vj,Nd.ws,Nd.ws,Dv b r,Qc]
theorem A8(seen:List ByteArray)(z:Nd):∀(l:List Nd) (out:List ByteArray),wJ seen out (l++[z])=lV seen (wJ seen out l) z
 |[],out=>by rw[QL,wJ,wJ,wJ]
 |x::r,out=>by rw[vj,wJ,wJ,A8 seen z r]
structure FrOk (seen out:List ByteArray)(Ar:Array MapEntry)(mc:Nat)(lE:Array MapEntry)(hc:Nat)(sv:Value)(sp:List Value):Prop where
 met:uI out Ar mc
 held:rl seen lE hc
 sl:jG 1 sv out.length (out.map Value.string) sp
theorem L3 {A:List kC}{a:Option Addr}{c:Nat}{l:List ByteArray}(h:eg A (.slice a l.length c) l)(hl:0 < l.length):Src A 1 l.length (l.map Value.string) (.slice a l.length c):=by
 obtain⟨a',c',e,_,hr⟩:=h;cases e;obtain⟨t,ht⟩:∃t,l[0]? =some t:=⟨_,Zg hl⟩;obtain⟨b,o,had,_⟩:=hr 0 t ht;cases had;exact zCD
end Go.V

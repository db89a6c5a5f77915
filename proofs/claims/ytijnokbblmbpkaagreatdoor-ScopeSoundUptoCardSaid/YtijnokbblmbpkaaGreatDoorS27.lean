/-
  A node's part.
-/
import Derived.Test.YtijnokbblmbpkaaGreatDoorS26
import Derived.Test.YtijnokbblmbpkaaGreatDoorS22
import Derived.Test.YtijnokbblmbpkaaGreatDoorS13
set_option linter.unusedSimpArgs false
set_option linter.unusedVariables false
namespace Go.Proofs.YtijnokbblmbpkaaGreatDoor
open Go Go.V
set_option maxHeartbeats 12800000
set_option maxRecDepth 100000
structure PaS where
 k:Nat
 nm:ByteArray
 lit:Lt
 l1:Value
 l2:Value
 l3:Value
 l4:Value
 l5:Value
 refs:List z7
 rv:Value
 vv:Value
 l:List Nd
 a:Option Addr
 ac:Nat
 bk:Nat
 o:Nat
 ks:Nat->List Value
 st:SSt
 us:Value
 usp:List Value
 U:List UC
 V:List VCl
 T:List kC
 B:List kC
structure PaI (X:Fix)(x:Nd)(N:Nat)(st:SSt)(env:List Nat)(i:Nat)(Uq Vq:List Nat)(s:PaS):Prop where
 eq:jD X.F X.G x st env i=(.mk s.k s.nm s.lit s.refs 0 false (if x.kind=5 then wR (jS x.kids) (kR X.F X.G s.l s.st env i).1 else(kR X.F X.G s.l s.st env i).1),(kR X.F X.G s.l s.st env i).2)
 lt:LtRd s.B s.lit [s.l1,s.l2,s.l3,s.l4,s.l5]
 rr:jm s.B s.rv (wS s.refs)
 pr:wK s.B s.vv ((rawsR s.refs).map fun r=>(s.V.map VCl.q).getD r.index.toNat 0)
 rok:zR (s.V.map VCl.q) s.refs
 rz:wS s.refs=[]->s.rv=.slice none 0 0
 ok:StOk s.st s.us s.usp s.U s.V s.T
 gr:Gr st s.st
 pU:Uq <+:s.U.map UC.q
 pV:Vq <+:s.V.map VCl.q
 room:Room s.st (jK s.l)
 ha:0 < s.l.length->s.a=some ⟨s.bk,s.o,none⟩
 hm:∀j,j < s.l.length->∀y∈kA s.bk (s.o+j*11) (s.ks j),y∈X.S
 hr:∀j y,s.l[j]? =some y->jQ X.S y (s.ks j)
 sz:Nd.sizes s.l<=N
 okl:okNs s.l=true
 ne:x.kind=5->0 < s.l.length
theorem raw_ref {F G:List ByteArray}{st:SSt}{env:List Nat}{nm:ByteArray}{u:Nat}{p:Int}{put:Bool}(h:(jv F G st env nm u p put).1.kind=99):∃v∈env,(jv F G st env nm u p put).1=rawR v:=by
 unfold jv at h|-;split at h
 ·have:=refK_ne nm;simp only at h;omega
 ·rename_i hk;rw[if_neg hk];split at h
  ·rename_i v hv;exact⟨v,findE_mem hv,rfl⟩
  ·split at h
   ·simp at h
   ·simp at h
theorem part_step(X:Fix)(hX:FixOk X)(N:Nat)(hN2:N < 1073741824)(ih:∀x,x.size<=N->okN x=true->∀vs,jQ X.S x vs->PartOk X x vs)(x:Nd)(hx:x.size<=N+1)(hok:okN x=true)(vs:List Value)(h:jQ X.S x vs):PartOk X x vs:=by
 intro st us usp U Vs T hS i u hu env b es c hs hln hroom;have h':=h;obtain⟨e1,e2,e3,e4,e5,e6,e7,a1,c1,a2,c2,a3,c3,bk,ko,ks,rfl,hlit,hav,htv,hk8,ha,hm,hr,hcp⟩:=nd_openK h;have hxs:x.size=1+Nd.sizes x.kids:=by cases x;rfl
 have hcn:cntN x=cntR x.args x.temps (jK x.kids):=by cases x;rfl
 have hokk:okK x.kind x.kids=true/\x.lit.size<=274877906944/\okNs x.kids=true:=by
  cases x;simp only[okN,vF,decide_eq_true_eq]at hok;exact⟨hok.1.1,hok.1.2,hok.2⟩
 obtain⟨hk1,hlb,hkk⟩:=hokk;unfold okK at hk1;simp only[vF,vO,vK,decide_eq_true_eq,decide_eq_false_iff_not]at hk1;obtain⟨⟨⟨hk12,hk5⟩,hk19⟩,hk4⟩:=hk1;have hlen:=nd_len x.kids;have hszN:Nd.sizes x.kids<=N:=by omega
 have hroom2:Room st (jK x.kids):=hroom.mono (by rw[hcn];unfold cntR;omega);have hsb:st.uses.length < 1073741824:=by obtain⟨_,k,_⟩:=hroom;omega
 have hil:i < st.outer.length:=by have:=(Vd.1 hu).1;rw[hS.rep.ul]at this;exact this
 refine jY.intro low172 (by simp[n172]) ?_;refine VC.join (α:=Nat×Nat) (Γf:=fun q=>[(0,kE X.wq),(2,kE u.q),(3,.map (some b)),(5,kE q.1),(8,kE q.2)]) (Hf:=fun q=>[kA q.1 0 [.int .u8 x.kind,.string x.name,.int .u8 e1,.int .i64 e2,.int .u64 e3,.string e4,.slice e5 e6 e7,.slice a1 x.args.length c1,.slice a2 x.temps.length c2,.slice a3 x.kids.length c3,.int .i64 x.at_],kA q.2 0 [.int .u8 0,.string e0,.int .u8 0,.int .i64 0,.int .u64 0,.string e0,.slice none 0 0,.slice none 0 0,.int .i64 0,.bool false,.slice none 0 0,.slice none 0 0,.slice none 0 0],kA X.wq 0 [.map (some X.fb),.map (some X.gb),us],slA us (U.map fun u=>kK (some u.q)) usp,[.obj X.fb (.map X.fes X.fc)],[.obj X.gb (.map X.ges X.gc)],WK U Vs,T,[.obj b (.map es c)],X.S]) (I:=fun _=>True) ?_ ?_
 ·refine GOH ?_;refine kd Zr (fun q5=>?_);simp only[Value.cells];refine kL (fun q8=>?_);refine GOH ?_;exact⟨(q5,q8),trivial,ZU,by unfold e0;exact IMx⟩
 rintro⟨q5,q8⟩ _
 dsimp only;refine VC.join (α:=Unit) (Γf:=fun _=>[(0,kE X.wq),(2,kE u.q),(3,.map (some b)),(5,kE q5),(8,kE q8)]) (Hf:=fun _=>[kA q5 0 [.int .u8 x.kind,.string x.name,.int .u8 e1,.int .i64 e2,.int .u64 e3,.string e4,.slice e5 e6 e7,.slice a1 x.args.length c1,.slice a2 x.temps.length c2,.slice a3 x.kids.length c3,.int .i64 x.at_],kA q8 0 [.int .u8 0,.string e0,.int .u8 0,.int .i64 0,.int .u64 0,.string e0,.slice none 0 0,.slice none 0 0,.int .i64 0,.bool false,.slice none 0 0,.slice none 0 0,.slice none 0 0],kA X.wq 0 [.map (some X.fb),.map (some X.gb),us],slA us (U.map fun u=>kK (some u.q)) usp,[.obj X.fb (.map X.fes X.fc)],[.obj X.gb (.map X.ges X.gc)],WK U Vs,T,[.obj b (.map es c)],X.S]) (I:=fun _=>inlN x=false) ?_ (fun _ hin=>?_)
 ·refine GOH ?_;refine kM (blocks_spec X.S x _ h') Zr ZP (fun v Post hv=>?_);obtain⟨⟨f,t,rfl,hft⟩,rfl⟩:=hv;simp only[CNx];cases hin:inlN x with
  |false=>
   exact zAP
  |true=>
   obtain⟨rfl,rfl⟩:=hft hin;have hfit:fitK (jM x.name) x.kids=true:=by
    unfold inlN inlP at hin;simp only[vF]at hin;exact hin.2
   have hP:=partS_inl X.F X.G x.kind x.name x.lit x.args x.temps x.kids x.at_ st env i hin;rw[<- Nd.eta x]at hP;have hsp:=special_spec X (.int .u8 e1) (.int .i64 e2) (.int .u64 e3) (.string e4) (.slice e5 e6 e7) (.int .u8 x.kind) (.slice a1 x.args.length c1) (.slice a2 x.temps.length c2) x.name x.kids a3 c3 bk ko ks Zo ha hm hr N Zo hN2 hkk ih x.at_ hfit st us usp U Vs T hS i u hu env b es c hs hln hroom2;refine GOH ?_;refine kJ hsp Zr ZP (fun v Post hv=>?_) (fun ch Post hz=>?_);rotate_left
   ·exact zDF
   obtain⟨us2q,usp2,U2,V2,T2,B2,⟨hS2,hpU2,hpV2,ws,rfl,hn⟩,rfl⟩:=hv;simp only[CNx];obtain⟨pn,hpn⟩:∃pn,pn=(jD X.F X.G x st env i).1:=⟨_,rfl⟩;have hn2:NRd B2 (V2.map VCl.q) pn ws:=by rw[hpn,hP];exact hn
   obtain⟨f1,f2,f3,f4,f5,f6,f7,r1,r2,r3,p1,p2,p3,k1,k2,k3,hws⟩:=n_openS hn2;subst hws;refine GOH ?_;refine jI ⟨.inr rfl,_,[kA X.wq 0 [.map (some X.fb),.map (some X.gb),us2q],slA us2q (U2.map fun u=>kK (some u.q)) usp2,[.obj X.fb (.map X.fes X.fc)],[.obj X.gb (.map X.ges X.gc)],WK U2 V2,T2,[.obj b (.map es c)],X.S,B2],.cellN (us:=[.int .u8 pn.kind,.string pn.name,.int .u8 f1,.int .i64 f2,.int .u64 f3,.string f4,.slice f5 f6 f7,.slice r1 r2 r3,.int .i64 pn.unit,.bool pn.super,.slice none 0 0,.slice p1 p2 p3,.slice k1 k2 k3]) Zr Zr (fun y hy=>by simp only[vz,Q1];repeat (first|exact Or.inl hy|refine Or.inr ?_)) .nil,ZI,⟨us2q,usp2,U2,V2,T2,_,⟨by rw[hP];exact hS2,hpU2,hpV2,_,rfl,by rw[<- hpn];exact hn2⟩,rfl⟩⟩
 refine VC.join (α:=Nat) (Γf:=fun q12=>[(0,kE X.wq),(2,kE u.q),(3,.map (some b)),(5,kE q5),(8,kE q8),(12,kE q12)]) (Hf:=fun q12=>[kA q12 0 [.int .u8 0,.string e0,.int .u8 0,.int .i64 0,.int .u64 0,.string e0,.slice none 0 0,.slice none 0 0,.int .i64 0,.bool false,.slice none 0 0,.slice none 0 0,.slice none 0 0],kA q5 0 [.int .u8 x.kind,.string x.name,.int .u8 e1,.int .i64 e2,.int .u64 e3,.string e4,.slice e5 e6 e7,.slice a1 x.args.length c1,.slice a2 x.temps.length c2,.slice a3 x.kids.length c3,.int .i64 x.at_],kA q8 0 [.int .u8 0,.string e0,.int .u8 0,.int .i64 0,.int .u64 0,.string e0,.slice none 0 0,.slice none 0 0,.int .i64 0,.bool false,.slice none 0 0,.slice none 0 0,.slice none 0 0],kA X.wq 0 [.map (some X.fb),.map (some X.gb),us],slA us (U.map fun u=>kK (some u.q)) usp,[.obj X.fb (.map X.fes X.fc)],[.obj X.gb (.map X.ges X.gc)],WK U Vs,T,[.obj b (.map es c)],X.S]) (I:=fun _=>True) ?_ (fun q12 _=>?_)
 ·refine GOH ?_;refine kL (fun q12=>?_);refine GOH ?_;exact⟨q12,trivial,ZU,by unfold e0;exact IMx⟩
 refine VC.join (α:=Unit) (Γf:=fun _=>[(0,kE X.wq),(2,kE u.q),(3,.map (some b)),(5,kE q5),(8,kE q8),(12,kE q12),(13,.slice a3 x.kids.length c3)]) (Hf:=fun _=>[kA q12 0 [.int .u8 0,.string e0,.int .u8 0,.int .i64 0,.int .u64 0,.string e0,.slice none 0 0,.slice none 0 0,.int .i64 0,.bool false,.slice none 0 0,.slice none 0 0,.slice none 0 0],kA q5 0 [.int .u8 x.kind,.string x.name,.int .u8 e1,.int .i64 e2,.int .u64 e3,.string e4,.slice e5 e6 e7,.slice a1 x.args.length c1,.slice a2 x.temps.length c2,.slice a3 x.kids.length c3,.int .i64 x.at_],kA q8 0 [.int .u8 0,.string e0,.int .u8 0,.int .i64 0,.int .u64 0,.string e0,.slice none 0 0,.slice none 0 0,.int .i64 0,.bool false,.slice none 0 0,.slice none 0 0,.slice none 0 0],kA X.wq 0 [.map (some X.fb),.map (some X.gb),us],slA us (U.map fun u=>kK (some u.q)) usp,[.obj X.fb (.map X.fes X.fc)],[.obj X.gb (.map X.ges X.gc)],WK U Vs,T,[.obj b (.map es c)],X.S]) (I:=fun _=>True) ?_ (fun _ _=>?_)
 ·refine GOH ?_;exact⟨(),trivial,ZU,ZI⟩
 refine VC.join (α:=Unit) (Γf:=fun _=>[(0,kE X.wq),(2,kE u.q),(3,.map (some b)),(5,kE q5),(8,kE q8),(12,kE q12),(13,.slice a3 x.kids.length c3),(14,.bool (jS x.kids))]) (Hf:=fun _=>[kA q12 0 [.int .u8 0,.string e0,.int .u8 0,.int .i64 0,.int .u64 0,.string e0,.slice none 0 0,.slice none 0 0,.int .i64 0,.bool false,.slice none 0 0,.slice none 0 0,.slice none 0 0],kA q5 0 [.int .u8 x.kind,.string x.name,.int .u8 e1,.int .i64 e2,.int .u64 e3,.string e4,.slice e5 e6 e7,.slice a1 x.args.length c1,.slice a2 x.temps.length c2,.slice a3 x.kids.length c3,.int .i64 x.at_],kA q8 0 [.int .u8 0,.string e0,.int .u8 0,.int .i64 0,.int .u64 0,.string e0,.slice none 0 0,.slice none 0 0,.int .i64 0,.bool false,.slice none 0 0,.slice none 0 0,.slice none 0 0],kA X.wq 0 [.map (some X.fb),.map (some X.gb),us],slA us (U.map fun u=>kK (some u.q)) usp,[.obj X.fb (.map X.fes X.fc)],[.obj X.gb (.map X.ges X.gc)],WK U Vs,T,[.obj b (.map es c)],X.S]) (I:=fun _=>True) ?_ (fun _ _=>?_)
 ·refine GOH ?_;by_cases hl0:0 < x.kids.length;rotate_left
  ·rw[show decide ((0:Int) < (x.kids.length:Int))=false from Zf Zo];refine GOH ?_;have hnil:x.kids=[]:=vj Zo;exact⟨(),trivial,by rw[hnil];exact SUx,ZI⟩
  obtain rfl:=ha Zo;rw[show decide ((0:Int) < (x.kids.length:Int))=true from Zt Zo];obtain⟨r,hr0⟩:∃r,x.kids[0]? =some r:=⟨_,Zg Zo⟩;obtain⟨r1,r2,r3,r4,r5,r6,r7,p1,d1,p2,d2,p3,d3,bk2,o2,us2,hus0,_⟩:=nd_openK (hr 0 r hr0);have f0:kC.cell bk ko (.int .u8 r.kind)∈X.S:=hm 0 Zo _ (by rw[hus0];exact kI.2 ⟨0,_,rfl,Zs⟩);have f1:kC.cell bk (ko+1) (.string r.name)∈X.S:=hm 0 Zo _ (by rw[hus0];exact kI.2 ⟨1,_,rfl,Zs⟩);have hsk:jS x.kids=wh r:=by
   exact zD6
  refine GOH ?_;by_cases hr2k:r.kind=2
  ·rw[show decide ((r.kind:Int)=2)=true from Zt Zo];refine GOH ?_;have hse:wh r=decide (r.name=⟨#[115,117,112,101,114]⟩):=by
    unfold wh;rw[Zt hr2k,vR];exact decide_eq_decide.2 super_name
   exact⟨(),trivial,by rw[hsk,hse];exact SUx,ZI⟩
  ·rw[show decide ((r.kind:Int)=2)=false from Zf Zo];refine GOH ?_;have hse:wh r=false:=by
    unfold wh;rw[Zf hr2k,vH]
   exact⟨(),trivial,by rw[hsk,hse];exact SUx,ZI⟩
 refine VC.join (α:=PaS) (Γf:=fun p=>[(0,kE X.wq),(2,kE u.q),(3,.map (some b)),(5,kE q5),(8,kE q8),(12,kE q12),(13,.slice p.a p.l.length p.ac),(14,.bool (jS x.kids))]) (Hf:=fun p=>[kA q12 0 [.int .u8 p.k,.string p.nm,p.l1,p.l2,p.l3,p.l4,p.l5,p.rv,.int .i64 0,.bool false,.slice none 0 0,p.vv,.slice none 0 0],kA q5 0 [.int .u8 x.kind,.string x.name,.int .u8 e1,.int .i64 e2,.int .u64 e3,.string e4,.slice e5 e6 e7,.slice a1 x.args.length c1,.slice a2 x.temps.length c2,.slice a3 x.kids.length c3,.int .i64 x.at_],kA q8 0 [.int .u8 0,.string e0,.int .u8 0,.int .i64 0,.int .u64 0,.string e0,.slice none 0 0,.slice none 0 0,.int .i64 0,.bool false,.slice none 0 0,.slice none 0 0,.slice none 0 0],kA X.wq 0 [.map (some X.fb),.map (some X.gb),p.us],slA p.us (p.U.map fun u=>kK (some u.q)) p.usp,[.obj X.fb (.map X.fes X.fc)],[.obj X.gb (.map X.ges X.gc)],WK p.U p.V,p.T,[.obj b (.map es c)],X.S,p.B]) (I:=PaI X x N st env i (U.map UC.q) (Vs.map VCl.q)) ?_ ?_
 ·skip
  have simple:∀(k:Nat) (nm:ByteArray) (l:List Nd) (a:Option Addr) (ac bk ko:Nat) (ks:Nat->List Value),jD X.F X.G x st env i=(.mk k nm lt0 [] 0 false (if x.kind=5 then wR (jS x.kids) (kR X.F X.G l st env i).1 else(kR X.F X.G l st env i).1),(kR X.F X.G l st env i).2)->
   Room st (jK l)->(0 < l.length->a=some ⟨bk,ko,none⟩)->(∀j,j < l.length->∀y∈kA bk (ko+j*11) (ks j),y∈X.S)->(∀j y,l[j]? =some y->jQ X.S y (ks j))->Nd.sizes l<=N->okNs l=true->(x.kind=5->0 < l.length)->
   PaI X x N st env i (U.map UC.q) (Vs.map VCl.q) ⟨k,nm,lt0,.int .u8 0,.int .i64 0,.int .u64 0,.string e0,.slice none 0 0,[],.slice none 0 0,.slice none 0 0,l,a,ac,bk,ko,ks,st,us,usp,U,Vs,T,[]⟩:=fun k nm l a ac bk ko ks h1 h2 h3 h4 h5 h6 h7 h8=>
   ⟨h1,lt0_rd _,jm.nil _,wK.nil _,zR.nil _,fun _=>rfl,hS,Gr.refl _,QM _,QM _,h2,h3,h4,h5,h6,h7,h8⟩
  refine jU ?_;by_cases h1:x.kind=1
  ·rw[show decide ((x.kind:Int)=1)=true from Zt Zo];have hnil:x.kids=[]:=vj (by rcases hk12 with k|k;exact absurd (.inl h1) k;exact k);have hP:=partS_1 X.F X.G x.kind x.name x.lit x.args x.temps x.kids x.at_ st env i hin h1;rw[<- Nd.eta x]at hP;refine GOH ?_;refine kM (sown_spec X.S _ x.lit (QW _) hlb _ hlit) Zr ZP (fun v Post hv=>?_);obtain⟨ws,BL,rfl,hlo,rfl⟩:=hv;simp only[CNx];have hlr:=hlo.rd;obtain⟨lsv,lrows,lsp,lK,rfl,_⟩:=hlo.parts;obtain⟨lea,lec,hlsv⟩:=lt_openS hlr;simp only[ve,and_true,true_and]at hlsv;subst hlsv;refine GOH ?_;refine⟨⟨1,e0,x.lit,cv x.lit.kind,vi x.lit.n,uv x.lit.bits,.string x.lit.text,.slice lea x.lit.items.length lec,[],.slice none 0 0,.slice none 0 0,x.kids,a3,c3,bk,ko,ks,st,us,usp,U,Vs,T,BL⟩,⟨?_,hlr,jm.nil _,wK.nil _,zR.nil _,fun _=>rfl,hS,Gr.refl _,QM _,QM _,hroom2,ha,hm,hr,hszN,hkk,fun e=>absurd e Zo⟩,ZU,Imp.cut (M:=[kA q12 0 [.int .u8 1,.string e0,cv x.lit.kind,vi x.lit.n,uv x.lit.bits,.string x.lit.text,.slice lea x.lit.items.length lec,.slice none 0 0,.int .i64 0,.bool false,.slice none 0 0,.slice none 0 0,.slice none 0 0],kA q5 0 [.int .u8 x.kind,.string x.name,.int .u8 e1,.int .i64 e2,.int .u64 e3,.string e4,.slice e5 e6 e7,.slice a1 x.args.length c1,.slice a2 x.temps.length c2,.slice a3 x.kids.length c3,.int .i64 x.at_],kA q8 0 [.int .u8 0,.string e0,.int .u8 0,.int .i64 0,.int .u64 0,.string e0,.slice none 0 0,.slice none 0 0,.int .i64 0,.bool false,.slice none 0 0,.slice none 0 0,.slice none 0 0],kA X.wq 0 [.map (some X.fb),.map (some X.gb),us],slA us (U.map fun u=>kK (some u.q)) usp,[.obj X.fb (.map X.fes X.fc)],[.obj X.gb (.map X.ges X.gc)],WK U Vs,T,[.obj b (.map es c)],X.S,BL]) ZI (Imp.perm Zs)⟩;simp only;rw[hP,hnil,if_neg Zo,kR]
  rw[show decide ((x.kind:Int)=1)=false from Zf Zo];refine jU ?_;refine VC.join (α:=Unit) (Γf:=fun _=>[(0,kE X.wq),(2,kE u.q),(3,.map (some b)),(5,kE q5),(8,kE q8),(12,kE q12),(13,.slice a3 x.kids.length c3),(14,.bool (jS x.kids)),(52,.int .u8 x.kind),(73,.bool (decide (x.kind=2∨x.kind=3)))]) (Hf:=fun _=>[kA q12 0 [.int .u8 0,.string e0,.int .u8 0,.int .i64 0,.int .u64 0,.string e0,.slice none 0 0,.slice none 0 0,.int .i64 0,.bool false,.slice none 0 0,.slice none 0 0,.slice none 0 0],kA q5 0 [.int .u8 x.kind,.string x.name,.int .u8 e1,.int .i64 e2,.int .u64 e3,.string e4,.slice e5 e6 e7,.slice a1 x.args.length c1,.slice a2 x.temps.length c2,.slice a3 x.kids.length c3,.int .i64 x.at_],kA q8 0 [.int .u8 0,.string e0,.int .u8 0,.int .i64 0,.int .u64 0,.string e0,.slice none 0 0,.slice none 0 0,.int .i64 0,.bool false,.slice none 0 0,.slice none 0 0,.slice none 0 0],kA X.wq 0 [.map (some X.fb),.map (some X.gb),us],slA us (U.map fun u=>kK (some u.q)) usp,[.obj X.fb (.map X.fes X.fc)],[.obj X.gb (.map X.ges X.gc)],WK U Vs,T,[.obj b (.map es c)],X.S]) (I:=fun _=>True) ?_ (fun _ _=>?_)
  ·refine GOH ?_;by_cases h2:x.kind=2
   ·rw[show decide ((x.kind:Int)=2)=true from Zt Zo,Zt (show x.kind=2∨x.kind=3 from .inl h2)];exact zAP
   ·rw[show decide ((x.kind:Int)=2)=false from Zf Zo,show decide (x.kind=2∨x.kind=3)=decide ((x.kind:Int)=3)from decide_eq_decide.2 Zo];exact zAP
  by_cases h23:x.kind=2∨x.kind=3
  ·rw[Zt h23];refine jU ?_;refine VC.join (α:=Unit) (Γf:=fun _=>[(0,kE X.wq),(2,kE u.q),(3,.map (some b)),(5,kE q5),(8,kE q8),(12,kE q12),(13,.slice a3 x.kids.length c3),(14,.bool (jS x.kids))]) (Hf:=fun _=>[kA q12 0 [.int .u8 x.kind,.string e0,.int .u8 0,.int .i64 0,.int .u64 0,.string e0,.slice none 0 0,.slice none 0 0,.int .i64 0,.bool false,.slice none 0 0,.slice none 0 0,.slice none 0 0],kA q5 0 [.int .u8 x.kind,.string x.name,.int .u8 e1,.int .i64 e2,.int .u64 e3,.string e4,.slice e5 e6 e7,.slice a1 x.args.length c1,.slice a2 x.temps.length c2,.slice a3 x.kids.length c3,.int .i64 x.at_],kA q8 0 [.int .u8 0,.string e0,.int .u8 0,.int .i64 0,.int .u64 0,.string e0,.slice none 0 0,.slice none 0 0,.int .i64 0,.bool false,.slice none 0 0,.slice none 0 0,.slice none 0 0],kA X.wq 0 [.map (some X.fb),.map (some X.gb),us],slA us (U.map fun u=>kK (some u.q)) usp,[.obj X.fb (.map X.fes X.fc)],[.obj X.gb (.map X.ges X.gc)],WK U Vs,T,[.obj b (.map es c)],X.S]) (I:=fun _=>True) ?_ (fun _ _=>?_)
   ·refine GOH ?_;by_cases h3:x.kind=3
    ·rw[show decide ((x.kind:Int)=3)=true from Zt Zo];refine GOH ?_;exact⟨(),trivial,ZU,Imp.cut (M:=[kA q12 0 [.int .u8 3,.string e0,.int .u8 0,.int .i64 0,.int .u64 0,.string e0,.slice none 0 0,.slice none 0 0,.int .i64 0,.bool false,.slice none 0 0,.slice none 0 0,.slice none 0 0],kA q5 0 [.int .u8 x.kind,.string x.name,.int .u8 e1,.int .i64 e2,.int .u64 e3,.string e4,.slice e5 e6 e7,.slice a1 x.args.length c1,.slice a2 x.temps.length c2,.slice a3 x.kids.length c3,.int .i64 x.at_],kA q8 0 [.int .u8 0,.string e0,.int .u8 0,.int .i64 0,.int .u64 0,.string e0,.slice none 0 0,.slice none 0 0,.int .i64 0,.bool false,.slice none 0 0,.slice none 0 0,.slice none 0 0],kA X.wq 0 [.map (some X.fb),.map (some X.gb),us],slA us (U.map fun u=>kK (some u.q)) usp,[.obj X.fb (.map X.fes X.fc)],[.obj X.gb (.map X.ges X.gc)],WK U Vs,T,[.obj b (.map es c)],X.S]) ZI (Imp.perm (by simp[h3]))⟩
    ·have h2:x.kind=2:=by omega
     rw[show decide ((x.kind:Int)=3)=false from Zf Zo];refine GOH ?_;exact⟨(),trivial,ZU,Imp.cut (M:=[kA q12 0 [.int .u8 2,.string e0,.int .u8 0,.int .i64 0,.int .u64 0,.string e0,.slice none 0 0,.slice none 0 0,.int .i64 0,.bool false,.slice none 0 0,.slice none 0 0,.slice none 0 0],kA q5 0 [.int .u8 x.kind,.string x.name,.int .u8 e1,.int .i64 e2,.int .u64 e3,.string e4,.slice e5 e6 e7,.slice a1 x.args.length c1,.slice a2 x.temps.length c2,.slice a3 x.kids.length c3,.int .i64 x.at_],kA q8 0 [.int .u8 0,.string e0,.int .u8 0,.int .i64 0,.int .u64 0,.string e0,.slice none 0 0,.slice none 0 0,.int .i64 0,.bool false,.slice none 0 0,.slice none 0 0,.slice none 0 0],kA X.wq 0 [.map (some X.fb),.map (some X.gb),us],slA us (U.map fun u=>kK (some u.q)) usp,[.obj X.fb (.map X.fes X.fc)],[.obj X.gb (.map X.ges X.gc)],WK U Vs,T,[.obj b (.map es c)],X.S]) ZI (Imp.perm (by simp[h2]))⟩
   have hname:=wname_spec X.F X.G X.wq X.fb X.gb us X.fes X.ges X.fc X.gc hX.f hX.g x.kind x.name (.int .u8 e1) (.int .i64 e2) (.int .u64 e3) (.string e4) (.slice e5 e6 e7) (.slice a1 x.args.length c1) (.slice a2 x.temps.length c2) (.slice a3 x.kids.length c3) x.at_ st U Vs hS.rep i u hu hS.ok hsb env b es c hs hln;have hlr:=less_ref X.F X.G st env x.name i x.at_ (decide (x.kind=3));have hgr:=gr_ref X.F X.G st env x.name i x.at_ (decide (x.kind=3));have hbod:=ref_bodies X.F X.G st env x.name i x.at_ (decide (x.kind=3));have hraw:=raw_ref (F:=X.F) (G:=X.G) (st:=st) (env:=env) (nm:=x.name) (u:=i) (p:=x.at_) (put:=decide (x.kind=3));obtain⟨R,hR⟩:∃R,R=jv X.F X.G st env x.name i x.at_ (decide (x.kind=3)):=⟨_,rfl⟩;rw[<- hR]at hname hlr hgr hbod hraw;have hP:jD X.F X.G x st env i=(.mk x.kind e0 lt0 [R.1] 0 false (kR X.F X.G x.kids R.2 env i).1,(kR X.F X.G x.kids R.2 env i).2):=by
    rcases h23 with h2|h3
    ·have hnil:x.kids=[]:=vj (by rcases hk12 with k|k;exact absurd (.inr h2) k;exact k);have hP:=partS_2 X.F X.G x.kind x.name x.lit x.args x.temps x.kids x.at_ st env i hin h2;rw[<- Nd.eta x]at hP;rw[hP,hnil,kR,hR,h2];rfl
    ·have hP:=partS_3 X.F X.G x.kind x.name x.lit x.args x.temps x.kids x.at_ st env i hin h3;rw[<- Nd.eta x]at hP;rw[hP,hR,h3];rfl
   have hroom3:Room R.2 (jK x.kids):=Room.less (n:=1) (hroom.mono (by rw[hcn];unfold cntR;omega)) hlr;refine GOH ?_;refine kJ hname Zr ZP (fun v Post hv=>?_) (fun ch Post hz=>?_);rotate_left
   ·obtain⟨q1,e1',hb1,rfl,rfl⟩:=hz;exact⟨[X.S,jJ q1 e1' x.at_],ZI,q1,e1',x.at_,by rw[hP];exact(zK _ _ _ _ _ _).f _ hb1,rfl,rfl⟩
   obtain⟨U2,V2,⟨hf2,hv,hR2,hq2,hb2,hp2⟩,rfl⟩:=hv;simp only[CNx];have hpm:∀W:List UC,(W.map fun u=>kK (some u.q))=(W.map UC.q).map fun b=>kK (some b):=fun W=>by rw[Vz];rfl
   have hsm:(U2.map fun u=>kK (some u.q))=U.map fun u=>kK (some u.q):=by rw[hpm,hq2,<- hpm]
   have hS2:StOk R.2 us usp U2 V2 T:=by
    have hlen3:U2.length=U.length:=by have:=congrArg List.length hq2;rwa [Vp,Vp]at this
    refine⟨hR2,hf2,by rw[hlen3,hsm];exact hS.sl,fun j w hw=>?_⟩;have hb1:(U.map UC.body)[j]? =some w.body:=by rw[<- hb2,Ve,hw];rfl
    rw[Ve]at hb1;obtain⟨w1,hw1,hwb⟩:=Qk.1 hb1;rw[hbod,<- hwb];exact(hS.bod j w1 hw1).more (fun x hx=>hx) (by rw[hp2];exact QM _)
   have hvl:V2.length=R.2.vars.length:=hR2.vl;by_cases h99:R.1.kind=99
   ·obtain⟨vv,hve,hvr⟩:=hraw h99;have hvlt:vv < (V2.map VCl.q).length:=by
     rw[Vp,hvl];exact QZ (hs.lt vv hve) hgr.vars.length_le
    have hqe:(V2.map VCl.q).getD vv 0=qOf V2 vv:=by
     have hvlt2:vv < V2.length:=by rwa [Vp]at hvlt
     unfold qOf;rw[V5,V5,Ve,Zg hvlt2];rfl
    have hout:refOut V2 R.1=.tuple #[.agg rz.toArray,kE (qOf V2 vv)]:=by
     rw[hvr];rfl
    rw[hout]at hv;subst hv;unfold rz;refine GOH ?_;refine kL (fun q15=>?_);refine GOH ?_;refine j9 (out:=[kE (qOf V2 vv)]) Zr Zr (fun rr=>?_);refine GOH ?_;refine⟨⟨x.kind,e0,lt0,.int .u8 0,.int .i64 0,.int .u64 0,.string e0,.slice none 0 0,[rawR vv],.slice none 0 0,.slice (some ⟨rr,0,none⟩) 1 1,x.kids,a3,c3,bk,ko,ks,R.2,us,usp,U2,V2,T,kA rr 0 [kE (qOf V2 vv)]⟩,
     ⟨?_,lt0_rd _,jm.nil _,?_,?_,fun _=>rfl,hS2,hgr,by rw[hq2];exact QM _,by rw[hp2];exact QM _,hroom3,ha,hm,hr,hszN,hkk,fun e=>absurd e Zo⟩,ZU,by simp only[hsm];exact IMx⟩
    ·simp only;rw[hP,hvr,if_neg Zo]
    ·show wK _ _ [(V2.map VCl.q).getD ((vv:Int)).toNat 0];rw[vS,hqe];refine⟨_,_,rfl,fun j q hj=>⟨rr,0,rfl,?_⟩⟩;cases j with
     |zero=>
      obtain rfl:qOf V2 vv=q:=by simpa using hj
      exact kI.2 ⟨0,_,rfl,rfl⟩
     |succ j=>simp at hj
    ·exact⟨.inl fun r hr=>by rw[QC.1 hr];rfl,fun r hr _=>⟨vv,QC.1 hr,hvlt⟩⟩
   ·have hout:refOut V2 R.1=.tuple #[.agg (jG R.1).toArray,.pointer none]:=by
     unfold refOut;rw[if_neg h99]
    rw[hout]at hv;subst hv;unfold jG;refine GOH ?_;refine kL (fun q15=>?_);refine GOH ?_;refine j9 (out:=[.int .u8 R.1.kind,.int .i64 R.1.index,.int .i64 R.1.slot,.string R.1.name]) Zr Zr (fun rr=>?_);refine GOH ?_;have hpl:wS [R.1]=[R.1]:=by unfold wS;rw[vq,if_pos (Zt h99)];rfl
    have hrw:rawsR [R.1]=[]:=by unfold rawsR;rw[vq,if_neg (by simpa using h99)];rfl
    refine⟨⟨x.kind,e0,lt0,.int .u8 0,.int .i64 0,.int .u64 0,.string e0,.slice none 0 0,[R.1],.slice (some ⟨rr,0,none⟩) 1 1,.slice none 0 0,x.kids,a3,c3,bk,ko,ks,R.2,us,usp,U2,V2,T,kA rr 0 (jG R.1)⟩,
     ⟨?_,lt0_rd _,?_,?_,?_,fun e=>?_,hS2,hgr,by rw[hq2];exact QM _,by rw[hp2];exact QM _,hroom3,ha,hm,hr,hszN,hkk,fun e=>absurd e Zo⟩,ZU,by simp only[hsm];unfold jG;exact IMx⟩
    ·simp only;rw[hP,if_neg Zo]
    ·show jm _ _ (wS [R.1]);rw[hpl];refine⟨_,_,rfl,fun j q hj=>⟨rr,0,rfl,fun y hy=>?_⟩⟩;cases j with
     |zero=>
      obtain rfl:R.1=q:=by simpa using hj
      exact hy
     |succ j=>simp at hj
    ·show wK _ _ ((rawsR [R.1]).map _);rw[hrw];exact wK.nil _
    ·exact⟨.inr fun r hr=>by rw[QC.1 hr];exact h99,fun r hr e=>by rw[QC.1 hr]at e;exact absurd e h99⟩
    ·have e:wS [R.1]=[]:=e;rw[hpl]at e;cases e
  rw[Zf h23];refine jU ?_;by_cases h7:x.kind=7
  ·rw[show decide ((x.kind:Int)=7)=true from Zt Zo];have hP:=partS_7 X.F X.G x.kind x.name x.lit x.args x.temps x.kids x.at_ st env i hin h7;rw[<- Nd.eta x]at hP;have hbl:=block_spec X (.int .u8 x.kind) (.int .u8 e1) (.int .i64 e2) (.int .u64 e3) (.string e4) (.slice e5 e6 e7) (.string x.name) x.args x.temps (.slice a1 x.args.length c1) (.slice a2 x.temps.length c2) hav htv x.kids a3 c3 bk ko ks Zo ha hm hr
    (fun i' x' hx'=>ih x' (by have:=Nd.sizes_mem (Zv hx');omega) (okNs_mem hkk (Zv hx')) _ (hr i' x' hx')) x.at_ st us usp U Vs T hS (i:Int) ⟨Zo,Zo⟩ env b es c hs (fun v hv=>⟨i,rfl,hln v hv⟩) (by rw[<- hcn];exact hroom)
   have hoq:outQ U (i:Int)=some u.q:=by
    unfold outQ;rw[if_neg Zo,vS,hu];rfl
   rw[hoq]at hbl;refine GOH ?_;refine kJ hbl Zr ZP (fun v Post hv=>?_) (fun ch Post hz=>?_);rotate_left
   ·exact zDF
   obtain⟨us2q,usp2,U2,V2,T2,⟨hS2,hpU2,hpV2,w,hw,rfl⟩,rfl⟩:=hv;simp only[CNx];have hnum:w.num=st.outer.length:=(hS2.rep.un _ w hw).2.2.2.1;have f4:kC.cell w.q 4 (.int .i64 st.outer.length)∈WK U2 V2:=zL hw _ (Q5 _ (Zw _ (kI.2 ⟨4,_,by unfold UC.row;rw[hnum];rfl,rfl⟩)));refine GOH ?_;refine jI ⟨.inr rfl,_,[kA X.wq 0 [.map (some X.fb),.map (some X.gb),us2q],slA us2q (U2.map fun u=>kK (some u.q)) usp2,[.obj X.fb (.map X.fes X.fc)],[.obj X.gb (.map X.ges X.gc)],WK U2 V2,T2,[.obj b (.map es c)],X.S,[]],.cellN (us:=[.int .u8 8,.string e0,.int .u8 0,.int .i64 0,.int .u64 0,.string e0,.slice none 0 0,.slice none 0 0,.int .i64 st.outer.length,.bool false,.slice none 0 0,.slice none 0 0,.slice none 0 0]) Zr Zr (fun y hy=>by simp only[vz,Q1];repeat (first|exact Or.inl hy|refine Or.inr ?_)) .nil,Imp.cut (M:=[kA X.wq 0 [.map (some X.fb),.map (some X.gb),us2q],slA us2q (U2.map fun u=>kK (some u.q)) usp2,[.obj X.fb (.map X.fes X.fc)],[.obj X.gb (.map X.ges X.gc)],WK U2 V2,T2,[.obj b (.map es c)],X.S]) ZI (Imp.perm Zs),⟨us2q,usp2,U2,V2,T2,_,⟨by rw[hP];exact hS2,hpU2,hpV2,_,rfl,?_⟩,rfl⟩⟩;rw[hP];exact n_made (k:=8) (nm:=e0) (lit:=lt0) (refs:=[]) (unit:=st.outer.length) (sup:=false) (kids:=[]) (rows:=[]) (sv:=.slice none 0 0) (sp:=[]) (vv:=.slice none 0 0) (B:=[]) .nil (z9.nil _ _) (lt0_rd _) (jm.nil _) (wK.nil _) (zR.nil _)
  rw[show decide ((x.kind:Int)=7)=false from Zf Zo];refine jU ?_;by_cases h8:x.kind=8
  ·rw[show decide ((x.kind:Int)=8)=true from Zt Zo];have hP:=partS_8 X.F X.G x.kind x.name x.lit x.args x.temps x.kids x.at_ st env i hin h8;rw[<- Nd.eta x]at hP;refine GOH ?_;exact⟨_,simple 9 e0 x.kids a3 c3 bk ko ks (by rw[hP,if_neg Zo]) hroom2 ha hm hr hszN hkk (fun e=>absurd e Zo),ZU,Imp.cut (M:=[kA q12 0 [.int .u8 9,.string e0,.int .u8 0,.int .i64 0,.int .u64 0,.string e0,.slice none 0 0,.slice none 0 0,.int .i64 0,.bool false,.slice none 0 0,.slice none 0 0,.slice none 0 0],kA q5 0 [.int .u8 x.kind,.string x.name,.int .u8 e1,.int .i64 e2,.int .u64 e3,.string e4,.slice e5 e6 e7,.slice a1 x.args.length c1,.slice a2 x.temps.length c2,.slice a3 x.kids.length c3,.int .i64 x.at_],kA q8 0 [.int .u8 0,.string e0,.int .u8 0,.int .i64 0,.int .u64 0,.string e0,.slice none 0 0,.slice none 0 0,.int .i64 0,.bool false,.slice none 0 0,.slice none 0 0,.slice none 0 0],kA X.wq 0 [.map (some X.fb),.map (some X.gb),us],slA us (U.map fun u=>kK (some u.q)) usp,[.obj X.fb (.map X.fes X.fc)],[.obj X.gb (.map X.ges X.gc)],WK U Vs,T,[.obj b (.map es c)],X.S]) ZI (Imp.perm Zs)⟩
  rw[show decide ((x.kind:Int)=8)=false from Zf Zo];refine jU ?_;by_cases h9:x.kind=9
  ·rw[show decide ((x.kind:Int)=9)=true from Zt Zo];have hP:=partS_9 X.F X.G x.kind x.name x.lit x.args x.temps x.kids x.at_ st env i hin h9;rw[<- Nd.eta x]at hP;refine GOH ?_;exact⟨_,simple 10 e0 x.kids a3 c3 bk ko ks (by rw[hP,if_neg Zo]) hroom2 ha hm hr hszN hkk (fun e=>absurd e Zo),ZU,Imp.cut (M:=[kA q12 0 [.int .u8 10,.string e0,.int .u8 0,.int .i64 0,.int .u64 0,.string e0,.slice none 0 0,.slice none 0 0,.int .i64 0,.bool false,.slice none 0 0,.slice none 0 0,.slice none 0 0],kA q5 0 [.int .u8 x.kind,.string x.name,.int .u8 e1,.int .i64 e2,.int .u64 e3,.string e4,.slice e5 e6 e7,.slice a1 x.args.length c1,.slice a2 x.temps.length c2,.slice a3 x.kids.length c3,.int .i64 x.at_],kA q8 0 [.int .u8 0,.string e0,.int .u8 0,.int .i64 0,.int .u64 0,.string e0,.slice none 0 0,.slice none 0 0,.int .i64 0,.bool false,.slice none 0 0,.slice none 0 0,.slice none 0 0],kA X.wq 0 [.map (some X.fb),.map (some X.gb),us],slA us (U.map fun u=>kK (some u.q)) usp,[.obj X.fb (.map X.fes X.fc)],[.obj X.gb (.map X.ges X.gc)],WK U Vs,T,[.obj b (.map es c)],X.S]) ZI (Imp.perm Zs)⟩
  rw[show decide ((x.kind:Int)=9)=false from Zf Zo];refine jU ?_;by_cases h6:x.kind=6
  ·rw[show decide ((x.kind:Int)=6)=true from Zt Zo];have hP:=partS_6 X.F X.G x.kind x.name x.lit x.args x.temps x.kids x.at_ st env i hin h6;rw[<- Nd.eta x]at hP;refine jU ?_;refine VC.draws ⟨?_,?_,trivial⟩
   all_goals
    refine GOH ?_;exact⟨_,simple 7 x.name x.kids a3 c3 bk ko ks (by rw[hP,if_neg Zo]) hroom2 ha hm hr hszN hkk (fun e=>absurd e Zo),ZU,Imp.cut (M:=[kA q12 0 [.int .u8 7,.string x.name,.int .u8 0,.int .i64 0,.int .u64 0,.string e0,.slice none 0 0,.slice none 0 0,.int .i64 0,.bool false,.slice none 0 0,.slice none 0 0,.slice none 0 0],kA q5 0 [.int .u8 x.kind,.string x.name,.int .u8 e1,.int .i64 e2,.int .u64 e3,.string e4,.slice e5 e6 e7,.slice a1 x.args.length c1,.slice a2 x.temps.length c2,.slice a3 x.kids.length c3,.int .i64 x.at_],kA q8 0 [.int .u8 0,.string e0,.int .u8 0,.int .i64 0,.int .u64 0,.string e0,.slice none 0 0,.slice none 0 0,.int .i64 0,.bool false,.slice none 0 0,.slice none 0 0,.slice none 0 0],kA X.wq 0 [.map (some X.fb),.map (some X.gb),us],slA us (U.map fun u=>kK (some u.q)) usp,[.obj X.fb (.map X.fes X.fc)],[.obj X.gb (.map X.ges X.gc)],WK U Vs,T,[.obj b (.map es c)],X.S]) ZI (Imp.perm Zs)⟩
  rw[show decide ((x.kind:Int)=6)=false from Zf Zo];refine jU ?_;by_cases h5:x.kind=5
  ·rw[show decide ((x.kind:Int)=5)=true from Zt Zo];have hP:=partS_5 X.F X.G x.kind x.name x.lit x.args x.temps x.kids x.at_ st env i hin h5;rw[<- Nd.eta x]at hP;refine GOH ?_;exact⟨_,simple 6 e0 x.kids a3 c3 bk ko ks (by rw[hP,if_pos h5]) hroom2 ha hm hr hszN hkk (fun e=>by rcases hk5 with k|k;exact absurd e k;exact k),ZU,Imp.cut (M:=[kA q12 0 [.int .u8 6,.string e0,.int .u8 0,.int .i64 0,.int .u64 0,.string e0,.slice none 0 0,.slice none 0 0,.int .i64 0,.bool false,.slice none 0 0,.slice none 0 0,.slice none 0 0],kA q5 0 [.int .u8 x.kind,.string x.name,.int .u8 e1,.int .i64 e2,.int .u64 e3,.string e4,.slice e5 e6 e7,.slice a1 x.args.length c1,.slice a2 x.temps.length c2,.slice a3 x.kids.length c3,.int .i64 x.at_],kA q8 0 [.int .u8 0,.string e0,.int .u8 0,.int .i64 0,.int .u64 0,.string e0,.slice none 0 0,.slice none 0 0,.int .i64 0,.bool false,.slice none 0 0,.slice none 0 0,.slice none 0 0],kA X.wq 0 [.map (some X.fb),.map (some X.gb),us],slA us (U.map fun u=>kK (some u.q)) usp,[.obj X.fb (.map X.fes X.fc)],[.obj X.gb (.map X.ges X.gc)],WK U Vs,T,[.obj b (.map es c)],X.S]) ZI (Imp.perm Zs)⟩
  rw[show decide ((x.kind:Int)=5)=false from Zf Zo];refine jU ?_;have h4:x.kind=4:=by omega
  have hk0:0 < x.kids.length:=by rcases hk4 with k|k;exact absurd h4 k;exact k
  cases hsu:jS x.kids with
  |false=>
   have hP:=partS_4 X.F X.G x.kind x.name x.lit x.args x.temps x.kids x.at_ st env i hin Zo hsu;rw[<- Nd.eta x]at hP;refine VC.seq (VC.draws ⟨?_,?_,trivial⟩)
   all_goals
    refine GOH ?_;exact⟨_,simple 4 x.name x.kids a3 c3 bk ko ks (by rw[hP,if_neg Zo]) hroom2 ha hm hr hszN hkk (fun e=>absurd e Zo),ZU,Imp.cut (M:=[kA q12 0 [.int .u8 4,.string x.name,.int .u8 0,.int .i64 0,.int .u64 0,.string e0,.slice none 0 0,.slice none 0 0,.int .i64 0,.bool false,.slice none 0 0,.slice none 0 0,.slice none 0 0],kA q5 0 [.int .u8 x.kind,.string x.name,.int .u8 e1,.int .i64 e2,.int .u64 e3,.string e4,.slice e5 e6 e7,.slice a1 x.args.length c1,.slice a2 x.temps.length c2,.slice a3 x.kids.length c3,.int .i64 x.at_],kA q8 0 [.int .u8 0,.string e0,.int .u8 0,.int .i64 0,.int .u64 0,.string e0,.slice none 0 0,.slice none 0 0,.int .i64 0,.bool false,.slice none 0 0,.slice none 0 0,.slice none 0 0],kA X.wq 0 [.map (some X.fb),.map (some X.gb),us],slA us (U.map fun u=>kK (some u.q)) usp,[.obj X.fb (.map X.fes X.fc)],[.obj X.gb (.map X.ges X.gc)],WK U Vs,T,[.obj b (.map es c)],X.S]) ZI (Imp.perm Zs)⟩
  |true=>
   have hP:=partS_4s X.F X.G x.kind x.name x.lit x.args x.temps x.kids x.at_ st env i hin Zo hsu;rw[<- Nd.eta x]at hP;obtain rfl:=ha hk0;have htl:x.kids.tail.length=x.kids.length - 1:=List.length_tail;have hgt:∀j,x.kids.tail[j]? =x.kids[j+1]?:=fun j=>by rw[List.getElem?_tail]
   have hsz2:Nd.sizes x.kids.tail<=N/\jK x.kids.tail<=jK x.kids/\okNs x.kids.tail=true:=by
    cases hkk2:x.kids with
    |nil=>rw[hkk2]at hk0;simp at hk0
    |cons y l=>
     rw[hkk2]at hszN hkk;simp only[Nd.sizes]at hszN;simp only[okNs,vF]at hkk;simp only[List.tail_cons,jK];exact⟨Zo,Zo,hkk.2⟩
   obtain⟨o',ho'⟩:∃o',o'=(if c3=1 then ko else ko+1*11):=⟨_,rfl⟩;refine VC.seq (VC.draws ⟨?_,?_,trivial⟩)
   all_goals
    refine GOH ?_;refine st_slcL1 (l:=1) Zr Zr rfl ⟨Zo,hcp⟩ ?_;rw[<- ho',show x.kids.length - 1=x.kids.tail.length from htl.symm];refine GOH ?_;exact⟨_,simple 5 x.name x.kids.tail (some ⟨bk,o',none⟩) (c3 - 1) bk (ko+11) (fun j=>ks (j+1)) (by rw[hP,if_neg Zo]) (hroom2.mono hsz2.2.1) (fun h0=>by rw[ho',if_neg Zo]) (fun j hj y hy=>hm (j+1) Zo y (by rw[show ko+(j+1)*11=ko+11+j*11 by omega];exact hy)) (fun j y hy=>hr (j+1) y (by rw[<- hgt];exact hy)) hsz2.1 hsz2.2.2 (fun e=>absurd e Zo),ZU,Imp.cut (M:=[kA q12 0 [.int .u8 5,.string x.name,.int .u8 0,.int .i64 0,.int .u64 0,.string e0,.slice none 0 0,.slice none 0 0,.int .i64 0,.bool false,.slice none 0 0,.slice none 0 0,.slice none 0 0],kA q5 0 [.int .u8 x.kind,.string x.name,.int .u8 e1,.int .i64 e2,.int .u64 e3,.string e4,.slice e5 e6 e7,.slice a1 x.args.length c1,.slice a2 x.temps.length c2,.slice (some ⟨bk,ko,none⟩) x.kids.length c3,.int .i64 x.at_],kA q8 0 [.int .u8 0,.string e0,.int .u8 0,.int .i64 0,.int .u64 0,.string e0,.slice none 0 0,.slice none 0 0,.int .i64 0,.bool false,.slice none 0 0,.slice none 0 0,.slice none 0 0],kA X.wq 0 [.map (some X.fb),.map (some X.gb),us],slA us (U.map fun u=>kK (some u.q)) usp,[.obj X.fb (.map X.fes X.fc)],[.obj X.gb (.map X.ges X.gc)],WK U Vs,T,[.obj b (.map es c)],X.S]) ZI (Imp.perm Zs)⟩
 rintro⟨k,nm,lit,l1,l2,l3,l4,l5,refs,rv,vv,l,a,ac,bk',o',ks',st1,us1,usp1,U1,V1,T1,B⟩ hp
 obtain⟨g1,g2,g3,g4,g5,g6,g7,g8,g9,g10,g11,g12,g13,g14,g15,g16,g17⟩:=hp;simp only at g1 g2 g3 g4 g5 g6 g7 g8 g9 g10 g11 g12 g13 g14 g15 g16 g17;dsimp only;obtain⟨w,hw,hwq⟩:=unit_more hu g9;have hln1:∀v∈env,st1.unitOf v∈st1.line i:=fun v hv=>by
  obtain⟨k1,k2⟩:=seen_line g8 hS.rep.wf g7.rep.wf hil (hs.lt v hv);rw[k1,k2];exact hln v hv
 have hll:=nd_len l;have hall:=all_spec X l a ac bk' o' ks' Zo g12 g13 g14 (fun j y hy=>ih y (by have:=Nd.sizes_mem (Zv hy);omega) (okNs_mem g16 (Zv hy)) _ (g14 j y hy)) st1 us1 usp1 U1 V1 T1 g7 i w hw env b es c (hs.more g8.vars g10 hS.rep.vl) hln1 g11;rw[hwq]at hall;have hlA:=allS_len X.F X.G l st1 env i;obtain⟨A,hA⟩:∃A,A=kR X.F X.G l st1 env i:=⟨_,rfl⟩;rw[<- hA]at hall g1 hlA;obtain⟨ra,rc,hrv⟩:∃ra rc,rv=.slice ra (wS refs).length rc:=let⟨x1,x2,x3,_⟩:=g3;⟨x1,x2,x3⟩;obtain⟨va,vc,hvv⟩:∃va vc,vv=.slice va ((rawsR refs).map fun r=>(V1.map VCl.q).getD r.index.toNat 0).length vc:=let⟨x1,x2,x3,_⟩:=g4;⟨x1,x2,x3⟩;obtain⟨y1,y2,y3,y4,y5,y6,y7,hlv⟩:∃(y1:Nat) (y2:Int) (y3:Nat) (y4:ByteArray) (y5:Option Addr) (y6 y7:Nat),[l1,l2,l3,l4,l5]=[.int .u8 y1,.int .i64 y2,.int .u64 y3,.string y4,.slice y5 y6 y7]:=by
  generalize hx:[l1,l2,l3,l4,l5]=lv at g2;cases g2 with
  |mk wf2 ha2 hm2 hr2=>exact⟨_,_,_,_,_,_,_,rfl⟩
 simp only[ve,and_true]at hlv;obtain⟨rfl,rfl,rfl,rfl,rfl⟩:=hlv;have hmade:∀(us4:Value) (usp4:List Value) (U4:List UC) (V4:List VCl) (T4:List kC) (sv:Value) (rows:List (List Value)) (sp:List Value) (B':List kC) (ps:List PN),V1.map VCl.q <+:V4.map VCl.q->jC 13 sv ps.length rows.flatten sp->z9 B' (V4.map VCl.q) ps rows->
  NRd (slA sv rows.flatten sp++(B'++B)) (V4.map VCl.q) (.mk k nm lit refs 0 false ps) ([cv k,.string nm]++[.int .u8 y1,.int .i64 y2,.int .u64 y3,.string y4,.slice y5 y6 y7]++[rv,.int .i64 0,.bool false,.slice none 0 0,vv,sv]):=fun us4 usp4 U4 V4 T4 sv rows sp B' ps hpre hsl hrows=>by
  refine n_made hsl (hrows.more (fun x hx=>Zw _ hx) (QM _)) (g2.more fun x hx=>Q3 _ hx) (g3.more fun x hx=>Q3 _ hx) ?_ (g5.more hpre) g6;rw[raws_same g5 hpre];exact g4.more fun x hx=>Q3 _ hx
 subst hrv;subst hvv;generalize hn1:(wS refs).length=n1 at*;generalize hn2:((rawsR refs).map fun r=>(V1.map VCl.q).getD r.index.toNat 0).length=n2 at*;refine GOH ?_;refine kJ hall Zr ZP (fun v Post hv=>?_) (fun ch Post hz=>?_);rotate_left
 ·obtain⟨q1,e1',p1,hb1,rfl,rfl⟩:=hz;exact⟨[X.S,jJ q1 e1' p1],ZI,q1,e1',p1,by rw[g1];exact hb1,rfl,rfl⟩
 obtain⟨us4,usp4,U4,V4,T4,B4,⟨hS4,hpU4,hpV4,rows,sp4,B5,hsl4,hrows4,rfl⟩,rfl⟩:=hv;simp only[CNx];obtain⟨sa,sc,rfl⟩:=hsl4.form;refine jU ?_;refine VC.join (α:=List (List Value)×List PN) (Γf:=fun _=>[(8,kE q8),(12,kE q12)]) (Hf:=fun p=>[kA q12 0 [.int .u8 k,.string nm,.int .u8 y1,.int .i64 y2,.int .u64 y3,.string y4,.slice y5 y6 y7,.slice ra n1 rc,.int .i64 0,.bool false,.slice none 0 0,.slice va n2 vc,.slice sa A.1.length sc],kA q8 0 [.int .u8 0,.string e0,.int .u8 0,.int .i64 0,.int .u64 0,.string e0,.slice none 0 0,.slice none 0 0,.int .i64 0,.bool false,.slice none 0 0,.slice none 0 0,.slice none 0 0],kA X.wq 0 [.map (some X.fb),.map (some X.gb),us4],slA us4 (U4.map fun u=>kK (some u.q)) usp4,[.obj X.fb (.map X.fes X.fc)],[.obj X.gb (.map X.ges X.gc)],WK U4 V4,T4,[.obj b (.map es c)],X.S,slA (.slice sa A.1.length sc) p.1.flatten sp4,B5,B]) (I:=fun p=>p.2=(if x.kind=5 then wR (jS x.kids) A.1 else A.1)/\jC 13 (.slice sa A.1.length sc) p.2.length p.1.flatten sp4/\z9 B5 (V4.map VCl.q) p.2 p.1) ?_ ?_
 ·refine jU ?_;by_cases h5:x.kind=5;rotate_left
  ·rw[show decide ((x.kind:Int)=5)=false from Zf Zo];refine GOH ?_;exact⟨(rows,A.1),⟨by rw[if_neg h5],hsl4,hrows4⟩,ZU,Imp.cut (M:=[kA q12 0 [.int .u8 k,.string nm,.int .u8 y1,.int .i64 y2,.int .u64 y3,.string y4,.slice y5 y6 y7,.slice ra n1 rc,.int .i64 0,.bool false,.slice none 0 0,.slice va n2 vc,.slice sa A.1.length sc],kA q8 0 [.int .u8 0,.string e0,.int .u8 0,.int .i64 0,.int .u64 0,.string e0,.slice none 0 0,.slice none 0 0,.int .i64 0,.bool false,.slice none 0 0,.slice none 0 0,.slice none 0 0],kA X.wq 0 [.map (some X.fb),.map (some X.gb),us4],slA us4 (U4.map fun u=>kK (some u.q)) usp4,[.obj X.fb (.map X.fes X.fc)],[.obj X.gb (.map X.ges X.gc)],WK U4 V4,T4,[.obj b (.map es c)],X.S,slA (.slice sa A.1.length sc) rows.flatten sp4++B5,B]) ZI (Imp.perm Zs)⟩
  rw[show decide ((x.kind:Int)=5)=true from Zt Zo];have hl0:=g17 h5;obtain⟨sb,so,sc2,hsv,hscl,hsla⟩:=isSl_addr hsl4 Zo;simp only[Value.slice.injEq,true_and]at hsv;obtain⟨rfl,rfl⟩:=hsv;have hrl:rows.length=A.1.length:=hrows4.len;obtain⟨so',hso'⟩:∃so',so'=(if sc=1 then so else so+1*13):=⟨_,rfl⟩;refine GOH ?_;refine st_slcL1 (l:=1) Zr Zr rfl ⟨Zo,hscl⟩ ?_;rw[<- hso'];refine GOH ?_;refine VC.loop (α:=Nat) (Γf:=fun j=>[(8,kE q8),(12,kE q12),(14,.bool (jS x.kids)),(144,vi ((A.1.length - 1:Nat):Int)),(145,vi j)]) (Hf:=fun j=>[kA q12 0 [.int .u8 k,.string nm,.int .u8 y1,.int .i64 y2,.int .u64 y3,.string y4,.slice y5 y6 y7,.slice ra n1 rc,.int .i64 0,.bool false,.slice none 0 0,.slice va n2 vc,.slice (some ⟨sb,so,none⟩) A.1.length sc],kA q8 0 [.int .u8 0,.string e0,.int .u8 0,.int .i64 0,.int .u64 0,.string e0,.slice none 0 0,.slice none 0 0,.int .i64 0,.bool false,.slice none 0 0,.slice none 0 0,.slice none 0 0],kA X.wq 0 [.map (some X.fb),.map (some X.gb),us4],slA us4 (U4.map fun u=>kK (some u.q)) usp4,[.obj X.fb (.map X.fes X.fc)],[.obj X.gb (.map X.ges X.gc)],WK U4 V4,T4,[.obj b (.map es c)],X.S,kA sb so ((wH (jS x.kids) rows j).flatten++sp4),B5,B]) (I:=fun j=>j<=A.1.length - 1) (μ:=fun j=>A.1.length - 1 - j) 0 (Qf _) ZU (by rw[setRows_0,<- hsla];exact Imp.cut (M:=[kA q12 0 [.int .u8 k,.string nm,.int .u8 y1,.int .i64 y2,.int .u64 y3,.string y4,.slice y5 y6 y7,.slice ra n1 rc,.int .i64 0,.bool false,.slice none 0 0,.slice va n2 vc,.slice (some ⟨sb,so,none⟩) A.1.length sc],kA q8 0 [.int .u8 0,.string e0,.int .u8 0,.int .i64 0,.int .u64 0,.string e0,.slice none 0 0,.slice none 0 0,.int .i64 0,.bool false,.slice none 0 0,.slice none 0 0,.slice none 0 0],kA X.wq 0 [.map (some X.fb),.map (some X.gb),us4],slA us4 (U4.map fun u=>kK (some u.q)) usp4,[.obj X.fb (.map X.fes X.fc)],[.obj X.gb (.map X.ges X.gc)],WK U4 V4,T4,[.obj b (.map es c)],X.S,slA (.slice (some ⟨sb,so,none⟩) A.1.length sc) rows.flatten sp4++B5,B]) ZI (Imp.perm Zs)) ?_;intro j hj;refine GOH ?_;by_cases hlt:j < A.1.length - 1;rotate_left
  ·rw[show decide ((j:Int) < ((A.1.length - 1:Nat):Int))=false from Zf Zo];have hje:j=A.1.length - 1:=by omega
   subst hje;refine GOH ?_;refine⟨(wH (jS x.kids) rows (A.1.length - 1),wR (jS x.kids) A.1),⟨by rw[if_pos h5],?_,nrows_supers hrows4 _⟩,ZU,by rw[hsla];exact IMx⟩;rw[supers_len];exact hsl4.other (by rw[flat_len (setRows_w hrows4.w),flat_len hrows4.w,jz])
  rw[show decide ((j:Int) < ((A.1.length - 1:Nat):Int))=true from Zt Zo];obtain⟨r,hr0⟩:∃r,rows[j+1]? =some r:=⟨_,Zg Zo⟩;have hrw:=hrows4.w r (Zv hr0);have hsj:(wH (jS x.kids) rows j)[j+1]? =some r:=by rw[wk hr0,if_neg Zo]
  have hset:((wH (jS x.kids) rows j).flatten++sp4).set ((j+1)*13+9) (.bool (jS x.kids))=(wH (jS x.kids) rows (j+1)).flatten++sp4:=by
   have hfl:=flat_len (setRows_w (b:=jS x.kids) (j:=j) hrows4.w);rw[jz]at hfl;rw[List.set_append_left _ _ (by rw[hfl];omega),flat_set (setRows_w hrows4.w) hsj Zd,setRows_step hr0]
  refine GOH ?_;refine st_store' (us:=[.bool (jS x.kids)]) Zr Zr Zr Zr Zr (.there (.there (.there (.there (.there (.there (.there (.there (.there (.there (Upd.set1 (i:=(j+1)*13+9) Zo ?_))))))))))) ?_
  ·have hfl:=flat_len (setRows_w (b:=jS x.kids) (j:=j) hrows4.w);rw[jz]at hfl;rw[Vj,hfl];omega
  rw[hset];exact zD1
 rintro⟨rows5,ps⟩ ⟨hps,hsl5,hrows5⟩
 simp only at hps hsl5 hrows5;dsimp only;rw[<- hps]at g1;have hnd:=hmade us4 usp4 U4 V4 T4 _ _ _ _ ps hpV4 hsl5 hrows5;refine GOH ?_;refine jI ⟨.inr rfl,_,[kA X.wq 0 [.map (some X.fb),.map (some X.gb),us4],slA us4 (U4.map fun u=>kK (some u.q)) usp4,[.obj X.fb (.map X.fes X.fc)],[.obj X.gb (.map X.ges X.gc)],WK U4 V4,T4,[.obj b (.map es c)],X.S,slA (.slice sa A.1.length sc) rows5.flatten sp4++(B5++B)],.cellN (us:=[.int .u8 k,.string nm,.int .u8 y1,.int .i64 y2,.int .u64 y3,.string y4,.slice y5 y6 y7,.slice ra n1 rc,.int .i64 0,.bool false,.slice none 0 0,.slice va n2 vc,.slice sa A.1.length sc]) Zr Zr (fun y hy=>by simp only[vz,Q1];repeat (first|exact Or.inl hy|refine Or.inr ?_)) .nil,Imp.cut (M:=[kA X.wq 0 [.map (some X.fb),.map (some X.gb),us4],slA us4 (U4.map fun u=>kK (some u.q)) usp4,[.obj X.fb (.map X.fes X.fc)],[.obj X.gb (.map X.ges X.gc)],WK U4 V4,T4,[.obj b (.map es c)],X.S,slA (.slice sa A.1.length sc) rows5.flatten sp4,B5,B]) ZI (Imp.perm Zs),⟨us4,usp4,U4,V4,T4,_,⟨by rw[g1];exact hS4,g9.trans hpU4,g10.trans hpV4,_,rfl,by rw[g1];exact hnd⟩,rfl⟩⟩
theorem part_ok(X:Fix)(hX:FixOk X):∀N,N < 1073741824->∀x,x.size<=N->okN x=true->∀vs,jQ X.S x vs->PartOk X x vs:=by
 intro N
 induction N with
 |zero=>intro _ x hx;have:=x.size_pos;omega
 |succ N ih=>exact fun hN x hx hok vs h=>part_step X hX N Zo (ih Zo) x hx hok vs h
end Go.Proofs.YtijnokbblmbpkaaGreatDoor
namespace Go.V
open Go
structure FldIs (F:List ByteArray)(j:Nat)(es:Array MapEntry)(c:Nat):Prop where
 is:∃m:List (ByteArray×Nat),zG zX (fun n:Nat=>.int .i64 n) es c m/\∀nm,kq nm m=(F.take j).findIdx? (fun s=>decide (s=nm))
structure GlbIs (G:List ByteArray)(j:Nat)(es:Array MapEntry)(c:Nat):Prop where
 is:∃m:List (ByteArray×Nat),zG zX (fun n:Nat=>.int .i64 n) es c m/\(∀nm,decide ((kq nm m).getD 0=0)=!(G.take j).any (fun s=>decide (s=nm)))/\∀nm,(kq nm m).getD 0<=j
theorem FldIs.nil(F:List ByteArray):FldIs F 0 #[] 0:=⟨[],.nil,fun _=>by rw[QS];rfl⟩
theorem GlbIs.nil(G:List ByteArray):GlbIs G 0 #[] 0:=⟨[],.nil,fun _=>by rw[QS];rfl,fun _=>Qf _⟩
theorem FldIs.all {F:List ByteArray}{j:Nat}{es:Array MapEntry}{c:Nat}(h:FldIs F j es c)(hj:F.length<=j):FieldsIs F es c:=by
 obtain⟨m,h1,h2⟩:=h.is;rw[QR hj]at h2;exact⟨m,h1,h2⟩
theorem GlbIs.all {G:List ByteArray}{j:Nat}{es:Array MapEntry}{c:Nat}(h:GlbIs G j es c)(hj:G.length<=j):GlobsIs G es c:=by
 obtain⟨m,h1,h2,_⟩:=h.is;rw[QR hj]at h2;exact⟨m,h1,h2⟩
theorem fld_take {F:List ByteArray}{j:Nat}{s:ByteArray}(hs:F[j]? =some s)(nm:ByteArray):(F.take (j+1)).findIdx? (fun t=>decide (t=nm))=((F.take j).findIdx? (fun t=>decide (t=nm))).or (if s=nm then some j else none):=by
 have hl:=(Vd.1 hs).1;have e:F.take (j+1)=F.take j++[s]:=by rw[QO,hs];rfl
 rw[e,List.findIdx?_append,Vv,Nat.min_eq_left Zo]
 congr 1
 rw[List.findIdx?_cons,List.findIdx?_nil];by_cases c:s=nm
 ·rw[Zt c,if_pos c];simp
 ·rw[Zf c,if_neg c];simp
theorem glb_take {G:List ByteArray}{j:Nat}{s:ByteArray}(hs:G[j]? =some s)(nm:ByteArray):(G.take (j+1)).any (fun t=>decide (t=nm))=((G.take j).any (fun t=>decide (t=nm))||decide (s=nm)):=by
 have e:G.take (j+1)=G.take j++[s]:=by rw[QO,hs];rfl
 rw[e,List.any_append,List.any_cons,List.any_nil,vQ]
theorem root_err(F G args temps:List ByteArray)(kids:List Nd){e:Nat}{p:Int}(h:(rootS F G args temps kids).f=some (e,p)):errW e:=by
 unfold rootS at h;rw[we]at h;have g:Gr st0 (kR F G kids (inS args temps 0 st0 [] (-1)).1 (inS args temps 0 st0 [] (-1)).2 st0.outer.length).2:=(gr_unit st0 (-1) args.length).trans ((zZ _ _ _ _ _ _ _ _).trans ((zZ _ _ _ _ _ _ _ _).trans (zK F G kids _ _ _)));exact(g.err _ h).elim (fun k=>by cases k) id
theorem answer_f {st:SSt}{e:Nat}{p:Int}(h:st.f=some (e,p)):st.answer=([],e,p):=by
 unfold SSt.answer;rw[h]
end Go.V

/-
  A unit.
-/
import Derived.Test.YtijnokbblmbpkaaGreatDoorM21
import Derived.Test.YtijnokbblmbpkaaGreatDoorM17
import Derived.Test.YtijnokbblmbpkaaGreatDoorM6
import Derived.Test.YtijnokbblmbpkaaGreatDoorM12
import Derived.Test.YtijnokbblmbpkaaGreatDoorM5
import Derived.Test.YtijnokbblmbpkaaGreatDoorM7
import Derived.Test.YtijnokbblmbpkaaGreatDoorM11
set_option linter.all false
namespace Go.Proofs.YtijnokbblmbpkaaGreatDoor
open Go Go.V
set_option maxHeartbeats 6400000
set_option maxRecDepth 100000
theorem UW {U:List UC}{Vs:List az}{q:Nat}{w:World}{L:List kC}{M:List kC}(hs:Sat w (L++M))(hq:kC.own q 9∈L)(hm:∀x∈WK U Vs,x∈M):q∉U.map UC.q:=by
 intro aL;obtain⟨u,hu,rfl⟩:=QM.1 aL;have hn:=hs.nodup;rw[QA,QT]at hn;have h1:kC.own u.q 9∈WK U Vs:=Zw _ (QL.2 ⟨u,hu,QJ ..⟩);exact hn.2.2 _ (QM.2 ⟨_,hq,rfl⟩) _ (QM.2 ⟨_,hm _ h1,rfl⟩) rfl
theorem xp(X:Fix)(vk l1 l2 l3 l4 l5:Value)(vn:Value)(args ab:List ByteArray)(av tv:Value)(bJ:dG X.S av args)(bF:dG X.S tv ab)(kids:List Nd)(a:Option Addr)(ac bk ko:Nat)(ks:Nat->List Value)(KC:kids.length < 1073741824)(ha:0 < kids.length->a=some ⟨bk,ko,none⟩)(hm:∀i,i < kids.length->∀y∈kA bk (ko+i*11) (ks i),y∈X.S)(hr:∀i x,kids[i]? =some x->jJ X.S x (ks i))(aP:∀i x,kids[i]? =some x->oL X x (ks i))(p:Int)
 (st:ah) (us:Value) (bA:List Value) (U:List UC) (Vs:List az) (T:List kC) (hS:ii st us bA U Vs T) (o:Int) (ho:-1<=o/\o < st.outer.length) (env:List Nat) (b:Nat) (es:Array MapEntry) (c:Nat) (hs:zH st Vs env es c) (EX:∀v∈env,∃i:Nat,o=i/\st.af v∈st.line i) (bX:Room st (iV args ab (jM kids))):
 ji Tryz.prog 49 [kF X.wq,.agg #[vk,vn,l1,l2,l3,l4,l5,av,tv,.slice a kids.length ac,.int .i64 p],kM (ni U o),.map (some b)]
  [kA X.wq 0 [.map (some X.fb),.map (some X.gb),us],aj us (U.map fun u=>kM (some u.q)) bA,[.obj X.fb (.map X.bG X.fc)],[.obj X.gb (.map X.bL X.gc)],WK U Vs,T,[.obj b (.map es c)],X.S]
  (fun v Post=>∃K8 Tq U' og T',(ii (oH X.F X.G args ab kids p st env o) K8 Tq U' og T'/\U.map UC.q <+:U'.map UC.q/\Vs.map az.q <+:og.map az.q/\∃w,U'[st.outer.length]? =some w/\v=kF w.q)/\
    Post=[kA X.wq 0 [.map (some X.fb),.map (some X.gb),K8],aj K8 (U'.map fun u=>kM (some u.q)) Tq,[.obj X.fb (.map X.bG X.fc)],[.obj X.gb (.map X.bL X.gc)],WK U' og,T',[.obj b (.map es c)],X.S])
  (fun ch Post=>∃q e p',(oH X.F X.G args ab kids p st env o).f=some (e,p')/\ch=oW q/\Post=[X.S,jP q e p']):=by
 obtain⟨ua,uc,x4⟩:=hS.sl.form;have bD:=hS.sl;subst x4;have O1:=bJ;have DT:=bF;obtain⟨aa,Kb,rfl,tq,ec⟩:=bJ;obtain⟨ta,K5,rfl,sE,KH⟩:=bF;have DU:=hS.rep.ul;have hUl:U.length=(U.map fun u=>kM (some u.q)).length:=by simp
 obtain⟨r1,r2,r3⟩:=bX;simp only[iV]at r1 r2 r3;obtain⟨pa,hpa⟩:∃pa,kM (ni U o)=.pointer pa:=by cases ni U o <;> exact⟨_,rfl⟩
 rw[hpa];refine ji.intro low49 (by simp[n49]) ?_;refine ae ?_;refine kX Zr (fun q5=>?_);simp only[Value.cells];refine ae ?_;refine iG (fun nb=>?_);refine ae ?_;refine X9 Zr (fun q=>?_);simp only[Value.cells];refine VO.know (φ:=q∉U.map UC.q) (fun w F iw=>?_) (fun uG=>?_)
 ·refine UW (Vs:=Vs) (L:=_) (M:=_) (by rw[Vd,vj]at iw;exact iw) (QJ ..) (fun x hx=>?_);simp[hx]
 refine VO.imp (H':=[[.own q 9],kA q 0 [vi 0,vi 0,vi 0,.pointer pa,vi U.length,Nz,.map (some nb),Nz,Nz],[.obj nb (.map #[] 0)],kA q5 0 [vk,vn,l1,l2,l3,l4,l5,.slice aa args.length Kb,.slice ta ab.length K5,.slice a kids.length ac,.int .i64 p],
  kA X.wq 0 [.map (some X.fb),.map (some X.gb),.slice ua U.length uc],aj (.slice ua U.length uc) (U.map fun u=>kM (some u.q)) bA,[.obj X.fb (.map X.bG X.fc)],[.obj X.gb (.map X.bL X.gc)],WK U Vs,T,[.obj b (.map es c)],X.S]) (ao.perm Zs) ?_
 refine ae ?_;refine kO (fun k9=>?_);refine ae ?_;refine jB (out:=[kF q]) Zr Zr (fun r=>?_);refine jH (k:=U.length) (m:=1) (xs:=U.map fun u=>kM (some u.q)) (sp:=bA) (ys:=[kF q]) Zr Zr bD ZK Zr ?_ rfl Zr Zr Zd Zo (fun eW bE aT=>?_)
 ·exact ET
 obtain⟨ua',uc',rfl⟩:=aT.form;have gS:(U.map fun u=>kM (some u.q))++[kF q]=(U++[yu q args.length (ni U o) st.outer.length nb]).map fun u=>kM (some u.q):=by simp[kM,yu]
 rw[gS]at aT|-;refine ae ?_;have hR1:cK (st.aF o args.length) (U++[yu q args.length (ni U o) st.outer.length nb]) Vs:=hS.rep.aF ho uG;obtain⟨U1,LY⟩:∃U1,U1=U++[yu q args.length (ni U o) st.outer.length nb]:=⟨_,rfl⟩;have E3:(U1.map UC.q)[st.outer.length]? =some q:=by
  rw[LY,QA,Vl (by rw[Q5,DU];exact Qn _),Q5,DU,Qt];rfl
 have E0:(st.aF o args.length).args.getD st.outer.length 0=args.length:=by
  show(st.args++[args.length]).getD st.outer.length 0=args.length;rw[Vh,<- hS.rep.wf.al,Vl (Qn _),Qt];rfl
 have hol:(st.aF o args.length).outer.length=st.outer.length+1:=by unfold ah.aF;simp
 have hwk1:(WK U1 Vs).Perm ([.own q 9]++(kA q 0 [vi args.length,vi 0,vi 0,.pointer pa,vi U.length,Nz,.map (some nb),Nz,Nz]++([.obj nb (.map #[] 0)]++WK U Vs))):=by
  rw[LY];refine(Tw U Vs _).trans ?_;have e:(yu q args.length (ni U o) st.outer.length nb).atoms=.own q 9::(kA q 0 [vi args.length,vi 0,vi 0,.pointer pa,vi U.length,Nz,.map (some nb),Nz,Nz]++[.obj nb (.map #[] 0)]):=by
   unfold UC.atoms UC.row yu;simp only[hpa,DU,aj,QS];rfl
  rw[e];simp
 rw[<- LY]at hR1 aT|-;refine VO.imp (H':=[kA k9 0 [kF q],WK U1 Vs,[.obj b (.map es c)],X.S,kA q5 0 [vk,vn,l1,l2,l3,l4,l5,.slice aa args.length Kb,.slice ta ab.length K5,.slice a kids.length ac,.int .i64 p],kA X.wq 0 [.map (some X.fb),.map (some X.gb),.slice ua' (U.length+1) uc'],aj (.slice ua' (U.length+1) uc') (U1.map fun u=>kM (some u.q)) bE,[.obj X.fb (.map X.bG X.fc)],[.obj X.gb (.map X.bL X.gc)],T]) ?_ ?_
 ·refine ao.cut (M:=[kA k9 0 [kF q],[.own q 9],kA q 0 [vi args.length,vi 0,vi 0,.pointer pa,vi U.length,Nz,.map (some nb),Nz,Nz],[.obj nb (.map #[] 0)],WK U Vs,[.obj b (.map es c)],X.S,kA q5 0 [vk,vn,l1,l2,l3,l4,l5,.slice aa args.length Kb,.slice ta ab.length K5,.slice a kids.length ac,.int .i64 p],kA X.wq 0 [.map (some X.fb),.map (some X.gb),.slice ua' (U.length+1) uc'],aj (.slice ua' (U.length+1) uc') (U1.map fun u=>kM (some u.q)) bE,[.obj X.fb (.map X.bG X.fc)],[.obj X.gb (.map X.bL X.gc)],T]) ZI (ao.perm ?_);have h:=fun R=>(vY R hwk1).symm
  simp only[vj]at h;simp only[Vd,Ve,vm];exact vX _ (h _)
 have sC:zH (st.aF o args.length) Vs env es c:=hs.more (Qc _) (Qc _) hS.rep.vl;have gQ:∀e:Nat×Int,(aW args ab p st env o).1.f=some e->(oH X.F X.G args ab kids p st env o).f=some e:=fun e he=>by
  rw[wC];exact(wV X.F X.G kids _ _ _).f e he
 have O2:∀e:Nat×Int,(kP st.outer.length true true p args 0 (st.aF o args.length) env).1.f=some e->(oH X.F X.G args ab kids p st env o).f=some e:=fun e he=>gQ e (r9 st.outer.length false true p ab 0 _ _ he)
 refine kL (ob X.S st.outer.length args.length true true p args (.slice aa args.length Kb) O1 (.func (.func 109) #[] #[kF k9]) (fun _ A=>A=kA k9 0 [kF q]) (st.aF o args.length) U1 Vs (mk_arg _ st.outer.length args.length q k9 E3 Zo) hR1 (by rw[hol];omega) E0 hS.ok (by show st.vars.length+args.length < _;omega) _ rfl env b es c sC) Zr ZP (fun v Post hv=>?_) (fun ch Post hz=>?_);rotate_left
 ·obtain⟨H9,q1,rfl,rfl⟩:=hz;exact⟨[X.S,jP q1 180 p],ZI,q1,180,p,O2 _ H9,rfl,rfl⟩
 obtain⟨b2,EU,c2,U2,V2,A2,⟨DF,rfl,Kv,iN,p7,tz,rK,rfl⟩,rfl⟩:=hv;simp only[aJ];refine ae ?_;obtain⟨g1,g2,g3,g4⟩:=jZ st.outer.length true true p args 0 (st.aF o args.length) env;refine kL (ob X.S st.outer.length args.length false true p ab (.slice ta ab.length K5) DT (.func (.func 110) #[] #[kF k9]) (fun _ A=>A=kA k9 0 [kF q]) _ U2 V2 (W4 _ st.outer.length args.length q k9 ab.length (by rw[iN];exact E3)) Kv (by rw[g1,hol];omega) (by rw[g2];exact E0) DF (by rw[g4];show st.vars.length+args.length+ab.length < _;omega) _ rfl _ b2 EU c2 rK) Zr ZP (fun v Post hv=>?_) (fun ch Post hz=>?_);rotate_left
 ·obtain⟨H9,q1,rfl,rfl⟩:=hz;exact⟨[X.S,jP q1 180 p],ZI,q1,180,p,gQ _ H9,rfl,rfl⟩
 obtain⟨b3,es3,c3,U3,V3,A3,⟨hf3,rfl,hR3,I4,Nx,hp3,Me,rfl⟩,rfl⟩:=hv;simp only[aJ];obtain⟨d1,d2,d3,d4⟩:=jZ st.outer.length false true p ab 0 (kP st.outer.length true true p args 0 (st.aF o args.length) env).1 (kP st.outer.length true true p args 0 (st.aF o args.length) env).2;have aL:kP st.outer.length false true p ab 0 (kP st.outer.length true true p args 0 (st.aF o args.length) env).1 (kP st.outer.length true true p args 0 (st.aF o args.length) env).2=aW args ab p st env o:=rfl;have I1:∀v∈(aW args ab p st env o).2,(aW args ab p st env o).1.af v∈(aW args ab p st env o).1.line st.outer.length:=fun v hv=>by
  have hwf3:Wf (aW args ab p st env o).1:=hR3.wf;have NI:(aW args ab p st env o).1.outer=(st.aF o args.length).outer:=d1.trans g1;have YW:=hwf3.line (u:=st.outer.length) (by rw[NI,hol];omega);have mV:st.outer.length∈(aW args ab p st env o).1.line st.outer.length:=by rw[YW];exact QJ ..
  have hlt1:∀v∈env,v < (st.aF o args.length).vars.length:=fun v hv=>hs.lt v hv
  have ur:∀v∈(kP st.outer.length true true p args 0 (st.aF o args.length) env).2,v < (kP st.outer.length true true p args 0 (st.aF o args.length) env).1.vars.length:=fun v hv=>(fp _ _ _ _ _ _ _ _ hlt1 v hv).1
  obtain⟨_,hk⟩:=fp st.outer.length false true p ab 0 _ _ ur v hv;rcases hk with⟨um,tx⟩|hk
  ·obtain⟨_,rI⟩:=fp st.outer.length true true p args 0 _ _ hlt1 v um;rcases rI with⟨hk4,hk5⟩|rI
   ·obtain⟨i,hi1,L6⟩:=EX v hk4;have he:(aW args ab p st env o).1.af v=st.af v:=tx.trans hk5;have Ny:(aW args ab p st env o).1.outer.getD st.outer.length (-1)=o:=by
     rw[NI];show(st.outer++[o]).getD st.outer.length (-1)=o;exact zC8
    rw[Ny,if_neg Zo,show o.toNat=i by omega]at YW;have hli:(aW args ab p st env o).1.line i=st.line i:=by
     have:=hS.rep.wf.qA (n:=args.length) ho i Zo;rw[<- this];unfold ah.line;rw[NI]
    rw[he,YW,hli];exact QI _ L6
   ·have he:(aW args ab p st env o).1.af v=st.outer.length:=tx.trans rI;rw[he];exact mV
  ·have he:(aW args ab p st env o).1.af v=st.outer.length:=hk;rw[he];exact mV
 rw[aL]at hf3 hR3 Me d1 d2 d3 d4;have hS3:ii (aW args ab p st env o).1 (.slice ua' (U.length+1) uc') bE U3 V3 T:=by
  have Wp:U3.map UC.q=U1.map UC.q:=I4.trans iN;have hbb:U3.map UC.body=U1.map UC.body:=Nx.trans p7;have Gm:U3.length=U.length+1:=by
   have:=congrArg List.length Wp;rw[Q5,Q5,LY,Vy]at this;exact this
  have Ib:∀W:List UC,(W.map fun u=>kM (some u.q))=(W.map UC.q).map fun b=>kM (some b):=fun W=>by rw[QD];rfl
  refine⟨hR3,hf3,?_,fun i w hw=>?_⟩
  ·rw[Gm,Ib,Wp,<- Ib];exact aT
  ·have ep:(U1.map UC.body)[i]? =some w.body:=by rw[<- hbb,Vu,hw];rfl
   have IT:(aW args ab p st env o).1.ai=st.ai++[[]]:=d3.trans g3;rw[IT];rw[Vu]at ep;obtain⟨w1,E4,hwb⟩:=X0.1 ep;rw[LY,Vi]at E4;split at E4
   ·rename_i hi;rw[cN (by rw[hS.rep.wf.bl,<- DU];exact hi),<- hwb];exact(hS.Yz i w1 E4).more (fun x hx=>hx) (tz.trans hp3)
   ·rename_i hi;have Wj:=(Vt.1 E4).1;simp only[Q8]at Wj;have e:i=st.ai.length:=by rw[hS.rep.wf.bl];omega
    have e2:i - U.length=0:=by omega
    rw[e2]at E4;have hw1':yu q args.length (ni U o) st.outer.length nb=w1:=by simpa using E4
    rw[<- hwb,<- hw1',e,Vh,Vl (Qn _),Qt];exact tV.nil _ _
 have sA:Room (aW args ab p st env o).1 (jM kids):=by
  have h1:zl st (aW args ab p st env o).1 (1+(args.length+ab.length)):=(sI st o args.length).trans ((wh _ _ _ _ _ _ _ _).trans (wh _ _ _ _ _ _ _ _));obtain⟨k1,k2,k3⟩:=h1;exact⟨Zo,Zo,Zo⟩
 obtain⟨w3,hw3,hwq3⟩:∃w,U3[st.outer.length]? =some w/\w.q=q:=lI rfl (by rw[I4,iN];exact E3);have au:=xi X kids a ac bk ko ks KC ha hm hr aP _ _ _ _ _ _ hS3 st.outer.length w3 hw3 _ b3 es3 c3 Me I1 sA;rw[hwq3]at au;have I7:(U3.map fun u=>kM (some u.q))=U1.map fun u=>kM (some u.q):=by
  have Ib:∀W:List UC,(W.map fun u=>kM (some u.q))=(W.map UC.q).map fun b=>kM (some b):=fun W=>by rw[QD];rfl
  rw[Ib,I4.trans iN,<- Ib]
 have Wg:∀(lJ:Value) (de:List Value) (U4:List UC) (V4:List az) (T4:List kC) (rows:List (List Value)) (Ap:List Value) (B5:List kC) (va:Option Addr) (vc:Nat) (w4:UC),ii (kT X.F X.G kids (aW args ab p st env o).1 (aW args ab p st env o).2 st.outer.length).2 lJ de U4 V4 T4->jA 13 (.slice va (kT X.F X.G kids (aW args ab p st env o).1 (aW args ab p st env o).2 st.outer.length).1.length vc) (kT X.F X.G kids (aW args ab p st env o).1 (aW args ab p st env o).2 st.outer.length).1.length rows.flatten Ap->zh B5 (V4.map az.q) (kT X.F X.G kids (aW args ab p st env o).1 (aW args ab p st env o).2 st.outer.length).1 rows->U4[st.outer.length]? =some w4->w4.q=q->U3.map UC.q <+:U4.map UC.q->V3.map az.q <+:V4.map az.q->
  ii (oH X.F X.G args ab kids p st env o) lJ de (U4.set st.outer.length {w4 with body:=.slice va (kT X.F X.G kids (aW args ab p st env o).1 (aW args ab p st env o).2 st.outer.length).1.length vc}) V4 (T4++(aj (.slice va (kT X.F X.G kids (aW args ab p st env o).1 (aW args ab p st env o).2 st.outer.length).1.length vc) rows.flatten Ap++B5))/\U.map UC.q <+:(U4.set st.outer.length {w4 with body:=.slice va (kT X.F X.G kids (aW args ab p st env o).1 (aW args ab p st env o).2 st.outer.length).1.length vc}).map UC.q/\Vs.map az.q <+:V4.map az.q/\(∃w,(U4.set st.outer.length {w4 with body:=.slice va (kT X.F X.G kids (aW args ab p st env o).1 (aW args ab p st env o).2 st.outer.length).1.length vc})[st.outer.length]? =some w/\kF q=kF w.q)/\
  ((U4.set st.outer.length {w4 with body:=.slice va (kT X.F X.G kids (aW args ab p st env o).1 (aW args ab p st env o).2 st.outer.length).1.length vc}).map fun u=>kM (some u.q))=U4.map fun u=>kM (some u.q):=fun lJ de U4 V4 T4 rows Ap B5 va vc w4 k1 k2 k3 k4 k5 k6 k7=>by
  have Ia:=ze (w':={w4 with body:=.slice va (kT X.F X.G kids (aW args ab p st env o).1 (aW args ab p st env o).2 st.outer.length).1.length vc}) k4 rfl;have Ib:∀W:List UC,(W.map fun u=>kM (some u.q))=(W.map UC.q).map fun b=>kM (some b):=fun W=>by rw[QD];rfl
  have hpm2:((U4.set st.outer.length {w4 with body:=.slice va (kT X.F X.G kids (aW args ab p st env o).1 (aW args ab p st env o).2 st.outer.length).1.length vc}).map fun u=>kM (some u.q))=U4.map fun u=>kM (some u.q):=by rw[Ib,Ia,<- Ib]
  refine⟨?_,?_,(tz.trans hp3).trans k7,⟨{w4 with body:=.slice va (kT X.F X.G kids (aW args ab p st env o).1 (aW args ab p st env o).2 st.outer.length).1.length vc},by rw[Vw];simp[(Vt.1 k4).1],by rw[<- k5]⟩,hpm2⟩
  ·rw[wC];refine⟨k1.rep.body k4 _ _,k1.ok,by rw[hpm2,Q7];exact k1.sl,fun i w hw=>?_⟩;rcases lF k4 hw with⟨rfl,rfl⟩|⟨bZ,sF⟩
   ·have H7:=k1.rep.wf.bl;have KC:=(Vt.1 k4).1;rw[k1.rep.ul]at KC;have e:((kT X.F X.G kids (aW args ab p st env o).1 (aW args ab p st env o).2 st.outer.length).2.ai.set st.outer.length (kT X.F X.G kids (aW args ab p st env o).1 (aW args ab p st env o).2 st.outer.length).1).getD st.outer.length []=(kT X.F X.G kids (aW args ab p st env o).1 (aW args ab p st env o).2 st.outer.length).1:=by
     rw[Vh,Vw];simp[H7,KC]
    show tV _ _ (.slice va (kT X.F X.G kids (aW args ab p st env o).1 (aW args ab p st env o).2 st.outer.length).1.length vc) (((kT X.F X.G kids (aW args ab p st env o).1 (aW args ab p st env o).2 st.outer.length).2.ai.set st.outer.length (kT X.F X.G kids (aW args ab p st env o).1 (aW args ab p st env o).2 st.outer.length).1).getD st.outer.length []);rw[e];exact(Xt k2 k3).more (fun x hx=>QG _ hx) (Qc _)
   ·have e:((kT X.F X.G kids (aW args ab p st env o).1 (aW args ab p st env o).2 st.outer.length).2.ai.set st.outer.length (kT X.F X.G kids (aW args ab p st env o).1 (aW args ab p st env o).2 st.outer.length).1).getD i []=(kT X.F X.G kids (aW args ab p st env o).1 (aW args ab p st env o).2 st.outer.length).2.ai.getD i []:=by
     rw[Vh,Vh,Vw,if_neg (fun e=>bZ e.symm)]
    show tV _ _ w.body (((kT X.F X.G kids (aW args ab p st env o).1 (aW args ab p st env o).2 st.outer.length).2.ai.set st.outer.length (kT X.F X.G kids (aW args ab p st env o).1 (aW args ab p st env o).2 st.outer.length).1).getD i []);rw[e];exact(k1.Yz i w sF).more (fun x hx=>Zw _ hx) (Qc _)
  ·rw[Ia];refine List.IsPrefix.trans ?_ k6;rw[I4.trans iN,LY,QA];exact Qa _ _
 unfold rR at au;rw[I7]at au;refine ae ?_;cases Ud:(kT X.F X.G kids (aW args ab p st env o).1 (aW args ab p st env o).2 st.outer.length).2.f with
 |some e=>
  refine VC.seq (VC.Ci ⟨⟨[_,_,_,_,_,_],_,_,_,_,rfl,?_⟩,⟨[_,_,_,_,_],_,_,_,_,rfl,?_⟩,trivial⟩)
  ·refine⟨?_,?_,?_,trivial⟩
   all_goals
    exact zBL
  ·refine⟨?_,trivial⟩;exact zBL
 |none=>
  refine VC.seq (VC.draws ⟨?_,?_,trivial⟩)
  ·skip
   exact zA4
  ·skip
   exact zA4
def InlR(pn:PN)(a n:Nat)(v:Value)(qs:List Nat)(B:List kC):Prop:=∃ws,v=.tuple #[.agg ws.toArray,cI ((qs.drop a).take n)]/\xd B qs pn ws
theorem Gy(X:Fix)(vk l1 l2 l3 l4 l5:Value)(vn:Value)(k:Nat)(s:ByteArray)(lit:Lt)(args ab:List ByteArray)(av tv:Value)(bJ:dG X.S av args)(bF:dG X.S tv ab)(kids:List Nd)(a:Option Addr)(ac bk ko:Nat)(ks:Nat->List Value)(KC:kids.length < 1073741824)(ha:0 < kids.length->a=some ⟨bk,ko,none⟩)(hm:∀i,i < kids.length->∀y∈kA bk (ko+i*11) (ks i),y∈X.S)(hr:∀i x,kids[i]? =some x->jJ X.S x (ks i))(aP:∀i x,kids[i]? =some x->oL X x (ks i))(p:Int)
 (st:ah) (us:Value) (bA:List Value) (U:List UC) (Vs:List az) (T:List kC) (hS:ii st us bA U Vs T) (i:Nat) (u:UC) (hu:U[i]? =some u) (env:List Nat) (b:Nat) (es:Array MapEntry) (c:Nat) (hs:zH st Vs env es c) (EX:∀v∈env,st.af v∈st.line i) (bX:Room st (iV args ab (jM kids))):
 rR X 231 [kF X.wq,.agg #[vk,vn,l1,l2,l3,l4,l5,av,tv,.slice a kids.length ac,.int .i64 p],kF u.q,.map (some b)] st (zo X.F X.G (.mk k s lit args ab kids p) st env i).2 us bA U Vs T b es c (InlR (zo X.F X.G (.mk k s lit args ab kids p) st env i).1 st.vars.length args.length):=by
 have O1:=bJ;have DT:=bF;obtain⟨aa,Kb,rfl,tq,ec⟩:=bJ;obtain⟨ta,K5,rfl,sE,KH⟩:=bF;obtain⟨r1,r2,r3⟩:=bX;simp only[iV]at r1 r2 r3;have cF:i < st.outer.length:=by have:=(Vt.1 hu).1;rw[hS.rep.ul]at this;exact this
 have huq:(U.map UC.q)[i]? =some u.q:=by rw[Vu,hu];rfl
 rw[dw];simp only;obtain⟨D1,Ks⟩:∃D1,D1=kP i true false p args 0 st env:=⟨_,rfl⟩;obtain⟨D2,Kt⟩:∃D2,D2=kP i false false p ab 0 D1.1 D1.2:=⟨_,rfl⟩;rw[<- Ks,<- Kt];have YU:∀e:Nat×Int,D2.1.f=some e->(kT X.F X.G kids D2.1 D2.2 i).2.f=some e:=fun e he=>(wV X.F X.G kids _ _ _).f e he
 have O2:∀e:Nat×Int,D1.1.f=some e->(kT X.F X.G kids D2.1 D2.2 i).2.f=some e:=fun e he=>YU e (by rw[Kt];exact r9 _ _ _ _ _ _ _ _ he)
 refine ji.intro low231 (by simp[n231]) ?_;refine ae ?_;refine kX Zr (fun q5=>?_);simp only[Value.cells];refine ae ?_;refine kX Zr (fun q6=>?_);simp only[Value.cells];refine ae ?_;refine kO (fun q8=>?_);refine ae ?_;refine kO (fun ov=>?_);refine ae ?_;refine kO (fun MQ=>?_);refine ae ?_;obtain⟨g1,g2,g3,g4⟩:=jZ i true false p args 0 st env;rw[<- Ks]at g1 g2 g3 g4;obtain⟨d1,d2,d3,d4⟩:=jZ i false false p ab 0 D1.1 D1.2;rw[<- Kt]at d1 d2 d3 d4;have E4:=ob X.S i (st.args.getD i 0) true false p args (.slice aa args.length Kb) O1 (.func (.func 251) #[] #[kF q6,kF ov]) (fun ps A=>A=kA q6 0 [kF u.q]++kA ov 0 [cI ps]) st U Vs (Rt _ i _ u.q q6 ov args.length huq) hS.rep cF rfl hS.ok Zo (kA q6 0 [kF u.q]++kA ov 0 [.pointer none]) rfl env b es c hs;rw[<- Ks]at E4;have unf:jn Nz Nz =[.int .u8 14,.string ⟨#[]⟩,.int .u8 0,.int .i64 0,.int .u64 0,.string ⟨#[]⟩,Nz,Nz,.int .i64 0,.bool false,Nz,Nz,Nz]:=rfl;refine VO.imp (H':=[kA q6 0 [kF u.q]++kA ov 0 [.pointer none],WK U Vs,[.obj b (.map es c)],X.S,kA MQ 0 (jn Nz Nz),kA q8 0 [.int .u8 0,.string e0,.int .u8 0,.int .i64 0,.int .u64 0,.string e0,Nz,Nz,.int .i64 0,.bool false,Nz,Nz,Nz],kA q5 0 [vk,vn,l1,l2,l3,l4,l5,.slice aa args.length Kb,.slice ta ab.length K5,.slice a kids.length ac,.int .i64 p],kA X.wq 0 [.map (some X.fb),.map (some X.gb),us],aj us (U.map fun u=>kM (some u.q)) bA,[.obj X.fb (.map X.bG X.fc)],[.obj X.gb (.map X.bL X.gc)],T]) (ao.cut (M:=[kA q6 0 [kF u.q],kA ov 0 [.pointer none],WK U Vs,[.obj b (.map es c)],X.S,kA MQ 0 (jn Nz Nz),kA q8 0 [.int .u8 0,.string e0,.int .u8 0,.int .i64 0,.int .u64 0,.string e0,Nz,Nz,.int .i64 0,.bool false,Nz,Nz,Nz],kA q5 0 [vk,vn,l1,l2,l3,l4,l5,.slice aa args.length Kb,.slice ta ab.length K5,.slice a kids.length ac,.int .i64 p],kA X.wq 0 [.map (some X.fb),.map (some X.gb),us],aj us (U.map fun u=>kM (some u.q)) bA,[.obj X.fb (.map X.bG X.fc)],[.obj X.gb (.map X.bL X.gc)],T]) (by unfold e0;rw[unf];exact bS) (ao.perm Zs)) ?_;refine kL E4 Zr ZP (fun v Post hv=>?_) (fun ch Post hz=>?_);rotate_left
 ·obtain⟨H9,q1,rfl,rfl⟩:=hz;exact⟨[X.S,jP q1 180 p],ZI,q1,180,p,O2 _ H9,rfl,rfl⟩
 obtain⟨b2,EU,c2,U2,V2,A2,⟨DF,rfl,Kv,iN,p7,tz,rK,rfl⟩,rfl⟩:=hv;simp only[aJ];obtain⟨Uu,hps1⟩:∃Uu,Uu=(V2.map az.q).drop Vs.length:=⟨_,rfl⟩;rw[<- hps1];have I8:=ob X.S i (st.args.getD i 0) false false p ab (.slice ta ab.length K5) DT (.func (.func 252) #[] #[kF q6,kF MQ]) (NW u.q q6 MQ) D1.1 U2 V2 (W3 _ i _ u.q q6 MQ ab.length (by rw[iN];exact huq) Zo) Kv (by rw[g1];exact cF) (by rw[g2]) DF (by rw[g4];omega) (kA q6 0 [kF u.q]++(kA MQ 0 (jn Nz Nz)++[])) ⟨Nz,[],.nil,rfl⟩ D1.2 b2 EU c2 rK;rw[<- Kt]at I8;refine VO.imp (H':=[kA q6 0 [kF u.q],kA ov 0 [cI Uu],WK U2 V2,[.obj b2 (.map EU c2)],[.obj b (.map es c)],X.S,kA MQ 0 (jn Nz Nz),kA q8 0 [.int .u8 0,.string e0,.int .u8 0,.int .i64 0,.int .u64 0,.string e0,Nz,Nz,.int .i64 0,.bool false,Nz,Nz,Nz],kA q5 0 [vk,vn,l1,l2,l3,l4,l5,.slice aa args.length Kb,.slice ta ab.length K5,.slice a kids.length ac,.int .i64 p],kA X.wq 0 [.map (some X.fb),.map (some X.gb),us],aj us (U.map fun u=>kM (some u.q)) bA,[.obj X.fb (.map X.bG X.fc)],[.obj X.gb (.map X.bL X.gc)],T]) (ao.cut (M:=[kA q6 0 [kF u.q]++kA ov 0 [cI Uu],WK U2 V2,[.obj b2 (.map EU c2)],[.obj b (.map es c)],X.S,kA MQ 0 (jn Nz Nz),kA q8 0 [.int .u8 0,.string e0,.int .u8 0,.int .i64 0,.int .u64 0,.string e0,Nz,Nz,.int .i64 0,.bool false,Nz,Nz,Nz],kA q5 0 [vk,vn,l1,l2,l3,l4,l5,.slice aa args.length Kb,.slice ta ab.length K5,.slice a kids.length ac,.int .i64 p],kA X.wq 0 [.map (some X.fb),.map (some X.gb),us],aj us (U.map fun u=>kM (some u.q)) bA,[.obj X.fb (.map X.bG X.fc)],[.obj X.gb (.map X.bL X.gc)],T]) ZI (ao.perm Zs)) ?_;refine ae ?_;refine VO.imp (H':=[kA q6 0 [kF u.q]++(kA MQ 0 (jn Nz Nz)++[]),WK U2 V2,[.obj b2 (.map EU c2)],X.S,[.obj b (.map es c)],kA ov 0 [cI Uu],kA q8 0 [.int .u8 0,.string e0,.int .u8 0,.int .i64 0,.int .u64 0,.string e0,Nz,Nz,.int .i64 0,.bool false,Nz,Nz,Nz],kA q5 0 [vk,vn,l1,l2,l3,l4,l5,.slice aa args.length Kb,.slice ta ab.length K5,.slice a kids.length ac,.int .i64 p],kA X.wq 0 [.map (some X.fb),.map (some X.gb),us],aj us (U.map fun u=>kM (some u.q)) bA,[.obj X.fb (.map X.bG X.fc)],[.obj X.gb (.map X.bL X.gc)],T]) (ao.cut (M:=[kA q6 0 [kF u.q],kA MQ 0 (jn Nz Nz),WK U2 V2,[.obj b2 (.map EU c2)],X.S,[.obj b (.map es c)],kA ov 0 [cI Uu],kA q8 0 [.int .u8 0,.string e0,.int .u8 0,.int .i64 0,.int .u64 0,.string e0,Nz,Nz,.int .i64 0,.bool false,Nz,Nz,Nz],kA q5 0 [vk,vn,l1,l2,l3,l4,l5,.slice aa args.length Kb,.slice ta ab.length K5,.slice a kids.length ac,.int .i64 p],kA X.wq 0 [.map (some X.fb),.map (some X.gb),us],aj us (U.map fun u=>kM (some u.q)) bA,[.obj X.fb (.map X.bG X.fc)],[.obj X.gb (.map X.bL X.gc)],T]) ZI (ao.perm Zs)) ?_;refine kL I8 Zr ZP (fun v Post hv=>?_) (fun ch Post hz=>?_);rotate_left
 ·obtain⟨H9,q1,rfl,rfl⟩:=hz;exact⟨[X.S,jP q1 180 p],ZI,q1,180,p,YU _ H9,rfl,rfl⟩
 obtain⟨b3,es3,c3,U3,V3,A3,⟨hf3,rfl,hR3,I4,Nx,hp3,Me,hJ3⟩,rfl⟩:=hv;obtain⟨tv0,iJ,hsl3,rfl⟩:=hJ3;simp only[aJ];obtain⟨CX,hps2⟩:∃CX,CX=(V3.map az.q).drop V2.length:=⟨_,rfl⟩;rw[<- hps2]at hsl3|-;obtain⟨Th,Ti,rfl⟩:=hsl3.form;refine VO.imp (H':=[kA q6 0 [kF u.q],kA MQ 0 (jn (.slice Th CX.length Ti) (.slice none 0 0)),aj (.slice Th CX.length Ti) (CX.map fun b=>kM (some b)) iJ,WK U3 V3,[.obj b3 (.map es3 c3)],X.S,[.obj b (.map es c)],kA ov 0 [cI Uu],kA q8 0 [.int .u8 0,.string e0,.int .u8 0,.int .i64 0,.int .u64 0,.string e0,.slice none 0 0,.slice none 0 0,.int .i64 0,.bool false,.slice none 0 0,.slice none 0 0,.slice none 0 0],kA q5 0 [vk,vn,l1,l2,l3,l4,l5,.slice aa args.length Kb,.slice ta ab.length K5,.slice a kids.length ac,.int .i64 p],kA X.wq 0 [.map (some X.fb),.map (some X.gb),us],aj us (U.map fun u=>kM (some u.q)) bA,[.obj X.fb (.map X.bG X.fc)],[.obj X.gb (.map X.bL X.gc)],T]) (ao.cut (M:=[kA q6 0 [kF u.q]++(kA MQ 0 (jn (.slice Th CX.length Ti) (.slice none 0 0))++aj (.slice Th CX.length Ti) (CX.map fun b=>kM (some b)) iJ),WK U3 V3,[.obj b3 (.map es3 c3)],X.S,[.obj b (.map es c)],kA ov 0 [cI Uu],kA q8 0 [.int .u8 0,.string e0,.int .u8 0,.int .i64 0,.int .u64 0,.string e0,.slice none 0 0,.slice none 0 0,.int .i64 0,.bool false,.slice none 0 0,.slice none 0 0,.slice none 0 0],kA q5 0 [vk,vn,l1,l2,l3,l4,l5,.slice aa args.length Kb,.slice ta ab.length K5,.slice a kids.length ac,.int .i64 p],kA X.wq 0 [.map (some X.fb),.map (some X.gb),us],aj us (U.map fun u=>kM (some u.q)) bA,[.obj X.fb (.map X.bG X.fc)],[.obj X.gb (.map X.bL X.gc)],T]) ZI (ao.perm Zs)) ?_;have Ib:∀W:List UC,(W.map fun u=>kM (some u.q))=(W.map UC.q).map fun b=>kM (some b):=fun W=>by rw[QD];rfl
 have Wp:U3.map UC.q=U.map UC.q:=I4.trans iN;have I7:(U3.map fun u=>kM (some u.q))=U.map fun u=>kM (some u.q):=by rw[Ib,Wp,<- Ib]
 have hS3:ii D2.1 us bA U3 V3 T:=by
  have Gm:U3.length=U.length:=by have:=congrArg List.length Wp;rwa [Q5,Q5]at this
  refine⟨hR3,hf3,by rw[Gm,I7];exact hS.sl,fun j w hw=>?_⟩;have ep:(U.map UC.body)[j]? =some w.body:=by rw[<- Nx.trans p7,Vu,hw];rfl
  rw[Vu]at ep;obtain⟨w1,E4,hwb⟩:=X0.1 ep;rw[d3,g3,<- hwb];exact(hS.Yz j w1 E4).more (fun x hx=>hx) (tz.trans hp3)
 have I1:∀v∈D2.2,D2.1.af v∈D2.1.line i:=fun v hv=>by
  have YW:D2.1.line i=st.line i:=by unfold ah.line;rw[d1,g1]
  have mV:i∈st.line i:=by rw[hS.rep.wf.line Zo];exact QJ ..
  have ur:∀v∈D1.2,v < D1.1.vars.length:=fun v hv=>by rw[Ks]at hv|-;exact(fp _ _ _ _ _ _ _ _ hs.lt v hv).1
  rw[YW];rw[Kt]at hv|-;obtain⟨_,hk⟩:=fp i false false p ab 0 _ _ ur v hv;rcases hk with⟨um,tx⟩|hk
  ·rw[tx];rw[Ks]at um|-;obtain⟨_,rI⟩:=fp i true false p args 0 _ _ hs.lt v um;rcases rI with⟨hk4,hk5⟩|rI
   ·rw[hk5];exact EX v hk4
   ·rw[rI];exact mV
  ·rw[hk];exact mV
 have sA:Room D2.1 (jM kids):=by
  have h1:zl st D2.1 (args.length+ab.length):=by
   rw[Kt,Ks];exact(wh _ _ _ _ _ _ _ _).trans (wh _ _ _ _ _ _ _ _)
  obtain⟨k1,k2,k3⟩:=h1;exact⟨Zo,Zo,Zo⟩
 obtain⟨w3,hw3,hwq3⟩:∃w,U3[i]? =some w/\w.q=u.q:=lI rfl (by rw[Wp];exact huq);have au:=xi X kids a ac bk ko ks KC ha hm hr aP _ _ _ _ _ _ hS3 i w3 hw3 _ b3 es3 c3 Me I1 sA;rw[hwq3]at au;unfold rR at au;rw[I7]at au;refine ae ?_;refine kL au Zr ZP (fun v Post hv=>?_) (fun ch Post hz=>?_);rotate_left
 ·obtain⟨q1,e1,p1,ep,rfl,rfl⟩:=hz;exact⟨[X.S,jP q1 e1 p1],ZI,q1,e1,p1,ep,rfl,rfl⟩
 obtain⟨lJ,de,U4,V4,T4,B4,⟨U0,Mc,DM,rows,Ap,B5,A4,cP,rfl⟩,rfl⟩:=hv;simp only[aJ];obtain⟨va,vc,rfl⟩:=A4.form;have fQ:V2.length=st.vars.length+args.length:=by rw[Kv.vl,g4]
 have YW:V3.length=D1.1.vars.length+ab.length:=by rw[hR3.vl,d4]
 have hps2':((V4.map az.q).drop D1.1.vars.length).take ab.length=CX:=by
  rw[drop_take DM (by rw[Q5];exact YW),hps2,Kv.vl]
 have hps1':((V4.map az.q).drop st.vars.length).take args.length=Uu:=by
  rw[drop_take (hp3.trans DM) (by rw[Q5];exact fQ),hps1,hS.rep.vl]
 have Pa:InlR (.mk 14 e0 fV ((List.range' D1.1.vars.length ab.length).map cG) 0 false (kT X.F X.G kids D2.1 D2.2 i).1) st.vars.length args.length (.tuple #[.agg (jn (.slice Th CX.length Ti) (.slice va (kT X.F X.G kids D2.1 D2.2 i).1.length vc)).toArray,cI Uu]) (V4.map az.q) (aj (.slice va (kT X.F X.G kids D2.1 D2.2 i).1.length vc) rows.flatten Ap++(B5++aj (.slice Th CX.length Ti) (CX.map fun b=>kM (some b)) iJ)):=by
  refine⟨_,by rw[hps1'],?_⟩;have hle:D1.1.vars.length+ab.length<=(V4.map az.q).length:=by
   have:=DM.length_le;rw[Q5,YW]at this;exact this
  have:=yo (k:=14) (nm:=e0) (lit:=fV) (refs:=(List.range' D1.1.vars.length ab.length).map cG) (unit:=0) (fM:=false) (rv:=Nz) (vv:=.slice Th CX.length Ti) (B:=B5++aj (.slice Th CX.length Ti) (CX.map fun b=>kM (some b)) iJ) A4 (cP.more (fun x hx=>Zw _ hx) (Qc _)) (o9 _) (by rw[En];exact jy.nil _) (by
   rw[JE,J2 hle,hps2'];exact(iD rfl hsl3).more (fun x hx=>QG _ hx)) (JF hle)
  exact this
 unfold jn;refine ae ?_;refine VC.seq ?_;refine VC.draws ⟨?_,?_,trivial⟩
 ·exact zAJ
 ·exact zAJ
set_option maxHeartbeats 12800000
theorem HU(S:List kC)(x:Nd)(vs:List Value)(h:jJ S x vs):aw Tryz.prog 136 [.agg vs.toArray] [S] (fun v Post=>v=.bool (jt x)/\Post=[S]):=by
 obtain⟨e1,e2,e3,e4,e5,e6,e7,a1,c1,a2,c2,a3,c3,bk,o,us,rfl,_⟩:=fF h;refine aw.intro low136 (by simp[n136]) ?_;refine ae ?_;refine kX Zr (fun q=>?_);simp only[Value.cells];unfold jt;refine ae ?_;by_cases hk:x.kind=7
 ·rw[show decide ((x.kind:Int)=7)=true from Zt Zo,Zt hk,vU];refine ae ?_;rw[show decide ((x.args.length:Int)=0)=decide (x.args.length=0)from decide_eq_decide.2 Zo];exact zDL
 ·rw[show decide ((x.kind:Int)=7)=false from Zf Zo,Zf hk,vK];exact zDL
theorem td(S:List kC)(x:Nd)(vs:List Value)(h:jJ S x vs):aw Tryz.prog 70 [.agg vs.toArray] [S] (fun v Post=>(∃f t:Nat,v=.tuple #[vi f,vi t,.bool (gV x)]/\(gV x=true->f=jD (jQ x.name)/\t=iO (jQ x.name)))/\Post=[S]):=by
 obtain⟨e1,e2,e3,e4,e5,e6,e7,a1,c1,a2,c2,a3,c3,bk,o,us,rfl,mO,bJ,bF,hk8,ha,hm,hr,ss⟩:=fF h;have dt:∀b:Bool,b=false->gV x=b->∃f t:Nat,(Value.tuple #[vi 0,vi 0,.bool false]:Value)=.tuple #[vi f,vi t,.bool (gV x)]/\(gV x=true->f=jD (jQ x.name)/\t=iO (jQ x.name)):=fun b hb h'=>⟨0,0,by rw[h',hb];rfl,fun h2=>by rw[h',hb]at h2;cases h2⟩
 refine aw.intro low70 (by simp[n70]) ?_;refine VC.join (α:=Nat) (bi:=fun q=>[(1,kF q)]) (Hf:=fun q=>[kA q 0 (rN x.kind x.name e1 e2 e3 e4 e5 e6 e7 a1 x.args.length c1 a2 x.ab.length c2 a3 x.kids.length c3 x.at_),S]) (I:=fun _=>True) ?_ (fun q _=>?_)
 ·exact zEC
 refine VC.join (α:=Unit) (bi:=fun _=>[(1,kF q)]) (Hf:=fun _=>[kA q 0 (rN x.kind x.name e1 e2 e3 e4 e5 e6 e7 a1 x.args.length c1 a2 x.ab.length c2 a3 x.kids.length c3 x.at_),S]) (I:=fun _=>x.kind=4/\0 < x.kids.length/\jS x.kids=false) ?_ (fun _ hI=>?_)
 ·refine ae ?_;by_cases hk:x.kind=4;rotate_left
  ·rw[show decide ((x.kind:Int)=4)=false from Zf Zo];refine ae ?_;exact kG (Post:=[S]) (.inr rfl) (.tmp Zr (.tmp Zr (.tmp Zr .nil))) ⟨dt _ rfl (by unfold gV fU;simp[hk]),rfl⟩ ZI
  rw[show decide ((x.kind:Int)=4)=true from Zt Zo];refine ae ?_;by_cases EW:x.kids.length=0
  ·rw[show decide ((x.kids.length:Int)=0)=true from Zt Zo];refine ae ?_;have xU:x.kids=[]:=vz EW;refine kG (Post:=[S]) (.inr rfl) (.tmp Zr (.tmp Zr (.tmp Zr .nil))) ⟨dt _ rfl ?_,rfl⟩ ZI;unfold gV fU;rw[xU];have:eA (jQ x.name) []=false:=by unfold eA;split <;> rfl
   rw[this];simp
  obtain rfl:=ha Zo;rw[show decide ((x.kids.length:Int)=0)=false from Zf Zo];obtain⟨r,Gq⟩:∃r,x.kids[0]? =some r:=⟨_,Zg Zo⟩;obtain⟨r1,r2,r3,r4,r5,r6,r7,p1,d1,p2,d2,p3,d3,bk2,o2,Dj,Pv,_⟩:=fF (hr 0 r Gq);have f0:kC.cell bk o (.int .u8 r.kind)∈S:=hm 0 Zo _ (by rw[Pv];exact kJ.2 ⟨0,_,rfl,Zs⟩);have f1:kC.cell bk (o+1) (.string r.name)∈S:=hm 0 Zo _ (by rw[Pv];exact kJ.2 ⟨1,_,rfl,Zs⟩);have Gv:jS x.kids=jR r:=by
   exact zDS
  refine ae ?_;by_cases Pe:r.kind=2
  ·rw[show decide ((r.kind:Int)=2)=true from Zt Zo];refine ae ?_;by_cases hrn:r.name=⟨#[115,117,112,101,114]⟩
   ·rw[Zt hrn];refine ae ?_;refine kG (Post:=[S]) (.inr rfl) (.tmp Zr (.tmp Zr (.tmp Zr .nil))) ⟨dt _ rfl ?_,rfl⟩ ZI;have:jR r=true:=by unfold jR;rw[Zt Pe,Zt (lH.2 hrn)];rfl
    unfold gV fU;rw[Gv,this];simp
   rw[Zf hrn];have hsr:jR r=false:=by unfold jR;rw[Zf (fun e=>hrn (lH.1 e))];simp
   refine ae ?_;exact⟨(),⟨hk,Zo,by rw[Gv];exact hsr⟩,ZU,ZI⟩
  ·rw[show decide ((r.kind:Int)=2)=false from Zf Zo];have hsr:jR r=false:=by unfold jR;rw[Zf Pe];rfl
   refine ae ?_;exact⟨(),⟨hk,Zo,by rw[Gv];exact hsr⟩,ZU,ZI⟩
 obtain⟨hk,EW,Gv⟩:=hI;obtain rfl:=ha EW;refine VC.join (α:=Unit) (bi:=fun _=>[(1,kF q),(5,vi 1),(6,vi 2)]) (Hf:=fun _=>[kA q 0 (rN x.kind x.name e1 e2 e3 e4 e5 e6 e7 a1 x.args.length c1 a2 x.ab.length c2 (some ⟨bk,o,none⟩) x.kids.length c3 x.at_),S]) (I:=fun _=>True) ?_ (fun _ _=>?_)
 ·exact Yq
 refine VC.join (α:=Nat) (bi:=fun n=>[(1,kF q),(5,vi (jD n)),(6,vi (iO n))]) (Hf:=fun _=>[kA q 0 (rN x.kind x.name e1 e2 e3 e4 e5 e6 e7 a1 x.args.length c1 a2 x.ab.length c2 (some ⟨bk,o,none⟩) x.kids.length c3 x.at_),S]) (I:=fun n=>jQ x.name=n/\(n=1∨n=2∨n=3∨n=4)) ?_ (fun n hn=>?_)
 ·refine ae ?_;by_cases g0:x.name=⟨#[105,102,84,114,117,101,58]⟩
  ·rw[Zt g0];refine ae ?_;exact⟨1,⟨by rw[g0];decide,Zd⟩,ZU,ZI⟩
  rw[Zf g0];refine ae ?_;by_cases g1:x.name=⟨#[105,102,70,97,108,115,101,58]⟩
  ·rw[Zt g1];refine ae ?_;exact⟨1,⟨by rw[g1];decide,Zd⟩,ZU,ZI⟩
  rw[Zf g1];refine ae ?_;by_cases g2:x.name=⟨#[97,110,100,58]⟩
  ·rw[Zt g2];refine ae ?_;exact⟨1,⟨by rw[g2];decide,Zd⟩,ZU,ZI⟩
  rw[Zf g2];refine ae ?_;by_cases g3:x.name=⟨#[111,114,58]⟩
  ·rw[Zt g3];refine ae ?_;exact⟨1,⟨by rw[g3];decide,Zd⟩,ZU,ZI⟩
  rw[Zf g3];refine ae ?_;by_cases g4:x.name=⟨#[105,102,84,114,117,101,58,105,102,70,97,108,115,101,58]⟩
  ·rw[Zt g4];refine ae ?_;exact⟨2,⟨by rw[g4];decide,Zd⟩,ZU,ZI⟩
  rw[Zf g4];refine ae ?_;by_cases g5:x.name=⟨#[105,102,70,97,108,115,101,58,105,102,84,114,117,101,58]⟩
  ·rw[Zt g5];refine ae ?_;exact⟨2,⟨by rw[g5];decide,Zd⟩,ZU,ZI⟩
  rw[Zf g5];refine ae ?_;by_cases g6:x.name=⟨#[119,104,105,108,101,84,114,117,101,58]⟩
  ·rw[Zt g6];refine ae ?_;exact⟨3,⟨by rw[g6];decide,Zd⟩,ZU,ZI⟩
  rw[Zf g6];refine ae ?_;by_cases g7:x.name=⟨#[119,104,105,108,101,70,97,108,115,101,58]⟩
  ·rw[Zt g7];refine ae ?_;exact⟨3,⟨by rw[g7];decide,Zd⟩,ZU,ZI⟩
  rw[Zf g7];refine ae ?_;by_cases g8:x.name=⟨#[119,104,105,108,101,84,114,117,101]⟩
  ·rw[Zt g8];refine ae ?_;exact⟨4,⟨by rw[g8];decide,Zd⟩,ZU,ZI⟩
  rw[Zf g8];refine ae ?_;by_cases g9:x.name=⟨#[119,104,105,108,101,70,97,108,115,101]⟩
  ·rw[Zt g9];refine ae ?_;exact⟨4,⟨by rw[g9];decide,Zd⟩,ZU,ZI⟩
  rw[Zf g9];refine ae ?_;by_cases g10:x.name=⟨#[116,111,58,100,111,58]⟩
  ·rw[Zt g10];have bY:jQ x.name=5:=by rw[g10];decide
   have aL:gV x=eA 5 x.kids:=by unfold gV fU;rw[bY,Gv,Zt hk];rfl
   have mQ:∀b:Bool,eA 5 x.kids=b->∃f t:Nat,(Value.tuple #[vi 2,vi 3,.bool b]:Value)=.tuple #[vi f,vi t,.bool (gV x)]/\(gV x=true->f=jD (jQ x.name)/\t=iO (jQ x.name)):=fun b hb=>⟨2,3,by rw[aL,hb];rfl,fun _=>by rw[bY];exact⟨rfl,rfl⟩⟩
   refine ae ?_;by_cases h3:x.kids.length=3;rotate_left
   ·rw[show decide ((x.kids.length:Int)=3)=false from Zf Zo];refine ae ?_;refine kG (Post:=[S]) (.inr rfl) (.tmp Zr (.tmp Zr (.tmp Zr .nil))) ⟨mQ _ ?_,rfl⟩ ZI;cases e:eA 5 x.kids with
    |false=>rfl
    |true=>
     exfalso;unfold eA at e;simp only at e;split at e
     ·rename_i AX;rw[AX]at h3;exact h3 rfl
     ·cases e
   rw[show decide ((x.kids.length:Int)=3)=true from Zt Zo];obtain⟨y,hy⟩:∃y,x.kids[2]? =some y:=⟨_,Zg Zo⟩;obtain⟨r1,r2,r3,r4,r5,r6,r7,p1,d1,p2,d2,p3,d3,bk2,o2,Dj,Mg,_⟩:=fF (hr 2 y hy);have f0:kC.cell bk (o+22) (.int .u8 y.kind)∈S:=hm 2 Zo _ (by rw[Mg];exact kJ.2 ⟨0,_,rfl,Zs⟩);have f7:kC.cell bk (o+29) (.slice p1 y.args.length d1)∈S:=hm 2 Zo _ (by rw[Mg];exact kJ.2 ⟨7,_,rfl,Zs⟩);have DG:eA 5 x.kids=(decide (y.kind=7)&&decide (y.args.length=1)):=by
    match AX:x.kids,h3 with
    |[a,b,c],_=>
     rw[AX]at hy;obtain rfl:c=y:=by simpa using hy
     rfl
   refine ae ?_;by_cases hy7:y.kind=7
   ·rw[show decide ((y.kind:Int)=7)=true from Zt Zo];refine ae ?_;rw[show decide ((y.args.length:Int)=1)=decide (y.args.length=1)from decide_eq_decide.2 Zo];refine ae ?_;refine kG (Post:=[S]) (.inr rfl) (.tmp Zr (.tmp Zr (.tmp Zr .nil))) ⟨mQ _ ?_,rfl⟩ ZI;rw[DG,Zt hy7,vU]
   ·rw[show decide ((y.kind:Int)=7)=false from Zf Zo];refine ae ?_;refine kG (Post:=[S]) (.inr rfl) (.tmp Zr (.tmp Zr (.tmp Zr .nil))) ⟨mQ _ ?_,rfl⟩ ZI;rw[DG,Zf hy7,vK]
  rw[Zf g10];refine ae ?_;refine kG (Post:=[S]) (.inr rfl) (.tmp Zr (.tmp Zr (.tmp Zr .nil))) ⟨dt _ rfl ?_,rfl⟩ ZI;have bY:jQ x.name=0:=by
   unfold jQ;rw[if_neg (by rintro(e|e|e|e) <;> contradiction),if_neg (by rintro(e|e) <;> contradiction),if_neg (by rintro(e|e) <;> contradiction),if_neg (by rintro(e|e) <;> contradiction)];exact if_neg g10
  unfold gV fU;rw[bY];simp[eA]
 obtain⟨bY,hn4⟩:=hn;have aL:gV x=eA n x.kids:=by unfold gV fU;rw[bY,Gv,Zt hk];rfl
 have hft:jD n < iO n/\iO n<=3:=by rcases hn4 with rfl|rfl|rfl|rfl <;> decide
 refine ae ?_;by_cases hlen:x.kids.length=iO n;rotate_left
 ·rw[show decide ((x.kids.length:Int)=(iO n:Int))=false from Zf Zo];refine ae ?_;refine kG (Post:=[S]) (.inr rfl) (.tmp Zr (.tmp Zr (.tmp Zr .nil))) ⟨dt _ rfl ?_,rfl⟩ ZI;rw[aL];cases e:eA n x.kids with
  |false=>rfl
  |true=>exact absurd (Dy hn4 e) hlen
 rw[show decide ((x.kids.length:Int)=(iO n:Int))=true from Zt Zo];refine ae ?_;refine S7 Zr Zr Zr rfl rfl (l:=jD n) (h:=iO n) ⟨Zo,Zo⟩ ?_;rw[if_neg (show ¬c3=jD n by omega)];refine ae ?_;refine VC.loop (α:=Nat) (bi:=fun s=>[(5,vi (jD n)),(6,vi (iO n)),(82,.slice (some ⟨bk,o+jD n*11,none⟩) (iO n - jD n) (c3 - jD n)),(83,.int .i64 ((iO n - jD n:Nat):Int)),(84,vi s)]) (Hf:=fun _=>[S]) (I:=fun s=>s<=iO n - jD n/\∀j y,jD n<=j->j < jD n+s->x.kids[j]? =some y->jt y=true) (μ:=fun s=>iO n - jD n - s) 0
  ⟨Qv _,fun j y h1 h2=>by omega⟩ ZU ZI ?_
 rintro i ⟨hi,oC⟩
 refine ae ?_;by_cases aS:i < iO n - jD n;rotate_left
 ·rw[show decide ((i:Int) < ((iO n - jD n:Nat):Int))=false from Zf Zo];refine ae ?_;refine kG (Post:=[S]) (.inr rfl) (.tmp (v:=vi (jD n)) Zr (.tmp (v:=vi (iO n)) Zr (.tmp (v:=.bool true) Zr .nil))) ⟨⟨jD n,iO n,?_,fun _=>by rw[bY];exact⟨rfl,rfl⟩⟩,rfl⟩ ZI;rw[aL,Ω hn4 hlen (fun j y h1 h2=>oC j y h1 (by have:=(Vt.1 h2).1;omega) h2)];rfl
 rw[show decide ((i:Int) < ((iO n - jD n:Nat):Int))=true from Zt Zo];obtain⟨y,hy⟩:∃y,x.kids[jD n+i]? =some y:=⟨_,Zg Zo⟩;have cQ:=hm (jD n+i) Zo;have bK:=hr (jD n+i) y hy;rw[show o+(jD n+i)*11=o+(jD n*11+i*11) by omega]at cQ;generalize us (jD n+i)=kj at cQ bK;have NJ:=HU S y kj bK;obtain⟨g1,g2,g3,g4,g5,g6,g7,g8,g9,g10,g11,g12,g13,g14,g15,g16,rfl⟩:=qO bK;refine ae ?_;refine kS Zr (fun z hz=>by have h9:=cQ z hz;simp[h9]) rfl ?_;refine ae ?_;refine kO (fun q8=>?_);refine ae ?_;refine kH NJ Zr ZP (fun v Post hv=>?_);obtain⟨rfl,rfl⟩:=hv;simp only[aJ];cases hp:jt y with
 |false=>
  refine ae ?_;refine kG (Post:=[S]) (.inr rfl) (.tmp Zr (.tmp Zr (.tmp Zr .nil))) ⟨dt _ rfl ?_,rfl⟩ ZI;rw[aL];exact Dz hn4 (Nat.le_add_right _ _) hy hp
 |true=>
  refine ae ?_;refine⟨i+1,⟨Zo,fun j z h1 h2 h3=>?_⟩,Zo,ZU,ZI⟩;by_cases hj:j < jD n+i
  ·exact oC j z h1 hj h3
  ·have e:j=jD n+i:=by omega
   rw[e,hy]at h3;rw[<- X3 h3];exact hp
set_option maxHeartbeats 3200000
theorem qj(S:List kC)(x:Nd)(vs:List Value)(h:jJ S x vs):aw Tryz.prog 26 [.agg vs.toArray] [S] (fun v Post=>v=.bool (gV x)/\Post=[S]):=by
 have hb:=td S x vs h;obtain⟨g1,g2,g3,g4,g5,g6,g7,g8,g9,g10,g11,g12,g13,g14,g15,g16,rfl⟩:=qO h;refine aw.intro low26 (by simp[n26]) ?_;refine ae ?_;refine kX Zr (fun q=>?_);simp only[Value.cells];refine ae ?_;refine kH hb Zr ZP (fun v Post hv=>?_);obtain⟨⟨f,t,rfl,_⟩,rfl⟩:=hv;simp only[aJ];exact zDL
end Go.Proofs.YtijnokbblmbpkaaGreatDoor
namespace Go.V
open Go
section
variable {P:Program} {n:Nat} {Γ:Env} {H:SH} {Q:Exit->Env->SH->Prop}
end
abbrev NV:=Nd×List Value
theorem R0 {A:List kC}{x:Nd}{vs:List Value}(h:jJ A x vs):∃(e1:Nat) (e2:Int) (e3:Nat) (e4:ByteArray) (e5:Option Addr) (e6 e7:Nat) (e8:Option Addr) (e9 uf:Nat) (ug:Option Addr) (uh ui:Nat) (a:Option Addr) (c bk o:Nat) (us:Nat->List Value),
 vs=(rA x.kind x.name e1 e2 e3 e4 e5 e6 e7 e8 e9 uf ug uh ui a x.kids.length c x.at_)/\x.kids.length<=140737488355328/\(0 < x.kids.length->a=some ⟨bk,o,none⟩)/\
 (∀i,i < x.kids.length->∀y∈kA bk (o+i*11) (us i),y∈A)/\∀i y,x.kids[i]? =some y->jJ A y (us i):=by
 cases h with
 |mk wf hl bJ bF ha hm hr ss=>
  obtain⟨_,_,rfl,_⟩:=bJ;obtain⟨_,_,rfl,_⟩:=bF;cases hl with
  |mk Tt IS p8 du=>exact⟨_,_,_,_,_,_,_,_,_,_,_,_,_,_,_,_,_,_,rfl,wf.many,ha,hm,hr⟩
inductive ig:Lt->List Value->List kC->Prop
 |mk {k:Nat} {n:Int} {b:Nat} {t:ByteArray} {items:List Lt} {sv:Value} {rows:List (List Value)} {sp:List Value} {Ls:Nat->List kC} {L:List kC} (bD:jA 5 sv items.length rows.flatten sp) (hl:rows.length=items.length) (h5:∀r∈rows,r.length=5)
   (hr:∀(i:Nat) x r,items[i]? =some x->rows[i]? =some r->ig x r (Ls i)) (wf:N3 k n b t items.length) (hL:L.Perm (aj sv rows.flatten sp++(List.range items.length).flatMap Ls)):ig (.mk k n b t items) [cv k,vi n,uv b,.string t,sv] L
def xh(v:Value)(l:List ByteArray)(L:List kC):Prop:=∃sp,jA 1 v l.length (l.map Value.string) sp/\L=aj v (l.map Value.string) sp/\l.length<=1099511627776/\∀t∈l,t.size<=140737488355328
inductive Ff:Nd->List Value->List kC->Prop
 |mk {k:Nat} {s:ByteArray} {lit:Lt} {args ab:List ByteArray} {kids:List Nd} {p:Int} {lv:List Value} {av tv sv:Value} {rows:List (List Value)} {sp:List Value} {Ls:Nat->List kC} {LL LA LT L:List kC} (bD:jA 11 sv kids.length rows.flatten sp) (hl:rows.length=kids.length) (OX:∀r∈rows,r.length=11)
   (hr:∀(i:Nat) x r,kids[i]? =some x->rows[i]? =some r->Ff x r (Ls i)) (wf:NdWf k s kids.length p) (aS:ig lit lv LL) (bJ:xh av args LA) (bF:xh tv ab LT)
   (hL:L.Perm (LL++(LA++(LT++(aj sv rows.flatten sp++(List.range kids.length).flatMap Ls))))):Ff (.mk k s lit args ab kids p) ([cv k,.string s]++lv++[av,tv,sv,vi p]) L
theorem ig.rd {x:Lt}{vs:List Value}{L:List kC}(h:ig x vs L):zk L x vs:=by
 induction h with
 |@mk k n b t items sv rows sp Ls L bD hl h5 hr wf hL ih=>
  have:=WV (B:=(List.range items.length).flatMap Ls) (k:=k) (n:=n) (b:=b) (t:=t) bD hl h5 (fun i x r e1 e2=>(ih i x r e1 e2).more fun z hz=>QL.2 ⟨i,QO.2 (Vt.1 e1).1,hz⟩) wf;exact this.more fun z hz=>hL.symm.subset hz
theorem xh.rd {v:Value}{l:List ByteArray}{L:List kC}(h:xh v l L):dG L v l:=by
 obtain⟨sp,h1,rfl,h3,h4⟩:=h;exact Ax rfl h1 h3 h4
theorem JT {P:Program}{n:Nat}{rs:List RO}{Γ:Env}{H:SH}{Z:List PanicEntry->Env->SH->Prop}{K:Env->SH->Prop}{d:Option Nat}{t:TypeId}{size bytes:Nat}{zero:List Value}{s x:Operand}{a:Option Addr}{c2:Nat}
 (hs:ev Γ s=some Nz) (hx:ev Γ x=some (.slice a 0 c2)) (h:VO P n rs (ap d Nz Γ) H Z K):VO P n (⟨d,none,.append t size bytes zero s x⟩::rs) Γ H Z K:=by
 refine VO.Z9 rfl rfl (fun ρ aO=>⟨_,rfl,?_⟩);rw[aO _ _ hs,aO _ _ hx];simp only[ej];rw[if_pos (show 0+0<=0 by omega)];cases a with
 |none=>
  refine aK.bind (aK.pure ?_);exact aK.pure ⟨_,H,[],.inl rfl,Zs,h⟩
 |some ad=>
  have e0:(Builtin.firstCells size 0 (.slice (some ad) 0 c2):Sem (Array Value))=pure #[]:=by
   simp only[Builtin.firstCells,Qw];rfl
  rw[e0];refine aK.bind (aK.pure ?_);exact aK.pure ⟨_,H,[],.inl rfl,Zs,h⟩
theorem LP(Ls:Nat->List kC)(L':List kC)(j:Nat):∃Ls':Nat->List kC,(∀i,i < j->Ls' i=Ls i)/\Ls' j=L'/\(List.range (j+1)).flatMap Ls'=(List.range j).flatMap Ls++L':=by
 refine⟨fun i=>if i < j then Ls i else L',fun i hi=>if_pos hi,if_neg (Nat.lt_irrefl _),?_⟩;rw[List.range_succ,VV];simp only[List.flatMap_cons,List.flatMap_nil,vm,Nat.lt_irrefl,if_false]
 congr 1
 rw[Va,Va]
 congr 1
 exact QB fun i hi=>if_pos (QO.1 hi)
def iP(l:List Lt)(rows:List (List Value))(K:List kC):Prop:=rows.length=l.length/\(∀r∈rows,r.length=5)/\∃Ls,K=(List.range l.length).flatMap Ls/\∀(i:Nat) x r,l[i]? =some x->rows[i]? =some r->ig x r (Ls i)
theorem iP.nil:iP [] [] []:=⟨rfl,fun r hr=>(by cases hr),fun _=>[],rfl,fun i x r h=>(by simp at h)⟩
theorem Ey {α:Type}{l:List α}{z x:α}{i:Nat}(h:(l++[z])[i]? =some x):(i < l.length/\l[i]? =some x)∨(i=l.length/\x=z):=by
 have hi:=(Vt.1 h).1;rw[Vy,Q8]at hi;by_cases e:i < l.length
 ·rw[Vj e]at h;exact .inl ⟨e,h⟩
 ·have:i=l.length:=by omega
  subst this;rw[Vl (Qn _),Qt]at h;simp only[Vn,X4]at h;exact .inr ⟨rfl,h.symm⟩
theorem iP.snoc {l:List Lt}{rows:List (List Value)}{K:List kC}(h:iP l rows K){x:Lt}{r:List Value}{L:List kC}(hx:ig x r L):iP (l++[x]) (rows++[r]) (K++L):=by
 obtain⟨h1,h2,Ls,rfl,h3⟩:=h;obtain⟨Ls',e1,e2,e3⟩:=LP Ls L l.length;refine⟨by simp[h1],fun r' AK=>?_,Ls',by rw[Vy,Q8,e3],fun i y r' hy AK=>?_⟩
 ·rcases QF.1 AK with h|h
  ·exact h2 r' h
  ·rw[QR.1 h];exact hx.rd.len
 ·rcases Ey hy with⟨hi,hy⟩|⟨rfl,rfl⟩
  ·rcases Ey AK with⟨_,AK⟩|⟨e,_⟩
   ·rw[e1 i hi];exact h3 i y r' hy AK
   ·omega
  ·rcases Ey AK with⟨e,_⟩|⟨_,rfl⟩
   ·omega
   ·rw[e2];exact hx
theorem ig.of {k:Nat}{n:Int}{b:Nat}{t:ByteArray}{items:List Lt}{sv:Value}{rows:List (List Value)}{sp:List Value}{K:List kC}(bD:jA 5 sv items.length rows.flatten sp)(h:iP items rows K)(wf:N3 k n b t items.length):
 ig (.mk k n b t items) [cv k,vi n,uv b,.string t,sv] (aj sv rows.flatten sp++K):=by
 obtain⟨h1,h2,Ls,rfl,h3⟩:=h;exact .mk bD h1 h2 h3 wf (vZ _)
theorem ig.parts {x:Lt}{vs:List Value}{L:List kC}(h:ig x vs L):∃sv rows sp K,vs=[cv x.kind,vi x.n,uv x.bits,.string x.text,sv]/\jA 5 sv x.items.length rows.flatten sp/\iP x.items rows K/\N3 x.kind x.n x.bits x.text x.items.length/\L.Perm (aj sv rows.flatten sp++K):=by
 cases h with
 |mk bD hl h5 hr wf hL=>exact⟨_,_,_,_,rfl,bD,⟨hl,h5,_,rfl,hr⟩,wf,hL⟩
structure Foc (p9:Nat)(x0:Nd)(M:List kC)(b o:Nat)(x:Nd)(vs:List Value)(L R:List kC):Prop where
 own:Ff x vs L
 here:M.Perm (kA b o vs++(L++R))
 w:x.w<=x0.w
 back:∀y ws L',Ff y ws L'->RZ x y=false->RZ y x=false->∃z us Lz,RZ x0 z=false/\RZ z x0=false/\Ff z us Lz/\(kA b o ws++(L'++R)).Perm (kA p9 0 us++Lz)
section
variable {H:Type} {enc:TypeId×Value->H} {P:Program} {bulk:DataW H->Nat}
open Go.ChangeShapes Go.WideShapes Go.Deep
end
end Go.V
namespace Go.Proofs.YtijnokbblmbpkaaGreatDoor
open Go Go.V
set_option maxHeartbeats 3200000
set_option maxRecDepth 100000
theorem yj {A:List kC}{x:Lt}{vs:List Value}(h:zk A x vs):∃(e:Option Addr) (c:Nat),vs=[cv x.kind,vi x.n,uv x.bits,.string x.text,.slice e x.items.length c]:=by
 cases h with
 |mk wf ha hm hr=>exact⟨_,_,rfl⟩
theorem M3(A:List kC):∀(N:Nat) (x:Lt),x.size<=N->x.size<=274877906944->∀vs,zk A x vs->aw Tryz.prog 208 [.agg vs.toArray] [A] (fun v Post=>∃ws B,v=.agg ws.toArray/\ig x ws B/\Post=[A,B]):=by
 intro N
 induction N with
 |zero=>intro x hx;have:=x.size_pos;omega
 |succ N ih=>
  intro x hx hb vs h;cases h with
  |@mk k n b t items a c bk o us wf ha hm hr=>
  simp only[Lt.size]at hx hb;have Kz:=SS items;refine aw.intro low208 (by simp[n208]) ?_;refine ae ?_;refine kX Zr (fun q=>?_);simp only[Value.cells];refine kO (fun q2=>?_);refine ae ?_;refine VC.loop (α:=Nat×Value×List (List Value)×List Value×List kC) (bi:=fun s=>[(1,kF q),(2,kF q2),(9,.slice a items.length c),(10,vi items.length),(11,vi s.1)]) (Hf:=fun s=>[kA q 0 [cv k,vi n,uv b,.string t,s.2.1],aj s.2.1 s.2.2.1.flatten s.2.2.2.1,s.2.2.2.2,kA q2 0 [.int .u8 0,.int .i64 0,.int .u64 0,.string ⟨#[]⟩,Nz],A])
   (I:=fun s=>s.1<=items.length/\jA 5 s.2.1 s.1 s.2.2.1.flatten s.2.2.2.1/\iP (items.take s.1) s.2.2.1 s.2.2.2.2) (μ:=fun s=>items.length - s.1) (0,Nz,[],[],[]) ⟨Qv _,.nil,iP.nil⟩ ZU (ao.cut (M:=[kA q 0 [cv k,vi n,uv b,.string t,Nz],kA q2 0 [.int .u8 0,.int .i64 0,.int .u64 0,.string ⟨#[]⟩,Nz],A]) ZI (ao.perm (by simp[aj]))) ?_
  rintro⟨j,sv,rows,sp,B⟩ ⟨i1,i2,i3⟩
  simp only at i1 i2 i3;dsimp only;obtain⟨sa,sc,rfl⟩:=i2.form;refine ae ?_;by_cases hj:j < items.length;rotate_left
  ·rw[show decide ((j:Int) < (items.length:Int))=false from Zf Zo];have xT:j=items.length:=by omega
   subst xT;rw[List.take_length]at i3;have Pc:=ig.of i2 i3 wf;refine ae ?_;exact⟨.inr rfl,[.agg #[cv k,vi n,uv b,.string t,.slice sa items.length sc]],[A,aj (.slice sa items.length sc) rows.flatten sp++B],.aN (us:=[cv k,vi n,uv b,.string t,.slice sa items.length sc]) Zr Zr (fun y hy=>by simp only[Vd,QF];repeat (first|exact Or.inl hy|refine Or.inr ?_)) .nil,ao.cut (M:=[A,aj (.slice sa items.length sc) rows.flatten sp,B]) ZI (ao.perm Zs),⟨_,_,rfl,Pc,rfl⟩⟩
  obtain rfl:=ha Zo;rw[show decide ((j:Int) < (items.length:Int))=true from Zt Zo];obtain⟨y,hy⟩:∃y,items[j]? =some y:=⟨_,Zg hj⟩;have cQ:=hm j hj;have bK:=hr j y hy;have eC:=Lt.aD (Zv hy);have aC:=ih y Zo Zo (us j) bK;generalize us j=uj at*;obtain⟨e1,c1,rfl⟩:=yj bK;refine ae ?_;refine kS Zr (fun z hz=>by have h9:=cQ z hz;simp[h9]) rfl ?_;refine ae ?_;refine kO (fun q5=>?_);refine ae ?_;refine VC.draws ⟨?_,?_,trivial⟩
  all_goals
   refine ae ?_;refine kH aC Zr ZP (fun v Post hv=>?_);obtain⟨ws,B2,rfl,hw,rfl⟩:=hv;simp only[aJ];have hwr:=hw.rd;obtain⟨e2,c2,rfl⟩:=yj hwr;have hsn:=i3.snoc hw;rw[show items.take j++[y]=items.take (j+1) by rw[Qe,hy];rfl]at hsn;refine ae ?_;refine jB (out:=[cv y.kind,vi y.n,uv y.bits,.string y.text,.slice e2 y.items.length c2]) Zr Zr (fun r=>?_);refine jH (k:=j) (m:=1) (xs:=rows.flatten) (sp:=sp) (ys:=[cv y.kind,vi y.n,uv y.bits,.string y.text,.slice e2 y.items.length c2]) Zr Zr i2 ZK Zr ?_ rfl Zr Zr Zd Zo (fun eW bE aT=>?_)
   ·exact ET
   have gS:rows.flatten++[cv y.kind,vi y.n,uv y.bits,.string y.text,.slice e2 y.items.length c2]=(rows++[[cv y.kind,vi y.n,uv y.bits,.string y.text,.slice e2 y.items.length c2]]).flatten:=by simp
   rw[gS]at aT|-;obtain⟨va,vc,rfl⟩:=aT.form;refine ae ?_;refine⟨(j+1,.slice va (j+1) vc,rows++[[cv y.kind,vi y.n,uv y.bits,.string y.text,.slice e2 y.items.length c2]],bE,B++B2),⟨by simp only;omega,aT,hsn⟩,by simp only;omega,ZU,?_⟩;simp only;refine ao.cut (M:=[kA q 0 [cv k,vi n,uv b,.string t,.slice va (j+1) vc],aj (.slice va (j+1) vc) (rows++[[cv y.kind,vi y.n,uv y.bits,.string y.text,.slice e2 y.items.length c2]]).flatten bE,B,B2,kA q2 0 [.int .u8 0,.int .i64 0,.int .u64 0,.string ⟨#[]⟩,Nz],A]) ZI (ao.perm Zs)
end Go.Proofs.YtijnokbblmbpkaaGreatDoor

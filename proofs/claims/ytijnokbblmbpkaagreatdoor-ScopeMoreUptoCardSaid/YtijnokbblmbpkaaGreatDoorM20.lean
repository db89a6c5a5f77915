/-
  A unit's temporaries get their places; what is copied into it is found.
-/
import Derived.Test.YtijnokbblmbpkaaGreatDoorM19
import Derived.Test.YtijnokbblmbpkaaGreatDoorM15
import Derived.Test.YtijnokbblmbpkaaGreatDoorM17
import Derived.Test.YtijnokbblmbpkaaGreatDoorM18
import Derived.Test.YtijnokbblmbpkaaGreatDoorM16
import Derived.Test.YtijnokbblmbpkaaGreatDoorM7
import Derived.Test.YtijnokbblmbpkaaGreatDoorM9
import Derived.Shelf.SlMaps.Clone
import Derived.Shelf.Lay
set_option linter.all false
namespace Go.Proofs.YtijnokbblmbpkaaGreatDoor
open Go Go.V
set_option maxHeartbeats 6400000
set_option maxRecDepth 100000
theorem Ki(st:ah)(l:List Nat)(r:Bool):yQ st l r<=l.length:=Q4 _ _
theorem Fx(st:ah)(i:Nat)(r:Bool):yQ st (st.ab i) r=(st.locals i r).length:=by unfold yQ;rw[qF]
theorem Ra(st:ah)(xM:Ph st)(U:List UC)(Vs:List az)(i:Nat)(hR:fg st i U Vs)(u:UC)(hu:U[i]? =some u)(hb:st.vars.length<=1048576/\st.outer.length<=1048576/\∀j,st.args.getD j 0<=1048576):
 aw Tryz.prog 114 [kF u.q] [WK U Vs] (fun r Post=>∃U' og,(r=.tuple #[]/\fg st (i+1) U' og/\U'.map UC.q=U.map UC.q/\U'.map UC.body=U.map UC.body/\og.map az.q=Vs.map az.q)/\Post=[WK U' og]):=by
 obtain⟨hbv,U7,hba⟩:=hb;have cF:i < st.outer.length:=by have:=(Vt.1 hu).1;rw[hR.ul]at this;exact this
 obtain⟨Wx,bD⟩:=hR.tm i u hu;obtain⟨n1,n2,n3,n4,n5⟩:=hR.nl i u hu (Qn _);obtain⟨mm,t1,t2,t3,t4⟩:=hR.nd i u hu;obtain⟨tp,YT⟩:∃l,l=st.ab i:=⟨_,rfl⟩;have sE:u.ab.length=tp.length:=by rw[Wx,Q5,YT]
 have htb:tp.length<=1048576:=by
  rw[YT];unfold ah.ab;have h1:=Q4 (fun v=>decide (st.af v=i)&&decide (st.bt v < 0)) (List.range st.vars.length);rw[List.length_range]at h1;omega
 have hpt:=iD rfl bD;obtain⟨ta,tc,bF⟩:=bD.form;obtain⟨U1,LY⟩:∃U1:Nat->List UC,U1=fun j=>U.set i {u with locals:=yQ st (tp.take j) false,aA:=yQ st (tp.take j) true}:=⟨_,rfl⟩
 obtain⟨V1,hV1⟩:∃V1:Nat->List az,V1=fun j=>JQ st Vs (tp.take j):=⟨_,rfl⟩
 have hU0:U1 0=U:=by
  rw[LY];simp only[Qh];have e:({u with locals:=yQ st [] false,aA:=yQ st [] true}:UC)=u:=by
   cases u;simp only at n1 n2;subst n1;subst n2;rfl
  rw[e];exact zO hu
 have hV0:V1 0=Vs:=by
  rw[hV1];simp only[Qh];exact XZ st Vs
 have hUi:∀j,(U1 j)[i]? =some {u with locals:=yQ st (tp.take j) false,aA:=yQ st (tp.take j) true}:=fun j=>by
  rw[LY];simp only;rw[Vw,if_pos rfl,if_pos (Vt.1 hu).1]
 refine aw.intro low114 (by simp[n114]) ?_;refine VC.join (α:=Nat) (bi:=fun q=>[(1,kF q)]) (Hf:=fun q=>[kA q 0 [kF u.q],WK (U1 0) (V1 0)]) (I:=fun _=>True) ?_ (fun q1 _=>?_)
 ·refine ae ?_;refine kX Zr (fun q=>?_);simp only[Value.cells];refine ae ?_;exact⟨q,trivial,ZU,by rw[hU0,hV0];exact bS⟩
 refine VC.scope ?_;refine VC.join (α:=Unit) (bi:=fun _=>[(1,kF q1)]) (Hf:=fun _=>[kA q1 0 [kF u.q],WK (U1 tp.length) (V1 tp.length)]) (I:=fun _=>True) ?_ (fun _ _=>?_)
 ·have k5:kC.cell u.q 5 (.slice ta tp.length tc)∈WK (U1 0) (V1 0):=by
   rw[hU0,hV0];exact zy hu _ (QI _ (Zw _ (kJ.2 ⟨5,_,by unfold UC.row;rw[bF,sE];rfl,rfl⟩)))
  refine ae ?_;refine VC.loop (α:=Nat) (bi:=fun j=>[(1,kF q1),(13,.slice ta tp.length tc),(14,vi tp.length),(15,vi j)]) (Hf:=fun j=>[kA q1 0 [kF u.q],WK (U1 j) (V1 j)]) (I:=fun j=>j<=tp.length) (μ:=fun j=>tp.length - j) 0 (Qv _) ZU ZI ?_;intro j hj;refine ae ?_;by_cases aS:j < tp.length;rotate_left
  ·rw[show decide ((j:Int) < (tp.length:Int))=false from Zf Zo];obtain rfl:j=tp.length:=by omega
   exact Yq
  rw[show decide ((j:Int) < (tp.length:Int))=true from Zt Zo];obtain⟨v,hv⟩:∃v,tp[j]? =some v:=⟨_,Zg aS⟩;have hvm:v∈st.ab i:=YT ▸ Zv hv;have DV:=Av hvm;obtain⟨y,hy⟩:∃y,Vs[v]? =some y:=⟨_,Zg (by rw[hR.vl];exact DV)⟩;obtain⟨x,hx⟩:∃x,st.vars[v]? =some x:=⟨_,Zg DV⟩;obtain⟨_,_,bK,_⟩:=hR.vn v x y hx hy;obtain⟨y1,Un,WH,hy1r⟩:∃y1,(V1 j)[v]? =some y1/\y1.q=y.q/\y1.remote=st.rem v:=⟨{y with slot:=if v∈tp.take j then(st.bP v).toNat else y.slot},by rw[hV1];exact gB hy,rfl,bK⟩;obtain⟨R,hp,hr⟩:=wk_lay (hUi j) Un;simp only at hp hr;rw[WH]at hp;have hpp:=hp;rw[<- vj]at hpp;have hqj:u.ab[j]? =some y.q:=by
   rw[Wx,<- YT,Vu,hv];show some (Vs.getD v AA).q=_;rw[Vh,hy];rfl
  obtain⟨ta',tc',DT,hpt'⟩:=hpt;rw[bF]at DT;simp only[Value.slice.injEq]at DT;obtain⟨tb,to,hta,htc⟩:=hpt' j y.q hqj;rw[<- DT.1]at hta;subst hta;have k1:kC.cell tb (to+j) (kM (some y.q))∈R:=gH hpp (zy (hUi j) _ (QI _ (QG _ (Zw _ htc)))) (by simp[kA,kM]);have k1:kC.cell tb (to+j) (kF y.q)∈R:=k1;have k3:kC.cell y.q 3 (.bool (st.rem v))∈R:=gH hpp (lL Un _ (kJ.2 ⟨3,_,by unfold az.row;rw[hy1r];rfl,by rw[WH]⟩)) Ka;have hso:st.bP v=(yQ st (tp.take j) (st.rem v):Int):=by
   have:=K0 (YT ▸ hv);rw[this,YT];rfl
  have hUs:∀l n,(U1 j).set i {u with locals:=l,aA:=n}=U.set i {u with locals:=l,aA:=n}:=fun l n=>by
   rw[LY];simp only[List.set_set]
  have hVn:(V1 j).set v {y1 with slot:=(st.bP v).toNat}=V1 (j+1):=by
   have e:tp.take (j+1)=tp.take j++[v]:=by rw[Qe,hv];rfl
   rw[hV1];simp only;rw[e];exact X6 hy (by rw[<- Un,hV1])
  have Wj:=Ki st (tp.take j) true;have fQ:=Ki st (tp.take j) false;have ur:=List.length_take_le j tp;have sC:=Ce st hv true;have rK:=Ce st hv false;have hUn:U1 (j+1)=U.set i {u with locals:=yQ st (tp.take (j+1)) false,aA:=yQ st (tp.take (j+1)) true}:=by rw[LY]
  refine VC.imp (H':=[kA q1 0 [kF u.q],kA y.q 4 [.int .i64 y1.slot],kA u.q 1 [.int .i64 (yQ st (tp.take j) false),.int .i64 (yQ st (tp.take j) true)],R]) (ao.perm (by simp only[Vd,Ve,vm];exact vX _ hp)) ?_;cases mS:st.rem v with
  |true=>
   rw[mS]at k3 hso;rw[mS]at sC rK;simp only[if_true,Bool.true_eq_false,if_false,Qj]at sC rK;refine ae ?_;refine⟨j+1,Zo,Zo,ZU,?_⟩;have du:=hr (yQ st (tp.take j) false) (yQ st (tp.take j) true+1) (st.bP v).toNat;rw[hVn,hUs,WH]at du;rw[hUn,sC,rK];refine ao.cut (M:=[kA q1 0 [kF u.q],kA y.q 4 [.int .i64 ((yQ st (tp.take j) true:Int))],kA u.q 1 [.int .i64 ((yQ st (tp.take j) false:Int)),.int .i64 ((yQ st (tp.take j) true:Int)+1)],R]) ZI (ao.perm ?_);simp only[Vd,Ve,vm];refine vX _ ?_;have e:((st.bP v).toNat:Int)=(yQ st (tp.take j) true:Int):=by omega
   rw[e]at du;simp only[Int.natCast_add,Int.natCast_one]at du;exact du.symm
  |false=>
   rw[mS]at k3 hso;rw[mS]at sC rK;simp only[if_true,vL,if_false,Qj]at sC rK;refine ae ?_;refine⟨j+1,Zo,Zo,ZU,?_⟩;have du:=hr (yQ st (tp.take j) false+1) (yQ st (tp.take j) true) (st.bP v).toNat;rw[hVn,hUs,WH]at du;rw[hUn,sC,rK];refine ao.cut (M:=[kA q1 0 [kF u.q],kA y.q 4 [.int .i64 ((yQ st (tp.take j) false:Int))],kA u.q 1 [.int .i64 ((yQ st (tp.take j) false:Int)+1),.int .i64 ((yQ st (tp.take j) true:Int))],R]) ZI (ao.perm ?_);simp only[Vd,Ve,vm];refine vX _ ?_;have e:((st.bP v).toNat:Int)=(yQ st (tp.take j) false:Int):=by omega
   rw[e]at du;simp only[Int.natCast_add,Int.natCast_one]at du;exact du.symm
 obtain⟨U2,hU2⟩:∃U2,U2=U1 tp.length:=⟨_,rfl⟩;obtain⟨V2,hV2⟩:∃V2,V2=V1 tp.length:=⟨_,rfl⟩;rw[<- hU2,<- hV2];have cH:tp.take tp.length=tp:=List.take_length;have OZ:U2=U.set i {u with locals:=(st.locals i false).length,aA:=(st.locals i true).length}:=by
  rw[hU2,LY];simp only;rw[cH,YT,Fx,Fx]
 have hV2e:V2=JQ st Vs (st.ab i):=by
  rw[hV2,hV1];simp only;rw[cH,YT]
 have iN:U2.map UC.q=U.map UC.q:=by rw[OZ];exact ze hu rfl
 have Mf:U2[i]? =some {u with locals:=(st.locals i false).length,aA:=(st.locals i true).length}:=by
  rw[OZ,Vw,if_pos rfl,if_pos (Vt.1 hu).1]
 clear LY hV1 hU0 hV0 hUi hU2 hV2;have tq:∀x∈st.around i,x < i:=fun x hx=>by
  unfold ah.around at hx;have mP:=xM.wf.ef i;rw[xM.wf.line Zo]at hx;simp only[List.drop_succ_cons,vy]at hx;split at hx
  ·cases hx
  ·have:=xM.wf.uH _ Zo x hx;omega
 have aB:∀x∈st.around i,∃w,U2[x]? =some w/\U[x]? =some w/\w.q=qU U x:=fun x hx=>by
  have h1:=tq x hx;obtain⟨w,hw⟩:∃w,U[x]? =some w:=⟨_,Zg (by rw[hR.ul];omega)⟩;exact⟨w,by rw[OZ,Vw,if_neg Zo];exact hw,hw,(fG hw).symm⟩
 have au:=xk st i;obtain⟨pt,hpt2⟩:∃pt,pt=(st.around i).map (qU U):=⟨_,rfl⟩;have oC:pt.length=(st.around i).length:=by rw[hpt2,Q5]
 refine jF ?_;refine VC.join (α:=Value×List Value) (bi:=fun s=>[(1,kF q1),(4,s.1)]) (Hf:=fun s=>[kA q1 0 [kF u.q],WK U2 V2,aj s.1 (pt.map fun b=>kM (some b)) s.2]) (I:=fun s=>jA 1 s.1 pt.length (pt.map fun b=>kM (some b)) s.2) ?_ ?_
 ·have k3:kC.cell u.q 3 (ue U (st.around i) 0)∈WK U2 V2:=by
   rw[<- hR.outerQ hu];exact zy Mf _ (QI _ (Zw _ (kJ.2 ⟨3,_,rfl,rfl⟩)))
  refine ae ?_;refine VC.loop (α:=Nat×Value×List Value) (bi:=fun s=>[(1,kF q1),(4,s.2.1),(5,ue U (st.around i) s.1)]) (Hf:=fun s=>[kA q1 0 [kF u.q],WK U2 V2,aj s.2.1 ((pt.take s.1).map fun b=>kM (some b)) s.2.2]) (I:=fun s=>s.1<=pt.length/\jA 1 s.2.1 s.1 ((pt.take s.1).map fun b=>kM (some b)) s.2.2) (μ:=fun s=>pt.length - s.1) (0,Nz,[]) ⟨Qv _,.nil⟩ ZU (ao.cut (M:=[kA q1 0 [kF u.q],WK U2 V2]) ZI (ao.perm (by simp[aj]))) ?_
  rintro⟨d,sv,sp⟩ ⟨hd,gT⟩
  simp only at hd gT;dsimp only;obtain⟨sa,sc,rfl⟩:=gT.form;by_cases aS:d < pt.length;rotate_left
  ·have he:ue U (st.around i) d=.pointer none:=by
    unfold ue;rw[Vp Zo]
   rw[he];have htk2:pt.take d=pt:=Qg Zo;have hde:d=pt.length:=by omega
   rw[htk2]at gT|-;refine ae ?_;exact⟨(.slice sa d sc,sp),by rw[<- hde];exact gT,ZU,ZI⟩
  obtain⟨x,hx⟩:∃x,(st.around i)[d]? =some x:=⟨_,Zg Zo⟩;obtain⟨w,I8,hw,pK⟩:=aB x (Zv hx);have he:ue U (st.around i) d=kF w.q:=by
   unfold ue;rw[hx,pK]
  have Y3:=hR.outerN cF hx hw;have k4:kC.cell w.q 3 (ue U (st.around i) (d+1))∈WK U2 V2:=by
   rw[<- Y3];exact zy I8 _ (QI _ (Zw _ (kJ.2 ⟨3,_,rfl,rfl⟩)))
  have hpd:pt[d]? =some w.q:=by rw[hpt2,Vu,hx,pK];rfl
  rw[he];obtain⟨nx,hnx⟩:∃nx,nx=ue U (st.around i) (d+1):=⟨_,rfl⟩;rw[<- hnx]at k4;refine ae ?_;refine jB (out:=[kF w.q]) Zr Zr (fun rr=>?_);refine ae ?_;refine jH (k:=d) (m:=1) (xs:=(pt.take d).map fun b=>kM (some b)) (sp:=sp) (ys:=[kF w.q]) Zr Zr gT ZK Zr ?_ rfl Zr Zr Zd Zo (fun eW bE aT=>?_)
  ·exact ET
  have hfv:((pt.take d).map fun b=>kM (some b))++[kF w.q]=(pt.take (d+1)).map fun b=>kM (some b):=by
   rw[Qe,hpd];simp[kM]
  rw[hfv]at aT|-;obtain⟨nU,nV,rfl⟩:=aT.form;refine ae ?_;exact⟨(d+1,.slice nU (d+1) nV,bE),⟨by simp only;omega,aT⟩,by simp only;omega,by simp only[<- hnx];exact AO,ZI⟩
 rintro⟨sv,sp⟩ gT
 simp only at gT;dsimp only;have hpr:=iD rfl gT;obtain⟨sa,sc,rfl⟩:=gT.form;refine VC.seq (VC.label ?_);refine ae ?_;refine kH (Lo (.slice sa pt.length sc) (aj (.slice sa pt.length sc) (pt.map fun b=>kM (some b)) sp) rfl) Zr ZP (fun v Post hv=>?_);obtain⟨q2,rfl,rfl⟩:=hv;simp only[aJ];refine ae ?_;obtain⟨u2,Wy⟩:∃u2:UC,u2={u with locals:=(st.locals i false).length,aA:=(st.locals i true).length}:=⟨_,rfl⟩;rw[<- Wy]at Mf OZ;have hu2q:u2.q=u.q:=by rw[Wy]
 have hu2n:u2.nb=u.nb/\u2.es=u.es/\u2.cl=u.cl/\u2.dk=[]/\u2.cv=Nz/\u2.cm=[]:=by rw[Wy];exact⟨rfl,rfl,rfl,n3,n4,n5⟩
 have Wg:∀dk cv cm,dk=zW U (st.copied i)->jA 2 cv dk.length (dk.flatMap jV) cm->fg st (i+1) (U2.set i {u2 with dk:=dk,cv:=cv,cm:=cm}) V2/\(U2.set i {u2 with dk:=dk,cv:=cv,cm:=cm}).map UC.q=U.map UC.q/\(U2.set i {u2 with dk:=dk,cv:=cv,cm:=cm}).map UC.body=U.map UC.body/\V2.map az.q=Vs.map az.q:=fun dk cv cm hc hs=>by
  have e:U2.set i {u2 with dk:=dk,cv:=cv,cm:=cm}=U.set i {u with locals:=(st.locals i false).length,aA:=(st.locals i true).length,dk:=zW U (st.copied i),cv:=cv,cm:=cm}:=by
   rw[OZ,List.set_set,Wy,hc]
  rw[e,hV2e];subst hc;exact⟨hR.step hu hs,ze hu rfl,sL hu rfl,ZF _ _ _⟩
 obtain⟨WF,hWF⟩:∃WF:List (Nat×Int)->Value->List Value->List kC,WF=fun c' v' p'=>WK (U2.set i {u2 with dk:=c',cv:=v',cm:=p'}) V2:=⟨_,rfl⟩
 have L0:∀c' v' p',WK (U2.set i {u2 with dk:=c',cv:=v',cm:=p'}) V2=WF c' v' p':=fun c' v' p'=>by rw[hWF]
 refine VC.hK (α:=Nat×Nat) (enc:=fun x=>[vi x.1,kF x.2]) (fun d A=>∃cv cm,jA 2 cv (zW U (st.mo i d.length)).length ((zW U (st.mo i d.length)).flatMap jV) cm/\A=[kA q1 0 [kF u.q],WK (U2.set i {u2 with dk:=zW U (st.mo i d.length),cv:=cv,cm:=cm}) V2].flatten) ([kA q1 0 [kF u.q],WK U2 V2].flatten) Zr (Ln q2 pt _ _ hpr Zo) (R:=[kA q1 0 [kF u.q],WK U2 V2]) ZP (ao.perm Zs) ?_ (fun _=>rfl) ?_ ?_
 ·refine⟨Nz,[],.nil,?_⟩;have e:({u2 with dk:=zW U (st.mo i 0),cv:=Nz,cm:=[]}:UC)=u2:=by
   obtain⟨_,_,_,h1,h2,h3⟩:=hu2n;cases u2;simp only at h1 h2 h3;subst h1;subst h2;subst h3;rfl
  show _=[kA q1 0 [kF u.q],WK (U2.set i {u2 with dk:=zW U (st.mo i 0),cv:=Nz,cm:=[]}) V2].flatten;rw[e,zO Mf]
 ·rintro c x A aP ⟨cv,cm,AV,rfl⟩
  obtain⟨rest,bM⟩:=aP;have oB:(nt pt)[c.length]? =some x:=by rw[<- bM];simp
  have hdl:c.length < pt.length:=by have:=(Vt.1 oB).1;rwa [nu]at this
  obtain⟨k,hk⟩:∃k,c.length+k+1=pt.length:=⟨pt.length - 1 - c.length,Zo⟩;obtain⟨o,ho⟩:∃o,(st.around i)[k]? =some o:=⟨_,Zg Zo⟩;obtain⟨w,I8,hw,pK⟩:=aB o (Zv ho);have hoi:=tq o (Zv ho);have KJ:x=(k,w.q):=by
   rw[Hn hk]at oB;rw[<- X3 oB,hpt2,Vh,Vu,ho,pK];rfl
  subst KJ;have hor:(st.around i).reverse[c.length]? =some o:=by
   rw[List.getElem?_reverse Zo];have e:(st.around i).length - 1 - c.length=k:=by omega
   rw[e];exact ho
  have hsucc:=Lr st hor;have hwa:=(hR.ar o w hw).1;obtain⟨na,E0⟩:∃na,na=st.args.getD o 0:=⟨_,rfl⟩;have hnab:=hba o;rw[<- E0]at hwa hnab;obtain⟨CK,hCK⟩:∃CK:Nat->List (Nat×Int),CK=fun m=>zW U (st.mo i c.length++((st.things o).take m).filter (st.bg i)):=⟨_,rfl⟩
  have hC0:CK 0=zW U (st.mo i c.length):=by rw[hCK];simp
  have hCe:CK (na+1)=zW U (st.mo i (c.length+1)):=by
   rw[hCK];simp only;rw[hsucc,Qg (by rw[pH];omega)]
  have hCl:∀m,(CK m).length<=1048577*1048577:=fun m=>by
   rw[hCK];simp only;unfold zW;rw[Q5,Vy];have h1:=Ou (st:=st) (u:=i) (k:=c.length) hba;have h2:=Q4 (st.bg i) ((st.things o).take m);have h3:=List.length_take_le' m (st.things o);rw[pH,<- E0]at h3;omega
  have hCs:∀m,m < na+1->CK (m+1)=CK m++(if st.bg i (o,(m:Int) - 1)=true then [(w.q,(m:Int) - 1)]else []):=fun m hm=>by
   rw[hCK];simp only;rw[Cn (J0 st (by rw[<- E0];exact hm)),<- vj];unfold zW;rw[QA]
   congr 1
   split
   ·simp[pK]
   ·rfl
  simp only[xm];refine VC.imp (H':=[kA q1 0 [kF u.q],WK (U2.set i {u2 with dk:=zW U (st.mo i c.length),cv:=cv,cm:=cm}) V2]) (ao.perm Zs) ?_;refine VC.lU ?_;refine ae ?_;refine⟨trivial,?_⟩;refine ae ?_;refine VC.loop (α:=Nat×Value×List Value) (bi:=fun s=>[(1,kF q1),(7,kF w.q),(8,.int .i64 ((s.1:Int) - 1))]) (Hf:=fun s=>[kA q1 0 [kF u.q],WK (U2.set i {u2 with dk:=CK s.1,cv:=s.2.1,cm:=s.2.2}) V2]) (I:=fun s=>s.1<=na+1/\jA 2 s.2.1 (CK s.1).length ((CK s.1).flatMap jV) s.2.2) (μ:=fun s=>na+1 - s.1) (0,cv,cm) ⟨Qv _,by simp only[hC0];exact AV⟩ (by simp only[Int.natCast_zero,Int.zero_sub];exact AO) (by simp only[hC0];exact bS) ?_
  rintro⟨m,cv1,r8⟩ ⟨hm,L3⟩
  simp only at hm L3;dsimp only;obtain⟨ca,cc,rfl⟩:=L3.form;have hu3:(U2.set i {u2 with dk:=CK m,cv:=.slice ca (CK m).length cc,cm:=r8})[i]? =some {u2 with dk:=CK m,cv:=.slice ca (CK m).length cc,cm:=r8}:=by
   rw[Vw,if_pos rfl,if_pos (Vt.1 Mf).1]
  obtain⟨R,hp,hr,hoth,hown,mL⟩:=Yo (V:=V2) hu3;simp only[List.set_set]at hp hr;simp only[L0]at hp hr;simp only[hu2q,hu2n.2.1,hu2n.2.2.1]at hp hr hown mL;have I3:∀(j:Nat) z,j≠i->U2[j]? =some z->∀a∈z.atoms,a∈R:=fun j z hj hz=>hoth j z hj (by rw[Vw,if_neg (fun e=>hj e.symm)];exact hz)
  have ka:kC.cell w.q 0 (.int .i64 na)∈R:=I3 o w Zo I8 _ (QI _ (Zw _ (kJ.2 ⟨0,_,by unfold UC.row;rw[hwa];rfl,rfl⟩)));have km:kC.cell u.q 6 (.map (some u2.nb))∈R:=mL _ (kJ.2 ⟨6,_,rfl,rfl⟩);have DK:∀(j:Nat) z,U2[j]? =some z->wm R z.q:=fun j z hz=>by
   by_cases e:j=i
   ·subst e;rw[Mf]at hz;obtain rfl:=X3 hz;rw[hu2q];exact⟨⟨9,hown⟩,⟨_,mL _ (kJ.2 ⟨0,_,rfl,rfl⟩)⟩⟩
   ·exact⟨⟨9,I3 j z e hz _ (QJ ..)⟩,⟨_,I3 j z e hz _ (QI _ (Zw _ (kJ.2 ⟨0,_,rfl,rfl⟩)))⟩⟩
  have KD:=DK o w I8;have hlm:∀p∈mm,wm R p.1.1:=fun p hp=>by
   obtain⟨⟨j,z,h1,h2⟩,_⟩:=t3 p hp;have hq:=DA iN j;rw[h1]at hq;obtain⟨z2,h3,h4⟩:=X0.1 hq;rw[h2,<- h4];exact DK j z2 h3
  have hCm:=hCl m;refine VC.imp (H':=[kA q1 0 [kF u.q],[.obj u2.nb (.map u.es u.cl)],kA u.q 7 [.slice ca (CK m).length cc],aj (.slice ca (CK m).length cc) ((CK m).flatMap jV) r8,R]) (ao.perm (by simp only[Vd,Ve,vm];rw[L0];exact vX _ hp)) ?_;refine ae ?_;by_cases AJ:m < na+1;rotate_left
  ·rw[show decide ((m:Int) - 1 < (na:Int))=false from Zf Zo];obtain rfl:m=na+1:=by omega
   refine ae ?_;refine⟨_,⟨.slice ca (CK (na+1)).length cc,r8,?_,rfl⟩,?_⟩
   ·rw[Vy,Q8,<- hCe];exact L3
   ·rw[Vy,Q8,<- hCe];have h9:=hr (CK (na+1)) (.slice ca (CK (na+1)).length cc) r8;refine ao.cut (M:=[kA q1 0 [kF u.q],[.obj u2.nb (.map u.es u.cl)],kA u.q 7 [.slice ca (CK (na+1)).length cc],aj (.slice ca (CK (na+1)).length cc) ((CK (na+1)).flatMap jV) r8,R]) ZI (ao.perm ?_);simp only[Vd,Ve,vm];rw[L0];exact vX _ h9.symm
  rw[show decide ((m:Int) - 1 < (na:Int))=true from Zt Zo];refine ae ?_;refine M8 Zr (.there .here) t1.of ?_;refine ae ?_;by_cases Ui:mm=[]
  ·rw[show decide ((mm.length:Int)=0)=true from Zt (by rw[Ui];rfl)];have hz:∀o'∈st.around i,∀t∈st.things o',¬st.bg i t=true:=fun o' xV t ht hn=>by
    obtain⟨w',_,sF,_⟩:=aB o' xV;obtain⟨e1,_⟩:=lq.1 ht;have h1:=t4 o' w' t.2 sF;have e2:(o',t.2)=t:=by rw[<- e1]
    rw[e2]at h1;have:=h1.2 hn;rw[Ui]at this;cases this
   have hf0:∀o'∈st.around i,(st.things o').filter (st.bg i)=[]:=fun o' xV=>V7.2 (hz o' xV)
   have hc0:st.copied i=[]:=by
    unfold ah.copied;rw[List.flatMap_eq_nil_iff];exact fun o' xV=>hf0 o' (by unfold ah.around;simpa using xV)
   have Ct:CK m=[]:=by
    rw[hCK];simp only;have e1:st.mo i c.length=[]:=by
     unfold ah.mo;rw[List.flatMap_eq_nil_iff];exact fun o' xV=>hf0 o' (by have:=QN xV;simpa using this)
    have e2:((st.things o).take m).filter (st.bg i)=[]:=V7.2 fun t ht=>hz o (Zv ho) t (QN ht)
    rw[e1,e2];rfl
   obtain⟨h1,h2,h3,h4⟩:=Wg (CK m) _ _ (by rw[Ct,hc0];rfl) L3;have h9:=hr (CK m) (.slice ca (CK m).length cc) r8;refine ae ?_;exact⟨(fun l h=>by cases h),kG (Post:=[WK (U2.set i {u2 with dk:=CK m,cv:=.slice ca (CK m).length cc,cm:=r8}) V2]) (.inl rfl) .nil ⟨_,_,⟨rfl,h1,h2,h3,h4⟩,rfl⟩ (by
    rw[L0];refine ao.cut (M:=[[.obj u2.nb (.map u.es u.cl)],kA u.q 7 [.slice ca (CK m).length cc],aj (.slice ca (CK m).length cc) ((CK m).flatMap jV) r8,R]) ZI (ao.perm ?_);simp only[Vd,Ve,vm];exact h9.symm)⟩
  have hmm0:0 < mm.length:=by
   cases mm with
   |nil=>exact absurd rfl Ui
   |cons _ _=>simp
  rw[show decide ((mm.length:Int)=0)=false from Zf Zo];refine ae ?_;refine kO (fun q9=>?_);refine ae ?_;refine sY (k:=(w.q,(m:Int) - 1)) thP Zr Zr (.there (.there .here)) t1.of (KD.more (fun _ hx=>by simp[hx])) (fun p hp=>(hlm p hp).more (fun _ hx=>by simp[hx])) ?_;have E1:decide ((0:Int) < (kz (w.q,(m:Int) - 1) mm).getD 0)=st.bg i (o,(m:Int) - 1):=by
   have h1:=t4 o w ((m:Int) - 1) hw;cases e:kz (w.q,(m:Int) - 1) mm with
   |none=>
    rw[e]at h1;cases e2:st.bg i (o,(m:Int) - 1)with
    |false=>rfl
    |true=>have:=h1.2 e2;cases this
   |some z=>
    rw[e]at h1;rw[h1.1 rfl];have:=(t3 _ (yn e)).2.1;exact Zt this
  refine ae ?_;rw[E1];have Gf:=hCs m AJ;cases Y0:st.bg i (o,(m:Int) - 1)with
  |false=>
   rw[Y0]at Gf;simp only[vL,if_false,vm]at Gf;have h9:=hr (CK m) (.slice ca (CK m).length cc) r8;refine ae ?_;refine⟨(m+1,.slice ca (CK m).length cc,r8),⟨by simp only;omega,by simp only[Gf];exact L3⟩,by simp only;omega,by simp only;rw[show((m+1:Nat):Int) - 1=(m:Int) - 1+1 by omega];exact AO,?_⟩;simp only[Gf];rw[L0];refine ao.cut (M:=[kA q1 0 [kF u.q],[.obj u2.nb (.map u.es u.cl)],kA u.q 7 [.slice ca (CK m).length cc],aj (.slice ca (CK m).length cc) ((CK m).flatMap jV) r8,R]) ZI (ao.perm ?_);exact zET
  |true=>
   rw[Y0]at Gf;simp only[if_true]at Gf;have Ie:(CK m).flatMap jV++[kF w.q,.int .i64 ((m:Int) - 1)]=(CK (m+1)).flatMap jV:=by
    rw[Gf,VV,Vb];rfl
   have hcl1:(CK (m+1)).length=(CK m).length+1:=by rw[Gf,Vy];rfl
   refine jF ?_;refine VC.draws ⟨?_,?_,?_,?_,?_,?_,?_,?_,?_,?_,?_,?_,?_,?_,?_,trivial⟩
   all_goals
    refine ae ?_;refine jB (out:=[kF w.q,.int .i64 ((m:Int) - 1)]) Zr Zr (fun rr=>?_);refine ae ?_;refine jH (k:=(CK m).length) (m:=1) (xs:=(CK m).flatMap jV) (sp:=r8) (ys:=[kF w.q,.int .i64 ((m:Int) - 1)]) Zr Zr L3 ZK Zr ?_ rfl Zr Zr Zd Zo (fun eW bE aT=>?_)
    ·exact ET
    rw[Ie,<- hcl1]at aT;rw[Ie];obtain⟨nU,nV,rfl⟩:=aT.form;have h9:=hr (CK (m+1)) (.slice nU (CK (m+1)).length nV) bE;refine ae ?_;refine⟨(m+1,.slice nU (CK (m+1)).length nV,bE),⟨by simp only;omega,aT⟩,by simp only;omega,by simp only;rw[show((m+1:Nat):Int) - 1=(m:Int) - 1+1 by omega];exact AO,?_⟩;simp only;rw[L0];refine ao.cut (M:=[kA q1 0 [kF u.q],[.obj u2.nb (.map u.es u.cl)],kA u.q 7 [.slice nU (CK (m+1)).length nV],aj (.slice nU (CK (m+1)).length nV) ((CK (m+1)).flatMap jV) bE,R]) ZI (ao.perm ?_);exact zET
 ·rintro full A rfl ⟨cv,cm,AV,rfl⟩
  rw[nu,oC,Fy st i (Qn _)]at AV;obtain⟨h1,h2,h3,h4⟩:=Wg _ _ _ rfl AV;rw[nu,oC,Fy st i (Qn _)];exact⟨(fun l h=>by cases h),kG (Post:=[WK (U2.set i {u2 with dk:=zW U (st.copied i),cv:=cv,cm:=cm}) V2]) (.inl rfl) .nil ⟨_,_,⟨rfl,h1,h2,h3,h4⟩,rfl⟩ (ao.cut (M:=[kA q1 0 [kF u.q],WK (U2.set i {u2 with dk:=zW U (st.copied i),cv:=cv,cm:=cm}) V2]) (ao.perm Zs) ZI)⟩
set_option maxHeartbeats 3200000
theorem Dg(a l v c:Nat)(h:a < 1073741824/\l < 1073741824/\v < 1073741824/\c < 4398046511104):aw Tryz.prog 115 [.agg #[vi a,vi l,vi v],vi c] [] (fun r Post=>r=vi ((a+c+l+(if 0 < v then 1 else 0):Nat):Int)/\Post=[]):=by
 obtain⟨h1,h2,h3,h4⟩:=h;refine aw.intro low115 (by simp[n115]) ?_;refine ae ?_;refine kX Zr (fun q=>?_);simp only[Value.cells];refine ae ?_;by_cases hv:0 < v
 ·rw[show decide ((0:Int) < (v:Int))=true from Zt Zo,if_pos hv];refine ae ?_;refine kG (Post:=[]) (.inr rfl) (.tmp (v:=vi ((a+c+l+1:Nat):Int)) Zr .nil) ⟨rfl,rfl⟩ ZI
 ·rw[show decide ((0:Int) < (v:Int))=false from Zf Zo,if_neg hv];refine ae ?_;refine kG (Post:=[]) (.inr rfl) (.tmp (v:=vi ((a+c+l:Nat):Int)) Zr .nil) ⟨rfl,rfl⟩ ZI
theorem LN {α:Type}[DecidableEq α]{l:List α}{k:α}(h:∀i x,i < l.length->l[i]? =some x->x≠k):l.findIdx? (fun y=>decide (y=k))=none:=by
 rw[List.findIdx?_eq_none_iff];intro x hx;obtain⟨i,hi⟩:=Vv hx;exact Zf (h i x (Vt.1 hi).1 hi)
theorem LO {α:Type}[DecidableEq α]{l:List α}{k:α}{j:Nat}(hj:l[j]? =some k)(h:∀i x,i < j->l[i]? =some x->x≠k):l.findIdx? (fun y=>decide (y=k))=some j:=by
 have hl:=(Vt.1 hj).1;rw[List.findIdx?_eq_some_iff_getElem];refine⟨hl,?_,fun i hi=>?_⟩
 ·rw[Zg hl]at hj;exact Zt (X3 hj)
 ·have cF:i < l.length:=by omega
  simp only[Bool.not_eq_true,decide_eq_false_iff_not];exact h i _ hi (Zg cF)
theorem Je(B:List kC)(l:List (Nat×Int))(a:Option Addr)(c:Nat)(KC:l.length < 4398046511104)(uz:∀(i:Nat) t,l[i]? =some t->∃b o,a=some ⟨b,o,none⟩/\∀y∈kA b (o+i*2) [kF t.1,.int .i64 t.2],y∈B)(hl:∀t∈l,wm B t.1)(k:Nat×Int)(hk:wm B k.1):
 aw Tryz.prog 174 [.slice a l.length c,gE k] [B] (fun v Post=>v=.int .i64 (mW l k)/\Post=[B]):=by
 refine aw.intro low174 (by simp[n174]) ?_;unfold gE;refine ae ?_;refine kX Zr (fun q=>?_);simp only[Value.cells];refine ae ?_;refine VC.loop (α:=Nat) (bi:=fun s=>[(0,.slice a l.length c),(3,kF q),(7,vi l.length),(8,vi s)]) (Hf:=fun _=>[kA q 0 [kF k.1,.int .i64 k.2],B]) (I:=fun s=>s<=l.length/\∀i x,i < s->l[i]? =some x->x≠k) (μ:=fun s=>l.length - s) 0 ⟨Qv _,fun i x h=>by omega⟩ ZU ZI ?_
 rintro j ⟨hj,dt⟩
 refine ae ?_;by_cases aS:j < l.length;rotate_left
 ·rw[show decide ((j:Int) < (l.length:Int))=false from Zf Zo];refine ae ?_;refine kG (Post:=[B]) (.inr rfl) (.tmp Zr .nil) ⟨?_,rfl⟩ ZI;unfold mW;rw[LN (fun i x hi hx=>dt i x Zo hx)];rfl
 rw[show decide ((j:Int) < (l.length:Int))=true from Zt Zo];obtain⟨t,ht⟩:∃t,l[j]? =some t:=⟨_,Zg aS⟩;obtain⟨b,o,rfl,hm⟩:=uz j t ht;refine ae ?_;refine kS (us:=[kF t.1,.int .i64 t.2]) Zr (fun z hz=>by have h9:=hm z hz;simp[h9]) rfl ?_;refine ae ?_;refine Yb (k:=k) (j:=t) thP Zr Zr (hk.more (fun _ hx=>by simp[hx])) ((hl t (Zv ht)).more (fun _ hx=>by simp[hx])) ?_;refine ae ?_;by_cases he:k=t
 ·rw[Zt he];refine ae ?_;refine kG (Post:=[B]) (.inr rfl) (.tmp (v:=vi j) Zr .nil) ⟨?_,rfl⟩ ZI;unfold mW;rw[LO (by rw[he];exact ht) (fun i x hi hx=>dt i x hi hx)];rfl
 ·rw[Zf he];refine ae ?_;refine⟨j+1,⟨Zo,fun i x hi hx=>?_⟩,Zo,ZU,ZI⟩;by_cases L6:i < j
  ·exact dt i x L6 hx
  ·obtain rfl:i=j:=by omega
   rw[ht]at hx;rw[<- X3 hx];exact fun e=>he e.symm
end Go.Proofs.YtijnokbblmbpkaaGreatDoor
namespace Go.V
open Go
theorem WJ {α β:Type}[DecidableEq α][DecidableEq β]{f:α->β}{x:α}:∀{l:List α},(∀y∈l,f y=f x->y=x)->(l.map f).findIdx? (fun y=>decide (y=f x))=l.findIdx? fun y=>decide (y=x):=by
 intro l
 induction l with
 |nil=>intro _;rfl
 |cons y l ih=>
  intro h;rw[QC,V9,V9,ih (fun z hz=>h z (by simp[hz]))];have e:decide (f y=f x)=decide (y=x):=decide_eq_decide.2 ⟨h y Zs,fun e=>by rw[e]⟩;rw[e]
theorem fg.Su {st:ah}{L:Nat}{U:List UC}{V:List az}(h:fg st L U V){i j:Nat}(hi:i < st.outer.length)(hj:j < st.outer.length)(e:qU U i=qU U j):i=j:=by
 obtain⟨u,hu⟩:∃u,U[i]? =some u:=⟨_,Zg (by rw[h.ul];exact hi)⟩;obtain⟨w,hw⟩:∃w,U[j]? =some w:=⟨_,Zg (by rw[h.ul];exact hj)⟩;rw[fG hu,fG hw]at e;have h1:(U.map UC.q)[i]? =some u.q:=by rw[Vu,hu];rfl
 have h2:(U.map UC.q)[j]? =some w.q:=by rw[Vu,hw];rfl
 rw[<- e]at h2;have Wj:=(Vt.1 h1).1;have fQ:=(Vt.1 h2).1;have e1:(U.map UC.q)[i]=(U.map UC.q)[j]:=by
  rw[Zg Wj]at h1;rw[Zg fQ]at h2;rw[X3 h1,X3 h2]
 have hp:=List.pairwise_iff_getElem.1 h.inj;rcases Nat.lt_trichotomy i j with c|c|c
 ·exact absurd e1 (hp i j Wj fQ c)
 ·exact c
 ·exact absurd e1.symm (hp j i fQ Wj c)
theorem fg.idx {st:ah}{L:Nat}{U:List UC}{V:List az}(h:fg st L U V)(hp:Ph st){i:Nat}(hi:i < st.outer.length){t:Nat×Int}(ht:t.1 < st.outer.length):
 (zW U (st.copied i)).findIdx? (fun y=>decide (y=(qU U t.1,t.2)))=(st.copied i).findIdx? fun y=>decide (y=t):=by
 unfold zW;exact WJ (f:=fun t:Nat×Int=>(qU U t.1,t.2)) (x:=t) fun y hy e=>by
  have h1:=(hp.nH hi hy).2.2.1;simp only[X5]at e;exact Prod.ext (h.Su h1 ht e.1) e.2
theorem fg.cells {st:ah}{U:List UC}{V:List az}(h:fg st st.outer.length U V){i:Nat}{u:UC}(hu:U[i]? =some u):∃ca cc,u.cv=.slice ca (st.copied i).length cc/\u.args=st.args.getD i 0/\u.locals=(st.locals i false).length/\u.aA=(st.locals i true).length/\
 ∀(k:Nat) t,(zW U (st.copied i))[k]? =some t->∃b o,ca=some ⟨b,o,none⟩/\∀y∈kA b (o+k*2) [kF t.1,.int .i64 t.2],y∈u.atoms:=by
 have cF:=(Vt.1 hu).1;rw[h.ul]at cF;obtain⟨h1,h2,h3,h4⟩:=h.la i u hu cF;have hlen:(zW U (st.copied i)).length=(st.copied i).length:=Q5 _;obtain⟨ca,cc,Wd⟩:=h4.form;rw[h3,hlen]at Wd;refine⟨ca,cc,Wd,(h.ar i u hu).1,h1,h2,fun k t hk=>?_⟩;have KB:=(Vt.1 hk).1;obtain⟨b,o,c,hv,_,hsa⟩:=Cx h4 (by rw[h3];omega);rw[Wd,Value.slice.injEq]at hv;refine⟨b,o,hv.1,fun y hy=>?_⟩;unfold UC.atoms;refine QI _ (QG _ (QG _ (Zw _ ?_)));rw[hsa,j8];refine Zw _ ?_;rw[h3,Va];exact nG (rows:=(zW U (st.copied i)).map jV) (fun r hr=>by obtain⟨z,_,rfl⟩:=QM.1 hr;rfl) (by rw[Vu,hk];rfl) y hy
end Go.V
namespace Go.Proofs.YtijnokbblmbpkaaGreatDoor
open Go Go.V
set_option maxHeartbeats 6400000
set_option maxRecDepth 100000
structure Ii (st:ah):Prop where
 v:st.vars.length<=1048576
 o:st.outer.length<=1048576
 a:∀j,st.args.getD j 0<=1048576
theorem Ii.dk {st:ah}(h:Ii st)(u:Nat):(st.copied u).length<=1048576*(1048576+1):=by
 have h1:=Iz (st:=st) (u:=u) h.a;have h2:=xk st u;exact Qp h1 (Qs _ (Qp h2 h.o))
theorem Ii.loc {st:ah}(h:Ii st)(u:Nat)(r:Bool):(st.locals u r).length<=1048576:=by
 unfold ah.locals;have h1:=Q4 (fun v=>decide (st.af v=u)&&decide (st.bt v < 0)&&decide (st.rem v=r)) (List.range st.vars.length);rw[List.length_range]at h1;have:=h.v;omega
theorem yW(st:ah)(xM:Ph st)(hB:Ii st)(U:List UC)(Vs:List az)(hR:fg st st.outer.length U Vs)(i:Nat)(u:UC)(hu:U[i]? =some u)(t:Nat×Int)(ht:t.1 < st.outer.length)(hc:(t.1=i/\-1<=t.2/\t.2 < st.args.getD i 0/\(t.2 < 0->0 < (st.locals i true).length))∨(t.1≠i/\t∈st.copied i)):
 aw Tryz.prog 116 [kF u.q,gE (qU U t.1,t.2)] [WK U Vs] (fun v Post=>v=.int .i64 (st.place i t)/\Post=[WK U Vs]):=by
 have cF:i < st.outer.length:=by have:=(Vt.1 hu).1;rw[hR.ul]at this;exact this
 obtain⟨ca,cc,Wd,Y8,DU,huv,mL⟩:=hR.cells hu;obtain⟨w,hw⟩:∃w,U[t.1]? =some w:=⟨_,Zg (by rw[hR.ul];exact ht)⟩;have hqw:=fG hw;have hba:=hB.a i;have hbc:=hB.dk i;have H7:=hB.loc i false;have hbv:=hB.loc i true;have KD:wm (WK U Vs) w.q:=gG hw;have hlu:wm (WK U Vs) u.q:=gG hu;have EY:∀k∈zW U (st.copied i),wm (WK U Vs) k.1:=fun k hk=>by
  obtain⟨s,hs,rfl⟩:=QM.1 hk;obtain⟨z,hz⟩:∃z,U[s.1]? =some z:=⟨_,Zg (by rw[hR.ul];exact(xM.nH cF hs).2.2.1)⟩;show wm _ (qU U s.1);rw[fG hz];exact gG hz
 have oi:∀(k:Nat) x,u.row[k]? =some x->kC.cell u.q k x∈WK U Vs:=fun k x hx=>zy hu _ (QI _ (Zw _ (kJ.2 ⟨k,x,hx,by rw[Qu]⟩)))
 have k0:kC.cell u.q 0 (.int .i64 (st.args.getD i 0))∈WK U Vs:=oi 0 _ (by unfold UC.row;rw[Y8];rfl);have k1:kC.cell u.q 1 (.int .i64 (st.locals i false).length)∈WK U Vs:=oi 1 _ (by unfold UC.row;rw[DU];rfl);have k2:kC.cell u.q 2 (.int .i64 (st.locals i true).length)∈WK U Vs:=oi 2 _ (by unfold UC.row;rw[huv];rfl);have k7:kC.cell u.q 7 (.slice ca (st.copied i).length cc)∈WK U Vs:=oi 7 _ (by unfold UC.row;rw[Wd];rfl);have oB:(zW U (st.copied i)).length=(st.copied i).length:=Q5 _;have Wi:=Je (WK U Vs) (zW U (st.copied i)) ca cc (by rw[oB];omega) (fun k s hk=>by
  obtain⟨b,o,h1,h2⟩:=mL k s hk;exact⟨b,o,h1,fun y hy=>zy hu _ (h2 y hy)⟩) EY (w.q,t.2) KD
 rw[oB]at Wi;have oC:t.1≠i->st.place i t=st.args.getD i 0+mW (zW U (st.copied i)) (w.q,t.2)/\0<=mW (zW U (st.copied i)) (w.q,t.2)/\mW (zW U (st.copied i)) (w.q,t.2) < (st.copied i).length:=fun hn=>by
  rcases hc with⟨h1,_⟩|⟨_,h1⟩
  ·exact absurd h1 hn
  obtain⟨k,um,tx⟩:=mw h1;unfold ah.place mW;rw[if_neg hn,<- hqw,hR.idx xM cF ht,tx];exact⟨rfl,by simp only;omega,by simp only;omega⟩
 generalize hix:mW (zW U (st.copied i)) (w.q,t.2)=ix at Wi oC;generalize hW:WK U Vs=B at KD hlu k0 k1 k2 k7 Wi|-;rw[hqw];generalize E0:st.args.getD i 0=na at*;generalize hnc:(st.copied i).length=nc at*;generalize hnl:(st.locals i false).length=nl at*;generalize hnv:(st.locals i true).length=nv at*;refine aw.intro low116 (by simp[n116]) ?_;refine VC.join (α:=Nat) (bi:=fun q=>[(0,kF u.q),(3,kF q)]) (Hf:=fun q=>[kA q 0 [kF w.q,.int .i64 t.2],B]) (I:=fun _=>True) ?_ (fun q3 _=>?_)
 ·unfold gE;exact zEC
 refine VC.join (α:=Unit) (bi:=fun _=>[(0,kF u.q),(3,kF q3)]) (Hf:=fun _=>[kA q3 0 [kF w.q,.int .i64 t.2],B]) (I:=fun _=>t.1=i/\t.2 < 0) ?_ (fun _ hI=>?_)
 ·refine ae ?_;refine S5 u124 DW DX Zr Zr (KD.more (fun _ hx=>by simp[hx])) (hlu.more (fun _ hx=>by simp[hx])) ?_;refine ae ?_;by_cases he:w.q=u.q
  ·have hti:t.1=i:=hR.Su ht cF (by rw[hqw,fG hu];exact he);rw[show decide (w.q=u.q)=true from Zt he];refine ae ?_;by_cases h0:0<=t.2
   ·rw[show decide ((0:Int)<=t.2)=true from Zt h0];refine ae ?_;exact kG (Post:=[B]) (.inr rfl) (.tmp Zr .nil) ⟨by unfold ah.place;rw[if_pos hti,if_pos h0];rfl,rfl⟩ ZI
   ·rw[show decide ((0:Int)<=t.2)=false from Zf h0];refine ae ?_;exact⟨(),⟨hti,Zo⟩,ZU,ZI⟩
  ·have hti:t.1≠i:=fun e=>he (by
    have:=fG hw;rw[e,fG hu]at this;exact this.symm)
   obtain⟨p1,p2,p3⟩:=oC hti;rw[show decide (w.q=u.q)=false from Zf he];refine jF ?_;refine VC.seq (VC.draws ⟨?_,?_,trivial⟩)
   all_goals
    refine ae ?_;refine kH Wi Zr ZP (fun v Post hv=>?_);obtain⟨rfl,rfl⟩:=hv;simp only[aJ];refine ae ?_;exact kG (Post:=[B]) (.inr rfl) (.tmp Zr .nil) ⟨by rw[p1];rfl,rfl⟩ ZI
 obtain⟨h1,h2⟩:=hI;have hv0:0 < nv:=by
  rcases hc with⟨_,_,_,c⟩|⟨c,_⟩
  ·exact c h2
  ·exact absurd h1 c
 refine ae ?_;refine kS (us:=[.int .i64 na,.int .i64 nl,.int .i64 nv]) Zr (fun z hz=>?_) rfl ?_
 ·obtain⟨j,x,hx,rfl⟩:=kJ.1 hz;have hz3:j=0∨j=1∨j=2:=by
   exact zEU
  rcases hz3 with rfl|rfl|rfl
  ·obtain rfl:(.int .i64 na:Value)=x:=by simpa using hx
   simp[k0]
  ·obtain rfl:(.int .i64 nl:Value)=x:=by simpa using hx
   simp[k1]
  ·obtain rfl:(.int .i64 nv:Value)=x:=by simpa using hx
   simp[k2]
 refine ae ?_;refine kH (Dg na nl nv nc ⟨Zo,Zo,Zo,Zo⟩) Zr ZP (fun v Post hv=>?_);obtain⟨rfl,rfl⟩:=hv;rw[if_pos hv0];simp only[QS];refine ae ?_;refine kG (Post:=[B]) (.inr rfl) (.tmp Zr .nil) ⟨?_,rfl⟩ ZI;unfold ah.place;rw[if_pos h1,if_neg Zo,E0,hnc,hnl];show Value.int .i64 (((na+nc+nl+1:Nat):Int) - 1)=.int .i64 ((na:Int)+nc+nl)
 congr 1
 omega
theorem SF(st:ah)(xM:Ph st)(hB:Ii st)(U:List UC)(Vs:List az)(hR:fg st st.outer.length U Vs)(i:Nat)(u:UC)(hu:U[i]? =some u)(vv:Nat)(y:az)(hy:Vs[vv]? =some y)(hv:me st i vv=true):
 aw Tryz.prog 175 [kF u.q,kF y.q] [WK U Vs] (fun v Post=>v=.agg (jN (st.known i vv)).toArray/\Post=[WK U Vs]):=by
 have cF:i < st.outer.length:=by have:=(Vt.1 hu).1;rw[hR.ul]at this;exact this
 obtain⟨DV,Py⟩:=xM.me hv;obtain⟨w1,w2,w3⟩:=xM.wf.var DV;obtain⟨x,hx⟩:∃x,st.vars[vv]? =some x:=⟨_,Zg DV⟩;obtain⟨⟨w,hw,hyw⟩,hya,bK,lS⟩:=hR.vn vv x y hx hy;have hux:=n9 hx;have Y5:=yz hx;obtain⟨ca,cc,Wd,Y8,DU,huv,mL⟩:=hR.cells hu;have hqw:qU U (st.af vv)=w.q:=by rw[hux];exact fG hw
 have hba:=hB.a i;have hbc:=hB.dk i;have oi:∀(k:Nat) x,u.row[k]? =some x->kC.cell u.q k x∈WK U Vs:=fun k x hx=>zy hu _ (QI _ (Zw _ (kJ.2 ⟨k,x,hx,by rw[Qu]⟩)))
 have k0:kC.cell u.q 0 (.int .i64 (st.args.getD i 0))∈WK U Vs:=oi 0 _ (by unfold UC.row;rw[Y8];rfl);have k7:kC.cell u.q 7 (.slice ca (st.copied i).length cc)∈WK U Vs:=oi 7 _ (by unfold UC.row;rw[Wd];rfl);have KI:∀(k:Nat) x,y.row[k]? =some x->kC.cell y.q k x∈WK U Vs:=fun k x hx=>lL hy _ (kJ.2 ⟨k,x,hx,by rw[Qu]⟩)
 have y0:kC.cell y.q 0 (kF w.q)∈WK U Vs:=KI 0 _ (by unfold az.row;rw[hyw];rfl);have y1:kC.cell y.q 1 (.int .i64 x.own)∈WK U Vs:=KI 1 _ (by unfold az.row;rw[hya];rfl);have y3:kC.cell y.q 3 (.bool (st.rem vv))∈WK U Vs:=KI 3 _ (by unfold az.row;rw[bK];rfl);have y4:kC.cell y.q 4 (.int .i64 y.slot)∈WK U Vs:=KI 4 _ rfl;have bD:x.own < 0->(y.slot:Int)=st.bP vv:=fun h=>lS h (by rw[<- hux];exact w1)
 have YV:∀a:Int,(0<=x.own->a=x.own)->(x.own < 0->a=-1/\st.rem vv=true)->(st.af vv=i/\-1<=a/\a < st.args.getD i 0/\(a < 0->0 < (st.locals i true).length))∨(st.af vv≠i/\(st.af vv,a)∈st.copied i):=fun a ha hb=>by
  rw[Y5]at w2 w3;by_cases e:st.af vv=i
  ·refine .inl ⟨e,?_⟩;by_cases c:x.own < 0
   ·obtain⟨rfl,hr⟩:=hb c;exact⟨Zo,Zo,fun _=>List.length_pos_of_mem (lp.2 ⟨DV,e,by rw[Y5];exact c,hr⟩)⟩
   ·rw[ha Zo];exact⟨Zo,by rw[<- e];exact w3,fun c2=>absurd c2 c⟩
  ·rcases Py with k|k
   ·exact absurd k e
   ·refine .inr ⟨e,?_⟩;rw[Y5]at k;by_cases c:x.own < 0
    ·obtain⟨rfl,_⟩:=hb c;have:x.own=-1:=by omega
     rw[<- this];exact k.1
    ·rw[ha Zo];exact k.1
 have mR:∀a:Int,((st.af vv=i/\-1<=a/\a < st.args.getD i 0/\(a < 0->0 < (st.locals i true).length))∨(st.af vv≠i/\(st.af vv,a)∈st.copied i))->aw Tryz.prog 116 [kF u.q,gE (w.q,a)] [WK U Vs] (fun v Post=>v=.int .i64 (st.place i (st.af vv,a))/\Post=[WK U Vs]):=fun a h=>by
  have:=yW st xM hB U Vs hR i u hu (st.af vv,a) w1 h
  rwa [hqw]at this
 generalize hW:WK U Vs=B at k0 k7 y0 y1 y3 y4 mR|-;refine aw.intro low175 (by simp[n175]) ?_;refine ae ?_;refine kO (fun q4=>?_);refine ae ?_;by_cases ho:0<=x.own
 ·rw[show decide ((0:Int)<=x.own)=true from Zt ho];have hp:=mR x.own (YV x.own (fun _=>rfl) (fun c=>by omega));have hk:st.known i vv=⟨5,st.place i (st.af vv,x.own),0,e0⟩:=by unfold ah.known;rw[Y5,if_pos ho]
  rw[hk];generalize st.place i (st.af vv,x.own)=pl at hp;unfold gE at hp;refine ae ?_;refine kH hp Zr ZP (fun v Post hv=>?_);obtain⟨rfl,rfl⟩:=hv;simp only[aJ];refine ae ?_;exact⟨.inr rfl,_,[B],.aN (us:=jN ⟨5,pl,0,e0⟩) Zr Zr (fun y hy=>by simp only[Vd,QF];repeat (first|exact Or.inl hy|refine Or.inr ?_)) .nil,ZI,rfl,rfl⟩
 rw[show decide ((0:Int)<=x.own)=false from Zf ho];have hn:x.own < 0:=by omega
 refine ae ?_;cases mS:st.rem vv with
 |true=>
  rw[mS]at y3;have hp:=mR (-1) (YV (-1) (fun c=>by omega) (fun _=>⟨rfl,mS⟩));have hk:st.known i vv=⟨6,st.place i (st.af vv,-1),y.slot,e0⟩:=by
   unfold ah.known;rw[Y5,if_neg ho,if_pos mS,bD hn];unfold ah.bP;rw[mS]
  rw[hk];generalize st.place i (st.af vv,-1)=pl at hp;unfold gE at hp;refine jF ?_;refine VC.seq (VC.draws ⟨?_,?_,trivial⟩)
  all_goals
   refine ae ?_;refine kH hp Zr ZP (fun v Post hv=>?_);obtain⟨rfl,rfl⟩:=hv;simp only[aJ];refine ae ?_;exact⟨.inr rfl,_,[B],.aN (us:=jN ⟨6,pl,y.slot,e0⟩) Zr Zr (fun y hy=>by simp only[Vd,QF];repeat (first|exact Or.inl hy|refine Or.inr ?_)) .nil,ZI,rfl,rfl⟩
 |false=>
  rw[mS]at y3;have hui:st.af vv=i:=by
   rcases Py with k|k
   ·exact k
   ·have:=k.2 (by rw[Y5];exact hn);rw[mS]at this;cases this
  have hm:vv∈st.locals i false:=lp.2 ⟨DV,hui,by rw[Y5];exact hn,mS⟩;have H7:=hB.loc i false;have hslb:=x6 hm;have Wt:(y.slot:Int)=mW (st.locals i false) vv:=by
   rw[bD hn];unfold ah.bP;rw[mS,hui]
  have hk:st.known i vv=⟨5,st.args.getD i 0+(st.copied i).length+y.slot,0,e0⟩:=by
   unfold ah.known;rw[Y5,if_neg ho,if_neg (by rw[mS];simp),Wt]
  rw[hk];rw[<- Wt]at hslb;generalize E0:st.args.getD i 0=na at*;generalize hnc:(st.copied i).length=nc at*;refine ae ?_;exact⟨.inr rfl,_,[B],.aN (us:=jN ⟨5,(na:Int)+nc+y.slot,0,e0⟩) Zr Zr (fun y hy=>by simp only[Vd,QF];repeat (first|exact Or.inl hy|refine Or.inr ?_)) .nil,ZI,rfl,rfl⟩
set_option maxHeartbeats 12800000
theorem sh(st:ah)(i:Nat):∀l:List PN,fw st i l=l.map (gN st i):=by
 intro l
 induction l with
 |nil=>rfl
 |cons x r ih=>rw[fw,ih];rfl
theorem II(st:ah)(xM:Ph st)(hB:Ii st)(U:List UC)(Vs:List az)(hR:fg st st.outer.length U Vs)(i:Nat)(u:UC)(hu:U[i]? =some u)(T:List kC):∀(N:Nat) (x:PN),PN.w x<=N->N<=1073741824->∀ws,xd T (Vs.map az.q) x ws->cJ (me st i) x=true->
 aw Tryz.prog 117 [kF u.q,.agg ws.toArray] [WK U Vs,T] (fun v Post=>∃ws' B,(v=.agg ws'.toArray/\HX (T++B) (gN st i x) ws')/\Post=[WK U Vs,T,B]):=by
 intro N
 induction N with
 |zero=>intro x hx;have:=PN.nC x;omega
 |succ N ih=>
  intro x hx hN ws h Pf;cases h with
  |@mk k nm lit refs unit fM kids lv rv vv a c bk o us hl hr hv ok hz ha hm hs=>
  simp only[PN.w]at hx;have KB:=PN.Rc kids;simp only[cJ,vF,ve,vR]at Pf;obtain⟨hraw1,hraw2⟩:=Pf;have Gq:=hr;have hv0:=hv;obtain⟨ra,rc,rfl,uz⟩:=hr;obtain⟨va,vc,rfl,hvd⟩:=hv;have EW:=hl;obtain⟨y1,y2,y3,y4,y5,y6,y7,rfl⟩:∃(y1:Nat) (y2:Int) (y3:Nat) (y4:ByteArray) (y5:Option Addr) (y6 y7:Nat),lv=[.int .u8 y1,.int .i64 y2,.int .u64 y3,.string y4,.slice y5 y6 y7]:=by
   cases hl with
   |mk Tt IS p8 du=>exact⟨_,_,_,_,_,_,_,rfl⟩
  obtain⟨n1,L7⟩:∃n1,n1=(zE refs).length:=⟨_,rfl⟩;obtain⟨n2,AY⟩:∃n2,n2=((eu refs).map fun r=>(Vs.map az.q).getD r.index.toNat 0).length:=⟨_,rfl⟩;rw[<- L7]at Gq hz|-;rw[<- AY]at hv0|-;simp only[aJ];refine aw.intro low117 (by simp[n117]) ?_;refine VC.join (α:=Nat×Nat×Nat) (bi:=fun q=>[(0,kF u.q),(3,kF q.1),(4,kF q.2.1)]) (Hf:=fun q=>[kA q.1 0 [.int .u8 k,.string nm,.int .u8 y1,.int .i64 y2,.int .u64 y3,.string y4,.slice y5 y6 y7,.slice ra n1 rc,.int .i64 unit,.bool fM,.slice none 0 0,.slice va n2 vc,.slice a kids.length c],kA q.2.1 0 (rP 0 e0 0 0 0 e0 none 0 0 none 0 0 0 false none 0 0),WK U Vs,T]) (I:=fun _=>True) ?_ ?_
  ·refine ae ?_;refine kX Zr (fun q3=>?_);simp only[Value.cells];refine kO (fun q4=>?_);refine ae ?_;exact⟨(q3,q4,0),trivial,ZU,by unfold e0;exact bS⟩
  rintro⟨q3,q4,_⟩ _
  dsimp only;refine VC.join (α:=Nat) (bi:=fun q5=>[(0,kF u.q),(3,kF q3),(4,kF q4),(5,kF q5)]) (Hf:=fun q5=>[kA q5 0 (rP k nm y1 y2 y3 y4 y5 y6 y7 ra n1 rc unit fM none 0 0),kA q3 0 [.int .u8 k,.string nm,.int .u8 y1,.int .i64 y2,.int .u64 y3,.string y4,.slice y5 y6 y7,.slice ra n1 rc,.int .i64 unit,.bool fM,Nz,.slice va n2 vc,.slice a kids.length c],kA q4 0 (rP 0 e0 0 0 0 e0 none 0 0 none 0 0 0 false none 0 0),WK U Vs,T]) (I:=fun _=>True) ?_ (fun q5 _=>?_)
  ·refine ae ?_;refine kO (fun q5=>?_);refine ae ?_;exact⟨q5,trivial,ZU,ZI⟩
  refine VC.join (α:=Value×List kC) (bi:=fun _=>[(0,kF u.q),(3,kF q3),(4,kF q4),(5,kF q5)]) (Hf:=fun s=>[kA q5 0 [.int .u8 k,.string nm,.int .u8 y1,.int .i64 y2,.int .u64 y3,.string y4,.slice y5 y6 y7,s.1,.int .i64 unit,.bool fM,Nz],kA q3 0 [.int .u8 k,.string nm,.int .u8 y1,.int .i64 y2,.int .u64 y3,.string y4,.slice y5 y6 y7,.slice ra n1 rc,.int .i64 unit,.bool fM,Nz,.slice va n2 vc,.slice a kids.length c],kA q4 0 (rP 0 e0 0 0 0 e0 none 0 0 none 0 0 0 false none 0 0),WK U Vs,T,s.2]) (I:=fun s=>jy (T++s.2) s.1 (refs.map (st.fix i))) ?_ ?_
  ·rcases ok.one with au|au
   rotate_left
   ·have oC:zE refs=refs:=V8.2 fun r hr=>Zt (au r hr)
    have hrw:eu refs=[]:=V7.2 fun r hr=>by simpa using au r hr
    rw[hrw]at AY;have hn20:n2=0:=by rw[AY];rfl
    subst hn20;have hfx:refs.map (st.fix i)=refs:=by
     conv=>rhs;rw[<- List.map_id refs]
     exact QB fun r hr=>by unfold ah.fix;rw[if_neg (au r hr)];rfl
    rw[oC]at Gq;refine ae ?_;refine VC.loop (α:=Unit) (bi:=fun _=>[(0,kF u.q),(3,kF q3),(4,kF q4),(5,kF q5),(13,.slice va 0 vc),(14,vi 0),(15,vi 0)]) (Hf:=fun _=>[kA q5 0 (rP k nm y1 y2 y3 y4 y5 y6 y7 ra n1 rc unit fM none 0 0),kA q3 0 [.int .u8 k,.string nm,.int .u8 y1,.int .i64 y2,.int .u64 y3,.string y4,.slice y5 y6 y7,.slice ra n1 rc,.int .i64 unit,.bool fM,Nz,.slice va 0 vc,.slice a kids.length c],kA q4 0 (rP 0 e0 0 0 0 e0 none 0 0 none 0 0 0 false none 0 0),WK U Vs,T]) (I:=fun _=>True) (μ:=fun _=>0) () trivial ZU ZI ?_;intro _ _;refine ae ?_;rw[show decide ((0:Int) < 0)=false from rfl];refine ae ?_;exact⟨(.slice ra n1 rc,[]),by rw[hfx];exact Gq.more (fun y hy=>Zw _ hy),ZU,ao.cut (M:=[kA q5 0 (rP k nm y1 y2 y3 y4 y5 y6 y7 ra n1 rc unit fM none 0 0),kA q3 0 [.int .u8 k,.string nm,.int .u8 y1,.int .i64 y2,.int .u64 y3,.string y4,.slice y5 y6 y7,.slice ra n1 rc,.int .i64 unit,.bool fM,Nz,.slice va 0 vc,.slice a kids.length c],kA q4 0 (rP 0 e0 0 0 0 e0 none 0 0 none 0 0 0 false none 0 0),WK U Vs,T]) ZI (ao.perm Zs)⟩
   have oC:zE refs=[]:=V7.2 fun r hr=>by simpa using au r hr
   have hrw:eu refs=refs:=V8.2 fun r hr=>Zt (au r hr)
   rw[hrw]at hvd AY;have hnr:n2=refs.length:=by rw[AY,Q5]
   subst hnr;have hz1:=hz oC;have hn10:n1=0:=by rw[L7,oC];rfl
   subst hn10;rw[Value.slice.injEq]at hz1;obtain⟨rfl,_,rfl⟩:=hz1;refine ae ?_;refine VC.loop (α:=Nat×Value×List Value) (bi:=fun s=>[(0,kF u.q),(3,kF q3),(4,kF q4),(5,kF q5),(13,.slice va refs.length vc),(14,vi refs.length),(15,vi s.1)]) (Hf:=fun s=>[kA q5 0 [.int .u8 k,.string nm,.int .u8 y1,.int .i64 y2,.int .u64 y3,.string y4,.slice y5 y6 y7,s.2.1,.int .i64 unit,.bool fM,Nz],aj s.2.1 ((((refs.take s.1).map (st.fix i))).flatMap jN) s.2.2,kA q3 0 [.int .u8 k,.string nm,.int .u8 y1,.int .i64 y2,.int .u64 y3,.string y4,.slice y5 y6 y7,Nz,.int .i64 unit,.bool fM,Nz,.slice va refs.length vc,.slice a kids.length c],kA q4 0 (rP 0 e0 0 0 0 e0 none 0 0 none 0 0 0 false none 0 0),WK U Vs,T]) (I:=fun s=>s.1<=refs.length/\jA 4 s.2.1 s.1 ((((refs.take s.1).map (st.fix i))).flatMap jN) s.2.2) (μ:=fun s=>refs.length - s.1) (0,Nz,[]) ⟨Qv _,.nil⟩ ZU (ao.cut (M:=[kA q5 0 (rP k nm y1 y2 y3 y4 y5 y6 y7 none 0 0 unit fM none 0 0),kA q3 0 [.int .u8 k,.string nm,.int .u8 y1,.int .i64 y2,.int .u64 y3,.string y4,.slice y5 y6 y7,Nz,.int .i64 unit,.bool fM,Nz,.slice va refs.length vc,.slice a kids.length c],kA q4 0 (rP 0 e0 0 0 0 e0 none 0 0 none 0 0 0 false none 0 0),WK U Vs,T]) ZI (ao.perm (by simp[aj]))) ?_
   rintro⟨j,sv,sp⟩ ⟨hj,gT⟩
   simp only at hj gT;dsimp only;obtain⟨sa,sc,rfl⟩:=gT.form;refine ae ?_;by_cases aS:j < refs.length;rotate_left
   ·rw[show decide ((j:Int) < (refs.length:Int))=false from Zf Zo];have hje:j=refs.length:=by omega
    subst hje;rw[List.take_length]at gT|-;refine ae ?_;refine⟨(.slice sa refs.length sc,aj (.slice sa refs.length sc) ((refs.map (st.fix i)).flatMap jN) sp),?_,ZU,ZI⟩;have:=C6 (B:=[]) (rs:=refs.map (st.fix i)) (by rw[Q5];exact gT);simp only[vm]at this;exact this.more fun y hy=>QG _ hy
   rw[show decide ((j:Int) < (refs.length:Int))=true from Zt Zo];obtain⟨r,hrj⟩:∃r,refs[j]? =some r:=⟨_,Zg aS⟩;obtain⟨v,Ic,Pw⟩:=ok.raw r (Zv hrj) (au r (Zv hrj));rw[Q5]at Pw;obtain⟨y,hy⟩:∃y,Vs[v]? =some y:=⟨_,Zg Pw⟩;have hokv:me st i v=true:=by
    rcases hraw1 r (Zv hrj)with k|k
    ·rw[au r (Zv hrj)]at k;cases k
    ·rw[Ic]at k;exact k
   obtain⟨vb,vo,rfl,hvc⟩:=hvd j y.q (by
    rw[Vu,hrj,Ic];show some ((Vs.map az.q).getD v 0)=_;rw[Vh,Vu,hy];rfl)
   have hvc:kC.cell vb (vo+j) (kF y.q)∈T:=hvc;have I5:=SF st xM hB U Vs hR i u hu v y hy hokv;have hfx:st.fix i r=st.known i v:=by
    rw[Ic];show(if(99:Nat)=99 then st.known i ((v:Int)).toNat else _)=_;rw[if_pos rfl,vV]
   have cH:(refs.take (j+1)).map (st.fix i)=(refs.take j).map (st.fix i)++[st.known i v]:=by
    rw[Qe,hrj,QA];simp only[Option.toList_some,QC,QE,hfx]
   obtain⟨kr,hkr⟩:∃kr,kr=st.known i v:=⟨_,rfl⟩;rw[<- hkr]at I5 cH;unfold jN at I5;refine ae ?_;refine VC.draws ⟨?_,?_,trivial⟩
   all_goals
    refine ae ?_;refine kH I5 Zr ZP (fun v Post hv=>?_);obtain⟨rfl,rfl⟩:=hv;simp only[aJ];refine ae ?_;refine jB (out:=[.int .u8 kr.kind,.int .i64 kr.index,.int .i64 kr.slot,.string kr.name]) Zr Zr (fun rr=>?_);refine ae ?_;refine jH (k:=j) (m:=1) (xs:=((refs.take j).map (st.fix i)).flatMap jN) (sp:=sp) (ys:=[.int .u8 kr.kind,.int .i64 kr.index,.int .i64 kr.slot,.string kr.name]) Zr Zr gT ZK Zr ?_ rfl Zr Zr Zd Zo (fun eW bE aT=>?_)
    ·exact ET
    have gS:((refs.take j).map (st.fix i)).flatMap jN++([.int .u8 kr.kind,.int .i64 kr.index,.int .i64 kr.slot,.string kr.name]:List Value)=((refs.take (j+1)).map (st.fix i)).flatMap jN:=by
     rw[cH,VV,Vb];rfl
    rw[gS]at aT|-;obtain⟨nU,nV,rfl⟩:=aT.form;refine ae ?_;exact⟨(j+1,.slice nU (j+1) nV,bE),⟨by simp only;omega,aT⟩,by simp only;omega,ZU,ZI⟩
  rintro⟨rv2,B1⟩ hrefs
  simp only at hrefs;dsimp only;obtain⟨rb,rn,Ws⟩:∃rb rn,rv2=.slice rb (refs.map (st.fix i)).length rn:=let⟨e1,e2,e3,_⟩:=hrefs;⟨e1,e2,e3⟩;subst Ws;generalize hnr:(refs.map (st.fix i)).length=nr at*;refine ae ?_;refine VC.loop (α:=Nat×Value×List (List Value)×List Value×List kC) (bi:=fun s=>[(0,kF u.q),(4,kF q4),(5,kF q5),(29,.slice a kids.length c),(30,vi kids.length),(31,vi s.1)]) (Hf:=fun s=>[kA q5 0 [.int .u8 k,.string nm,.int .u8 y1,.int .i64 y2,.int .u64 y3,.string y4,.slice y5 y6 y7,.slice rb nr rn,.int .i64 unit,.bool fM,s.2.1],aj s.2.1 s.2.2.1.flatten s.2.2.2.1,kA q4 0 (rP 0 e0 0 0 0 e0 none 0 0 none 0 0 0 false none 0 0),WK U Vs,T,B1,s.2.2.2.2]) (I:=fun s=>s.1<=kids.length/\jA 11 s.2.1 s.1 s.2.2.1.flatten s.2.2.2.1/\ff (T++(B1++s.2.2.2.2)) ((kids.take s.1).map (gN st i)) s.2.2.1) (μ:=fun s=>kids.length - s.1) (0,Nz,[],[],[]) ⟨Qv _,.nil,ff.nil _⟩ ZU (ao.cut (M:=[kA q5 0 (rP k nm y1 y2 y3 y4 y5 y6 y7 rb nr rn unit fM none 0 0),kA q4 0 (rP 0 e0 0 0 0 e0 none 0 0 none 0 0 0 false none 0 0),WK U Vs,T,B1]) ZI (ao.perm (by simp[aj]))) ?_
  rintro⟨j,sv,rows,sp,B2⟩ ⟨hj,gT,dJ⟩
  simp only at hj gT dJ;dsimp only;obtain⟨sa,sc,rfl⟩:=gT.form;refine ae ?_;by_cases aS:j < kids.length;rotate_left
  ·rw[show decide ((j:Int) < (kids.length:Int))=false from Zf Zo];have hje:j=kids.length:=by omega
   subst hje;rw[List.take_length,<- sh]at dJ;have hlk:(fw st i kids).length=kids.length:=by rw[sh,Q5]
   have NJ:=KV (l:=fw st i kids) (by rw[hlk];exact gT) dJ;have iZ:∀y∈T++B1,y∈T++(aj (.slice sa kids.length sc) rows.flatten sp++(B1++B2)):=fun y hy=>by
    rcases QF.1 hy with hy|hy
    ·exact Zw _ hy
    ·exact QG _ (QG _ (Zw _ hy))
   have Ib:=p_made (T:=T++(aj (.slice sa kids.length sc) rows.flatten sp++(B1++B2))) (k:=k) (nm:=nm) (lit:=lit) (refs:=refs.map (st.fix i)) (unit:=unit) (fM:=fM) (kids:=fw st i kids) (EW.more fun y hy=>Zw _ hy) (hrefs.more iZ) (NJ.more fun y hy=>by
    rcases QF.1 hy with hy|hy
    ·exact QG _ (Zw _ hy)
    ·rcases QF.1 hy with hy|hy
     ·exact Zw _ hy
     ·exact QG _ (QG _ hy))
   refine ae ?_;refine⟨.inr rfl,_,[WK U Vs,T,aj (.slice sa kids.length sc) rows.flatten sp++(B1++B2)],.aN (us:=(rP k nm y1 y2 y3 y4 y5 y6 y7 rb nr rn unit fM sa kids.length sc)) Zr Zr (fun y hy=>by simp only[Vd,QF];repeat (first|exact Or.inl hy|refine Or.inr ?_)) .nil,ao.cut (M:=[WK U Vs,T,aj (.slice sa kids.length sc) rows.flatten sp,B1,B2]) ZI (ao.perm Zs),⟨_,_,⟨rfl,?_⟩,rfl⟩⟩;rw[gN];exact Ib
  rw[show decide ((j:Int) < (kids.length:Int))=true from Zt Zo];obtain rfl:=ha Zo;obtain⟨x,hxj⟩:∃x,kids[j]? =some x:=⟨_,Zg aS⟩;have hxm:=Zv hxj;have NG:=hm j aS;have Pt:=hs j x hxj;have aC:=ih x (by have:=PN.K9 hxm;omega) Zo _ Pt (qH hraw2 x hxm);generalize us j=uj at*;obtain⟨f1,f2,f3,f4,f5,f6,f7,r1,r2,r3,p1,p2,p3,k1,k2,k3,rfl⟩:=lr Pt;have cH:(kids.take (j+1)).map (gN st i)=(kids.take j).map (gN st i)++[gN st i x]:=by
   rw[Qe,hxj,QA];rfl
  refine ae ?_;refine kS Zr (fun z hz=>by have h9:=NG z hz;simp[h9]) rfl ?_;refine ae ?_;refine kO (fun q9=>?_);refine ae ?_;refine VC.draws ⟨?_,?_,trivial⟩
  all_goals
   refine ae ?_;refine kH aC Zr ZP (fun v Post hv=>?_);obtain⟨ws',B3,⟨rfl,hp⟩,rfl⟩:=hv;simp only[aJ];obtain⟨pn,Cv⟩:∃pn,pn=gN st i x:=⟨_,rfl⟩;rw[<- Cv]at hp cH;have tz:=hp;obtain⟨g1,g2,g3,g4,g5,g7,s1,s3,t1,t3,_,_,_,rfl,_⟩:=Sp tz;refine ae ?_;refine jB (out:=(rP pn.kind pn.name g1 g2 g3 g4 g5 pn.lit.items.length g7 s1 pn.refs.length s3 pn.unit pn.super t1 pn.kids.length t3)) Zr Zr (fun rr=>?_);refine ae ?_;refine jH (k:=j) (m:=1) (xs:=rows.flatten) (sp:=sp) (ys:=(rP pn.kind pn.name g1 g2 g3 g4 g5 pn.lit.items.length g7 s1 pn.refs.length s3 pn.unit pn.super t1 pn.kids.length t3)) Zr Zr gT ZK Zr ?_ rfl Zr Zr Zd Zo (fun eW bE aT=>?_)
   ·exact ET
   have gS:rows.flatten++((rP pn.kind pn.name g1 g2 g3 g4 g5 pn.lit.items.length g7 s1 pn.refs.length s3 pn.unit pn.super t1 pn.kids.length t3):List Value)=(rows++[((rP pn.kind pn.name g1 g2 g3 g4 g5 pn.lit.items.length g7 s1 pn.refs.length s3 pn.unit pn.super t1 pn.kids.length t3):List Value)]).flatten:=by simp
   rw[gS]at aT|-;obtain⟨nU,nV,rfl⟩:=aT.form;refine ae ?_;refine⟨(j+1,.slice nU (j+1) nV,rows++[(rP pn.kind pn.name g1 g2 g3 g4 g5 pn.lit.items.length g7 s1 pn.refs.length s3 pn.unit pn.super t1 pn.kids.length t3)],bE,B2++B3),⟨by simp only;omega,aT,?_⟩,by simp only;omega,ZU,?_⟩
   ·show ff (T++(B1++(B2++B3))) ((kids.take (j+1)).map (gN st i)) _;rw[cH];refine(dJ.more fun y hy=>?_).snoc (hp.more fun y hy=>?_)
    ·simp only[QF]at hy|-;rcases hy with hy|hy|hy
     ·exact .inl hy
     ·exact .inr (.inl hy)
     ·exact .inr (.inr (.inl hy))
    ·simp only[QF]at hy|-;rcases hy with hy|hy
     ·exact .inl hy
     ·exact .inr (.inr (.inr hy))
   ·simp only;refine ao.cut (M:=[kA q5 0 (rP k nm y1 y2 y3 y4 y5 y6 y7 rb nr rn unit fM nU (j+1) nV),aj (.slice nU (j+1) nV) (rows++[((rP pn.kind pn.name g1 g2 g3 g4 g5 pn.lit.items.length g7 s1 pn.refs.length s3 pn.unit pn.super t1 pn.kids.length t3):List Value)]).flatten bE,kA q4 0 (rP 0 e0 0 0 0 e0 none 0 0 none 0 0 0 false none 0 0),WK U Vs,T,B1,B2,B3]) ZI (ao.perm Zs)
end Go.Proofs.YtijnokbblmbpkaaGreatDoor
namespace Go.V
open Go
def xf {α:Type}(w:Nat)(Rd:α->List Value->Prop)(T:List kC)(v:Value)(l:List α):Prop:=∃(a:Option Addr) (c bk o:Nat) (us:Nat->List Value),v=.slice a l.length c/\(0 < l.length->a=some ⟨bk,o,none⟩)/\(∀i,i < l.length->∀y∈kA bk (o+i*w) (us i),y∈T)/\∀(i:Nat) x,l[i]? =some x->Rd x (us i)
structure ie {α:Type}(w:Nat)(Rd:α->List Value->Prop)(l:List α)(rows:List (List Value)):Prop where
 len:rows.length=l.length
 w:∀r∈rows,r.length=w
 rd:∀(i:Nat) x r,l[i]? =some x->rows[i]? =some r->Rd x r
section
variable {α:Type} {w:Nat} {Rd Rd':α->List Value->Prop}
theorem ie.nil:ie w Rd [] []:=⟨rfl,Zs,fun i x r h=>by simp at h⟩
theorem ie.imp {l:List α}{rows:List (List Value)}(h:ie w Rd l rows)(hs:∀x r,Rd x r->Rd' x r):ie w Rd' l rows:=⟨h.len,h.w,fun i x r hx hr=>hs _ _ (h.rd i x r hx hr)⟩
theorem ie.snoc {l:List α}{rows:List (List Value)}{x:α}{r:List Value}(h:ie w Rd l rows)(hw:r.length=w)(hx:Rd x r):ie w Rd (l++[x]) (rows++[r]):=by
 refine⟨by simp[h.len],fun r' AK=>?_,fun i y s hy hs=>?_⟩
 ·rcases QF.1 AK with h1|h1
  ·exact h.w r' h1
  ·rw[QR.1 h1];exact hw
 ·exact zAO
theorem xf.nil(T:List kC):xf w Rd T Nz []:=⟨none,0,0,0,fun _=>[],rfl,fun h=>absurd h Zs,fun i hi=>absurd hi Zs,fun i x h=>by simp at h⟩
theorem xf.imp {T T':List kC}{v:Value}{l:List α}(h:xf w Rd T v l)(hs:∀x∈T,x∈T')(hr:∀x r,Rd x r->Rd' x r):xf w Rd' T' v l:=by
 obtain⟨a,c,bk,o,us,h1,h2,h3,h4⟩:=h;exact⟨a,c,bk,o,us,h1,h2,fun i hi y hy=>hs _ (h3 i hi y hy),fun i x hx=>hr _ _ (h4 i x hx)⟩
theorem X7 {B:List kC}{l:List α}{sv:Value}{rows:List (List Value)}{sp:List Value}(bD:jA w sv l.length rows.flatten sp)(hr:ie w Rd l rows):xf w Rd (aj sv rows.flatten sp++B) sv l:=by
 have aB:∀i,i < l.length->rows[i]? =some (rows.getD i []):=fun i hi=>by
  exact zE5
 generalize hm:l.length=m at bD;generalize Ie:rows.flatten=xs at bD|-;cases bD with
 |@mk bk o _ c _ _ h1 h2 h3=>
  rw[<- hm];subst Ie;refine⟨_,c,bk,o,fun i=>rows.getD i [],rfl,fun _=>rfl,fun i hi y hy=>?_,fun i x hx=>?_⟩
  ·exact zDD
  ·have hi:=(Vt.1 hx).1;exact hr.rd i x _ hx (aB i hi)
 |nil=>
  have h0:l=[]:=vz hm;subst h0;exact xf.nil _
end
def K7(x:wY)(cv bv:Value):List Value:=[.int .i64 x.outer,.int .i64 x.args,cv,.int .i64 x.locals,.int .i64 x.aA,bv]
def Nt(T:List kC)(x:wY)(vs:List Value):Prop:=∃cv bv,vs=K7 x cv bv/\jy T cv x.copied/\AN T bv x.body
theorem Nt.more {T T':List kC}(hs:∀x∈T,x∈T'){x:wY}{vs:List Value}(h:Nt T x vs):Nt T' x vs:=by
 obtain⟨cv,bv,h1,h2,h3⟩:=h;exact⟨cv,bv,h1,h2.more hs,h3.more hs⟩
theorem Nt.len {T:List kC}{x:wY}{vs:List Value}(h:Nt T x vs):vs.length=6:=by
 obtain⟨cv,bv,rfl,_⟩:=h;rfl
def pN(T:List kC)(v:Value)(l:List wY):Prop:=xf 6 (Nt T) T v l
theorem pN.more {T T':List kC}{v:Value}{l:List wY}(h:pN T v l)(hs:∀x∈T,x∈T'):pN T' v l:=xf.imp h hs fun _ _ k=>k.more hs
theorem pN.nil(T:List kC):pN T Nz []:=xf.nil T
end Go.V
namespace Go.Proofs.YtijnokbblmbpkaaGreatDoor
open Go Go.V
set_option maxHeartbeats 3200000
set_option maxRecDepth 100000
theorem sZ(st:ah)(U:List UC)(Vs:List az)(hR:cK st U Vs)(i:Nat)(u:UC)(hu:U[i]? =some u)(fx:Bool)(hb:st.vars.length < 1073741824):
 aw Tryz.prog 111 [kF u.q,.bool fx] [WK U Vs] (fun r Post=>∃U' y,(r=kF y.q/\(∀nm,cK (st.bf ⟨nm,i,fx,-1⟩) U' (Vs++[y]))/\U'.map UC.q=U.map UC.q/\U'.map UC.body=U.map UC.body)/\Post=[WK U' (Vs++[y])]):=by
 obtain⟨Wx,bD⟩:=hR.tm i u hu;have DU:u.ab.length<=st.vars.length:=by
  rw[Wx,Q5];exact Qp (Q4 _ _) Zs
 obtain⟨R,hp,hr⟩:=Tx (V:=Vs) hu;refine aw.intro low111 (by simp[n111]) ?_;refine VC.imp (H':=[kA u.q 5 [u.tv],aj u.tv (u.ab.map fun b=>kM (some b)) u.iJ,R]) (ao.perm (by simpa using hp)) ?_;have hlen:u.ab.length=(u.ab.map fun b=>kM (some b)).length:=by simp
 obtain⟨ta,tc,bF⟩:=bD.form;refine ae ?_;refine kX Zr (fun q=>?_);simp only[Value.cells];refine ae ?_;refine jB (out:=[kF q]) Zr Zr (fun q2=>?_);rw[bF]at bD|-;refine jH (k:=u.ab.length) (m:=1) (xs:=u.ab.map fun b=>kM (some b)) (sp:=u.iJ) (ys:=[kF q]) Zr Zr bD ZK Zr ?_ rfl Zr Zr Zd Zo (fun eW bE aT=>?_)
 ·exact ET
 obtain⟨a',c',rfl⟩:=aT.form;have gS:(u.ab.map fun b=>kM (some b))++[kF q]=(u.ab++[q]).map fun b=>kM (some b):=by simp[kM]
 rw[gS]at aT|-;refine ae ?_;refine kG (Post:=[WK (U.set i {u with ab:=u.ab++[q],tv:=.slice a' (u.ab.length+1) c',iJ:=bE}) (Vs++[⟨q,u.q,-1,fx,false,0⟩])]) (.inr rfl) (.tmp (v:=kF q) Zr .nil) ⟨U.set i {u with ab:=u.ab++[q],tv:=.slice a' (u.ab.length+1) c',iJ:=bE},⟨q,u.q,-1,fx,false,0⟩,⟨rfl,fun nm=>?_,ze hu rfl,sL hu rfl⟩,rfl⟩ ?_
 ·exact cz.bf hR rfl hu (by simp only;omega) ⟨rfl,rfl,rfl,rfl,rfl⟩ rfl rfl (by rw[if_pos (show(-1:Int) < 0 by decide)]) (by simpa using aT)
 ·refine ao.cut (M:=[kA q 0 [kF u.q,.int .i64 (-1),.bool fx,.bool false,.int .i64 0],kA u.q 5 [.slice a' (u.ab.length+1) c'],aj (.slice a' (u.ab.length+1) c') ((u.ab++[q]).map fun b=>kM (some b)) bE,R]) ZI (ao.perm ?_);have h1:=HQ (U.set i {u with ab:=u.ab++[q],tv:=.slice a' (u.ab.length+1) c',iJ:=bE}) Vs ⟨q,u.q,-1,fx,false,0⟩;have h2:=hr (u.ab++[q]) (.slice a' (u.ab.length+1) c') bE;simp only[Vd,Ve,vm];refine List.Perm.trans ?_ h1.symm;refine vX _ ?_;rw[<- vj];exact h2.symm
end Go.Proofs.YtijnokbblmbpkaaGreatDoor
namespace Go.Proofs
open Go.Shelf
shelf_lay_g SlLaysW.n5 Slmc 5 at Tryz 171 as Tryz.slcl1
end Go.Proofs
namespace Go.Proofs.YtijnokbblmbpkaaGreatDoor
open Go Go.V
set_option maxHeartbeats 3200000
set_option maxRecDepth 100000
theorem Ix(b:Nat)(es:Array MapEntry)(c:Nat):aw Tryz.prog 171 [.map (some b)] [[.obj b (.map es c)]] (fun v Post=>∃b',v=.map (some b')/\Post=[[.obj b (.map es c)],[.obj b' (.map es c)]]):=by
 refine⟨by kernel_rfl,fun F w hs=>?_⟩;have hb:w.heap[b]? =some (.map es c):=(hs.obj (b:=b) (o:=.map es c) Zs).1;refine(AnyW.maps_Clone Tryz.slcl1 b es c w hb).mono ?_;exact zBD
def F5(q:Nat):Value:=.iface 80 (kF q)
def oW(q:Nat):List PanicEntry:=[{v:=F5 q,recovered:=false}]
def R6:ByteArray:=⟨#[82,101,115,111,108,118,101]⟩
def jP(q:Nat)(e:Nat)(p:Int):List kC:=kA q 0 [.string R6,.int .i64 p,.iface 44 (.int .i64 e)]
theorem df(e:Nat)(p:Int):ji Tryz.prog 113 [vi e,.int .i64 p] [] (fun _ _=>False) (fun ch Post=>∃q,ch=oW q/\Post=[jP q e p]):=by
 refine ji.intro low113 (by simp[n113]) ?_;refine ae ?_;refine kX Zr (fun q=>?_);simp only[Value.cells];refine ae ?_;refine S6 Zr ?_;refine⟨[jP q e p],?_,q,rfl,rfl⟩;unfold jP R6;exact bS
end Go.Proofs.YtijnokbblmbpkaaGreatDoor

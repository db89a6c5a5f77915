/-
  A unit's temporaries get their places; what is copied into it is found.
-/
import Derived.Test.YtijnokbblmbpkaaGreatDoorS22
import Derived.Test.YtijnokbblmbpkaaGreatDoorS17
import Derived.Test.YtijnokbblmbpkaaGreatDoorS20
set_option linter.unusedSimpArgs false
set_option linter.unusedVariables false
namespace Go.Proofs.YtijnokbblmbpkaaGreatDoor
open Go Go.V
set_option maxHeartbeats 6400000
set_option maxRecDepth 100000
theorem cntT_le(st:SSt)(l:List Nat)(r:Bool):zc st l r<=l.length:=Vo _ _
theorem cntT_all(st:SSt)(i:Nat)(r:Bool):zc st (st.temps i) r=(st.locals i r).length:=by unfold zc;rw[locals_temps]
theorem lay_spec(st:SSt)(hPh:Ph st)(U:List UC)(Vs:List VCl)(i:Nat)(hR:RepL st i U Vs)(u:UC)(hu:U[i]? =some u)(hb:st.vars.length<=1048576/\st.outer.length<=1048576/\∀j,st.args.getD j 0<=1048576):
 Fun Tryz.prog 114 [kE u.q] [WK U Vs] (fun r Post=>∃U' Vs',(r=.tuple #[]/\RepL st (i+1) U' Vs'/\U'.map UC.q=U.map UC.q/\U'.map UC.body=U.map UC.body/\Vs'.map VCl.q=Vs.map VCl.q)/\Post=[WK U' Vs']):=by
 obtain⟨hbv,hbo,hba⟩:=hb;have hil:i < st.outer.length:=by have:=(Vd.1 hu).1;rw[hR.ul]at this;exact this
 obtain⟨htm,hsl⟩:=hR.tm i u hu;obtain⟨n1,n2,n3,n4,n5⟩:=hR.nl i u hu (QW _);obtain⟨mm,t1,t2,t3,t4⟩:=hR.nd i u hu;obtain⟨tp,hTp⟩:∃l,l=st.temps i:=⟨_,rfl⟩;have htl:u.temps.length=tp.length:=by rw[htm,Vp,hTp]
 have htb:tp.length<=1048576:=by
  rw[hTp];unfold SSt.temps;have h1:=Vo (fun v=>decide (st.unitOf v=i)&&decide (st.ownOf v < 0)) (List.range st.vars.length);rw[List.length_range]at h1;omega
 have hpt:=ptrs_made rfl hsl;obtain⟨ta,tc,htv⟩:=hsl.form;obtain⟨U1,hU1⟩:∃U1:Nat->List UC,U1=fun j=>U.set i {u with locals:=zc st (tp.take j) false,vector:=zc st (tp.take j) true}:=⟨_,rfl⟩
 obtain⟨V1,hV1⟩:∃V1:Nat->List VCl,V1=fun j=>slV st Vs (tp.take j):=⟨_,rfl⟩
 have hU0:U1 0=U:=by
  rw[hU1];simp only[QS];have e:({u with locals:=zc st [] false,vector:=zc st [] true}:UC)=u:=by
   cases u;simp only at n1 n2;subst n1;subst n2;rfl
  rw[e];exact wi hu
 have hV0:V1 0=Vs:=by
  rw[hV1];simp only[QS];exact slV_nil st Vs
 have hUi:∀j,(U1 j)[i]? =some {u with locals:=zc st (tp.take j) false,vector:=zc st (tp.take j) true}:=fun j=>by
  rw[hU1];simp only;rw[Vh,if_pos rfl,if_pos (Vd.1 hu).1]
 refine Fun.intro low114 (by simp[n114]) ?_;refine VC.join (α:=Nat) (Γf:=fun q=>[(1,kE q)]) (Hf:=fun q=>[kA q 0 [kE u.q],WK (U1 0) (V1 0)]) (I:=fun _=>True) ?_ (fun q1 _=>?_)
 ·refine GOH ?_;refine kd Zr (fun q=>?_);simp only[Value.cells];refine GOH ?_;exact⟨q,trivial,ZU,by rw[hU0,hV0];exact IMx⟩
 refine VC.scope ?_;refine VC.join (α:=Unit) (Γf:=fun _=>[(1,kE q1)]) (Hf:=fun _=>[kA q1 0 [kE u.q],WK (U1 tp.length) (V1 tp.length)]) (I:=fun _=>True) ?_ (fun _ _=>?_)
 ·have k5:kC.cell u.q 5 (.slice ta tp.length tc)∈WK (U1 0) (V1 0):=by
   rw[hU0,hV0];exact zL hu _ (Q5 _ (Zw _ (kI.2 ⟨5,_,by unfold UC.row;rw[htv,htl];rfl,rfl⟩)))
  refine GOH ?_;refine VC.loop (α:=Nat) (Γf:=fun j=>[(1,kE q1),(13,.slice ta tp.length tc),(14,vi tp.length),(15,vi j)]) (Hf:=fun j=>[kA q1 0 [kE u.q],WK (U1 j) (V1 j)]) (I:=fun j=>j<=tp.length) (μ:=fun j=>tp.length - j) 0 (Qf _) ZU ZI ?_;intro j hj;refine GOH ?_;by_cases hlt:j < tp.length;rotate_left
  ·rw[show decide ((j:Int) < (tp.length:Int))=false from Zf Zo];obtain rfl:j=tp.length:=by omega
   exact zAP
  rw[show decide ((j:Int) < (tp.length:Int))=true from Zt Zo];obtain⟨v,hv⟩:∃v,tp[j]? =some v:=⟨_,Zg hlt⟩;have hvm:v∈st.temps i:=hTp ▸ Zv hv;have hvl:=temps_lt hvm;obtain⟨y,hy⟩:∃y,Vs[v]? =some y:=⟨_,Zg (by rw[hR.vl];exact hvl)⟩;obtain⟨x,hx⟩:∃x,st.vars[v]? =some x:=⟨_,Zg hvl⟩;obtain⟨_,_,hyr,_⟩:=hR.vn v x y hx hy;obtain⟨y1,hy1,hy1q,hy1r⟩:∃y1,(V1 j)[v]? =some y1/\y1.q=y.q/\y1.remote=st.rem v:=⟨{y with slot:=if v∈tp.take j then(st.slotOf v).toNat else y.slot},by rw[hV1];exact slV_get hy,rfl,hyr⟩;obtain⟨R,hp,hr⟩:=wk_lay (hUi j) hy1;simp only at hp hr;rw[hy1q]at hp;have hpp:=hp;rw[<- vZ]at hpp;have hqj:u.temps[j]? =some y.q:=by
   rw[htm,<- hTp,Ve,hv];show some (Vs.getD v vcl0).q=_;rw[V5,hy];rfl
  obtain⟨ta',tc',htv',hpt'⟩:=hpt;rw[htv]at htv';simp only[Value.slice.injEq]at htv';obtain⟨tb,to,hta,htc⟩:=hpt' j y.q hqj;rw[<- htv'.1]at hta;subst hta;have k1:kC.cell tb (to+j) (kK (some y.q))∈R:=wk_pick hpp (zL (hUi j) _ (Q5 _ (Q3 _ (Zw _ htc)))) (by simp[kA,kK]);have k1:kC.cell tb (to+j) (kE y.q)∈R:=k1;have k3:kC.cell y.q 3 (.bool (st.rem v))∈R:=wk_pick hpp (wk_memv hy1 _ (kI.2 ⟨3,_,by unfold VCl.row;rw[hy1r];rfl,by rw[hy1q]⟩)) Zan;have hso:st.slotOf v=(zc st (tp.take j) (st.rem v):Int):=by
   have:=slot_at (hTp ▸ hv);rw[this,hTp];rfl
  have hUs:∀l n,(U1 j).set i {u with locals:=l,vector:=n}=U.set i {u with locals:=l,vector:=n}:=fun l n=>by
   rw[hU1];simp only[List.set_set]
  have hVn:(V1 j).set v {y1 with slot:=(st.slotOf v).toNat}=V1 (j+1):=by
   have e:tp.take (j+1)=tp.take j++[v]:=by rw[QO,hv];rfl
   rw[hV1];simp only;rw[e];exact slV_set hy (by rw[<- hy1,hV1])
  have hl1:=cntT_le st (tp.take j) true;have hl2:=cntT_le st (tp.take j) false;have hlt2:=List.length_take_le j tp;have hs1:=cntT_step st hv true;have hs2:=cntT_step st hv false;have hUn:U1 (j+1)=U.set i {u with locals:=zc st (tp.take (j+1)) false,vector:=zc st (tp.take (j+1)) true}:=by rw[hU1]
  refine VC.imp (H':=[kA q1 0 [kE u.q],kA y.q 4 [.int .i64 y1.slot],kA u.q 1 [.int .i64 (zc st (tp.take j) false),.int .i64 (zc st (tp.take j) true)],R]) (Imp.perm (by simp only[vz,V0,vd];exact vU _ hp)) ?_;cases hrem:st.rem v with
  |true=>
   rw[hrem]at k3 hso;rw[hrem]at hs1 hs2;simp only[if_true,Bool.true_eq_false,if_false,QU]at hs1 hs2;refine GOH ?_;refine⟨j+1,Zo,Zo,ZU,?_⟩;have hr2:=hr (zc st (tp.take j) false) (zc st (tp.take j) true+1) (st.slotOf v).toNat;rw[hVn,hUs,hy1q]at hr2;rw[hUn,hs1,hs2];refine Imp.cut (M:=[kA q1 0 [kE u.q],kA y.q 4 [.int .i64 ((zc st (tp.take j) true:Int))],kA u.q 1 [.int .i64 ((zc st (tp.take j) false:Int)),.int .i64 ((zc st (tp.take j) true:Int)+1)],R]) ZI (Imp.perm ?_);simp only[vz,V0,vd];refine vU _ ?_;have e:((st.slotOf v).toNat:Int)=(zc st (tp.take j) true:Int):=by omega
   rw[e]at hr2;simp only[Int.natCast_add,Int.natCast_one]at hr2;exact hr2.symm
  |false=>
   rw[hrem]at k3 hso;rw[hrem]at hs1 hs2;simp only[if_true,vI,if_false,QU]at hs1 hs2;refine GOH ?_;refine⟨j+1,Zo,Zo,ZU,?_⟩;have hr2:=hr (zc st (tp.take j) false+1) (zc st (tp.take j) true) (st.slotOf v).toNat;rw[hVn,hUs,hy1q]at hr2;rw[hUn,hs1,hs2];refine Imp.cut (M:=[kA q1 0 [kE u.q],kA y.q 4 [.int .i64 ((zc st (tp.take j) false:Int))],kA u.q 1 [.int .i64 ((zc st (tp.take j) false:Int)+1),.int .i64 ((zc st (tp.take j) true:Int))],R]) ZI (Imp.perm ?_);simp only[vz,V0,vd];refine vU _ ?_;have e:((st.slotOf v).toNat:Int)=(zc st (tp.take j) false:Int):=by omega
   rw[e]at hr2;simp only[Int.natCast_add,Int.natCast_one]at hr2;exact hr2.symm
 obtain⟨U2,hU2⟩:∃U2,U2=U1 tp.length:=⟨_,rfl⟩;obtain⟨V2,hV2⟩:∃V2,V2=V1 tp.length:=⟨_,rfl⟩;rw[<- hU2,<- hV2];have htk:tp.take tp.length=tp:=List.take_length;have hU2e:U2=U.set i {u with locals:=(st.locals i false).length,vector:=(st.locals i true).length}:=by
  rw[hU2,hU1];simp only;rw[htk,hTp,cntT_all,cntT_all]
 have hV2e:V2=slV st Vs (st.temps i):=by
  rw[hV2,hV1];simp only;rw[htk,hTp]
 have hq2:U2.map UC.q=U.map UC.q:=by rw[hU2e];exact z5 hu rfl
 have hu2:U2[i]? =some {u with locals:=(st.locals i false).length,vector:=(st.locals i true).length}:=by
  rw[hU2e,Vh,if_pos rfl,if_pos (Vd.1 hu).1]
 clear hU1 hV1 hU0 hV0 hUi hU2 hV2;have hal:∀x∈st.around i,x < i:=fun x hx=>by
  unfold SSt.around at hx;have hlow:=hPh.wf.lowD i;rw[hPh.wf.line Zo]at hx;simp only[List.drop_succ_cons,List.drop_zero]at hx;split at hx
  ·cases hx
  ·have:=hPh.wf.line_le _ Zo x hx;omega
 have hget:∀x∈st.around i,∃w,U2[x]? =some w/\U[x]? =some w/\w.q=qU U x:=fun x hx=>by
  have h1:=hal x hx;obtain⟨w,hw⟩:∃w,U[x]? =some w:=⟨_,Zg (by rw[hR.ul];omega)⟩;exact⟨w,by rw[hU2e,Vh,if_neg Zo];exact hw,hw,(qU_get hw).symm⟩
 have hall:=around_len st i;obtain⟨pt,hpt2⟩:∃pt,pt=(st.around i).map (qU U):=⟨_,rfl⟩;have hpl:pt.length=(st.around i).length:=by rw[hpt2,Vp]
 refine jU ?_;refine VC.join (α:=Value×List Value) (Γf:=fun s=>[(1,kE q1),(4,s.1)]) (Hf:=fun s=>[kA q1 0 [kE u.q],WK U2 V2,slA s.1 (pt.map fun b=>kK (some b)) s.2]) (I:=fun s=>jC 1 s.1 pt.length (pt.map fun b=>kK (some b)) s.2) ?_ ?_
 ·have k3:kC.cell u.q 3 (curQ U (st.around i) 0)∈WK U2 V2:=by
   rw[<- hR.outerQ hu];exact zL hu2 _ (Q5 _ (Zw _ (kI.2 ⟨3,_,rfl,rfl⟩)))
  refine GOH ?_;refine VC.loop (α:=Nat×Value×List Value) (Γf:=fun s=>[(1,kE q1),(4,s.2.1),(5,curQ U (st.around i) s.1)]) (Hf:=fun s=>[kA q1 0 [kE u.q],WK U2 V2,slA s.2.1 ((pt.take s.1).map fun b=>kK (some b)) s.2.2]) (I:=fun s=>s.1<=pt.length/\jC 1 s.2.1 s.1 ((pt.take s.1).map fun b=>kK (some b)) s.2.2) (μ:=fun s=>pt.length - s.1) (0,.slice none 0 0,[]) ⟨Qf _,.nil⟩ ZU (Imp.cut (M:=[kA q1 0 [kE u.q],WK U2 V2]) ZI (Imp.perm (by simp[slA]))) ?_
  rintro⟨d,sv,sp⟩ ⟨hd,hsv⟩
  simp only at hd hsv;dsimp only;obtain⟨sa,sc,rfl⟩:=hsv.form;by_cases hlt:d < pt.length;rotate_left
  ·have he:curQ U (st.around i) d=.pointer none:=by
    unfold curQ;rw[Vb Zo]
   rw[he];have htk2:pt.take d=pt:=QR Zo;have hde:d=pt.length:=by omega
   rw[htk2]at hsv|-;refine GOH ?_;exact⟨(.slice sa d sc,sp),by rw[<- hde];exact hsv,ZU,ZI⟩
  obtain⟨x,hx⟩:∃x,(st.around i)[d]? =some x:=⟨_,Zg Zo⟩;obtain⟨w,hw2,hw,hwq⟩:=hget x (Zv hx);have he:curQ U (st.around i) d=kE w.q:=by
   unfold curQ;rw[hx,hwq]
  have hon:=hR.outerN hil hx hw;have k4:kC.cell w.q 3 (curQ U (st.around i) (d+1))∈WK U2 V2:=by
   rw[<- hon];exact zL hw2 _ (Q5 _ (Zw _ (kI.2 ⟨3,_,rfl,rfl⟩)))
  have hpd:pt[d]? =some w.q:=by rw[hpt2,Ve,hx,hwq];rfl
  rw[he];obtain⟨nx,hnx⟩:∃nx,nx=curQ U (st.around i) (d+1):=⟨_,rfl⟩;rw[<- hnx]at k4;refine GOH ?_;refine j9 (out:=[kE w.q]) Zr Zr (fun rr=>?_);refine GOH ?_;refine jF (k:=d) (m:=1) (xs:=(pt.take d).map fun b=>kK (some b)) (sp:=sp) (ys:=[kE w.q]) Zr Zr hsv ZK Zr ?_ rfl Zr Zr Zd Zo (fun sv' sp' hsl'=>?_)
  ·exact Zal
  have hfv:((pt.take d).map fun b=>kK (some b))++[kE w.q]=(pt.take (d+1)).map fun b=>kK (some b):=by
   rw[QO,hpd];simp[kK]
  rw[hfv]at hsl'|-;obtain⟨sa',sc',rfl⟩:=hsl'.form;refine GOH ?_;exact⟨(d+1,.slice sa' (d+1) sc',sp'),⟨by simp only;omega,hsl'⟩,by simp only;omega,by simp only[<- hnx];exact SUx,ZI⟩
 rintro⟨sv,sp⟩ hsv
 simp only at hsv;dsimp only;have hpr:=ptrs_made rfl hsv;obtain⟨sa,sc,rfl⟩:=hsv.form;refine VC.seq (VC.label ?_);refine GOH ?_;refine kM (back_spec (.slice sa pt.length sc) (slA (.slice sa pt.length sc) (pt.map fun b=>kK (some b)) sp) rfl) Zr ZP (fun v Post hv=>?_);obtain⟨q2,rfl,rfl⟩:=hv;simp only[CNx];refine GOH ?_;obtain⟨u2,hu2d⟩:∃u2:UC,u2={u with locals:=(st.locals i false).length,vector:=(st.locals i true).length}:=⟨_,rfl⟩;rw[<- hu2d]at hu2 hU2e;have hu2q:u2.q=u.q:=by rw[hu2d]
 have hu2n:u2.nb=u.nb/\u2.es=u.es/\u2.cl=u.cl/\u2.cop=[]/\u2.cv=.slice none 0 0/\u2.csp=[]:=by rw[hu2d];exact⟨rfl,rfl,rfl,n3,n4,n5⟩
 have hend:∀cop cv csp,cop=wu U (st.copied i)->jC 2 cv cop.length (cop.flatMap jN) csp->RepL st (i+1) (U2.set i {u2 with cop:=cop,cv:=cv,csp:=csp}) V2/\(U2.set i {u2 with cop:=cop,cv:=cv,csp:=csp}).map UC.q=U.map UC.q/\(U2.set i {u2 with cop:=cop,cv:=cv,csp:=csp}).map UC.body=U.map UC.body/\V2.map VCl.q=Vs.map VCl.q:=fun cop cv csp hc hs=>by
  have e:U2.set i {u2 with cop:=cop,cv:=cv,csp:=csp}=U.set i {u with locals:=(st.locals i false).length,vector:=(st.locals i true).length,cop:=wu U (st.copied i),cv:=cv,csp:=csp}:=by
   rw[hU2e,List.set_set,hu2d,hc]
  rw[e,hV2e];subst hc;exact⟨hR.step hu hs,z5 hu rfl,map_b_set hu rfl,slV_q _ _ _⟩
 obtain⟨WF,hWF⟩:∃WF:List (Nat×Int)->Value->List Value->List kC,WF=fun c' v' p'=>WK (U2.set i {u2 with cop:=c',cv:=v',csp:=p'}) V2:=⟨_,rfl⟩
 have hWFe:∀c' v' p',WK (U2.set i {u2 with cop:=c',cv:=v',csp:=p'}) V2=WF c' v' p':=fun c' v' p'=>by rw[hWF]
 refine VC.rangef (α:=Nat×Nat) (enc:=fun x=>[vi x.1,kE x.2]) (fun d A=>∃cv csp,jC 2 cv (wu U (st.copK i d.length)).length ((wu U (st.copK i d.length)).flatMap jN) csp/\A=[kA q1 0 [kE u.q],WK (U2.set i {u2 with cop:=wu U (st.copK i d.length),cv:=cv,csp:=csp}) V2].flatten) ([kA q1 0 [kE u.q],WK U2 V2].flatten) Zr (back_iter q2 pt _ _ hpr Zo) (R:=[kA q1 0 [kE u.q],WK U2 V2]) ZP (Imp.perm Zs) ?_ (fun _=>rfl) ?_ ?_
 ·refine⟨.slice none 0 0,[],.nil,?_⟩;have e:({u2 with cop:=wu U (st.copK i 0),cv:=.slice none 0 0,csp:=[]}:UC)=u2:=by
   obtain⟨_,_,_,h1,h2,h3⟩:=hu2n;cases u2;simp only at h1 h2 h3;subst h1;subst h2;subst h3;rfl
  show _=[kA q1 0 [kE u.q],WK (U2.set i {u2 with cop:=wu U (st.copK i 0),cv:=.slice none 0 0,csp:=[]}) V2].flatten;rw[e,wi hu2]
 ·rintro c x A hok ⟨cv,csp,hcs,rfl⟩
  obtain⟨rest,hrest⟩:=hok;have hcl:(revL pt)[c.length]? =some x:=by rw[<- hrest];simp
  have hdl:c.length < pt.length:=by have:=(Vd.1 hcl).1;rwa [revL_len]at this
  obtain⟨k,hk⟩:∃k,c.length+k+1=pt.length:=⟨pt.length - 1 - c.length,Zo⟩;obtain⟨o,ho⟩:∃o,(st.around i)[k]? =some o:=⟨_,Zg Zo⟩;obtain⟨w,hw2,hw,hwq⟩:=hget o (Zv ho);have hoi:=hal o (Zv ho);have hx2:x=(k,w.q):=by
   rw[revL_get hk]at hcl;rw[<- Qn hcl,hpt2,V5,Ve,ho,hwq];rfl
  subst hx2;have hor:(st.around i).reverse[c.length]? =some o:=by
   rw[List.getElem?_reverse Zo];have e:(st.around i).length - 1 - c.length=k:=by omega
   rw[e];exact ho
  have hsucc:=copK_succ st hor;have hwa:=(hR.ar o w hw).1;obtain⟨na,hna⟩:∃na,na=st.args.getD o 0:=⟨_,rfl⟩;have hnab:=hba o;rw[<- hna]at hwa hnab;obtain⟨CK,hCK⟩:∃CK:Nat->List (Nat×Int),CK=fun m=>wu U (st.copK i c.length++((st.things o).take m).filter (st.need i)):=⟨_,rfl⟩
  have hC0:CK 0=wu U (st.copK i c.length):=by rw[hCK];simp
  have hCe:CK (na+1)=wu U (st.copK i (c.length+1)):=by
   rw[hCK];simp only;rw[hsucc,QR (by rw[things_len];omega)]
  have hCl:∀m,(CK m).length<=1048577*1048577:=fun m=>by
   rw[hCK];simp only;unfold wu;rw[Vp,Vj];have h1:=copK_len (st:=st) (u:=i) (k:=c.length) hba;have h2:=Vo (st.need i) ((st.things o).take m);have h3:=List.length_take_le' m (st.things o);rw[things_len,<- hna]at h3;omega
  have hCs:∀m,m < na+1->CK (m+1)=CK m++(if st.need i (o,(m:Int) - 1)=true then [(w.q,(m:Int) - 1)]else []):=fun m hm=>by
   rw[hCK];simp only;rw[filt_succ (things_get st (by rw[<- hna];exact hm)),<- vZ];unfold wu;rw[Vw]
   congr 1
   split
   ·simp[hwq]
   ·rfl
  simp only[bindE];refine VC.imp (H':=[kA q1 0 [kE u.q],WK (U2.set i {u2 with cop:=wu U (st.copK i c.length),cv:=cv,csp:=csp}) V2]) (Imp.perm Zs) ?_;refine VC.reg ?_;refine GOH ?_;refine⟨trivial,?_⟩;refine GOH ?_;refine VC.loop (α:=Nat×Value×List Value) (Γf:=fun s=>[(1,kE q1),(7,kE w.q),(8,.int .i64 ((s.1:Int) - 1))]) (Hf:=fun s=>[kA q1 0 [kE u.q],WK (U2.set i {u2 with cop:=CK s.1,cv:=s.2.1,csp:=s.2.2}) V2]) (I:=fun s=>s.1<=na+1/\jC 2 s.2.1 (CK s.1).length ((CK s.1).flatMap jN) s.2.2) (μ:=fun s=>na+1 - s.1) (0,cv,csp) ⟨Qf _,by simp only[hC0];exact hcs⟩ (by simp only[Int.natCast_zero,Int.zero_sub];exact SUx) (by simp only[hC0];exact IMx) ?_
  rintro⟨m,cv1,csp1⟩ ⟨hm,hcs1⟩
  simp only at hm hcs1;dsimp only;obtain⟨ca,cc,rfl⟩:=hcs1.form;have hu3:(U2.set i {u2 with cop:=CK m,cv:=.slice ca (CK m).length cc,csp:=csp1})[i]? =some {u2 with cop:=CK m,cv:=.slice ca (CK m).length cc,csp:=csp1}:=by
   rw[Vh,if_pos rfl,if_pos (Vd.1 hu2).1]
  obtain⟨R,hp,hr,hoth,hown,hcells⟩:=wk_cop2 (V:=V2) hu3;simp only[List.set_set]at hp hr;simp only[hWFe]at hp hr;simp only[hu2q,hu2n.2.1,hu2n.2.2.1]at hp hr hown hcells;have hother:∀(j:Nat) z,j≠i->U2[j]? =some z->∀a∈z.atoms,a∈R:=fun j z hj hz=>hoth j z hj (by rw[Vh,if_neg (fun e=>hj e.symm)];exact hz)
  have ka:kC.cell w.q 0 (.int .i64 na)∈R:=hother o w Zo hw2 _ (Q5 _ (Zw _ (kI.2 ⟨0,_,by unfold UC.row;rw[hwa];rfl,rfl⟩)));have km:kC.cell u.q 6 (.map (some u2.nb))∈R:=hcells _ (kI.2 ⟨6,_,rfl,rfl⟩);have hlo:∀(j:Nat) z,U2[j]? =some z->wF R z.q:=fun j z hz=>by
   by_cases e:j=i
   ·subst e;rw[hu2]at hz;obtain rfl:=Qn hz;rw[hu2q];exact⟨⟨9,hown⟩,⟨_,hcells _ (kI.2 ⟨0,_,rfl,rfl⟩)⟩⟩
   ·exact⟨⟨9,hother j z e hz _ (Q6 ..)⟩,⟨_,hother j z e hz _ (Q5 _ (Zw _ (kI.2 ⟨0,_,rfl,rfl⟩)))⟩⟩
  have hlw:=hlo o w hw2;have hlm:∀p∈mm,wF R p.1.1:=fun p hp=>by
   obtain⟨⟨j,z,h1,h2⟩,_⟩:=t3 p hp;have hq:=getq hq2 j;rw[h1]at hq;obtain⟨z2,h3,h4⟩:=Qk.1 hq;rw[h2,<- h4];exact hlo j z2 h3
  have hCm:=hCl m;refine VC.imp (H':=[kA q1 0 [kE u.q],[.obj u2.nb (.map u.es u.cl)],kA u.q 7 [.slice ca (CK m).length cc],slA (.slice ca (CK m).length cc) ((CK m).flatMap jN) csp1,R]) (Imp.perm (by simp only[vz,V0,vd];rw[hWFe];exact vU _ hp)) ?_;refine GOH ?_;by_cases hm1:m < na+1;rotate_left
  ·rw[show decide ((m:Int) - 1 < (na:Int))=false from Zf Zo];obtain rfl:m=na+1:=by omega
   refine GOH ?_;refine⟨_,⟨.slice ca (CK (na+1)).length cc,csp1,?_,rfl⟩,?_⟩
   ·rw[Vj,Vu,<- hCe];exact hcs1
   ·rw[Vj,Vu,<- hCe];have h9:=hr (CK (na+1)) (.slice ca (CK (na+1)).length cc) csp1;refine Imp.cut (M:=[kA q1 0 [kE u.q],[.obj u2.nb (.map u.es u.cl)],kA u.q 7 [.slice ca (CK (na+1)).length cc],slA (.slice ca (CK (na+1)).length cc) ((CK (na+1)).flatMap jN) csp1,R]) ZI (Imp.perm ?_);simp only[vz,V0,vd];rw[hWFe];exact vU _ h9.symm
  rw[show decide ((m:Int) - 1 < (na:Int))=true from Zt Zo];refine GOH ?_;refine st_mlenth Zr (.there .here) t1.of ?_;refine GOH ?_;by_cases hmm:mm=[]
  ·rw[show decide ((mm.length:Int)=0)=true from Zt (by rw[hmm];rfl)];have hz:∀o'∈st.around i,∀t∈st.things o',¬st.need i t=true:=fun o' ho' t ht hn=>by
    obtain⟨w',_,hw',_⟩:=hget o' ho';obtain⟨e1,_⟩:=mem_things.1 ht;have h1:=t4 o' w' t.2 hw';have e2:(o',t.2)=t:=by rw[<- e1]
    rw[e2]at h1;have:=h1.2 hn;rw[hmm]at this;cases this
   have hf0:∀o'∈st.around i,(st.things o').filter (st.need i)=[]:=fun o' ho'=>vr.2 (hz o' ho')
   have hc0:st.copied i=[]:=by
    unfold SSt.copied;rw[List.flatMap_eq_nil_iff];exact fun o' ho'=>hf0 o' (by unfold SSt.around;simpa using ho')
   have hk0:CK m=[]:=by
    rw[hCK];simp only;have e1:st.copK i c.length=[]:=by
     unfold SSt.copK;rw[List.flatMap_eq_nil_iff];exact fun o' ho'=>hf0 o' (by have:=QA ho';simpa using this)
    have e2:((st.things o).take m).filter (st.need i)=[]:=vr.2 fun t ht=>hz o (Zv ho) t (QA ht)
    rw[e1,e2];rfl
   obtain⟨h1,h2,h3,h4⟩:=hend (CK m) _ _ (by rw[hk0,hc0];rfl) hcs1;have h9:=hr (CK m) (.slice ca (CK m).length cc) csp1;refine GOH ?_;exact⟨(fun l h=>by cases h),kG (Post:=[WK (U2.set i {u2 with cop:=CK m,cv:=.slice ca (CK m).length cc,csp:=csp1}) V2]) (.inl rfl) .nil ⟨_,_,⟨rfl,h1,h2,h3,h4⟩,rfl⟩ (by
    rw[hWFe];refine Imp.cut (M:=[[.obj u2.nb (.map u.es u.cl)],kA u.q 7 [.slice ca (CK m).length cc],slA (.slice ca (CK m).length cc) ((CK m).flatMap jN) csp1,R]) ZI (Imp.perm ?_);simp only[vz,V0,vd];exact h9.symm)⟩
  have hmm0:0 < mm.length:=by
   cases mm with
   |nil=>exact absurd rfl hmm
   |cons _ _=>simp
  rw[show decide ((mm.length:Int)=0)=false from Zf Zo];refine GOH ?_;refine kL (fun q9=>?_);refine GOH ?_;refine st_lookth (k:=(w.q,(m:Int) - 1)) thP Zr Zr (.there (.there .here)) t1.of (hlw.more (fun _ hx=>by simp[hx])) (fun p hp=>(hlm p hp).more (fun _ hx=>by simp[hx])) ?_;have hnd:decide ((0:Int) < (kq (w.q,(m:Int) - 1) mm).getD 0)=st.need i (o,(m:Int) - 1):=by
   have h1:=t4 o w ((m:Int) - 1) hw;cases e:kq (w.q,(m:Int) - 1) mm with
   |none=>
    rw[e]at h1;cases e2:st.need i (o,(m:Int) - 1)with
    |false=>rfl
    |true=>have:=h1.2 e2;cases this
   |some z=>
    rw[e]at h1;rw[h1.1 rfl];have:=(t3 _ (mget_mem e)).2.1;exact Zt this
  refine GOH ?_;rw[hnd];have hCs1:=hCs m hm1;cases hneed:st.need i (o,(m:Int) - 1)with
  |false=>
   rw[hneed]at hCs1;simp only[vI,if_false,vd]at hCs1;have h9:=hr (CK m) (.slice ca (CK m).length cc) csp1;refine GOH ?_;refine⟨(m+1,.slice ca (CK m).length cc,csp1),⟨by simp only;omega,by simp only[hCs1];exact hcs1⟩,by simp only;omega,by simp only;rw[show((m+1:Nat):Int) - 1=(m:Int) - 1+1 by omega];exact SUx,?_⟩;simp only[hCs1];rw[hWFe];refine Imp.cut (M:=[kA q1 0 [kE u.q],[.obj u2.nb (.map u.es u.cl)],kA u.q 7 [.slice ca (CK m).length cc],slA (.slice ca (CK m).length cc) ((CK m).flatMap jN) csp1,R]) ZI (Imp.perm ?_);exact zE2
  |true=>
   rw[hneed]at hCs1;simp only[if_true]at hCs1;have hxs:(CK m).flatMap jN++[kE w.q,.int .i64 ((m:Int) - 1)]=(CK (m+1)).flatMap jN:=by
    rw[hCs1,vw,vx];rfl
   have hcl1:(CK (m+1)).length=(CK m).length+1:=by rw[hCs1,Vj];rfl
   refine jU ?_;refine VC.draws ⟨?_,?_,?_,?_,?_,?_,?_,?_,?_,?_,?_,?_,?_,?_,?_,trivial⟩
   all_goals
    refine GOH ?_;refine j9 (out:=[kE w.q,.int .i64 ((m:Int) - 1)]) Zr Zr (fun rr=>?_);refine GOH ?_;refine jF (k:=(CK m).length) (m:=1) (xs:=(CK m).flatMap jN) (sp:=csp1) (ys:=[kE w.q,.int .i64 ((m:Int) - 1)]) Zr Zr hcs1 ZK Zr ?_ rfl Zr Zr Zd Zo (fun sv' sp' hsl'=>?_)
    ·exact Zal
    rw[hxs,<- hcl1]at hsl';rw[hxs];obtain⟨sa',sc',rfl⟩:=hsl'.form;have h9:=hr (CK (m+1)) (.slice sa' (CK (m+1)).length sc') sp';refine GOH ?_;refine⟨(m+1,.slice sa' (CK (m+1)).length sc',sp'),⟨by simp only;omega,hsl'⟩,by simp only;omega,by simp only;rw[show((m+1:Nat):Int) - 1=(m:Int) - 1+1 by omega];exact SUx,?_⟩;simp only;rw[hWFe];refine Imp.cut (M:=[kA q1 0 [kE u.q],[.obj u2.nb (.map u.es u.cl)],kA u.q 7 [.slice sa' (CK (m+1)).length sc'],slA (.slice sa' (CK (m+1)).length sc') ((CK (m+1)).flatMap jN) sp',R]) ZI (Imp.perm ?_);exact zE2
 ·rintro full A rfl ⟨cv,csp,hcs,rfl⟩
  rw[revL_len,hpl,copK_all st i (QW _)]at hcs;obtain⟨h1,h2,h3,h4⟩:=hend _ _ _ rfl hcs;rw[revL_len,hpl,copK_all st i (QW _)];exact⟨(fun l h=>by cases h),kG (Post:=[WK (U2.set i {u2 with cop:=wu U (st.copied i),cv:=cv,csp:=csp}) V2]) (.inl rfl) .nil ⟨_,_,⟨rfl,h1,h2,h3,h4⟩,rfl⟩ (Imp.cut (M:=[kA q1 0 [kE u.q],WK (U2.set i {u2 with cop:=wu U (st.copied i),cv:=cv,csp:=csp}) V2]) (Imp.perm Zs) ZI)⟩
end Go.Proofs.YtijnokbblmbpkaaGreatDoor
namespace Go.Proofs.YtijnokbblmbpkaaGreatDoor
open Go Go.V
set_option maxHeartbeats 3200000
set_option maxRecDepth 100000
theorem size_spec(a l v c:Nat)(h:a < 1073741824/\l < 1073741824/\v < 1073741824/\c < 4398046511104):Fun Tryz.prog 115 [.agg #[vi a,vi l,vi v],vi c] [] (fun r Post=>r=vi ((a+c+l+(if 0 < v then 1 else 0):Nat):Int)/\Post=[]):=by
 obtain⟨h1,h2,h3,h4⟩:=h;refine Fun.intro low115 (by simp[n115]) ?_;refine GOH ?_;refine kd Zr (fun q=>?_);simp only[Value.cells];refine GOH ?_;by_cases hv:0 < v
 ·rw[show decide ((0:Int) < (v:Int))=true from Zt Zo,if_pos hv];refine GOH ?_;refine kG (Post:=[]) (.inr rfl) (.tmp (v:=vi ((a+c+l+1:Nat):Int)) Zr .nil) ⟨rfl,rfl⟩ ZI
 ·rw[show decide ((0:Int) < (v:Int))=false from Zf Zo,if_neg hv];refine GOH ?_;refine kG (Post:=[]) (.inr rfl) (.tmp (v:=vi ((a+c+l:Nat):Int)) Zr .nil) ⟨rfl,rfl⟩ ZI
end Go.Proofs.YtijnokbblmbpkaaGreatDoor
namespace Go.Proofs.YtijnokbblmbpkaaGreatDoor
open Go Go.V
set_option maxHeartbeats 3200000
set_option maxRecDepth 100000
theorem find_none {α:Type}[DecidableEq α]{l:List α}{k:α}(h:∀i x,i < l.length->l[i]? =some x->x≠k):l.findIdx? (fun y=>decide (y=k))=none:=by
 rw[List.findIdx?_eq_none_iff];intro x hx;obtain⟨i,hi⟩:=Vg hx;exact Zf (h i x (Vd.1 hi).1 hi)
theorem find_some {α:Type}[DecidableEq α]{l:List α}{k:α}{j:Nat}(hj:l[j]? =some k)(h:∀i x,i < j->l[i]? =some x->x≠k):l.findIdx? (fun y=>decide (y=k))=some j:=by
 have hl:=(Vd.1 hj).1;rw[List.findIdx?_eq_some_iff_getElem];refine⟨hl,?_,fun i hi=>?_⟩
 ·rw[Zg hl]at hj;exact Zt (Qn hj)
 ·have hil:i < l.length:=by omega
  simp only[Bool.not_eq_true,decide_eq_false_iff_not];exact h i _ hi (Zg hil)
theorem index_spec(B:List kC)(l:List (Nat×Int))(a:Option Addr)(c:Nat)(hll:l.length < 4398046511104)(hrd:∀(i:Nat) t,l[i]? =some t->∃b o,a=some ⟨b,o,none⟩/\∀y∈kA b (o+i*2) [kE t.1,.int .i64 t.2],y∈B)(hl:∀t∈l,wF B t.1)(k:Nat×Int)(hk:wF B k.1):
 Fun Tryz.prog 174 [.slice a l.length c,thV k] [B] (fun v Post=>v=.int .i64 (idxI l k)/\Post=[B]):=by
 refine Fun.intro low174 (by simp[n174]) ?_;unfold thV;refine GOH ?_;refine kd Zr (fun q=>?_);simp only[Value.cells];refine GOH ?_;refine VC.loop (α:=Nat) (Γf:=fun s=>[(0,.slice a l.length c),(3,kE q),(7,vi l.length),(8,vi s)]) (Hf:=fun _=>[kA q 0 [kE k.1,.int .i64 k.2],B]) (I:=fun s=>s<=l.length/\∀i x,i < s->l[i]? =some x->x≠k) (μ:=fun s=>l.length - s) 0 ⟨Qf _,fun i x h=>by omega⟩ ZU ZI ?_
 rintro j ⟨hj,hno⟩
 refine GOH ?_;by_cases hlt:j < l.length;rotate_left
 ·rw[show decide ((j:Int) < (l.length:Int))=false from Zf Zo];refine GOH ?_;refine kG (Post:=[B]) (.inr rfl) (.tmp Zr .nil) ⟨?_,rfl⟩ ZI;unfold idxI;rw[find_none (fun i x hi hx=>hno i x Zo hx)];rfl
 rw[show decide ((j:Int) < (l.length:Int))=true from Zt Zo];obtain⟨t,ht⟩:∃t,l[j]? =some t:=⟨_,Zg hlt⟩;obtain⟨b,o,rfl,hm⟩:=hrd j t ht;refine GOH ?_;refine kZ (us:=[kE t.1,.int .i64 t.2]) Zr (fun z hz=>by have h9:=hm z hz;simp[h9]) rfl ?_;refine GOH ?_;refine st_eqth (k:=k) (j:=t) thP Zr Zr (hk.more (fun _ hx=>by simp[hx])) ((hl t (Zv ht)).more (fun _ hx=>by simp[hx])) ?_;refine GOH ?_;by_cases he:k=t
 ·rw[Zt he];refine GOH ?_;refine kG (Post:=[B]) (.inr rfl) (.tmp (v:=vi j) Zr .nil) ⟨?_,rfl⟩ ZI;unfold idxI;rw[find_some (by rw[he];exact ht) (fun i x hi hx=>hno i x hi hx)];rfl
 ·rw[Zf he];refine GOH ?_;refine⟨j+1,⟨Zo,fun i x hi hx=>?_⟩,Zo,ZU,ZI⟩;by_cases hi2:i < j
  ·exact hno i x hi2 hx
  ·obtain rfl:i=j:=by omega
   rw[ht]at hx;rw[<- Qn hx];exact fun e=>he e.symm
end Go.Proofs.YtijnokbblmbpkaaGreatDoor
namespace Go.V
open Go
theorem idx_map {α β:Type}[DecidableEq α][DecidableEq β]{f:α->β}{x:α}:∀{l:List α},(∀y∈l,f y=f x->y=x)->(l.map f).findIdx? (fun y=>decide (y=f x))=l.findIdx? fun y=>decide (y=x):=by
 intro l
 induction l with
 |nil=>intro _;rfl
 |cons y l ih=>
  intro h;rw[Vy,List.findIdx?_cons,List.findIdx?_cons,ih (fun z hz=>h z (by simp[hz]))];have e:decide (f y=f x)=decide (y=x):=decide_eq_decide.2 ⟨h y Zs,fun e=>by rw[e]⟩;rw[e]
theorem RepL.qU_inj {st:SSt}{L:Nat}{U:List UC}{V:List VCl}(h:RepL st L U V){i j:Nat}(hi:i < st.outer.length)(hj:j < st.outer.length)(e:qU U i=qU U j):i=j:=by
 obtain⟨u,hu⟩:∃u,U[i]? =some u:=⟨_,Zg (by rw[h.ul];exact hi)⟩;obtain⟨w,hw⟩:∃w,U[j]? =some w:=⟨_,Zg (by rw[h.ul];exact hj)⟩;rw[qU_get hu,qU_get hw]at e;have h1:(U.map UC.q)[i]? =some u.q:=by rw[Ve,hu];rfl
 have h2:(U.map UC.q)[j]? =some w.q:=by rw[Ve,hw];rfl
 rw[<- e]at h2;have hl1:=(Vd.1 h1).1;have hl2:=(Vd.1 h2).1;have e1:(U.map UC.q)[i]=(U.map UC.q)[j]:=by
  rw[Zg hl1]at h1;rw[Zg hl2]at h2;rw[Qn h1,Qn h2]
 have hp:=List.pairwise_iff_getElem.1 h.inj;rcases Nat.lt_trichotomy i j with c|c|c
 ·exact absurd e1 (hp i j hl1 hl2 c)
 ·exact c
 ·exact absurd e1.symm (hp j i hl2 hl1 c)
theorem RepL.idx {st:SSt}{L:Nat}{U:List UC}{V:List VCl}(h:RepL st L U V)(hp:Ph st){i:Nat}(hi:i < st.outer.length){t:Nat×Int}(ht:t.1 < st.outer.length):
 (wu U (st.copied i)).findIdx? (fun y=>decide (y=(qU U t.1,t.2)))=(st.copied i).findIdx? fun y=>decide (y=t):=by
 unfold wu;exact idx_map (f:=fun t:Nat×Int=>(qU U t.1,t.2)) (x:=t) fun y hy e=>by
  have h1:=(hp.copied_in hi hy).2.2.1;simp only[Qp]at e;exact Prod.ext (h.qU_inj h1 ht e.1) e.2
theorem RepL.cells {st:SSt}{U:List UC}{V:List VCl}(h:RepL st st.outer.length U V){i:Nat}{u:UC}(hu:U[i]? =some u):∃ca cc,u.cv=.slice ca (st.copied i).length cc/\u.args=st.args.getD i 0/\u.locals=(st.locals i false).length/\u.vector=(st.locals i true).length/\
 ∀(k:Nat) t,(wu U (st.copied i))[k]? =some t->∃b o,ca=some ⟨b,o,none⟩/\∀y∈kA b (o+k*2) [kE t.1,.int .i64 t.2],y∈u.atoms:=by
 have hil:=(Vd.1 hu).1;rw[h.ul]at hil;obtain⟨h1,h2,h3,h4⟩:=h.la i u hu hil;have hlen:(wu U (st.copied i)).length=(st.copied i).length:=Vp _;obtain⟨ca,cc,hcv⟩:=h4.form;rw[h3,hlen]at hcv;refine⟨ca,cc,hcv,(h.ar i u hu).1,h1,h2,fun k t hk=>?_⟩;have hkl:=(Vd.1 hk).1;obtain⟨b,o,c,hv,_,hsa⟩:=isSl_addr h4 (by rw[h3];omega);rw[hcv,Value.slice.injEq]at hv;refine⟨b,o,hv.1,fun y hy=>?_⟩;unfold UC.atoms;refine Q5 _ (Q3 _ (Q3 _ (Zw _ ?_)));rw[hsa,ku];refine Zw _ ?_;rw[h3,List.flatMap_def];exact cells_row (rows:=(wu U (st.copied i)).map jN) (fun r hr=>by obtain⟨z,_,rfl⟩:=Q9.1 hr;rfl) (by rw[Ve,hk];rfl) y hy
end Go.V
namespace Go.Proofs.YtijnokbblmbpkaaGreatDoor
open Go Go.V
set_option maxHeartbeats 6400000
set_option maxRecDepth 100000
structure Bnd (st:SSt):Prop where
 v:st.vars.length<=1048576
 o:st.outer.length<=1048576
 a:∀j,st.args.getD j 0<=1048576
theorem Bnd.cop {st:SSt}(h:Bnd st)(u:Nat):(st.copied u).length<=1048576*(1048576+1):=by
 have h1:=copied_len (st:=st) (u:=u) h.a;have h2:=around_len st u;exact QY h1 (Qc _ (QY h2 h.o))
theorem Bnd.loc {st:SSt}(h:Bnd st)(u:Nat)(r:Bool):(st.locals u r).length<=1048576:=by
 unfold SSt.locals;have h1:=Vo (fun v=>decide (st.unitOf v=u)&&decide (st.ownOf v < 0)&&decide (st.rem v=r)) (List.range st.vars.length);rw[List.length_range]at h1;have:=h.v;omega
theorem place_spec(st:SSt)(hPh:Ph st)(hB:Bnd st)(U:List UC)(Vs:List VCl)(hR:RepL st st.outer.length U Vs)(i:Nat)(u:UC)(hu:U[i]? =some u)(t:Nat×Int)(ht:t.1 < st.outer.length)(hc:(t.1=i/\-1<=t.2/\t.2 < st.args.getD i 0/\(t.2 < 0->0 < (st.locals i true).length))∨(t.1≠i/\t∈st.copied i)):
 Fun Tryz.prog 116 [kE u.q,thV (qU U t.1,t.2)] [WK U Vs] (fun v Post=>v=.int .i64 (st.place i t)/\Post=[WK U Vs]):=by
 have hil:i < st.outer.length:=by have:=(Vd.1 hu).1;rw[hR.ul]at this;exact this
 obtain⟨ca,cc,hcv,hua,hul,huv,hcells⟩:=hR.cells hu;obtain⟨w,hw⟩:∃w,U[t.1]? =some w:=⟨_,Zg (by rw[hR.ul];exact ht)⟩;have hqw:=qU_get hw;have hba:=hB.a i;have hbc:=hB.cop i;have hbl:=hB.loc i false;have hbv:=hB.loc i true;have hlw:wF (WK U Vs) w.q:=wk_lies hw;have hlu:wF (WK U Vs) u.q:=wk_lies hu;have hls:∀k∈wu U (st.copied i),wF (WK U Vs) k.1:=fun k hk=>by
  obtain⟨s,hs,rfl⟩:=Q9.1 hk;obtain⟨z,hz⟩:∃z,U[s.1]? =some z:=⟨_,Zg (by rw[hR.ul];exact(hPh.copied_in hil hs).2.2.1)⟩;show wF _ (qU U s.1);rw[qU_get hz];exact wk_lies hz
 have hrow:∀(k:Nat) x,u.row[k]? =some x->kC.cell u.q k x∈WK U Vs:=fun k x hx=>zL hu _ (Q5 _ (Zw _ (kI.2 ⟨k,x,hx,by rw[Qe]⟩)))
 have k0:kC.cell u.q 0 (.int .i64 (st.args.getD i 0))∈WK U Vs:=hrow 0 _ (by unfold UC.row;rw[hua];rfl);have k1:kC.cell u.q 1 (.int .i64 (st.locals i false).length)∈WK U Vs:=hrow 1 _ (by unfold UC.row;rw[hul];rfl);have k2:kC.cell u.q 2 (.int .i64 (st.locals i true).length)∈WK U Vs:=hrow 2 _ (by unfold UC.row;rw[huv];rfl);have k7:kC.cell u.q 7 (.slice ca (st.copied i).length cc)∈WK U Vs:=hrow 7 _ (by unfold UC.row;rw[hcv];rfl);have hcl:(wu U (st.copied i)).length=(st.copied i).length:=Vp _;have hidx:=index_spec (WK U Vs) (wu U (st.copied i)) ca cc (by rw[hcl];omega) (fun k s hk=>by
  obtain⟨b,o,h1,h2⟩:=hcells k s hk;exact⟨b,o,h1,fun y hy=>zL hu _ (h2 y hy)⟩) hls (w.q,t.2) hlw
 rw[hcl]at hidx;have hpl:t.1≠i->st.place i t=st.args.getD i 0+idxI (wu U (st.copied i)) (w.q,t.2)/\0<=idxI (wu U (st.copied i)) (w.q,t.2)/\idxI (wu U (st.copied i)) (w.q,t.2) < (st.copied i).length:=fun hn=>by
  rcases hc with⟨h1,_⟩|⟨_,h1⟩
  ·exact absurd h1 hn
  obtain⟨k,hk1,hk2⟩:=findIdx_mem h1;unfold SSt.place idxI;rw[if_neg hn,<- hqw,hR.idx hPh hil ht,hk2];exact⟨rfl,by simp only;omega,by simp only;omega⟩
 generalize hix:idxI (wu U (st.copied i)) (w.q,t.2)=ix at hidx hpl;generalize hW:WK U Vs=B at hlw hlu k0 k1 k2 k7 hidx|-;rw[hqw];generalize hna:st.args.getD i 0=na at*;generalize hnc:(st.copied i).length=nc at*;generalize hnl:(st.locals i false).length=nl at*;generalize hnv:(st.locals i true).length=nv at*;refine Fun.intro low116 (by simp[n116]) ?_;refine VC.join (α:=Nat) (Γf:=fun q=>[(0,kE u.q),(3,kE q)]) (Hf:=fun q=>[kA q 0 [kE w.q,.int .i64 t.2],B]) (I:=fun _=>True) ?_ (fun q3 _=>?_)
 ·unfold thV;exact zDQ
 refine VC.join (α:=Unit) (Γf:=fun _=>[(0,kE u.q),(3,kE q3)]) (Hf:=fun _=>[kA q3 0 [kE w.q,.int .i64 t.2],B]) (I:=fun _=>t.1=i/\t.2 < 0) ?_ (fun _ hI=>?_)
 ·refine GOH ?_;refine st_nep u124 i206_eq i206_ne Zr Zr (hlw.more (fun _ hx=>by simp[hx])) (hlu.more (fun _ hx=>by simp[hx])) ?_;refine GOH ?_;by_cases he:w.q=u.q
  ·have hti:t.1=i:=hR.qU_inj ht hil (by rw[hqw,qU_get hu];exact he);rw[show decide (w.q=u.q)=true from Zt he];refine GOH ?_;by_cases h0:0<=t.2
   ·rw[show decide ((0:Int)<=t.2)=true from Zt h0];refine GOH ?_;exact kG (Post:=[B]) (.inr rfl) (.tmp Zr .nil) ⟨by unfold SSt.place;rw[if_pos hti,if_pos h0];rfl,rfl⟩ ZI
   ·rw[show decide ((0:Int)<=t.2)=false from Zf h0];refine GOH ?_;exact⟨(),⟨hti,Zo⟩,ZU,ZI⟩
  ·have hti:t.1≠i:=fun e=>he (by
    have:=qU_get hw;rw[e,qU_get hu]at this;exact this.symm)
   obtain⟨p1,p2,p3⟩:=hpl hti;rw[show decide (w.q=u.q)=false from Zf he];refine jU ?_;refine VC.seq (VC.draws ⟨?_,?_,trivial⟩)
   all_goals
    refine GOH ?_;refine kM hidx Zr ZP (fun v Post hv=>?_);obtain⟨rfl,rfl⟩:=hv;simp only[CNx];refine GOH ?_;exact kG (Post:=[B]) (.inr rfl) (.tmp Zr .nil) ⟨by rw[p1];rfl,rfl⟩ ZI
 obtain⟨h1,h2⟩:=hI;have hv0:0 < nv:=by
  rcases hc with⟨_,_,_,c⟩|⟨c,_⟩
  ·exact c h2
  ·exact absurd h1 c
 refine GOH ?_;refine kZ (us:=[.int .i64 na,.int .i64 nl,.int .i64 nv]) Zr (fun z hz=>?_) rfl ?_
 ·obtain⟨j,x,hx,rfl⟩:=kI.1 hz;have hz3:j=0∨j=1∨j=2:=by
   exact zE3
  rcases hz3 with rfl|rfl|rfl
  ·obtain rfl:(.int .i64 na:Value)=x:=by simpa using hx
   simp[k0]
  ·obtain rfl:(.int .i64 nl:Value)=x:=by simpa using hx
   simp[k1]
  ·obtain rfl:(.int .i64 nv:Value)=x:=by simpa using hx
   simp[k2]
 refine GOH ?_;refine kM (size_spec na nl nv nc ⟨Zo,Zo,Zo,Zo⟩) Zr ZP (fun v Post hv=>?_);obtain⟨rfl,rfl⟩:=hv;rw[if_pos hv0];simp only[QD];refine GOH ?_;refine kG (Post:=[B]) (.inr rfl) (.tmp Zr .nil) ⟨?_,rfl⟩ ZI;unfold SSt.place;rw[if_pos h1,if_neg Zo,hna,hnc,hnl];show Value.int .i64 (((na+nc+nl+1:Nat):Int) - 1)=.int .i64 ((na:Int)+nc+nl)
 congr 1
 omega
theorem ref_spec(st:SSt)(hPh:Ph st)(hB:Bnd st)(U:List UC)(Vs:List VCl)(hR:RepL st st.outer.length U Vs)(i:Nat)(u:UC)(hu:U[i]? =some u)(vv:Nat)(y:VCl)(hy:Vs[vv]? =some y)(hv:okv st i vv=true):
 Fun Tryz.prog 175 [kE u.q,kE y.q] [WK U Vs] (fun v Post=>v=.agg (jG (st.known i vv)).toArray/\Post=[WK U Vs]):=by
 have hil:i < st.outer.length:=by have:=(Vd.1 hu).1;rw[hR.ul]at this;exact this
 obtain⟨hvl,hwhere⟩:=hPh.okv hv;obtain⟨w1,w2,w3⟩:=hPh.wf.var hvl;obtain⟨x,hx⟩:∃x,st.vars[vv]? =some x:=⟨_,Zg hvl⟩;obtain⟨⟨w,hw,hyw⟩,hya,hyr,hys⟩:=hR.vn vv x y hx hy;have hux:=unitOf_at hx;have hox:=ownOf_at hx;obtain⟨ca,cc,hcv,hua,hul,huv,hcells⟩:=hR.cells hu;have hqw:qU U (st.unitOf vv)=w.q:=by rw[hux];exact qU_get hw
 have hba:=hB.a i;have hbc:=hB.cop i;have hrow:∀(k:Nat) x,u.row[k]? =some x->kC.cell u.q k x∈WK U Vs:=fun k x hx=>zL hu _ (Q5 _ (Zw _ (kI.2 ⟨k,x,hx,by rw[Qe]⟩)))
 have k0:kC.cell u.q 0 (.int .i64 (st.args.getD i 0))∈WK U Vs:=hrow 0 _ (by unfold UC.row;rw[hua];rfl);have k7:kC.cell u.q 7 (.slice ca (st.copied i).length cc)∈WK U Vs:=hrow 7 _ (by unfold UC.row;rw[hcv];rfl);have hvrow:∀(k:Nat) x,y.row[k]? =some x->kC.cell y.q k x∈WK U Vs:=fun k x hx=>wk_memv hy _ (kI.2 ⟨k,x,hx,by rw[Qe]⟩)
 have y0:kC.cell y.q 0 (kE w.q)∈WK U Vs:=hvrow 0 _ (by unfold VCl.row;rw[hyw];rfl);have y1:kC.cell y.q 1 (.int .i64 x.own)∈WK U Vs:=hvrow 1 _ (by unfold VCl.row;rw[hya];rfl);have y3:kC.cell y.q 3 (.bool (st.rem vv))∈WK U Vs:=hvrow 3 _ (by unfold VCl.row;rw[hyr];rfl);have y4:kC.cell y.q 4 (.int .i64 y.slot)∈WK U Vs:=hvrow 4 _ rfl;have hsl:x.own < 0->(y.slot:Int)=st.slotOf vv:=fun h=>hys h (by rw[<- hux];exact w1)
 have hcase:∀a:Int,(0<=x.own->a=x.own)->(x.own < 0->a=-1/\st.rem vv=true)->(st.unitOf vv=i/\-1<=a/\a < st.args.getD i 0/\(a < 0->0 < (st.locals i true).length))∨(st.unitOf vv≠i/\(st.unitOf vv,a)∈st.copied i):=fun a ha hb=>by
  rw[hox]at w2 w3;by_cases e:st.unitOf vv=i
  ·refine .inl ⟨e,?_⟩;by_cases c:x.own < 0
   ·obtain⟨rfl,hr⟩:=hb c;exact⟨Zo,Zo,fun _=>List.length_pos_of_mem (mem_locals.2 ⟨hvl,e,by rw[hox];exact c,hr⟩)⟩
   ·rw[ha Zo];exact⟨Zo,by rw[<- e];exact w3,fun c2=>absurd c2 c⟩
  ·rcases hwhere with k|k
   ·exact absurd k e
   ·refine .inr ⟨e,?_⟩;rw[hox]at k;by_cases c:x.own < 0
    ·obtain⟨rfl,_⟩:=hb c;have:x.own=-1:=by omega
     rw[<- this];exact k.1
    ·rw[ha Zo];exact k.1
 have hplace:∀a:Int,((st.unitOf vv=i/\-1<=a/\a < st.args.getD i 0/\(a < 0->0 < (st.locals i true).length))∨(st.unitOf vv≠i/\(st.unitOf vv,a)∈st.copied i))->Fun Tryz.prog 116 [kE u.q,thV (w.q,a)] [WK U Vs] (fun v Post=>v=.int .i64 (st.place i (st.unitOf vv,a))/\Post=[WK U Vs]):=fun a h=>by
  have:=place_spec st hPh hB U Vs hR i u hu (st.unitOf vv,a) w1 h
  rwa [hqw]at this
 generalize hW:WK U Vs=B at k0 k7 y0 y1 y3 y4 hplace|-;refine Fun.intro low175 (by simp[n175]) ?_;refine GOH ?_;refine kL (fun q4=>?_);refine GOH ?_;by_cases ho:0<=x.own
 ·rw[show decide ((0:Int)<=x.own)=true from Zt ho];have hp:=hplace x.own (hcase x.own (fun _=>rfl) (fun c=>by omega));have hk:st.known i vv=⟨5,st.place i (st.unitOf vv,x.own),0,e0⟩:=by unfold SSt.known;rw[hox,if_pos ho]
  rw[hk];generalize st.place i (st.unitOf vv,x.own)=pl at hp;unfold thV at hp;refine GOH ?_;refine kM hp Zr ZP (fun v Post hv=>?_);obtain⟨rfl,rfl⟩:=hv;simp only[CNx];refine GOH ?_;exact⟨.inr rfl,_,[B],.cellN (us:=jG ⟨5,pl,0,e0⟩) Zr Zr (fun y hy=>by simp only[vz,Q1];repeat (first|exact Or.inl hy|refine Or.inr ?_)) .nil,ZI,rfl,rfl⟩
 rw[show decide ((0:Int)<=x.own)=false from Zf ho];have hn:x.own < 0:=by omega
 refine GOH ?_;cases hrem:st.rem vv with
 |true=>
  rw[hrem]at y3;have hp:=hplace (-1) (hcase (-1) (fun c=>by omega) (fun _=>⟨rfl,hrem⟩));have hk:st.known i vv=⟨6,st.place i (st.unitOf vv,-1),y.slot,e0⟩:=by
   unfold SSt.known;rw[hox,if_neg ho,if_pos hrem,hsl hn];unfold SSt.slotOf;rw[hrem]
  rw[hk];generalize st.place i (st.unitOf vv,-1)=pl at hp;unfold thV at hp;refine jU ?_;refine VC.seq (VC.draws ⟨?_,?_,trivial⟩)
  all_goals
   refine GOH ?_;refine kM hp Zr ZP (fun v Post hv=>?_);obtain⟨rfl,rfl⟩:=hv;simp only[CNx];refine GOH ?_;exact⟨.inr rfl,_,[B],.cellN (us:=jG ⟨6,pl,y.slot,e0⟩) Zr Zr (fun y hy=>by simp only[vz,Q1];repeat (first|exact Or.inl hy|refine Or.inr ?_)) .nil,ZI,rfl,rfl⟩
 |false=>
  rw[hrem]at y3;have hui:st.unitOf vv=i:=by
   rcases hwhere with k|k
   ·exact k
   ·have:=k.2 (by rw[hox];exact hn);rw[hrem]at this;cases this
  have hm:vv∈st.locals i false:=mem_locals.2 ⟨hvl,hui,by rw[hox];exact hn,hrem⟩;have hbl:=hB.loc i false;have hslb:=idxI_mem hm;have hse:(y.slot:Int)=idxI (st.locals i false) vv:=by
   rw[hsl hn];unfold SSt.slotOf;rw[hrem,hui]
  have hk:st.known i vv=⟨5,st.args.getD i 0+(st.copied i).length+y.slot,0,e0⟩:=by
   unfold SSt.known;rw[hox,if_neg ho,if_neg (by rw[hrem];simp),hse]
  rw[hk];rw[<- hse]at hslb;generalize hna:st.args.getD i 0=na at*;generalize hnc:(st.copied i).length=nc at*;refine GOH ?_;exact⟨.inr rfl,_,[B],.cellN (us:=jG ⟨5,(na:Int)+nc+y.slot,0,e0⟩) Zr Zr (fun y hy=>by simp only[vz,Q1];repeat (first|exact Or.inl hy|refine Or.inr ?_)) .nil,ZI,rfl,rfl⟩
end Go.Proofs.YtijnokbblmbpkaaGreatDoor
namespace Go.Proofs.YtijnokbblmbpkaaGreatDoor
open Go Go.V
set_option maxHeartbeats 12800000
set_option maxRecDepth 100000
theorem finsS_map(st:SSt)(i:Nat):∀l:List PN,finsS st i l=l.map (finS st i):=by
 intro l
 induction l with
 |nil=>rfl
 |cons x r ih=>rw[finsS,ih];rfl
theorem final_spec(st:SSt)(hPh:Ph st)(hB:Bnd st)(U:List UC)(Vs:List VCl)(hR:RepL st st.outer.length U Vs)(i:Nat)(u:UC)(hu:U[i]? =some u)(T:List kC):∀(N:Nat) (x:PN),PN.w x<=N->N<=1073741824->∀ws,NRd T (Vs.map VCl.q) x ws->rawIn (okv st i) x=true->
 Fun Tryz.prog 117 [kE u.q,.agg ws.toArray] [WK U Vs,T] (fun v Post=>∃ws' B,(v=.agg ws'.toArray/\PRd (T++B) (finS st i x) ws')/\Post=[WK U Vs,T,B]):=by
 intro N
 induction N with
 |zero=>intro x hx;have:=PN.w_pos x;omega
 |succ N ih=>
  intro x hx hN ws h hraw;cases h with
  |@mk k nm lit refs unit sup kids lv rv vv a c bk o us hl hr hv ok hz ha hm hs=>
  simp only[PN.w]at hx;have hkl:=PN.len_ws kids;simp only[rawIn,vF,vX,vO]at hraw;obtain⟨hraw1,hraw2⟩:=hraw;have hr0:=hr;have hv0:=hv;obtain⟨ra,rc,rfl,hrd⟩:=hr;obtain⟨va,vc,rfl,hvd⟩:=hv;have hl0:=hl;obtain⟨y1,y2,y3,y4,y5,y6,y7,rfl⟩:∃(y1:Nat) (y2:Int) (y3:Nat) (y4:ByteArray) (y5:Option Addr) (y6 y7:Nat),lv=[.int .u8 y1,.int .i64 y2,.int .u64 y3,.string y4,.slice y5 y6 y7]:=by
   cases hl with
   |mk wf2 ha2 hm2 hr2=>exact⟨_,_,_,_,_,_,_,rfl⟩
  obtain⟨n1,hn1⟩:∃n1,n1=(wS refs).length:=⟨_,rfl⟩;obtain⟨n2,hn2⟩:∃n2,n2=((rawsR refs).map fun r=>(Vs.map VCl.q).getD r.index.toNat 0).length:=⟨_,rfl⟩;rw[<- hn1]at hr0 hz|-;rw[<- hn2]at hv0|-;simp only[CNx];refine Fun.intro low117 (by simp[n117]) ?_;refine VC.join (α:=Nat×Nat×Nat) (Γf:=fun q=>[(0,kE u.q),(3,kE q.1),(4,kE q.2.1)]) (Hf:=fun q=>[kA q.1 0 [.int .u8 k,.string nm,.int .u8 y1,.int .i64 y2,.int .u64 y3,.string y4,.slice y5 y6 y7,.slice ra n1 rc,.int .i64 unit,.bool sup,.slice none 0 0,.slice va n2 vc,.slice a kids.length c],kA q.2.1 0 [.int .u8 0,.string e0,.int .u8 0,.int .i64 0,.int .u64 0,.string e0,.slice none 0 0,.slice none 0 0,.int .i64 0,.bool false,.slice none 0 0],WK U Vs,T]) (I:=fun _=>True) ?_ ?_
  ·refine GOH ?_;refine kd Zr (fun q3=>?_);simp only[Value.cells];refine kL (fun q4=>?_);refine GOH ?_;exact⟨(q3,q4,0),trivial,ZU,by unfold e0;exact IMx⟩
  rintro⟨q3,q4,_⟩ _
  dsimp only;refine VC.join (α:=Nat) (Γf:=fun q5=>[(0,kE u.q),(3,kE q3),(4,kE q4),(5,kE q5)]) (Hf:=fun q5=>[kA q5 0 [.int .u8 k,.string nm,.int .u8 y1,.int .i64 y2,.int .u64 y3,.string y4,.slice y5 y6 y7,.slice ra n1 rc,.int .i64 unit,.bool sup,.slice none 0 0],kA q3 0 [.int .u8 k,.string nm,.int .u8 y1,.int .i64 y2,.int .u64 y3,.string y4,.slice y5 y6 y7,.slice ra n1 rc,.int .i64 unit,.bool sup,.slice none 0 0,.slice va n2 vc,.slice a kids.length c],kA q4 0 [.int .u8 0,.string e0,.int .u8 0,.int .i64 0,.int .u64 0,.string e0,.slice none 0 0,.slice none 0 0,.int .i64 0,.bool false,.slice none 0 0],WK U Vs,T]) (I:=fun _=>True) ?_ (fun q5 _=>?_)
  ·refine GOH ?_;refine kL (fun q5=>?_);refine GOH ?_;exact⟨q5,trivial,ZU,ZI⟩
  refine VC.join (α:=Value×List kC) (Γf:=fun _=>[(0,kE u.q),(3,kE q3),(4,kE q4),(5,kE q5)]) (Hf:=fun s=>[kA q5 0 [.int .u8 k,.string nm,.int .u8 y1,.int .i64 y2,.int .u64 y3,.string y4,.slice y5 y6 y7,s.1,.int .i64 unit,.bool sup,.slice none 0 0],kA q3 0 [.int .u8 k,.string nm,.int .u8 y1,.int .i64 y2,.int .u64 y3,.string y4,.slice y5 y6 y7,.slice ra n1 rc,.int .i64 unit,.bool sup,.slice none 0 0,.slice va n2 vc,.slice a kids.length c],kA q4 0 [.int .u8 0,.string e0,.int .u8 0,.int .i64 0,.int .u64 0,.string e0,.slice none 0 0,.slice none 0 0,.int .i64 0,.bool false,.slice none 0 0],WK U Vs,T,s.2]) (I:=fun s=>jm (T++s.2) s.1 (refs.map (st.fix i))) ?_ ?_
  ·rcases ok.one with hall|hall
   rotate_left
   ·have hpl:wS refs=refs:=vt.2 fun r hr=>Zt (hall r hr)
    have hrw:rawsR refs=[]:=vr.2 fun r hr=>by simpa using hall r hr
    rw[hrw]at hn2;have hn20:n2=0:=by rw[hn2];rfl
    subst hn20;have hfx:refs.map (st.fix i)=refs:=by
     conv=>rhs;rw[<- List.map_id refs]
     exact Vx fun r hr=>by unfold SSt.fix;rw[if_neg (hall r hr)];rfl
    rw[hpl]at hr0;refine GOH ?_;refine VC.loop (α:=Unit) (Γf:=fun _=>[(0,kE u.q),(3,kE q3),(4,kE q4),(5,kE q5),(13,.slice va 0 vc),(14,vi 0),(15,vi 0)]) (Hf:=fun _=>[kA q5 0 [.int .u8 k,.string nm,.int .u8 y1,.int .i64 y2,.int .u64 y3,.string y4,.slice y5 y6 y7,.slice ra n1 rc,.int .i64 unit,.bool sup,.slice none 0 0],kA q3 0 [.int .u8 k,.string nm,.int .u8 y1,.int .i64 y2,.int .u64 y3,.string y4,.slice y5 y6 y7,.slice ra n1 rc,.int .i64 unit,.bool sup,.slice none 0 0,.slice va 0 vc,.slice a kids.length c],kA q4 0 [.int .u8 0,.string e0,.int .u8 0,.int .i64 0,.int .u64 0,.string e0,.slice none 0 0,.slice none 0 0,.int .i64 0,.bool false,.slice none 0 0],WK U Vs,T]) (I:=fun _=>True) (μ:=fun _=>0) () trivial ZU ZI ?_;intro _ _;refine GOH ?_;rw[show decide ((0:Int) < 0)=false from rfl];refine GOH ?_;exact⟨(.slice ra n1 rc,[]),by rw[hfx];exact hr0.more (fun y hy=>Zw _ hy),ZU,Imp.cut (M:=[kA q5 0 [.int .u8 k,.string nm,.int .u8 y1,.int .i64 y2,.int .u64 y3,.string y4,.slice y5 y6 y7,.slice ra n1 rc,.int .i64 unit,.bool sup,.slice none 0 0],kA q3 0 [.int .u8 k,.string nm,.int .u8 y1,.int .i64 y2,.int .u64 y3,.string y4,.slice y5 y6 y7,.slice ra n1 rc,.int .i64 unit,.bool sup,.slice none 0 0,.slice va 0 vc,.slice a kids.length c],kA q4 0 [.int .u8 0,.string e0,.int .u8 0,.int .i64 0,.int .u64 0,.string e0,.slice none 0 0,.slice none 0 0,.int .i64 0,.bool false,.slice none 0 0],WK U Vs,T]) ZI (Imp.perm Zs)⟩
   have hpl:wS refs=[]:=vr.2 fun r hr=>by simpa using hall r hr
   have hrw:rawsR refs=refs:=vt.2 fun r hr=>Zt (hall r hr)
   rw[hrw]at hvd hn2;have hnr:n2=refs.length:=by rw[hn2,Vp]
   subst hnr;have hz1:=hz hpl;have hn10:n1=0:=by rw[hn1,hpl];rfl
   subst hn10;rw[Value.slice.injEq]at hz1;obtain⟨rfl,_,rfl⟩:=hz1;refine GOH ?_;refine VC.loop (α:=Nat×Value×List Value) (Γf:=fun s=>[(0,kE u.q),(3,kE q3),(4,kE q4),(5,kE q5),(13,.slice va refs.length vc),(14,vi refs.length),(15,vi s.1)]) (Hf:=fun s=>[kA q5 0 [.int .u8 k,.string nm,.int .u8 y1,.int .i64 y2,.int .u64 y3,.string y4,.slice y5 y6 y7,s.2.1,.int .i64 unit,.bool sup,.slice none 0 0],slA s.2.1 ((((refs.take s.1).map (st.fix i))).flatMap jG) s.2.2,kA q3 0 [.int .u8 k,.string nm,.int .u8 y1,.int .i64 y2,.int .u64 y3,.string y4,.slice y5 y6 y7,.slice none 0 0,.int .i64 unit,.bool sup,.slice none 0 0,.slice va refs.length vc,.slice a kids.length c],kA q4 0 [.int .u8 0,.string e0,.int .u8 0,.int .i64 0,.int .u64 0,.string e0,.slice none 0 0,.slice none 0 0,.int .i64 0,.bool false,.slice none 0 0],WK U Vs,T]) (I:=fun s=>s.1<=refs.length/\jC 4 s.2.1 s.1 ((((refs.take s.1).map (st.fix i))).flatMap jG) s.2.2) (μ:=fun s=>refs.length - s.1) (0,.slice none 0 0,[]) ⟨Qf _,.nil⟩ ZU (Imp.cut (M:=[kA q5 0 [.int .u8 k,.string nm,.int .u8 y1,.int .i64 y2,.int .u64 y3,.string y4,.slice y5 y6 y7,.slice none 0 0,.int .i64 unit,.bool sup,.slice none 0 0],kA q3 0 [.int .u8 k,.string nm,.int .u8 y1,.int .i64 y2,.int .u64 y3,.string y4,.slice y5 y6 y7,.slice none 0 0,.int .i64 unit,.bool sup,.slice none 0 0,.slice va refs.length vc,.slice a kids.length c],kA q4 0 [.int .u8 0,.string e0,.int .u8 0,.int .i64 0,.int .u64 0,.string e0,.slice none 0 0,.slice none 0 0,.int .i64 0,.bool false,.slice none 0 0],WK U Vs,T]) ZI (Imp.perm (by simp[slA]))) ?_
   rintro⟨j,sv,sp⟩ ⟨hj,hsv⟩
   simp only at hj hsv;dsimp only;obtain⟨sa,sc,rfl⟩:=hsv.form;refine GOH ?_;by_cases hlt:j < refs.length;rotate_left
   ·rw[show decide ((j:Int) < (refs.length:Int))=false from Zf Zo];have hje:j=refs.length:=by omega
    subst hje;rw[List.take_length]at hsv|-;refine GOH ?_;refine⟨(.slice sa refs.length sc,slA (.slice sa refs.length sc) ((refs.map (st.fix i)).flatMap jG) sp),?_,ZU,ZI⟩;have:=refs_made (B:=[]) (rs:=refs.map (st.fix i)) (by rw[Vp];exact hsv);simp only[vd]at this;exact this.more fun y hy=>Q3 _ hy
   rw[show decide ((j:Int) < (refs.length:Int))=true from Zt Zo];obtain⟨r,hrj⟩:∃r,refs[j]? =some r:=⟨_,Zg hlt⟩;obtain⟨v,hrv,hvlt⟩:=ok.raw r (Zv hrj) (hall r (Zv hrj));rw[Vp]at hvlt;obtain⟨y,hy⟩:∃y,Vs[v]? =some y:=⟨_,Zg hvlt⟩;have hokv:okv st i v=true:=by
    rcases hraw1 r (Zv hrj)with k|k
    ·rw[hall r (Zv hrj)]at k;cases k
    ·rw[hrv]at k;exact k
   obtain⟨vb,vo,rfl,hvc⟩:=hvd j y.q (by
    rw[Ve,hrj,hrv];show some ((Vs.map VCl.q).getD v 0)=_;rw[V5,Ve,hy];rfl)
   have hvc:kC.cell vb (vo+j) (kE y.q)∈T:=hvc;have href:=ref_spec st hPh hB U Vs hR i u hu v y hy hokv;have hfx:st.fix i r=st.known i v:=by
    rw[hrv];show(if(99:Nat)=99 then st.known i ((v:Int)).toNat else _)=_;rw[if_pos rfl,vS]
   have htk:(refs.take (j+1)).map (st.fix i)=(refs.take j).map (st.fix i)++[st.known i v]:=by
    rw[QO,hrj,Vw];simp only[Option.toList_some,Vy,Q0,hfx]
   obtain⟨kr,hkr⟩:∃kr,kr=st.known i v:=⟨_,rfl⟩;rw[<- hkr]at href htk;unfold jG at href;refine GOH ?_;refine VC.draws ⟨?_,?_,trivial⟩
   all_goals
    refine GOH ?_;refine kM href Zr ZP (fun v Post hv=>?_);obtain⟨rfl,rfl⟩:=hv;simp only[CNx];refine GOH ?_;refine j9 (out:=[.int .u8 kr.kind,.int .i64 kr.index,.int .i64 kr.slot,.string kr.name]) Zr Zr (fun rr=>?_);refine GOH ?_;refine jF (k:=j) (m:=1) (xs:=((refs.take j).map (st.fix i)).flatMap jG) (sp:=sp) (ys:=[.int .u8 kr.kind,.int .i64 kr.index,.int .i64 kr.slot,.string kr.name]) Zr Zr hsv ZK Zr ?_ rfl Zr Zr Zd Zo (fun sv' sp' hsl'=>?_)
    ·exact Zal
    have hfl:((refs.take j).map (st.fix i)).flatMap jG++([.int .u8 kr.kind,.int .i64 kr.index,.int .i64 kr.slot,.string kr.name]:List Value)=((refs.take (j+1)).map (st.fix i)).flatMap jG:=by
     rw[htk,vw,vx];rfl
    rw[hfl]at hsl'|-;obtain⟨sa',sc',rfl⟩:=hsl'.form;refine GOH ?_;exact⟨(j+1,.slice sa' (j+1) sc',sp'),⟨by simp only;omega,hsl'⟩,by simp only;omega,ZU,ZI⟩
  rintro⟨rv2,B1⟩ hrefs
  simp only at hrefs;dsimp only;obtain⟨rb,rn,hrv2⟩:∃rb rn,rv2=.slice rb (refs.map (st.fix i)).length rn:=let⟨e1,e2,e3,_⟩:=hrefs;⟨e1,e2,e3⟩;subst hrv2;generalize hnr:(refs.map (st.fix i)).length=nr at*;refine GOH ?_;refine VC.loop (α:=Nat×Value×List (List Value)×List Value×List kC) (Γf:=fun s=>[(0,kE u.q),(4,kE q4),(5,kE q5),(29,.slice a kids.length c),(30,vi kids.length),(31,vi s.1)]) (Hf:=fun s=>[kA q5 0 [.int .u8 k,.string nm,.int .u8 y1,.int .i64 y2,.int .u64 y3,.string y4,.slice y5 y6 y7,.slice rb nr rn,.int .i64 unit,.bool sup,s.2.1],slA s.2.1 s.2.2.1.flatten s.2.2.2.1,kA q4 0 [.int .u8 0,.string e0,.int .u8 0,.int .i64 0,.int .u64 0,.string e0,.slice none 0 0,.slice none 0 0,.int .i64 0,.bool false,.slice none 0 0],WK U Vs,T,B1,s.2.2.2.2]) (I:=fun s=>s.1<=kids.length/\jC 11 s.2.1 s.1 s.2.2.1.flatten s.2.2.2.1/\PRows (T++(B1++s.2.2.2.2)) ((kids.take s.1).map (finS st i)) s.2.2.1) (μ:=fun s=>kids.length - s.1) (0,.slice none 0 0,[],[],[]) ⟨Qf _,.nil,PRows.nil _⟩ ZU (Imp.cut (M:=[kA q5 0 [.int .u8 k,.string nm,.int .u8 y1,.int .i64 y2,.int .u64 y3,.string y4,.slice y5 y6 y7,.slice rb nr rn,.int .i64 unit,.bool sup,.slice none 0 0],kA q4 0 [.int .u8 0,.string e0,.int .u8 0,.int .i64 0,.int .u64 0,.string e0,.slice none 0 0,.slice none 0 0,.int .i64 0,.bool false,.slice none 0 0],WK U Vs,T,B1]) ZI (Imp.perm (by simp[slA]))) ?_
  rintro⟨j,sv,rows,sp,B2⟩ ⟨hj,hsv,hrows⟩
  simp only at hj hsv hrows;dsimp only;obtain⟨sa,sc,rfl⟩:=hsv.form;refine GOH ?_;by_cases hlt:j < kids.length;rotate_left
  ·rw[show decide ((j:Int) < (kids.length:Int))=false from Zf Zo];have hje:j=kids.length:=by omega
   subst hje;rw[List.take_length,<- finsS_map]at hrows;have hlk:(finsS st i kids).length=kids.length:=by rw[finsS_map,Vp]
   have hps:=ps_made (l:=finsS st i kids) (by rw[hlk];exact hsv) hrows;have hsub:∀y∈T++B1,y∈T++(slA (.slice sa kids.length sc) rows.flatten sp++(B1++B2)):=fun y hy=>by
    rcases Q1.1 hy with hy|hy
    ·exact Zw _ hy
    ·exact Q3 _ (Q3 _ (Zw _ hy))
   have hpm:=p_made (T:=T++(slA (.slice sa kids.length sc) rows.flatten sp++(B1++B2))) (k:=k) (nm:=nm) (lit:=lit) (refs:=refs.map (st.fix i)) (unit:=unit) (sup:=sup) (kids:=finsS st i kids) (hl0.more fun y hy=>Zw _ hy) (hrefs.more hsub) (hps.more fun y hy=>by
    rcases Q1.1 hy with hy|hy
    ·exact Q3 _ (Zw _ hy)
    ·rcases Q1.1 hy with hy|hy
     ·exact Zw _ hy
     ·exact Q3 _ (Q3 _ hy))
   refine GOH ?_;refine⟨.inr rfl,_,[WK U Vs,T,slA (.slice sa kids.length sc) rows.flatten sp++(B1++B2)],.cellN (us:=[.int .u8 k,.string nm,.int .u8 y1,.int .i64 y2,.int .u64 y3,.string y4,.slice y5 y6 y7,.slice rb nr rn,.int .i64 unit,.bool sup,.slice sa kids.length sc]) Zr Zr (fun y hy=>by simp only[vz,Q1];repeat (first|exact Or.inl hy|refine Or.inr ?_)) .nil,Imp.cut (M:=[WK U Vs,T,slA (.slice sa kids.length sc) rows.flatten sp,B1,B2]) ZI (Imp.perm Zs),⟨_,_,⟨rfl,?_⟩,rfl⟩⟩;rw[finS];exact hpm
  rw[show decide ((j:Int) < (kids.length:Int))=true from Zt Zo];obtain rfl:=ha Zo;obtain⟨x,hxj⟩:∃x,kids[j]? =some x:=⟨_,Zg hlt⟩;have hxm:=Zv hxj;have hmx:=hm j hlt;have hsx:=hs j x hxj;have hcall:=ih x (by have:=PN.w_mem hxm;omega) Zo _ hsx (mem_raws hraw2 x hxm);generalize us j=uj at*;obtain⟨f1,f2,f3,f4,f5,f6,f7,r1,r2,r3,p1,p2,p3,k1,k2,k3,rfl⟩:=n_openS hsx;have htk:(kids.take (j+1)).map (finS st i)=(kids.take j).map (finS st i)++[finS st i x]:=by
   rw[QO,hxj,Vw];rfl
  refine GOH ?_;refine kZ Zr (fun z hz=>by have h9:=hmx z hz;simp[h9]) rfl ?_;refine GOH ?_;refine kL (fun q9=>?_);refine GOH ?_;refine VC.draws ⟨?_,?_,trivial⟩
  all_goals
   refine GOH ?_;refine kM hcall Zr ZP (fun v Post hv=>?_);obtain⟨ws',B3,⟨rfl,hp⟩,rfl⟩:=hv;simp only[CNx];obtain⟨pn,hpn⟩:∃pn,pn=finS st i x:=⟨_,rfl⟩;rw[<- hpn]at hp htk;have hp2:=hp;obtain⟨g1,g2,g3,g4,g5,g7,s1,s3,t1,t3,_,_,_,rfl,_⟩:=p_open hp2;refine GOH ?_;refine j9 (out:=[.int .u8 pn.kind,.string pn.name,.int .u8 g1,.int .i64 g2,.int .u64 g3,.string g4,.slice g5 pn.lit.items.length g7,.slice s1 pn.refs.length s3,.int .i64 pn.unit,.bool pn.super,.slice t1 pn.kids.length t3]) Zr Zr (fun rr=>?_);refine GOH ?_;refine jF (k:=j) (m:=1) (xs:=rows.flatten) (sp:=sp) (ys:=[.int .u8 pn.kind,.string pn.name,.int .u8 g1,.int .i64 g2,.int .u64 g3,.string g4,.slice g5 pn.lit.items.length g7,.slice s1 pn.refs.length s3,.int .i64 pn.unit,.bool pn.super,.slice t1 pn.kids.length t3]) Zr Zr hsv ZK Zr ?_ rfl Zr Zr Zd Zo (fun sv' sp' hsl'=>?_)
   ·exact Zal
   have hfl:rows.flatten++([.int .u8 pn.kind,.string pn.name,.int .u8 g1,.int .i64 g2,.int .u64 g3,.string g4,.slice g5 pn.lit.items.length g7,.slice s1 pn.refs.length s3,.int .i64 pn.unit,.bool pn.super,.slice t1 pn.kids.length t3]:List Value)=(rows++[([.int .u8 pn.kind,.string pn.name,.int .u8 g1,.int .i64 g2,.int .u64 g3,.string g4,.slice g5 pn.lit.items.length g7,.slice s1 pn.refs.length s3,.int .i64 pn.unit,.bool pn.super,.slice t1 pn.kids.length t3]:List Value)]).flatten:=by simp
   rw[hfl]at hsl'|-;obtain⟨sa',sc',rfl⟩:=hsl'.form;refine GOH ?_;refine⟨(j+1,.slice sa' (j+1) sc',rows++[[.int .u8 pn.kind,.string pn.name,.int .u8 g1,.int .i64 g2,.int .u64 g3,.string g4,.slice g5 pn.lit.items.length g7,.slice s1 pn.refs.length s3,.int .i64 pn.unit,.bool pn.super,.slice t1 pn.kids.length t3]],sp',B2++B3),⟨by simp only;omega,hsl',?_⟩,by simp only;omega,ZU,?_⟩
   ·show PRows (T++(B1++(B2++B3))) ((kids.take (j+1)).map (finS st i)) _;rw[htk];refine(hrows.more fun y hy=>?_).snoc (hp.more fun y hy=>?_)
    ·simp only[Q1]at hy|-;rcases hy with hy|hy|hy
     ·exact .inl hy
     ·exact .inr (.inl hy)
     ·exact .inr (.inr (.inl hy))
    ·simp only[Q1]at hy|-;rcases hy with hy|hy
     ·exact .inl hy
     ·exact .inr (.inr (.inr hy))
   ·simp only;refine Imp.cut (M:=[kA q5 0 [.int .u8 k,.string nm,.int .u8 y1,.int .i64 y2,.int .u64 y3,.string y4,.slice y5 y6 y7,.slice rb nr rn,.int .i64 unit,.bool sup,.slice sa' (j+1) sc'],slA (.slice sa' (j+1) sc') (rows++[([.int .u8 pn.kind,.string pn.name,.int .u8 g1,.int .i64 g2,.int .u64 g3,.string g4,.slice g5 pn.lit.items.length g7,.slice s1 pn.refs.length s3,.int .i64 pn.unit,.bool pn.super,.slice t1 pn.kids.length t3]:List Value)]).flatten sp',kA q4 0 [.int .u8 0,.string e0,.int .u8 0,.int .i64 0,.int .u64 0,.string e0,.slice none 0 0,.slice none 0 0,.int .i64 0,.bool false,.slice none 0 0],WK U Vs,T,B1,B2,B3]) ZI (Imp.perm Zs)
end Go.Proofs.YtijnokbblmbpkaaGreatDoor

/-
  scope.Free: the names that a node leaves open.
-/
import Derived.Test.YtijnokbblmbpkaaGreatDoorM24
import Derived.Test.YtijnokbblmbpkaaGreatDoorM15
import Derived.Test.YtijnokbblmbpkaaGreatDoorM12
import Derived.Shelf.SlMaps.Clone
import Derived.Shelf.Lay
import Derived.Test.YtijnokbblmbpkaaGreatDoorM9
import Derived.KernelRfl
import Derived.Test.YtijnokbblmbpkaaGreatDoorProg
import Derived.Test.YtijnokbblmbpkaaGreatDoorM14
import Derived.Test.YtijnokbblmbpkaaGreatDoorM22
import Derived.Test.YtijnokbblmbpkaaGreatDoorM7
import Derived.Test.YtijnokbblmbpkaaGreatDoorM11
import Derived.Test.YtijnokbblmbpkaaGreatDoorCards
import Derived.Test.YtijnokbblmbpkaaGreatDoorTie
import Derived.OpenShut
import Derived.Deep.DeepHandedRow
import Derived.Deep.DeepWitnessRowRef
import Derived.Lib.LaidTab
import Derived.JoinedCond
import Derived.Lay
import Derived.LaidSub
import Derived.LaidHandle
import Derived.Stop.LaidErr
set_option linter.all false
namespace Go.Proofs
open Go.Shelf
shelf_lay_g SlLaysW.n5 Slmc 5 at Tryz 72 as Tryz.slcl2
end Go.Proofs
namespace Go.Proofs.YtijnokbblmbpkaaGreatDoor
open Go Go.V
set_option maxHeartbeats 20000000
set_option maxRecDepth 100000
theorem Fw(b:Nat)(es:Array MapEntry)(c:Nat):aw Tryz.prog 72 [.map (some b)] [[.obj b (.map es c)]] (fun v Post=>∃b',v=.map (some b')/\Post=[[.obj b (.map es c)],[.obj b' (.map es c)]]):=by
 refine⟨by kernel_rfl,fun F w hs=>?_⟩;have hb:w.heap[b]? =some (.map es c):=(hs.obj (b:=b) (o:=.map es c) Zs).1;refine(AnyW.maps_Clone Tryz.slcl2 b es c w hb).mono ?_;exact zBD
theorem pD {P:Program}{n:Nat}{rs:List RO}{Γ:Env}{H R:SH}{Z:List PanicEntry->Env->SH->Prop}{K:Env->SH->Prop}{d:Option Nat}{s x:Operand}{sv:Value}{k:Nat}{xs sp:List Value}{a:Option Addr}{c:Nat}{l:List ByteArray}{A:List kC}
 (hs:ev Γ s=some sv) (hx:ev Γ x=some (.slice a l.length c)) (bD:jA 1 sv k xs sp) (ht:Tk H (aj sv xs sp) R) (hr:dG A (.slice a l.length c) l) (hA:∀y∈A,y∈R.flatten) (bX:(2*(k+l.length)+192)*16<=2 ^ 48)
 (h:∀eW bE,jA 1 eW (k+l.length) (xs++l.map Value.string) bE->VO P n rs (ap d eW Γ) (aj eW (xs++l.map Value.string) bE::R) Z K):VO P n (⟨d,none,.append 9 1 16 [.string ⟨#[]⟩] s x⟩::rs) Γ H Z K:=by
 by_cases hl:0 < l.length
 ·exact jH (m:=l.length) (ys:=l.map Value.string) hs hx bD ht Zr ((M5 hr hl).mono hA) Zs (by simp[ve,js]) Zr Zd bX h
 ·have EW:l=[]:=vz Zo;subst EW;have h':=h sv sp (by simpa using bD);simp only[QE,vm]at h';have h2:VO P n rs (ap d sv Γ) H Z K:=VO.imp (ao.perm (by simpa using ht.perm)) h';have oE:ev Γ x=some (.slice a 0 c):=hx;cases bD with
  |mk h1 h2' h3=>
   cases a with
   |none=>exact jH (m:=0) (ys:=[]) hs oE (.mk h1 h2' h3) ht Zr Zr Zr Zr Zr Zd (by simpa using bX) (fun eW bE g=>by simpa using h eW bE (by simpa using g))
   |some ad=>exact Ar hs oE h3 h2
  |nil=>exact JT hs oE h2
theorem ud(A:List kC)(av:Value)(l:List ByteArray)(h:dG A av l):aw Tryz.prog 73 [av] [A] (fun v Post=>∃B,xh v l B/\Post=[A,B]):=by
 obtain⟨a,c,rfl,hl,hr⟩:=h;refine aw.intro low73 (by simp[n73]) ?_;have eC:∀t∈l,t.size<=140737488355328:=fun t ht=>by
  obtain⟨i,hi⟩:=Vv ht;obtain⟨_,_,_,_,h⟩:=hr i t hi;exact h
 cases a with
 |none=>
  have EW:l=[]:=by
   cases l with
   |nil=>rfl
   |cons t l=>obtain⟨_,_,h,_⟩:=hr 0 t rfl;cases h
  subst EW;refine ae ?_;exact kG (Post:=[A,[]]) (.inr rfl) (.tmp Zr .nil) ⟨[],⟨[],.nil,rfl,Zs,Zs⟩,rfl⟩ ⟨[],by simp[V.eo]⟩
 |some ad=>
  refine ae ?_;refine jB (out:=[]) Zr Zr (fun q=>?_);refine ae ?_;cases EW:l with
  |nil=>
   subst EW;refine Ar Zr Zr (Qn _) ?_;refine ae ?_;exact kG (Post:=[A,[]]) (.inr rfl) (.tmp Zr .nil) ⟨[],⟨[],.mk rfl rfl (Qn _),rfl,Zs,Zs⟩,rfl⟩ ⟨[],by simp[V.eo,kA]⟩
  |cons t l'=>
   rw[<- EW];obtain⟨b,o,had,_⟩:=hr 0 t (by rw[EW];rfl);cases had;have hsrc:Src [A].flatten 1 l.length (l.map Value.string) (.slice (some ⟨b,o,none⟩) l.length c):=by
    exact zCH
   refine jH (k:=0) (m:=l.length) (xs:=[]) (sp:=[]) (ys:=l.map Value.string) Zr Zr (.mk rfl rfl (Qn _)) (show Tk [kA q 0 [],A] (kA q 0 []) [A]from .here) Zr hsrc Zs (by simp[ve,js]) Zr Zd Zo (fun eW bE aT=>?_);rw[QS,Qu]at*;obtain⟨a',c',rfl⟩:=aT.form;refine ae ?_;exact kG (Post:=[A,aj (.slice a' l.length c') (l.map Value.string) bE]) (.inr rfl) (.tmp Zr .nil) ⟨_,⟨_,aT,rfl,hl,eC⟩,rfl⟩ ZI
theorem LU(S:List kC)(mp op dp mb:Nat):∀(N:Nat) (x:Nd),x.w<=N->∀vs,jJ S x vs->∀(seen out:List ByteArray) (Bf:Array MapEntry) (mc hb:Nat) (l6:Array MapEntry) (hc:Nat) (sv:Value) (sp:List Value),FrOk seen out Bf mc l6 hc sv sp->
 seen.length+x.w<=1099511627776->out.length+x.w<=1099511627776->
 aw Tryz.prog 71 [.agg vs.toArray,.map (some hb),kF mp,kF op,kF dp] [kA mp 0 [.map (some mb)],kA op 0 [sv],kA dp 0 [(.func (.func 71) #[] #[kF mp,kF op,kF dp])],[.obj mb (.map Bf mc)],[.obj hb (.map l6 hc)],aj (sv) ((out).map Value.string) sp,S]
  (fun v Post=>∃Eg W0 eW bE,(v=.tuple #[]/\u7 (lZ seen out x) Eg W0/\jA 1 eW (lZ seen out x).length ((lZ seen out x).map Value.string) bE)/\Post=[kA mp 0 [.map (some mb)],kA op 0 [eW],kA dp 0 [(.func (.func 71) #[] #[kF mp,kF op,kF dp])],[.obj mb (.map Eg W0)],[.obj hb (.map l6 hc)],aj (eW) ((lZ seen out x).map Value.string) bE,S]):=by
 intro N
 induction N with
 |zero=>intro x hx;have:=x.nC;omega
 |succ N ih=>
  intro x hx vs h seen out Bf mc hb l6 hc sv sp aP hsw how;obtain⟨Pd,Cs,bD⟩:=aP;obtain⟨sa,sc,rfl⟩:=bD.form;cases h with
  |@mk k s lit args ab kids p lv av tv a cc bk o us wf hl bJ bF ha hm hr ss=>
  obtain⟨aa,ac,rfl,hav1,gP⟩:=id bJ;obtain⟨ta,tc,rfl,htv1,gU⟩:=id bF;have I1:=hl;cases hl with
  |@mk k1 n1 b1 t1 items la lc Mq lo Mr Tt IS p8 du=>
  simp only[Nd.w]at hx hsw how;obtain⟨mH,hH1,hH2,hH3⟩:=id Cs.is;obtain⟨mM,hM1,hM2⟩:=id Pd.is;have hgs:=hH2 s;have YZ:=hM2 s;obtain⟨s1,Po⟩:∃s1,s1=(if k=7 then seen++args++ab else seen):=⟨_,rfl⟩;obtain⟨o1,L9⟩:∃o1,o1=(if(k=2∨k=3)/\wx s=0/\s∉seen/\s∉out then out++[s]else out):=⟨_,rfl⟩;have uG:lZ seen out (.mk k s (.mk k1 n1 b1 t1 items) args ab kids p)=jz s1 o1 kids:=by rw[lZ,<- Po,<- L9]
  rw[uG];have hs1l:s1.length<=seen.length+args.length+ab.length:=by
   rw[Po];split
   ·simp only[Vy];omega
   ·omega
  have ho1l:o1.length<=out.length+1:=by
   rw[L9];split
   ·simp
   ·omega
  obtain⟨fn,uF⟩:∃fn,fn=(Value.func (.func 71) #[] #[kF mp,kF op,kF dp]):=⟨_,rfl⟩;have aC:∀(z:Nd) (us:List Value),z∈kids->jJ S z us->∀(seen out:List ByteArray) (Bf:Array MapEntry) (mc hb:Nat) (l6:Array MapEntry) (hc:Nat) (sv:Value) (sp:List Value),FrOk seen out Bf mc l6 hc sv sp->seen.length+z.w<=1099511627776->out.length+z.w<=1099511627776->
   dE Tryz.prog fn [.agg us.toArray,.map (some hb)] [kA mp 0 [.map (some mb)],kA op 0 [sv],kA dp 0 [fn],[.obj mb (.map Bf mc)],[.obj hb (.map l6 hc)],aj (sv) ((out).map Value.string) sp,S]
    (fun v Post=>∃Eg W0 eW bE,(v=.tuple #[]/\u7 (lZ seen out z) Eg W0/\jA 1 eW (lZ seen out z).length ((lZ seen out z).map Value.string) bE)/\Post=[kA mp 0 [.map (some mb)],kA op 0 [eW],kA dp 0 [fn],[.obj mb (.map Eg W0)],[.obj hb (.map l6 hc)],aj (eW) ((lZ seen out z).map Value.string) bE,S]):=fun z us hz Mh seen out Bf mc hb l6 hc sv sp g1 g2 g3=>by
   have hzw:=Nd.cy hz;rw[uF];exact dE.ck (first:=#[]) (cap:=#[kF mp,kF op,kF dp]) (ih z Zo us Mh seen out Bf mc hb l6 hc sv sp g1 g2 g3)
  rw[<- uF];refine aw.intro low71 (by simp[n71]) ?_;simp only[aJ];refine jF ?_;refine kX Zr (fun q=>?_);simp only[Value.cells];refine jF ?_;refine VC.join (α:=Array MapEntry×Nat×Value×List Value×Nat×Array MapEntry×Nat×List kC) (bi:=fun r=>[(1,.map (some r.2.2.2.2.1)),(4,kF dp),(5,kF q)])
   (Hf:=fun r=>[kA q 0 (rA k s k1 n1 b1 t1 la items.length lc aa args.length ac ta ab.length tc a kids.length cc p),kA mp 0 [.map (some mb)],kA op 0 [r.2.2.1],kA dp 0 [fn],[.obj mb (.map r.1 r.2.1)],[.obj r.2.2.2.2.1 (.map r.2.2.2.2.2.1 r.2.2.2.2.2.2.1)],aj (r.2.2.1) ((o1).map Value.string) r.2.2.2.1,S,r.2.2.2.2.2.2.2])
   (I:=fun r=>u7 o1 r.1 r.2.1/\rO s1 r.2.2.2.2.2.1 r.2.2.2.2.2.2.1/\jA 1 r.2.2.1 o1.length (o1.map Value.string) r.2.2.2.1/\(kC.obj r.2.2.2.2.1 (.map r.2.2.2.2.2.1 r.2.2.2.2.2.2.1)::r.2.2.2.2.2.2.2).Perm (kC.obj hb (.map l6 hc)::(if k=7 then [kC.obj r.2.2.2.2.1 (.map r.2.2.2.2.2.1 r.2.2.2.2.2.2.1)]else []))) ?_ ?_
  ·refine ae ?_;by_cases tx:k=2
   ·subst tx;exact zA9
   by_cases rI:k=3
   ·subst rI;exact zA9
   have E2:o1=out:=by rw[L9,if_neg (fun c=>c.1.elim tx rI)]
   rw[show decide ((k:Int)=2)=false from Zf Zo];refine ae ?_;rw[show decide ((k:Int)=3)=false from Zf Zo];refine ae ?_;by_cases hk7:k=7;rotate_left
   ·rw[show decide ((k:Int)=7)=false from Zf Zo];have Gt:s1=seen:=by rw[Po,if_neg hk7]
    refine ae ?_;refine⟨(Bf,mc,.slice sa out.length sc,sp,hb,l6,hc,[]),⟨by rw[E2];exact Pd,by rw[Gt];exact Cs,by rw[E2];exact bD,by rw[if_neg hk7]⟩,ZU,?_⟩;dsimp only;rw[E2];exact bS
   subst hk7;refine ae ?_;refine kH (Fw hb l6 hc) Zr ZP (fun v Post hv=>?_);obtain⟨mJ,rfl,rfl⟩:=hv;simp only[aJ];have hnl:(args++ab).length=args.length+ab.length:=Vy;refine jF ?_;refine VC.Dd (α:=Value×List kC) (fun r=>[(1,.map (some mJ)),(4,kF dp),(5,kF q),(47,r.1),(48,vi (args.length+ab.length:Nat)),(49,vi (0:Nat))])
    (fun r=>[kA q 0 (rA 7 s k1 n1 b1 t1 la items.length lc aa args.length ac ta ab.length tc a kids.length cc p),r.2,[.obj mJ (.map l6 hc)],kA mp 0 [.map (some mb)],kA op 0 [.slice sa out.length sc],kA dp 0 [fn],[.obj mb (.map Bf mc)],[.obj hb (.map l6 hc)],aj (.slice sa out.length sc) ((out).map Value.string) sp,S])
    (fun r=>∃xa xc,r.1=.slice xa (args++ab).length xc/\dG r.2 r.1 (args++ab)) ⟨?_,?_,trivial⟩ ?_
   ·exact zAG
   ·exact zAG
   rintro⟨lv,X⟩ ⟨xa,xc,e1,uz⟩
   simp only at e1 uz;subst e1;obtain⟨xa',xc',e',hrl,hrd2⟩:=id uz;cases e';dsimp only;refine ae ?_;refine VC.loop (α:=Nat×Array MapEntry×Nat) (bi:=fun r=>[(1,.map (some mJ)),(4,kF dp),(5,kF q),(47,.slice xa (args++ab).length xc),(48,vi (args.length+ab.length:Nat)),(49,vi r.1)])
    (Hf:=fun r=>[kA q 0 (rA 7 s k1 n1 b1 t1 la items.length lc aa args.length ac ta ab.length tc a kids.length cc p),X,[.obj mJ (.map r.2.1 r.2.2)],kA mp 0 [.map (some mb)],kA op 0 [.slice sa out.length sc],kA dp 0 [fn],[.obj mb (.map Bf mc)],[.obj hb (.map l6 hc)],aj (.slice sa out.length sc) ((out).map Value.string) sp,S])
    (I:=fun r=>r.1<=args.length+ab.length/\rO (seen++(args++ab).take r.1) r.2.1 r.2.2) (μ:=fun r=>args.length+ab.length - r.1) (0,l6,hc) ⟨Qv _,by rw[Qh,vm];exact Cs⟩ ZU ZI ?_
   rintro⟨j,EU,c2⟩ ⟨hj,hh2⟩
   simp only at hj hh2;dsimp only;refine ae ?_;by_cases aS:j < args.length+ab.length;rotate_left
   ·rw[show decide ((j:Int) < ((args.length+ab.length:Nat):Int))=false from Zf Zo];refine ae ?_;rw[Qg Zo]at hh2;refine⟨(Bf,mc,.slice sa out.length sc,sp,mJ,EU,c2,[kC.obj hb (.map l6 hc)]),⟨by rw[E2];exact Pd,by rw[Po,if_pos rfl,vj];exact hh2,by rw[E2];exact bD,List.Perm.swap _ _ _⟩,ZU,?_⟩;dsimp only;rw[E2];exact bS
   rw[show decide ((j:Int) < ((args.length+ab.length:Nat):Int))=true from Zt Zo];obtain⟨nm,L8⟩:∃nm,(args++ab)[j]? =some nm:=⟨_,Zg Zo⟩;obtain⟨xb,xo,rfl,gh,hss⟩:=hrd2 j nm L8;obtain⟨m2,k1',k2',k3'⟩:=id hh2.is;have k4:=k3' nm;have k5:=O6 (s:=nm) k2' k3';rw[Vy,Q9]at k4;refine ae ?_;refine zB (E:=yK) (V:=fun n:Nat=>.int .i64 n) (k:=nm) Zr Zr rfl Zaz k1' ?_;rw[KN];generalize hgn2:(kz nm m2).getD 0=gn2 at k4 k5;refine ae ?_;refine zA (E:=yK) (V:=fun n:Nat=>.int .i64 n) (k:=nm) (v:=gn2+1) Zr Zr Zr rfl ZK k1' (fun cB c' hes'=>?_);refine ae ?_;refine⟨(j+1,cB,c'),⟨by simp only;omega,?_⟩,by simp only;omega,ZU,ZI⟩;have cH:seen++(args++ab).take (j+1)=seen++(args++ab).take j++[nm]:=by rw[Qe,L8,vj];rfl
   rw[cH];exact⟨⟨_,hes',k5.1,k5.2⟩⟩
  rintro⟨mes1,mc1,sv1,sp1,ep,DE,Ua,ex⟩ ⟨g1,g2,g3,g4⟩
  simp only at g1 g2 g3 g4;dsimp only;refine ae ?_;refine VC.loop (α:=Nat×Array MapEntry×Nat×Value×List Value) (bi:=fun r=>[(1,.map (some ep)),(4,kF dp),(59,.slice a kids.length cc),(60,vi kids.length),(61,vi r.1)])
   (Hf:=fun r=>[kA mp 0 [.map (some mb)],kA op 0 [r.2.2.2.1],kA dp 0 [fn],[.obj mb (.map r.2.1 r.2.2.1)],[.obj ep (.map DE Ua)],aj (r.2.2.2.1) ((jz s1 o1 (kids.take r.1)).map Value.string) r.2.2.2.2,S,ex])
   (I:=fun r=>r.1<=kids.length/\u7 (jz s1 o1 (kids.take r.1)) r.2.1 r.2.2.1/\jA 1 r.2.2.2.1 (jz s1 o1 (kids.take r.1)).length ((jz s1 o1 (kids.take r.1)).map Value.string) r.2.2.2.2) (μ:=fun r=>kids.length - r.1) (0,mes1,mc1,sv1,sp1) ⟨Qv _,by rw[Qh,jz];exact g1,by rw[Qh,jz];exact g3⟩ ZU (by dsimp only;rw[Qh,jz];exact bS) ?_
  rintro⟨j,Rp,mc2,ZG,sp2⟩ ⟨hj,i1,i2⟩
  simp only at hj i1 i2;dsimp only;obtain⟨o2,ho2⟩:∃o2,o2=jz s1 o1 (kids.take j):=⟨_,rfl⟩;rw[<- ho2]at i1 i2|-;have ho2l:o2.length<=o1.length+Nd.ws (kids.take j):=by rw[ho2];exact xI s1 _ _
  refine ae ?_;by_cases aS:j < kids.length;rotate_left
  ·rw[show decide ((j:Int) < (kids.length:Int))=false from Zf Zo];rw[Qg Zo]at ho2;rw[<- ho2];refine ae ?_;refine kG (Post:=[kA mp 0 [.map (some mb)],kA op 0 [ZG],kA dp 0 [fn],[.obj mb (.map Rp mc2)],[.obj hb (.map l6 hc)],aj (ZG) ((o2).map Value.string) sp2,S]) (.inl rfl) .nil ⟨Rp,mc2,ZG,sp2,⟨rfl,i1,i2⟩,rfl⟩ ?_;refine ao.cut (M:=[kA mp 0 [.map (some mb)],kA op 0 [ZG],kA dp 0 [fn],[.obj mb (.map Rp mc2)],aj ZG (o2.map Value.string) sp2,S,[.obj ep (.map DE Ua)],ex]) ZI ?_;refine ao.cut (M:=[kA mp 0 [.map (some mb)],kA op 0 [ZG],kA dp 0 [fn],[.obj mb (.map Rp mc2)],aj ZG (o2.map Value.string) sp2,S,[.obj hb (.map l6 hc)],(if k=7 then [kC.obj ep (.map DE Ua)]else [])]) (ao.perm ?_) ZI;simp only[Vd,Ve,vm];refine vX _ (vX _ (vX _ (vX _ (vX _ (vX _ ?_)))));exact g4
  rw[show decide ((j:Int) < (kids.length:Int))=true from Zt Zo];obtain rfl:=ha Zo;obtain⟨z,hz⟩:∃z,kids[j]? =some z:=⟨_,Zg aS⟩;have Mh:=hr j z hz;have Zc:=hm j aS;have bz:=wf.many;have cH:kids.take (j+1)=kids.take j++[z]:=by rw[Qe,hz];rfl
  have Um:Nd.ws (kids.take j)+z.w<=Nd.ws kids:=by
   have e:kids=kids.take j++z::kids.drop (j+1):=by
    rw[<- Qf j kids]
    congr 1
    ·rw[Qf]
    ·rw[Qf,vw aS]
     congr 1
     rw[Zg aS]at hz;exact X3 hz
   have:=El (z::kids.drop (j+1)) (kids.take j);rw[<- e]at this;rw[this];simp only[Nd.ws];omega
  have hzk:=aC z (us j) (Zv hz) Mh s1 o2 Rp mc2 ep DE Ua ZG sp2 ⟨i1,g2,i2⟩ Zo Zo;generalize us j=uj at Mh Zc hzk;obtain⟨f1,f2,f3,f4,f5,f6,f7,f8,f9,f10,f11,f12,f13,f14,f15,f16,f17,rfl,eC,ir⟩:=dQ Mh;refine ae ?_;refine kS Zr (fun u hu=>List.mem_flatten.2 ⟨S,Zs,Zc u hu⟩) rfl ?_;refine ae ?_;refine kO (fun q9=>?_);refine ae ?_;refine dX Zr hzk Zr ZP (fun v Post hv=>?_);obtain⟨mes3,mc3,sv3,sp3,⟨rfl,j1,j2⟩,rfl⟩:=hv;simp only[aJ];have ho3:jz s1 o1 (kids.take (j+1))=lZ s1 o2 z:=by rw[cH,Cq,ho2]
  refine ae ?_;refine⟨(j+1,mes3,mc3,sv3,sp3),⟨by simp only;omega,by simp only;rw[ho3];exact j1,by simp only;rw[ho3];exact j2⟩,by simp only;omega,ZU,?_⟩;dsimp only;rw[ho3];exact bS
set_option maxHeartbeats 3200000
theorem B7(S:List kC)(x:Nd)(vs:List Value)(h:jJ S x vs)(hw:x.w<=274877906944):aw Tryz.prog 27 [.agg vs.toArray] [S] (fun v Post=>∃B,xh v (lZ [] [] x) B/\Post=[S,B]):=by
 have hlen:=Kp [] x [];have eC:=Gc [] 274877906944 x [] hw (fun t ht=>by cases ht);have hd:∀(mp op dp mb:Nat) (Bf:Array MapEntry) (mc hb:Nat),u7 [] Bf mc->dE Tryz.prog (.func (.func 71) #[] #[kF mp,kF op,kF dp]) [.agg vs.toArray,.map (some hb)] [kA mp 0 [.map (some mb)],kA op 0 [Nz],kA dp 0 [.func (.func 71) #[] #[kF mp,kF op,kF dp]],[.obj mb (.map Bf mc)],[.obj hb (.map #[] 0)],aj Nz (([]:List ByteArray).map Value.string) [],S]
  (fun v Post=>∃Eg W0 eW bE,(v=.tuple #[]/\u7 (lZ [] [] x) Eg W0/\jA 1 eW (lZ [] [] x).length ((lZ [] [] x).map Value.string) bE)/\Post=[kA mp 0 [.map (some mb)],kA op 0 [eW],kA dp 0 [.func (.func 71) #[] #[kF mp,kF op,kF dp]],[.obj mb (.map Eg W0)],[.obj hb (.map #[] 0)],aj eW ((lZ [] [] x).map Value.string) bE,S]):=fun mp op dp mb Bf mc hb hm=>
  dE.ck (first:=#[]) (cap:=#[kF mp,kF op,kF dp]) (LU S mp op dp mb _ x (Qn _) vs h [] [] Bf mc hb #[] 0 Nz [] ⟨hm,rO.nil,.nil⟩ (by rw[Q6];omega) (by rw[Q6];omega))
 obtain⟨g1,g2,g3,g4,g5,g6,g7,g8,g9,g10,g11,g12,g13,g14,g15,g16,rfl⟩:=qO h;refine aw.intro low27 (by simp[n27]) ?_;refine ae ?_;refine kX Zr (fun q=>?_);simp only[Value.cells];refine ae ?_;refine kO (fun op=>?_);refine ae ?_;refine iG (fun mb=>?_);refine ae ?_;refine zA (E:=yK) (V:=fun n:Nat=>.int .i64 n) (k:=yv) (v:=1) Zr Zr Zr rfl ZK .nil (fun es1 c1 h1=>?_);refine ae ?_;refine zA (E:=yK) (V:=fun n:Nat=>.int .i64 n) (k:=nP) (v:=1) Zr Zr Zr rfl ZK h1 (fun EU c2 h2=>?_);refine ae ?_;refine zA (E:=yK) (V:=fun n:Nat=>.int .i64 n) (k:=G3) (v:=1) Zr Zr Zr rfl ZK h2 (fun es3 c3 h3=>?_);refine ae ?_;refine zA (E:=yK) (V:=fun n:Nat=>.int .i64 n) (k:=yw) (v:=1) Zr Zr Zr rfl ZK h3 (fun es4 c4 h4=>?_);refine ae ?_;refine zA (E:=yK) (V:=fun n:Nat=>.int .i64 n) (k:=qP) (v:=1) Zr Zr Zr rfl ZK h4 (fun es5 c5 h5=>?_);refine ae ?_;refine kO (fun mp=>?_);refine ae ?_;refine kO (fun dp=>?_);refine ae ?_;refine iG (fun hb=>?_);refine ae ?_;refine VO.imp (H':=[kA mp 0 [.map (some mb)],kA op 0 [Nz],kA dp 0 [(.func (.func 71) #[] #[kF mp,kF op,kF dp])],[.obj mb (.map es5 c5)],[.obj hb (.map #[] 0)],aj Nz (([]:List ByteArray).map Value.string) [],S]) ?_ ?_
 ·show ao [[.obj hb (.map #[] 0)],kA dp 0 [(.func (.func 71) #[] #[kF mp,kF op,kF dp])],kA mp 0 [.map (some mb)],[.obj mb (.map es5 c5)],kA op 0 [Nz],kA q 0 _,S] [kA mp 0 [.map (some mb)],kA op 0 [Nz],kA dp 0 [(.func (.func 71) #[] #[kF mp,kF op,kF dp])],[.obj mb (.map es5 c5)],[.obj hb (.map #[] 0)],[],S];exact ao.cut (M:=[kA mp 0 [.map (some mb)],kA op 0 [Nz],kA dp 0 [(.func (.func 71) #[] #[kF mp,kF op,kF dp])],[.obj mb (.map es5 c5)],[.obj hb (.map #[] 0)],S]) ZI (ao.perm Zs)
 refine dX Zr (hd mp op dp mb es5 c5 hb ⟨⟨_,h5,Rq⟩⟩) Zr ZP (fun v Post hv=>?_);obtain⟨Eg,W0,eW,bE,⟨rfl,j1,j2⟩,rfl⟩:=hv;simp only[aJ];obtain⟨a',c',rfl⟩:=id j2.form;refine ae ?_;exact kG (Post:=[S,aj (.slice a' (lZ [] [] x).length c') ((lZ [] [] x).map Value.string) bE]) (.inr rfl) (.tmp Zr .nil) ⟨_,⟨bE,j2,rfl,by rw[Q6]at hlen;omega,fun t ht=>by have:=eC t ht;omega⟩,rfl⟩ ZI
noncomputable def F11:aQ:=bb (o:=gF pq Tryz.f11 [])
theorem n11:F11.n=137:=rfl
theorem low11:aY Tryz.prog 11 []=some F11:=by kernel_rfl
set_option maxHeartbeats 6400000
def u1:List wY:=(gK [] [] m1).1
theorem an1:(gK [] [] m1).2=(0,0):=by kernel_rfl
theorem an2:(gK [] [] m2)=([],181,4):=by kernel_rfl
theorem un1:u1.length=3:=by kernel_rfl
theorem un2:u1[0]?.map (·.aA)=some 2:=by kernel_rfl
theorem un3:u1[1]?.map (·.copied.length)=some 2:=by kernel_rfl
theorem un4:(u1[1]?.bind (·.copied[0]?))=some ⟨5,1,0,e0⟩:=by kernel_rfl
theorem un5:(u1[2]?.bind (·.copied[1]?))=some ⟨5,0,0,e0⟩:=by kernel_rfl
theorem un6:u1[2]?.map (·.copied.length)=some 2:=by kernel_rfl
theorem Tl {B:List kC}{v:Value}(h:pN B v u1):∃bk o c b1 o1 c1 b2 o2 c2,v=.slice (some ⟨bk,o,none⟩) 3 c/\kC.cell bk (o+4) (.int .i64 2)∈B/\kC.cell bk (o+8) (.slice (some ⟨b1,o1,none⟩) 2 c1)∈B/\kC.cell bk (o+14) (.slice (some ⟨b2,o2,none⟩) 2 c2)∈B/\
 (∀y∈kA b1 o1 [.int .u8 5,.int .i64 1,.int .i64 0,.string ⟨#[]⟩],y∈B)/\∀y∈kA b2 (o2+4) [.int .u8 5,.int .i64 0,.int .i64 0,.string ⟨#[]⟩],y∈B:=by
 obtain⟨a,c,bk,o,us,rfl,h2,h3,h4⟩:=h;obtain⟨x0,e0',k0⟩:=X0.1 un2;obtain⟨x1,e1,k1⟩:=X0.1 un3;obtain⟨x2,e2,k2⟩:=X0.1 un6;have k3:=un4;rw[e1]at k3;have k4:=un5;rw[e2]at k4;rw[un1]at h2 h3|-;obtain rfl:=h2 Zd;obtain⟨cv0,bv0,r0,p0,_⟩:=h4 0 x0 e0';obtain⟨cv1,bv1,r1,p1,_⟩:=h4 1 x1 e1;obtain⟨cv2,bv2,r2,p2,_⟩:=h4 2 x2 e2;obtain⟨a1,c1,rfl,q1⟩:=p1;obtain⟨a2,c2,rfl,q2⟩:=p2;obtain⟨b1,o1,rfl,s1⟩:=q1 0 _ k3;obtain⟨b2,o2,rfl,s2⟩:=q2 1 _ k4;have g0:=h3 0 Zd;have g1:=h3 1 Zd;have g2:=h3 2 Zd;rw[r0]at g0;rw[r1,show x1.copied.length=2 from k1]at g1;rw[r2,show x2.copied.length=2 from k2]at g2;refine⟨bk,o,c,b1,o1,c1,b2,o2,c2,rfl,g0 _ ?_,g1 _ ?_,g2 _ ?_,s1,?_⟩
 ·exact kJ.2 ⟨4,.int .i64 2,by rw[<- k0];rfl,Zs⟩
 ·exact kJ.2 ⟨2,_,rfl,Zs⟩
 ·exact kJ.2 ⟨2,_,rfl,Zs⟩
 ·exact s2
def bl0:Nd:=.mk 7 ⟨#[]⟩ (.mk 0 0 0 ⟨#[]⟩ []) [] [] [] 0
def wh0:Nd:=.mk 4 ⟨#[119,104,105,108,101,84,114,117,101]⟩ (.mk 0 0 0 ⟨#[]⟩ []) [] [] [bl0] 0
theorem dG.G2(S:List kC):dG S Nz []:=⟨none,0,rfl,Zd,fun i t h=>by simp at h⟩
theorem fV(S:List kC):zk S (.mk 0 0 0 ⟨#[]⟩ []) [cv 0,vi 0,uv 0,.string ⟨#[]⟩,Nz]:=.mk (a:=none) (c:=0) (bk:=0) (o:=0) (us:=fun _=>[]) ⟨Zd,Zd,Zd,Zd,Zd⟩ (fun h=>absurd h Zs) (fun i hi=>absurd hi Zs) (fun i x hx=>by simp at hx)
def z11:List Value:=[.int .u8 7,.string ⟨#[]⟩,.int .u8 0,.int .i64 0,.int .u64 0,.string ⟨#[]⟩,Nz,Nz,Nz,Nz,.int .i64 0]
theorem ο(S:List kC):jJ S bl0 z11:=
 .mk (a:=none) (c:=0) (bk:=0) (o:=0) (us:=fun _=>[]) ⟨Zd,Zd,Zd,Zd⟩ (fV S) (dG.G2 S) (dG.G2 S) (fun h=>absurd h Zs) (fun i hi=>absurd hi Zs) (fun i x hx=>by simp at hx) (Qn _)
theorem wh0_rd(q c:Nat)(hc:1<=c):jJ (kA q 0 z11) wh0 [.int .u8 4,.string ⟨#[119,104,105,108,101,84,114,117,101]⟩,.int .u8 0,.int .i64 0,.int .u64 0,.string ⟨#[]⟩,Nz,Nz,Nz,.slice (some ⟨q,0,none⟩) 1 c,.int .i64 0]:=
 .mk (a:=some ⟨q,0,none⟩) (c:=c) (bk:=q) (o:=0) (us:=fun _=>z11) (kids:=[bl0]) ⟨Zd,Zd,Zd,Zd⟩ (fV _) (dG.G2 _) (dG.G2 _) (fun _=>rfl) (fun i hi y hy=>by
  have:i=0:=by simpa using hi
  subst this;simpa using hy) (fun i x hx=>by
  cases i with
  |zero=>obtain rfl:bl0=x:=by simpa using hx
         exact ο _
  |succ i=>simp at hx) hc
theorem inl_wh:gV wh0=true:=by kernel_rfl
theorem inl_b0:(m1.body[0]?).map gV=some false:=by kernel_rfl
theorem fr_b1:(m1.body[1]?).map (lZ [] [])=some [⟨#[117]⟩,⟨#[116]⟩,⟨#[97]⟩]:=by kernel_rfl
theorem w_m1:Nd.ws m1.body<=274877906944:=Qm (by kernel_rfl)
theorem w_m2:Nd.ws m2.body<=274877906944:=Qm (by kernel_rfl)
theorem s_m1:Nd.aq m1.body<=1048576:=Qm (by kernel_rfl)
theorem s_m2:Nd.aq m2.body<=1048576:=Qm (by kernel_rfl)
theorem c_m1:iU m1.args m1.ab m1.body<=1048576:=Qm (by kernel_rfl)
theorem c_m2:iU m2.args m2.ab m2.body<=1048576:=Qm (by kernel_rfl)
theorem Res1(S:List kC)(vs:List Value)(h:Fe S m1 vs):aw Tryz.prog 15 [.agg vs.toArray,Nz,Nz] [S] (fun v Post=>∃aE ax uY B,v=.tuple #[.agg #[.string aE,.int .i64 ax,uY],.nilIface]/\pN B uY u1/\Post=[S,B]):=by
 refine(ez S m1 vs h [] [] _ _ (dG.G2 S) (dG.G2 S) (Qv _) (Qv _) c_m1 s_m1 w_m1).mono ?_
 rintro v Post (⟨l,uY,B,e1,rfl,h2,rfl⟩|⟨e,p,q,e1,bZ,_⟩)
 ·have:u1=l:=by unfold u1;rw[e1]
  rw[this];exact⟨_,_,uY,B,rfl,h2,rfl⟩
 ·have:=an1;rw[e1]at this;exact absurd (congrArg Prod.fst this) bZ
theorem Res2(S:List kC)(vs:List Value)(h:Fe S m2 vs):aw Tryz.prog 15 [.agg vs.toArray,Nz,Nz] [S] (fun v Post=>∃q,v=.tuple #[.agg #[.string e0,.int .i64 0,Nz],.iface 80 (kF q)]/\Post=[S,jP q 181 4]):=by
 refine(ez S m2 vs h [] [] _ _ (dG.G2 S) (dG.G2 S) (Qv _) (Qv _) c_m2 s_m2 w_m2).mono ?_
 rintro v Post (⟨l,uY,B,e1,_⟩|⟨e,p,q,e1,bZ,rfl,rfl⟩)
 ·rw[an2]at e1;cases e1
 ·rw[an2]at e1;cases e1;exact⟨q,rfl,rfl⟩
theorem nE.more {A B:List kC}(h:nE A)(hs:∀x∈A,x∈B):nE B:=by
 obtain⟨ev,h1,h2⟩:=h;exact⟨ev,hs _ h1,h2⟩
theorem Ir(A:List kC)(hE:nE A)(hT:Ys∈A):aw Tryz.prog 11 [] [A] (fun v Post=>v=.bool true/\Post=[A]):=by
 refine aw.intro low11 (by simp[n11]) ?_;refine ae ?_;refine kH (WY A) Zr ZP (fun v Post hv=>?_);obtain⟨vs1,B1,rfl,AJ,rfl⟩:=hv;simp only[aJ];refine VO.imp (H':=[A++B1]) (ao.perm Zs) ?_;have YX:Fe (A++B1) m1 vs1:=(AJ.more fun z hz=>QG _ hz).ok (hE.more fun z hz=>Zw _ hz) w_m1;have hm1':=AJ.more (B:=A++B1) fun z hz=>QG _ hz
 have IP:nE (A++B1):=hE.more fun z hz=>Zw _ hz
 have hT1:Ys∈A++B1:=Zw _ hT;have hA1:∃R,A++B1=A++R:=⟨B1,rfl⟩;generalize A++B1=S1 at YX hm1' IP hT1 hA1|-;clear AJ;obtain⟨⟨aa,ac,ta,tc,a,c,bk,o,us,rfl,bJ,bF,hk⟩,bY,qg⟩:=hm1';refine ae ?_;refine kO (fun q1=>?_);refine ae ?_;refine kO (fun q2=>?_);refine ae ?_;refine kH (Res1 S1 _ YX) Zr ZP (fun v Post hv=>?_);obtain⟨aE,ax,uY,B,rfl,x4,rfl⟩:=hv;obtain⟨ub,uo,uc,rb1,ro1,rc1,rb2,ro2,rc2,rfl,k1,k2,k3,k4,k5⟩:=Tl x4;simp only[aJ];refine VO.imp (H':=[S1++B,kA q1 0 [.string m1.aE,.slice aa m1.args.length ac,.slice ta m1.ab.length tc,vi m1.ax,.slice a m1.body.length c]]) (ao.cut (M:=[S1,B,kA q1 0 [.string m1.aE,.slice aa m1.args.length ac,.slice ta m1.ab.length tc,vi m1.ax,.slice a m1.body.length c]]) ZI (ao.perm Zs)) ?_
 replace k1:kC.cell ub (uo+4) (.int .i64 2)∈S1++B:=QG _ k1
 replace k2:=QG S1 k2
 replace k3:=QG S1 k3
 replace k4:∀y∈kA rb1 ro1 [.int .u8 5,.int .i64 1,.int .i64 0,.string ⟨#[]⟩],y∈S1++B:=fun y hy=>QG S1 (k4 y hy)
 replace k5:∀y∈kA rb2 (ro2+4) [.int .u8 5,.int .i64 0,.int .i64 0,.string ⟨#[]⟩],y∈S1++B:=fun y hy=>QG S1 (k5 y hy)
 have tx:∃bk o us,oK (S1++B) m1.body a bk o us:=⟨bk,o,us,hk.at_,hk.many,fun i hi y hy=>Zw _ (hk.mem i hi y hy),fun i x e=>(hk.rd i x e).more fun z hz=>Zw _ hz⟩;have IQ:nE (S1++B):=IP.more fun z hz=>Zw _ hz
 have hT2:Ys∈S1++B:=Zw _ hT1;have hA2:∃R,S1++B=A++R:=by
  obtain⟨R,rfl⟩:=hA1;exact⟨R++B,vj _ _ _⟩
 clear hk YX bJ bF x4;generalize S1++B=S2 at k1 k2 k3 k4 k5 tx IQ hT2 hA2|-;clear IP hT1 hA1;refine ae ?_;refine kO (fun q3=>?_);refine ae ?_;refine kH (WZ S2) Zr ZP (fun v Post hv=>?_);obtain⟨vs2,B2,rfl,p8,rfl⟩:=hv;simp only[aJ];refine VO.imp (H':=[S2++B2,kA q1 0 [.string m1.aE,.slice aa m1.args.length ac,.slice ta m1.ab.length tc,vi m1.ax,.slice a m1.body.length c],kA q3 0 [.string aE,.int .i64 ax,.slice (some ⟨ub,uo,none⟩) 3 uc]]) (ao.cut (M:=[S2,B2,kA q1 0 [.string m1.aE,.slice aa m1.args.length ac,.slice ta m1.ab.length tc,vi m1.ax,.slice a m1.body.length c],kA q3 0 [.string aE,.int .i64 ax,.slice (some ⟨ub,uo,none⟩) 3 uc]]) ZI (ao.perm Zs)) ?_;have YX:Fe (S2++B2) m2 vs2:=(p8.more fun z hz=>QG _ hz).ok (IQ.more fun z hz=>Zw _ hz) w_m2;obtain⟨⟨aa2,ac2,ta2,tc2,a2,c2,_,_,_,rfl,_,_,_⟩,_,_⟩:=p8;refine ae ?_;refine kO (fun q4=>?_);refine ae ?_;refine kO (fun q5=>?_);refine ae ?_;refine kH (Res2 (S2++B2) _ YX) Zr ZP (fun v Post hv=>?_);obtain⟨qf,rfl,rfl⟩:=hv;simp only[aJ];refine VO.imp (H':=[(S2++B2)++jP qf 181 4,kA q1 0 [.string m1.aE,.slice aa m1.args.length ac,.slice ta m1.ab.length tc,vi m1.ax,.slice a m1.body.length c],kA q3 0 [.string aE,.int .i64 ax,.slice (some ⟨ub,uo,none⟩) 3 uc]]) (ao.cut (M:=[S2++B2,jP qf 181 4,kA q1 0 [.string m1.aE,.slice aa m1.args.length ac,.slice ta m1.ab.length tc,vi m1.ax,.slice a m1.body.length c],kA q3 0 [.string aE,.int .i64 ax,.slice (some ⟨ub,uo,none⟩) 3 uc]]) ZI (ao.perm Zs)) ?_;have gS:∀y∈jP qf 181 4,y∈S2++B2++jP qf 181 4:=fun y hy=>QG _ hy
 have f1:kC.cell qf 1 (.int .i64 4)∈S2++B2++jP qf 181 4:=gS _ (kJ.2 ⟨1,_,rfl,Zs⟩);have f2:kC.cell qf 2 (.iface 44 (.int .i64 181))∈S2++B2++jP qf 181 4:=gS _ (kJ.2 ⟨2,_,rfl,Zs⟩);clear gS YX;have aL:∀z∈S2,z∈S2++B2++jP qf 181 4:=fun z hz=>Zw _ (Zw _ hz)
 replace k1:=aL _ k1
 replace k2:=aL _ k2
 replace k3:=aL _ k3
 replace k4:=fun y hy=>aL y (k4 y hy)
 replace k5:=fun y hy=>aL y (k5 y hy)
 have hT3:=aL _ hT2;obtain⟨bk,o,us,hk⟩:=tx;have rI:oK (S2++B2++jP qf 181 4) m1.body a bk o us:=⟨hk.at_,hk.many,fun i hi y hy=>aL _ (hk.mem i hi y hy),fun i x e=>(hk.rd i x e).more aL⟩;have hA3:∃R,S2++B2++jP qf 181 4=A++R:=by
  obtain⟨R,rfl⟩:=hA2;exact⟨R++(B2++jP qf 181 4),Zs⟩
 clear aL hk IQ hT2 hA2;generalize S2++B2++jP qf 181 4=S at k1 k2 k3 k4 k5 f1 f2 hT3 rI hA3|-;refine ae ?_;refine kO (fun q6=>?_);refine ae ?_;refine kH (Fg S hT3 qf 4 181 f1 f2) Zr ZP (fun v Post hv=>?_);obtain⟨rfl,rfl⟩:=hv;simp only[aJ];obtain rfl:=rI.at_ Zd;refine ae ?_;obtain⟨n1,e1,L7⟩:=X0.1 fr_b1;obtain⟨n0,e0',hn0⟩:=X0.1 inl_b0;have E4:n1.w<=274877906944:=Qp (Nd.cy (Zv e1)) w_m1;refine kS (us:=us 1) Zr (fun u hu=>by simp only[Vd,QF];exact .inl (rI.mem 1 Zd u hu)) (jJ.len (rI.rd 1 n1 e1)) ?_;refine ae ?_;refine kH (B7 S n1 (us 1) (rI.rd 1 n1 e1) E4) Zr ZP (fun v Post hv=>?_);obtain⟨B3,Ul,rfl⟩:=hv;have uz:=Ul.rd;rw[L7]at uz;obtain⟨fa,fc,rfl,_,hr⟩:=uz;obtain⟨fb,fo,rfl,k6,_⟩:=hr 0 _ rfl;rw[Qj]at k6;clear Ul hr;simp only[aJ];refine ae ?_;refine jB (out:=z11) Zr Zr (fun qb=>?_);refine ae ?_;refine kH (qj (kA qb 0 z11) wh0 _ (wh0_rd qb 1 (Qn _))) Zr ZP (fun v Post hv=>?_);obtain⟨rfl,rfl⟩:=hv;rw[inl_wh];simp only[aJ];refine ae ?_;refine kS (us:=us 0) Zr (fun u hu=>by simp only[Vd,QF];have:=rI.mem 0 Zd u hu;simp[this]) (jJ.len (rI.rd 0 n0 e0')) ?_;refine ae ?_;refine kH (qj S n0 (us 0) (rI.rd 0 n0 e0')) Zr ZP (fun v Post hv=>?_);obtain⟨rfl,rfl⟩:=hv;rw[hn0];simp only[aJ];refine ae ?_;refine kS (us:=[.int .u8 5,.int .i64 1,.int .i64 0,.string ⟨#[]⟩]) Zr (fun u hu=>by have:=k4 u hu;simp only[Vd,QF];simp[this]) rfl ?_;refine ae ?_;refine kS (us:=[.int .u8 5,.int .i64 0,.int .i64 0,.string ⟨#[]⟩]) Zr (fun u hu=>by have:=k5 u hu;simp only[Vd,QF];simp[this]) rfl ?_;refine ae ?_;obtain⟨R,rfl⟩:=hA3;exact kG (Post:=[A]) (.inr rfl) (.tmp (v:=.bool true) Zr .nil) ⟨rfl,rfl⟩ (ao.cut (M:=[A++R]) ZI ⟨[R],by simp[V.eo]⟩)
noncomputable def F24:aQ:=bb (o:=gF pq Tryz.f24 [])
theorem n24:F24.n=48:=rfl
theorem low24:aY Tryz.prog 24 []=some F24:=by kernel_rfl
noncomputable def F67:aQ:=bb (o:=gF pq Tryz.f67 [])
theorem n67:F67.n=37:=rfl
theorem low67:aY Tryz.prog 67 []=some F67:=by kernel_rfl
noncomputable def F68:aQ:=bb (o:=gF pq Tryz.f68 [])
theorem n68:F68.n=25:=rfl
theorem low68:aY Tryz.prog 68 []=some F68:=by kernel_rfl
noncomputable def F42:aQ:=bb (o:=gF pq Tryz.f42 [])
theorem n42:F42.n=34:=rfl
theorem low42:aY Tryz.prog 42 []=some F42:=by kernel_rfl
noncomputable def F12:aQ:=bb (o:=gF pq Tryz.f12 [])
theorem n12:F12.n=20:=rfl
theorem low12:aY Tryz.prog 12 []=some F12:=by kernel_rfl
end Go.Proofs.YtijnokbblmbpkaaGreatDoor
namespace Go.V
open Go
theorem yh(b:List Lt):∀(a:List Lt),Lt.aq (a++b)=Lt.aq a+Lt.aq b
 |[]=>by rw[QS,Lt.aq,Qu]
 |x::r=>by rw[vr,Lt.aq,Lt.aq,yh b r,Qi]
theorem WW {l:List Lt}{j:Nat}{y:Lt}(h:l[j]? =some y):Lt.aq (l.take (j+1))=Lt.aq (l.take j)+y.size:=by
 rw[Qe,h,yh];simp only[Option.toList,Lt.aq];omega
theorem KR {l:List Nd}{j:Nat}{y:Nd}(h:l[j]? =some y):Nd.ws (l.take (j+1))=Nd.ws (l.take j)+y.w:=by
 rw[Qe,h,El];simp only[Option.toList,Nd.ws];omega
mutual
theorem size_w:∀(x:Nd),x.size<=x.w
 |.mk k s lit args ab kids p=>by
  have:=Ao kids;simp only[Nd.size,Nd.w];omega
theorem Ao:∀(l:List Nd),Nd.aq l<=Nd.ws l
 |[]=>Qn _
 |x::r=>by
  have h1:=size_w x;have h2:=Ao r;simp only[Nd.aq,Nd.ws];omega
end
mutual
theorem ς:∀(x:Nd),pW x<=x.w
 |.mk k s lit args ab kids p=>by
  have:=xw kids;simp only[pW,iV,Nd.w];omega
theorem xw:∀(l:List Nd),jM l<=Nd.ws l
 |[]=>Qn _
 |x::r=>by
  have h1:=ς x;have h2:=xw r;simp only[jM,Nd.ws];omega
end
end Go.V
namespace Go.Proofs.YtijnokbblmbpkaaGreatDoor
open Go Go.V
set_option maxHeartbeats 3200000
set_option maxRecDepth 100000
theorem Ec {A:List kC}{x:Lt}{vs:List Value}(h:zk A x vs):∃(e:Option Addr) (c:Nat),vs=[cv x.kind,vi x.n,uv x.bits,.string x.text,.slice e x.items.length c]:=by
 cases h with
 |mk wf ha hm hr=>exact⟨_,_,rfl⟩
def wB(s:Int):Int:=max s 262144+140737488355329
theorem zv(A:List kC)(av:Value)(l:List ByteArray)(h:dG A av l)(s:Int)(hs:0<=s/\s<=2305843009213693952):aw Tryz.prog 68 [av,vi s] [A] (fun v Post=>∃r,v=vi r/\0<=r/\r<=wB s/\(r<=262144->s+l.length<=r)/\Post=[A]):=by
 obtain⟨a,c,rfl,hl,hr⟩:=h;refine aw.intro low68 (by simp[n68]) ?_;refine ae ?_;refine VC.loop (α:=Nat×Int) (bi:=fun z=>[(0,.slice a l.length c),(1,vi z.2),(5,vi z.1)]) (Hf:=fun _=>[A])
  (I:=fun z=>z.1<=l.length/\0<=z.2/\z.2<=wB s/\s+z.1<=z.2) (μ:=fun z=>l.length - z.1) (0,s) ⟨Qv _,hs.1,by unfold wB;omega,by simp only;omega⟩ ZU ZI ?_
 rintro⟨j,r⟩ ⟨i1,i2,i3,i4⟩
 simp only at i1 i2 i3 i4;dsimp only;unfold wB at i3;refine ae ?_;by_cases hj:j < l.length;rotate_left
 ·rw[show decide ((j:Int) < (l.length:Int))=false from Zf Zo];exact zDY
 rw[show decide ((j:Int) < (l.length:Int))=true from Zt Zo];refine ae ?_;by_cases du:r<=262144;rotate_left
 ·rw[Zf du];exact zDY
 rw[Zt du];obtain⟨x,hx⟩:∃x,l[j]? =some x:=⟨_,Zg hj⟩;obtain⟨b1,o1,rfl,Ua,sC⟩:=hr j x hx;refine ae ?_;refine⟨(j+1,r+1+x.size),⟨by simp only;omega,by simp only;omega,by simp only;unfold wB;omega,by simp only;omega⟩,by simp only;omega,ZU,ZI⟩
theorem By(A:List kC):∀(N:Nat) (x:Lt),x.size<=N->∀vs,zk A x vs->∀(s d:Int),0<=s->s<=2305843009213693952->0<=d->d<=60001->aw Tryz.prog 67 [.agg vs.toArray,vi s,vi d] [A] (fun v Post=>∃r,v=vi r/\0<=r/\r<=wB s/\(r<=262144->s+x.size<=r)/\Post=[A]):=by
 intro N
 induction N with
 |zero=>intro x hx;have:=x.size_pos;omega
 |succ N ih=>
  intro x hx vs h s d sC rK hd1 Gi;cases h with
  |@mk k n b t items a c bk o us wf ha hm hr=>
  have bz:=wf.many;have htx:=wf.text;refine aw.intro low67 (by simp[n67]) ?_;refine ae ?_;refine kX Zr (fun q=>?_);simp only[Value.cells];refine ae ?_;by_cases hd:d > 60000
  ·rw[Zt hd];refine ae ?_;exact kG (Post:=[A]) (.inr rfl) (.tmp Zr .nil) ⟨262145,rfl,Zo,by unfold wB;omega,fun hh=>absurd hh Zd,rfl⟩ ZI
  rw[Zf hd];refine ae ?_;refine VC.loop (α:=Nat×Int) (bi:=fun z=>[(1,vi z.2),(2,vi d),(3,kF q),(7,vi z.1)]) (Hf:=fun _=>[A,kA q 0 [cv k,vi n,uv b,.string t,.slice a items.length c]])
   (I:=fun z=>z.1<=items.length/\0<=z.2/\z.2<=wB s/\(z.2<=262144->s+1+Lt.aq (items.take z.1)<=z.2)) (μ:=fun z=>items.length - z.1) (0,s+1+t.size) ⟨Qv _,by simp only;omega,by simp only;unfold wB;omega,fun _=>by simp only[Qh,Lt.aq];omega⟩ ZU ZI ?_
  rintro⟨j,r⟩ ⟨i1,i2,i3,i4⟩
  simp only at i1 i2 i3 i4;dsimp only;unfold wB at i3;refine ae ?_;by_cases hj:j < items.length;rotate_left
  ·rw[show decide ((j:Int) < (items.length:Int))=false from Zf Zo];refine ae ?_;exact kG (Post:=[A]) (.inr rfl) (.tmp Zr .nil) ⟨r,rfl,i2,by unfold wB;omega,fun hh=>(by have:=i4 hh;rw[Qg Zo]at this;simp only[Lt.size];omega),rfl⟩ ZI
  rw[show decide ((j:Int) < (items.length:Int))=true from Zt Zo];refine ae ?_;by_cases du:r<=262144;rotate_left
  ·rw[Zf du];refine ae ?_;exact kG (Post:=[A]) (.inr rfl) (.tmp Zr .nil) ⟨r,rfl,i2,by unfold wB;omega,fun hh=>absurd hh du,rfl⟩ ZI
  rw[Zt du];obtain rfl:=ha Zo;obtain⟨y,hy⟩:∃y,items[j]? =some y:=⟨_,Zg hj⟩;have cQ:=hm j hj;have bK:=hr j y hy;have fT:=bK.len;have h1:=Lt.aD (Zv hy);simp only[Lt.size]at hx;have aC:=ih y Zo _ bK r (d+1) i2 Zo Zo Zo;refine ae ?_;refine kS Zr Dt fT ?_;refine ae ?_;refine kH aC Zr ZP (fun v Post hv=>?_);obtain⟨r',rfl,h2,h3,h9,rfl⟩:=hv;have i5:=i4 du;have cH:=WW hy;unfold wB at h3;simp only[aJ];refine ae ?_;refine⟨(j+1,r'),⟨by simp only;omega,by simp only;omega,by simp only;unfold wB;omega,fun hh=>by simp only at hh|-;have:=h9 hh;rw[cH];omega⟩,by simp only;omega,ZU,ZI⟩
def wN(s:Int):Int:=max s 262144+562949953421316
theorem AB(A:List kC):∀(N:Nat) (x:Nd),x.w<=N->∀vs,jJ A x vs->∀(s d:Int),0<=s->s<=1152921504606846976->0<=d->d<=60001->aw Tryz.prog 24 [.agg vs.toArray,vi s,vi d] [A] (fun v Post=>∃r,v=vi r/\0<=r/\r<=wN s/\(r<=262144->s+x.w<=r)/\Post=[A]):=by
 intro N
 induction N with
 |zero=>intro x hx;have:=x.nC;omega
 |succ N ih=>
  intro x hx vs h s d sC rK hd1 Gi;cases h with
  |@mk k nm lit args ab kids p lv av tv a c bk o us wf hl bJ bF ha hm hr ss=>
  have bz:=wf.many;have L8:=wf.name;have mO:=fun s sC rK=>By A _ lit (Qn _) lv hl s 0 sC rK Zo Zo
  have T8:=fun s hs=>zv A av args bJ s hs
  have htt:=fun s hs=>zv A tv ab bF s hs
  obtain⟨aa,ac,rfl,_,_⟩:=bJ;obtain⟨ta,tc,rfl,_,_⟩:=bF;obtain⟨la,lc,rfl⟩:=Ec hl;refine aw.intro low24 (by simp[n24]) ?_;simp only[aJ];refine ae ?_;refine kX Zr (fun q=>?_);simp only[Value.cells];refine ae ?_;refine kH (mO (s+1+nm.size) Zo Zo) Zr ZP (fun v Post hv=>?_);obtain⟨r1,rfl,h1,h2,w1,rfl⟩:=hv;unfold wB at h2;simp only[aJ];refine ae ?_;refine kH (T8 r1 Zo) Zr ZP (fun v Post hv=>?_);obtain⟨r2,rfl,h3,h4,w2,rfl⟩:=hv;unfold wB at h4;simp only[aJ];refine ae ?_;refine kH (htt r2 Zo) Zr ZP (fun v Post hv=>?_);obtain⟨r3,rfl,h5,h6,w3,rfl⟩:=hv;unfold wB at h6;simp only[aJ];have w4:r3<=262144->s+1+nm.size+lit.size+args.length+ab.length<=r3:=fun hh=>by
   have a3:=w3 hh;have a2:=w2 Zo;have a1:=w1 Zo;omega
  clear w1 w2 w3;have h7:r3<=wN s:=by unfold wN;omega
  clear h2 h4 h6;refine ae ?_;by_cases hd:d > 60000
  ·rw[Zt hd];refine ae ?_;exact kG (Post:=[A]) (.inr rfl) (.tmp Zr .nil) ⟨262145,rfl,Zo,by unfold wN;omega,fun hh=>absurd hh Zd,rfl⟩ ZI
  rw[Zf hd];refine ae ?_;refine VC.loop (α:=Nat×Int) (bi:=fun z=>[(1,vi z.2),(2,vi d),(3,kF q),(7,vi z.1)]) (Hf:=fun _=>[A,kA q 0 (rA k nm lit.kind lit.n lit.bits lit.text la lit.items.length lc aa args.length ac ta ab.length tc a kids.length c p)])
   (I:=fun z=>z.1<=kids.length/\0<=z.2/\z.2<=wN s/\(z.2<=262144->s+1+nm.size+lit.size+args.length+ab.length+Nd.ws (kids.take z.1)<=z.2)) (μ:=fun z=>kids.length - z.1) (0,r3) ⟨Qv _,h5,h7,fun hh=>by simp only at hh|-;have:=w4 hh;simp only[Qh,Nd.ws];omega⟩ ZU ZI ?_
  rintro⟨j,r⟩ ⟨i1,i2,i3,i4⟩
  simp only at i1 i2 i3 i4;dsimp only;unfold wN at i3;refine ae ?_;by_cases hj:j < kids.length;rotate_left
  ·rw[show decide ((j:Int) < (kids.length:Int))=false from Zf Zo];refine ae ?_;exact kG (Post:=[A]) (.inr rfl) (.tmp Zr .nil) ⟨r,rfl,i2,by unfold wN;omega,fun hh=>(by have:=i4 hh;rw[Qg Zo]at this;simp only[Nd.w];omega),rfl⟩ ZI
  rw[show decide ((j:Int) < (kids.length:Int))=true from Zt Zo];refine ae ?_;by_cases du:r<=262144;rotate_left
  ·rw[Zf du];refine ae ?_;exact kG (Post:=[A]) (.inr rfl) (.tmp Zr .nil) ⟨r,rfl,i2,by unfold wN;omega,fun hh=>absurd hh du,rfl⟩ ZI
  rw[Zt du];obtain rfl:=ha Zo;obtain⟨y,hy⟩:∃y,kids[j]? =some y:=⟨_,Zg hj⟩;have cQ:=hm j hj;have bK:=hr j y hy;have fT:=bK.len;have h1:=Nd.cy (Zv hy);simp only[Nd.w]at hx;have aC:=ih y Zo _ bK r (d+1) i2 Zo Zo Zo;refine ae ?_;refine kS Zr Dt fT ?_;refine ae ?_;refine kH aC Zr ZP (fun v Post hv=>?_);obtain⟨r',rfl,h2,h3,h9,rfl⟩:=hv;have i5:=i4 du;have cH:=KR hy;unfold wN at h3;exact zCI
theorem s7(A:List kC)(x:Md)(vs:List Value)(h:Lg A x vs):aw Tryz.prog 42 [.agg vs.toArray] [A] (fun v Post=>∃r,v=vi r/\(r<=262144->x.args.length+x.ab.length+Nd.ws x.body<=r)/\Post=[A]):=by
 obtain⟨⟨aa,ac,ta,tc,a,c,bk,o,us,rfl,bJ,bF,hk⟩,bY,qg⟩:=h;have T8:=fun s hs=>zv A _ x.args bJ s hs
 have htt:=fun s hs=>zv A _ x.ab bF s hs
 obtain⟨s,args,ab,p,body⟩:=x;simp only at*;have bz:=hk.many;refine aw.intro low42 (by simp[n42]) ?_;refine ae ?_;refine kX Zr (fun q=>?_);simp only[Value.cells];refine ae ?_;refine kH (T8 s.size Zo) Zr ZP (fun v Post hv=>?_);obtain⟨r1,rfl,h1,h2,w1,rfl⟩:=hv;unfold wB at h2;simp only[aJ];refine ae ?_;refine kH (htt r1 Zo) Zr ZP (fun v Post hv=>?_);obtain⟨r2,rfl,h3,h4,w2,rfl⟩:=hv;have w4:r2<=262144->args.length+ab.length<=r2:=fun hh=>by
  have a2:=w2 hh;have a1:=w1 Zo;omega
 clear w1 w2;unfold wB at h4;simp only[aJ];have h5:r2<=wN 0+1000000000000000:=by unfold wN;omega
 clear h2 h4;refine ae ?_;refine VC.loop (α:=Nat×Int) (bi:=fun z=>[(1,kF q),(3,vi z.2),(4,vi z.1)]) (Hf:=fun _=>[A,kA q 0 [.string s,.slice aa args.length ac,.slice ta ab.length tc,vi p,.slice a body.length c]])
  (I:=fun z=>z.1<=body.length/\0<=z.2/\z.2<=wN 0+1000000000000000/\(z.2<=262144->args.length+ab.length+Nd.ws (body.take z.1)<=z.2)) (μ:=fun z=>body.length - z.1) (0,r2) ⟨Qv _,h3,h5,fun hh=>by simp only at hh|-;have:=w4 hh;simp only[Qh,Nd.ws];omega⟩ ZU ZI ?_
 rintro⟨j,r⟩ ⟨i1,i2,i3,i4⟩
 simp only at i1 i2 i3 i4;dsimp only;unfold wN at i3;refine ae ?_;by_cases hj:j < body.length;rotate_left
 ·rw[show decide ((j:Int) < (body.length:Int))=false from Zf Zo];refine ae ?_;exact kG (Post:=[A]) (.inr rfl) (.tmp Zr .nil) ⟨r,rfl,fun hh=>(by have:=i4 hh;rw[Qg Zo]at this;omega),rfl⟩ ZI
 rw[show decide ((j:Int) < (body.length:Int))=true from Zt Zo];refine ae ?_;by_cases du:r<=262144;rotate_left
 ·rw[Zf du];refine ae ?_;exact kG (Post:=[A]) (.inr rfl) (.tmp Zr .nil) ⟨r,rfl,fun hh=>absurd hh du,rfl⟩ ZI
 rw[Zt du];obtain rfl:=hk.at_ Zo;obtain⟨y,hy⟩:∃y,body[j]? =some y:=⟨_,Zg hj⟩;have cQ:=hk.mem j hj;have fT:=(hk.rd j y hy).len;have aC:=AB A _ y (Qn _) _ (hk.rd j y hy) r 0 i2 Zo Zo Zo;refine ae ?_;refine kS Zr Dt fT ?_;refine ae ?_;refine kH aC Zr ZP (fun v Post hv=>?_);obtain⟨r',rfl,h2,h4,h9,rfl⟩:=hv;have i5:=i4 du;have cH:=KR hy;unfold wN at h4;exact zCI
theorem OS(A:List kC)(x:Md)(vs:List Value)(h:Lg A x vs)(F G:List ByteArray)(fv gv:Value)(hF:dG A fv F)(hG:dG A gv G):aw Tryz.prog 12 [.agg vs.toArray,fv,gv] [A] (fun v Post=>∃b,v=.bool b/\(b=false->iU x.args x.ab x.body<=1048576/\Nd.ws x.body<=65536/\F.length<=65536/\G.length<=65536)/\Post=[A]):=by
 have hw:=s7 A x vs h;have hcw:=xw x.body;obtain⟨⟨aa,ac,ta,tc,a,c,bk,o,us,rfl,bJ,bF,hk⟩,bY,qg⟩:=h;obtain⟨fa,fc,rfl,gS,_⟩:=hF;obtain⟨ga,gc,rfl,hgl,_⟩:=hG;refine aw.intro low12 (by simp[n12]) ?_;refine ae ?_;refine kX Zr (fun q=>?_);simp only[Value.cells];refine ae ?_;refine kH hw Zr ZP (fun v Post hv=>?_);obtain⟨r,rfl,hr,rfl⟩:=hv;simp only[aJ];refine ae ?_;by_cases h1:65536 < r
 ·rw[Zt h1];exact zEA
 rw[Zf h1];refine ae ?_;by_cases h2:65536 < (F.length:Int)
 ·rw[Zt h2];exact zEA
 rw[Zf h2];refine ae ?_;have hr:=hr Zo;exact kG (Post:=[A]) (.inr rfl) (.tmp Zr .nil) ⟨_,rfl,fun hh=>⟨by unfold iU iV;omega,Zo,Zo,by simp at hh;omega⟩,rfl⟩ ZI
end Go.Proofs.YtijnokbblmbpkaaGreatDoor
namespace Go.V
open Go
mutual
theorem Ψ(st:ah)(u:Nat):∀(x:PN),PN.w (gN st u x)=PN.w x
 |.mk k s l rs n b kids=>by
  rw[gN];simp only[PN.w,Q5];rw[xF st u kids]
theorem xF(st:ah)(u:Nat):∀(l:List PN),PN.ws (fw st u l)=PN.ws l
 |[]=>by rw[fw]
 |x::r=>by
  rw[fw];simp only[PN.ws];rw[Ψ st u x,xF st u r]
end
structure Im (l:List wY)(n c:Nat):Prop where
 pos:0 < l.length
 many:l.length<=255
 first:∃y,l[0]? =some y/\y.outer=-1/\y.copied=[]/\y.args=(n:Int)
 unit:∀i x,l[i]? =some x->N6 l i x/\x.frame<=63/\x.aA<=63/\PN.ws x.body<=2*c
theorem JG(F G args ab:List ByteArray)(kids:List Nd)(hk:∀y∈kids,kN y≠none){l:List wY}(hf:(dU F G args ab kids).f=none)(h:(dU F G args ab kids).answer=(l,0,0)):Im l args.length (iU args ab kids):=by
 have hr:=KY F G args ab kids;have hp:=XQ F G args ab kids hk;generalize dU F G args ab kids=st at hf h hr hp;unfold ah.answer at h;rw[hf]at h;simp only at h;split at h
 ·cases h
 rename_i sq;split at h
 ·cases h
 rename_i cE;have h1:(List.range st.outer.length).map st.aG=l:=congrArg Prod.fst h;have h0:=hr.first.1
 have EW:0 < st.outer.length:=(Vt.1 h0).1;have KC:l.length=st.outer.length:=by rw[<- h1];simp
 have aB:∀i,i < st.outer.length->l[i]? =some (st.aG i):=fun i hi=>by rw[<- h1];simp[hi]
 refine⟨Zo,Zo,⟨st.aG 0,aB 0 EW,?_,?_,?_⟩,fun i x hx=>?_⟩
 ·show st.outer.getD 0 (-1)=-1;rw[Vh,h0];rfl
 ·show(st.copied 0).map _=[];rw[hr.UO,QE]
 ·show((st.args.getD 0 0:Nat):Int)=args.length;rw[Vh,hr.first.2];rfl
 ·have hi:i < st.outer.length:=by
   have:=(Vt.1 hx).1;omega
  have e:=aB i hi;rw[hx]at e;obtain rfl:=X3 e;have hb:(st.aG i).UJ=false:=by
   rw[Bool.not_eq_true]at cE;rw[vg]at cE;have:=cE (st.aG i) (Zv (by rw[h1];exact aB i hi));simpa using this
  unfold wY.UJ at hb;rw[vQ]at hb;have b1:=of_decide_eq_false hb.1;have b2:=of_decide_eq_false hb.2;refine⟨by rw[<- h1];exact hr.ph.unit hp hi,Zo,Zo,?_⟩;show PN.ws (fw st i (st.ai.getD i []))<=_;rw[xF];refine hr.bw.bd _ ?_;have H7:i < st.ai.length:=by rw[hr.ph.wf.bl];exact hi
  rw[Vh,Zg H7];exact List.getElem_mem H7
end Go.V
namespace Go.Proofs.YtijnokbblmbpkaaGreatDoor
open Go Go.V
set_option maxHeartbeats 6400000
set_option maxRecDepth 100000
theorem Eo:∀(l:List PN),l.length<=PN.ws l
 |[]=>Qn _
 |x::r=>by
  have:=Eo r;have:0 < PN.w x:=by cases x;simp only[PN.w];omega
  rw[Vz];simp only[PN.ws];omega
set_option maxHeartbeats 12800000
theorem Ca {F G:List ByteArray}{x:Md}{l:List wY}(h:gK F G x=(l,0,0)):Im l x.args.length (iU x.args x.ab x.body):=by
 exact zB1
open Go Go.V Go.ChangeShapes Go.WideShapes Go.Deep
section
variable {H:Type} {enc:TypeId×Value->H}
theorem u3:Tryz.prog.underlying 3=some (.int .i64):=by kernel_rfl
theorem u4:Tryz.prog.underlying 4=some .bool:=by kernel_rfl
theorem u9:Tryz.prog.underlying 9=some .string:=by kernel_rfl
theorem u22:Tryz.prog.underlying 22=some (.slice 9):=by kernel_rfl
theorem u23:Tryz.prog.underlying 23=some (.slice 72):=by kernel_rfl
theorem u68:Tryz.prog.underlying 68=some (.slice 70):=by kernel_rfl
noncomputable def fs70:Array Field:=match Tryz.prog.underlying 70 with|some (.struct fs)=>fs|_=>#[]
theorem u70:Tryz.prog.underlying 70=some (.struct fs70):=by kernel_rfl
noncomputable def fs72:Array Field:=match Tryz.prog.underlying 72 with|some (.struct fs)=>fs|_=>#[]
theorem u72:Tryz.prog.underlying 72=some (.struct fs72):=by kernel_rfl
theorem litT:Z2 Tryz.prog 70 68:=⟨⟨fs70,u70,by kernel_rfl,66,2,67,9,by kernel_rfl,by kernel_rfl,by kernel_rfl,by kernel_rfl,by kernel_rfl,by kernel_rfl,by kernel_rfl,by kernel_rfl,by kernel_rfl,by kernel_rfl⟩,by kernel_rfl,u68⟩
theorem nodT:NodT Tryz.prog 72 70 23 22:=⟨⟨fs72,u72,by kernel_rfl,65,9,3,by kernel_rfl,by kernel_rfl,by kernel_rfl,by kernel_rfl,by kernel_rfl,by kernel_rfl,by kernel_rfl,u22⟩,by kernel_rfl,by kernel_rfl,by kernel_rfl,by kernel_rfl,u23⟩
noncomputable def ms50:Array (String×TypeId):=match Tryz.prog.underlying 50 with|some (.interface ms)=>ms|_=>#[]
theorem u50:Tryz.prog.underlying 50=some (.interface ms50):=by kernel_rfl
theorem UM:Kh Tryz.prog [2,3,4,9,22,23,25,65,66,67,68,70,72]=true:=by kernel_rfl
theorem UL:rM Tryz.prog (·∈[2,3,4,9,22,23,25,65,66,67,68,70,72]):=Lq UM
theorem own:ownKnob Tryz.prog.godebug=none:=by kernel_rfl
theorem Oo(d:DataW H):1<=Rows.uptoBulk d:=by
 cases d with
 |lit l=>cases l <;> simp[Rows.uptoBulk]
 |_=>simp[Rows.uptoBulk]
theorem On(l:List (DataW H)):l.length<=Rows.uptoBulkAll l:=by
 induction l with
 |nil=>simp
 |cons d r ih=>
  have:=Oo d;simp only[Rows.uptoBulkAll,Vz];omega
theorem Fp {d:DataW H}{l:List (DataW H)}(h:d∈l):Rows.uptoBulk d<=Rows.uptoBulkAll l:=by
 induction l with
 |nil=>cases h
 |cons y r ih=>
  simp only[Rows.uptoBulkAll];exact zCC
theorem Fq(l:List (DataW H)):(l.map Rows.uptoBulk).sum=Rows.uptoBulkAll l:=by
 induction l with
 |nil=>rfl
 |cons d r ih=>simp only[QC,List.sum_cons,ih,Rows.uptoBulkAll]
theorem tf:NX (Rows.uptoBulk (H:=H)) where
 agg l d h:=by have:=Fp h;simp only[Rows.uptoBulk];omega
 sl es sp d h:=by have:=Fp h;simp only[Rows.uptoBulk];omega
 len es sp:=by have:=On es;simp only[Rows.uptoBulk];omega
 str bs:=by simp only[Rows.uptoBulk];omega
 sls es sp:=by rw[Fq];simp only[Rows.uptoBulk];omega
 aggs l:=by rw[Fq];simp only[Rows.uptoBulk];omega
theorem gEr : Tryz.prog.globalNamed "strconv.ErrRange" = some 5 := by kernel_rfl
theorem gErT:(Tryz.prog.globals[5]?).map (·.type)=some 50:=by kernel_rfl
theorem gRen:Tryz.sl174_ren.g 16=5:=by kernel_rfl
theorem SA {W : World} {d : DataW Unit} {r : List (String × DataW Unit)} (h : laidMet Tryz.prog (("strconv.ErrRange", d) :: r) W) (hd : ∃ nm e, d = .iface nm e) {A : List kC} (hA : ∀ a : kC, a.holds W → a ∈ A) : nE A := by
 obtain⟨nm,e,rfl⟩:=hd;obtain⟨ps,⟨g0,t0,cs0,f0,p0,q0,hg0,Wv,hv0,hd0,_,e0⟩,_,dJ⟩:=h;obtain rfl:=X3 (gEr.symm.trans hg0);obtain rfl:=X3 (gErT.symm.trans Wv);subst e0;have AV:∃te pe,cs0=#[.iface te pe]:=by
  obtain⟨_,te,pe,he,_,_⟩:=iface_of_trod u50 hd0;exact⟨te,pe,by rw[<- he]⟩
 obtain⟨te,pe,rfl⟩:=AV;obtain⟨⟨c,t,hc⟩,_⟩:=dJ 5 0 (by simp[MemPlace.row]);refine⟨.iface te pe,?_,.inr ⟨te,pe,rfl⟩⟩;rw[gRen];have gh:W.cell? ⟨5,0,none⟩=some (.iface te pe):=by simpa using World.var?_cell gEr hv0 0
 refine hA _ (Go.V.cj gh ?_);unfold World.frozen?;rw[hc];simp
noncomputable def UX:Array Field:=match Tryz.prog.underlying 25 with|some (.struct fs)=>fs|_=>#[]
theorem u25:Tryz.prog.underlying 25=some (.struct UX):=by kernel_rfl
theorem fs25s:UX.size=5:=by kernel_rfl
theorem Gd:(UX.toList.map fun f=>(f.type,f.offset))=[(9,0),(22,1),(22,2),(3,3),(23,4)]:=by kernel_rfl
theorem c9:Tryz.prog.cellsOf 9=1:=by kernel_rfl
theorem c22:Tryz.prog.cellsOf 22=1:=by kernel_rfl
theorem c3:Tryz.prog.cellsOf 3=1:=by kernel_rfl
theorem c23:Tryz.prog.cellsOf 23=1:=by kernel_rfl
theorem c25:Tryz.prog.cellsOf 25=5:=by kernel_rfl
theorem c72:Tryz.prog.cellsOf 72=11:=by kernel_rfl
theorem W1 {W:World}{base:Nat}{v:Value}(hv:Value.okWide Tryz.prog W .any base 25 v):∃cs:List Value,v=.agg cs.toArray:=by
 simp only[Value.okWide,u25]at hv;obtain⟨cs,rfl,_⟩:=hv;exact⟨cs.toList,Zs⟩
theorem rd_md {W:World}{A:List kC}(hA:∀a:kC,a.holds W->a∈A)(n:Nat)(cs:List Value)(x:DataW H×List MemPlace)(hN:Rows.uptoBulk x.1<=1048576)(h:DataW.trod enc Tryz.prog W 0 (fun _=>true) true n 25 cs=some x)(hf:W.noneFrozen x.2):∃m:Md,Lg A m cs/\(∀a c,cs[4]? =some (.slice a m.body.length c)->m.body.length<=c)/\(Nd.ws m.body<=Rows.uptoBulk x.1/\m.args.length<=Rows.uptoBulk x.1/\m.ab.length<=Rows.uptoBulk x.1):=by
 obtain⟨ys,k,_,rfl,hlen,fT,hfld⟩:=DataW.trod_struct u25 h;rw[c25]at hlen
 replace hN:Rows.uptoBulk (.agg (ys.map (·.1)))<=1048576:=hN
 have aB:∀(i:Nat) (ty off:Nat),(UX.toList.map fun f=>(f.type,f.offset))[i]? =some (ty,off)->DataW.trod enc Tryz.prog W 0 (fun _=>true) true k ty ((cs.drop off).take (Tryz.prog.cellsOf ty))=ys[i]?:=fun i ty off hi=>by
  exact zC0
 have hyl5:ys.length=5:=by rw[fT];exact fs25s
 have lS:∀i,i < 5->ys[i]? =some (ys.getD i (.nil,[])):=fun i hi=>by
  rw[Vh,Zg Zo];rfl
 have g0:=(aB 0 9 0 (by rw[Gd];rfl)).trans (lS 0 Zo);have g1:=(aB 1 22 1 (by rw[Gd];rfl)).trans (lS 1 Zo);have g2:=(aB 2 22 2 (by rw[Gd];rfl)).trans (lS 2 Zo);have g3:=(aB 3 3 3 (by rw[Gd];rfl)).trans (lS 3 Zo);have g4:=(aB 4 23 4 (by rw[Gd];rfl)).trans (lS 4 Zo);rw[c9]at g0;rw[c22]at g1 g2;rw[c3]at g3;rw[c23]at g4;obtain⟨s,e0,d0,_⟩:=DataW.trod_string u9 g0;obtain⟨z3,e3,_,w3⟩:=DataW.trod_int u3 g3;have aS:∀i,i < 5->Rows.uptoBulk (ys.getD i (.nil,[])).1 < Rows.uptoBulk (.agg (ys.map (·.1))):=fun i hi=>tf.agg _ _ (QM.2 ⟨_,Zv (lS i hi),rfl⟩)
 have uG:∀i,i < 5->W.noneFrozen (ys.getD i (.nil,[])).2:=fun i hi b o U7=>hf b o (xH (lS i hi) U7)
 obtain⟨v1,e1⟩:∃v,(cs.drop 1).take 1=[v]:=Q1.1 pJ;obtain⟨v2,e2⟩:∃v,(cs.drop 2).take 1=[v]:=Q1.1 pJ;obtain⟨v4,e4⟩:∃v,(cs.drop 4).take 1=[v]:=Q1.1 pJ;rw[e1]at g1;rw[e2]at g2;rw[e4]at g4;have l1:=aS 1 Zo;have l2:=aS 2 Zo;have l4:=aS 4 Zo;obtain⟨args,cp,hargl⟩:=np tf u22 u9 c9 g1 (uG 1 Zo) hA Zo;obtain⟨ab,DS,htempl⟩:=np tf u22 u9 c9 g2 (uG 2 Zo) hA Zo;obtain⟨a,kk,c,bk,o,us,D,Pl,m,rfl,⟨hk,AX,hkc⟩,ha,hi⟩:=uM tf u23 c72 Zd g4 (uG 4 Zo) hA;obtain⟨l,hl,hq⟩:=gf (α:=Nd) (Q:=fun i y=>jJ A y (us i)/\y.w<=Rows.uptoBulk (D i)) (n:=kk) (fun i Ug=>by
  obtain⟨q1,_,_,q4,q5⟩:=hi i Ug;exact XM tf nodT litT hA (Rows.uptoBulk (D i)) m (us i) (D i,Pl i) (Qn _) Zo q4 q5)
 have b3:=wf_i64 w3;have hs0:s.size<=1048576:=by
  have h3:=aS 0 Zo;have e:(ys.getD 0 (.nil,[])).1=.lit (.string s.data.toList):=congrArg Prod.fst d0;rw[e]at h3;have h5:=tf.str (H:=H) s.data.toList;exact zCW
 have hsz4:Nd.ws l<=Rows.uptoBulk (ys.getD 4 (.nil,[])).1:=by
  refine Qp (Nd.ZN (f:=fun i=>Rows.uptoBulk (D i)) (o:=0) (fun i x hx=>?_)) ?_
  ·rw[Qu];exact(hq i x hx).2
  ·rw[hl];exact AX
 have AV:cs=[.string s,v1,v2,vi z3,.slice a l.length c]:=by
  exact zB9
 have hargs2:=cp;have Ww:=DS;obtain⟨aa,ac,rfl,_,_⟩:=hargs2;obtain⟨ta,tc,rfl,_,_⟩:=Ww;refine⟨⟨s,args,ab,z3,l⟩,⟨⟨aa,ac,ta,tc,a,c,bk,o,us,AV,cp,DS,⟨fun hp=>ha (by simp only at hp;omega),by simp only;omega,fun i bQ=>(hi i (by simp only at bQ;omega)).2.2.1,fun i x hx=>(hq i x hx).1⟩⟩,by simp only;omega,b3⟩,fun a' c' e'=>?_,?_⟩
 ·rw[AV]at e';simp only[Vm,Vn,X4,Value.slice.injEq]at e';simp only;omega
 show Nd.ws l<=Rows.uptoBulk (.agg (ys.map (·.1)))/\args.length<=Rows.uptoBulk (.agg (ys.map (·.1)))/\ab.length<=Rows.uptoBulk (.agg (ys.map (·.1)));omega
theorem Aw {W:World}{base:Nat}{v:Value}{d:DataW H}{p:List MemPlace}(hv:Value.okWide Tryz.prog W .any base 22 v)(h:DataW.Trod enc Tryz.prog W 0 (fun _=>true) true 22 v d p)(hb:Rows.uptoBulk d<=1048576)(hf:W.noneFrozen p){A:List kC}(hA:∀a:kC,a.holds W->a∈A):∃l:List ByteArray,dG A v l:=by
 obtain⟨n,hn⟩:=h;have hs:v.cells=#[v]:=by
  cases v <;> simp only[Value.okWide,u22,Cell.okWide,Cell.ok]at hv <;> rfl
 have EZ:DataW.trod enc Tryz.prog W 0 (fun _=>true) true n 22 [v]=some (d,p):=by simpa[hs]using hn
 obtain⟨l,h1,_⟩:=np tf u22 u9 c9 EZ hf hA hb;exact⟨l,h1⟩
theorem S9 {W:World}{base:Nat}{v:Value}{d:DataW H}{p:List MemPlace}(hv:Value.okWide Tryz.prog W .any base 9 v)(h:DataW.Trod enc Tryz.prog W 0 (fun _=>true) true 9 v d p)(hb:Rows.uptoBulk d<=1048576):∃s:ByteArray,v=.string s/\s.size<=140737488355328:=by
 obtain⟨n,hn⟩:=h;have hs:v.cells=#[v]:=by
  cases v <;> simp only[Value.okWide,u9,Cell.okWide,Cell.ok]at hv <;> rfl
 have EZ:DataW.trod enc Tryz.prog W 0 (fun _=>true) true n 9 [v]=some (d,p):=by simpa[hs]using hn
 obtain⟨s,e0,d0,_⟩:=DataW.trod_string u9 EZ;obtain rfl:=(List.cons.inj e0).1;refine⟨s,rfl,?_⟩;have e:d=.lit (.string s.data.toList):=congrArg Prod.fst d0;rw[e]at hb;have h5:=tf.str (H:=H) s.data.toList;exact zCW
theorem witZ {C:Checked}{os:Os}{f:FuncId}{fn:Func}{s:OpenSpec}{conds:List PathCond}{apart:Bool}{laid:List (String×DataW Unit)}(w0:World)(args:Array Value)(hos:w0.os=os)
 (hs:(w0.forCall (fun _ _=>0) ⟨#[],args,[]⟩).Shaped C.prog) (aP:Input.okWideB C.prog (w0.forCall (fun _ _=>0) ⟨#[],args,[]⟩) f ⟨#[],args,[]⟩=true)
 (oi:s.preRow enc C.prog fn conds apart laid (w0.forCall (fun _ _=>0) ⟨#[],args,[]⟩).memory args):
 ∃(w:World) (tape:Tape) (i:Input),w.os=os/\(w.forCall tape i).Shaped C.prog/\i.vars=[]/\Input.okWide C.prog (w.forCall tape i) .any w.heap.size f i/\
  s.preRow enc C.prog fn conds apart laid (w.forCall tape i).memory i.args/\({modest:=false}:Assume).holds C.prog (lone (Frame.enter C.prog f i.args .normal) [] (w.forCall tape i)):=
 ⟨w0,fun _ _=>0,⟨#[],args,[]⟩,hos,hs,(Input.okWide_of_okWideB (base:=0) aP).1,(Input.okWide_of_okWideB aP).2,oi,by
   simp only[Assume.holds];exact⟨Zs,Zs,fun _=>Modest.zero,Zs,Zs⟩⟩
theorem gErr : Tryz.prog.globalNamed "errors.errorType" = some 0 := by kernel_rfl
theorem hRt : (Tryz.prog.cutTypes.find? (·.1 == "internal/reflectlite.rtype")).map (·.2) = some 242 := by kernel_rfl
theorem hOne:((List.range Tryz.prog.types.size).filter fun t=>Tryz.prog.rowNamed t [101,114,114,111,114])=[50]:=by kernel_rfl
theorem hZero:(((begin Tryz.prog (fun _ _=>0) default).world.heap[0]?).bind Obj.row?).isSome=true:=by kernel_rfl
theorem hGlob:0 < Tryz.prog.globals.size:=by decide+kernel
theorem hIn : ("errors.errorType", Rows.laid_errors_errorType) ∈ Rows.scopeSoundUptoRow.laid :=
 QI _ <|QI _ <|QI _ <|QI _ <|QJ ..
theorem OP {W:World}(h:laidMetH Tryz.prog Rows.scopeSoundUptoRow.laid W):W.cell? ⟨0,0,none⟩=some (.iface 242 (.agg #[.pointer (some ⟨9,50,none⟩)])):=by
 obtain ⟨_, h2⟩ := laidMetH_iff.1 h;obtain ⟨name, u, ty, e1, e2, e3, e4, e5⟩ := h2 ("errors.errorType", Rows.laid_errors_errorType) (QK.2 ⟨hIn, rfl⟩);have en : name = [101, 114, 114, 111, 114] := (X3 e1).symm;subst en;obtain rfl := X3 (hRt.symm.trans e2);have hm : ty ∈ (List.range Tryz.prog.types.size).filter fun t => Tryz.prog.rowNamed t [101, 114, 114, 111, 114] := QK.2 ⟨QO.2 e3, e4⟩
 rw[hOne]at hm;obtain rfl:=QR.1 hm;have hh:typeHandle Tryz.prog 50=.pointer (some ⟨9,50,none⟩):=by kernel_rfl
 rw[hh]at e5;simpa using World.var?_cell gErr e5 0
theorem Θ {W:World}(h:laidMetH Tryz.prog Rows.scopeSoundUptoRow.laid W)(hS:W.ShapedOpen Tryz.prog){A:List kC}(hA:∀a:kC,a.holds W->a∈A):Ys∈A:=by
 obtain⟨⟨z,ty⟩,hzt⟩:=Qz.1 hZero;obtain⟨cs,hc,hz,_⟩:=hS.1 0 z ty hGlob hzt;have gh:=OP h;have h0:cs[0]? =some (.iface 242 (.agg #[.pointer (some ⟨9,50,none⟩)])):=by simpa[World.cell?,hc]using gh
 exact hA _ ⟨cs,ty,0,0,hc,h0,Zo⟩
noncomputable def yi:List (String×DataW Unit):=Rows.scopeSoundUptoRow.laid.filter fun x=>x.2.handleName?.isNone
noncomputable def w00(os:Os):World:=
 let w:=World.holding Tryz.prog os ⟨#[],#[],[]⟩
 {w with heap:=w.heap.modify 0 fun
    |.cells _ t frozen=>.cells #[.iface 242 (.agg #[.pointer (some ⟨9,50,none⟩)])] t frozen
    |o=>o}
noncomputable def wW(os:Os):World:=(w00 os).layVars Tryz.prog yi
theorem wW_os(os:Os):(wW os).os=os:=World.layVars_os _ _ _
theorem Yj(os:Os):(w00 os).layFits Tryz.prog yi []=true:=by kernel_rfl
theorem Nl(os:Os):(w00 os).layIfaces Tryz.prog yi (wW os)=true:=by kernel_rfl
theorem Yk(os:Os)(args:Array Value):laidMet Tryz.prog yi ((wW os).forCall (fun _ _=>0) ⟨#[],args,[]⟩).memory:=by
 have e1:(yi.filter fun x=>(yi.map (·.1)).contains x.1)=yi:=V8.2 fun x hx=>vt.2 (QM.2 ⟨x,hx,rfl⟩)
 have e2:(yi.filter fun x=>!(yi.map (·.1)).contains x.1)=[]:=V7.2 fun x hx=>by rw[vt.2 (QM.2 ⟨x,hx,rfl⟩)];simp
 have h:laidMet Tryz.prog yi (wW os):=laidMet_layVars (w0:=w00 os) (yi.map (·.1)) [] (by rw[e1];rfl) (by rw[e1];exact Yj os) (by rw[e1];exact Nl os) (by rw[e2];exact LaidIn.none);exact h.of_heap (by simp[World.memory,World.forCall,Input.heap])
theorem lib_in {W:World}(h:laidMetH Tryz.prog Rows.scopeSoundUptoRow.laid W){A:List kC}(hA:∀a:kC,a.holds W->a∈A):nE A:=by
 obtain ⟨h1, _⟩ := laidMetH_iff.1 h;have h2 : laidMet Tryz.prog [("math/bits.deBruijn32tab", Rows.laid_math_bits_deBruijn32tab), ("math/bits.deBruijn64tab", Rows.laid_math_bits_deBruijn64tab), ("internal/strconv.uint64pow10", Rows.laid_internal_strconv_uint64pow10), ("unicode/utf8.acceptRanges", Rows.laid_unicode_utf8_acceptRanges), ("strconv.ErrRange", Rows.laid_strconv_ErrRange), ("strconv.ErrSyntax", Rows.laid_strconv_ErrSyntax), ("unicode/utf8.first", Rows.laid_unicode_utf8_first)] W := h1;exact SA (laidMet.tail (laidMet.tail (laidMet.tail (laidMet.tail h2)))) ⟨_, _, rfl⟩ hA
end
end Go.Proofs.YtijnokbblmbpkaaGreatDoor

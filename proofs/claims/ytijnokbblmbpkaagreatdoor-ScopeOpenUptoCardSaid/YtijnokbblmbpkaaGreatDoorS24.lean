/-
  scope.Free: the names that a node leaves open.
-/
import Derived.Test.YtijnokbblmbpkaaGreatDoorS23
import Derived.Test.YtijnokbblmbpkaaGreatDoorS15
import Derived.Test.YtijnokbblmbpkaaGreatDoorS12
import Derived.Shelf.SlMaps.Clone
import Derived.Shelf.Lay
import Derived.Test.YtijnokbblmbpkaaGreatDoorS9
import Derived.KernelRfl
import Derived.Test.YtijnokbblmbpkaaGreatDoorProg
import Derived.Test.YtijnokbblmbpkaaGreatDoorS14
import Derived.Test.YtijnokbblmbpkaaGreatDoorS21
import Derived.Test.YtijnokbblmbpkaaGreatDoorS7
import Derived.Test.YtijnokbblmbpkaaGreatDoorS11
import Derived.Test.YtijnokbblmbpkaaGreatDoorCards
import Derived.Test.YtijnokbblmbpkaaGreatDoorTie
import Derived.OpenShut
import Derived.Deep.DeepHandedRow
import Derived.Deep.DeepWitnessRowRef
import Derived.Lib.LaidTab
import Derived.JoinedCond
import Derived.Lay
import Derived.LaidSub
import Derived.LaidHandle
import Derived.Stop.LaidErr
set_option linter.all false
namespace Go.Proofs
open Go.Shelf
shelf_lay_g SlLaysW.n5 Slmc 5 at Tryz 72 as Tryz.slcl2
end Go.Proofs
namespace Go.Proofs.YtijnokbblmbpkaaGreatDoor
open Go Go.V
set_option maxHeartbeats 20000000
set_option maxRecDepth 100000
theorem Et(b:Nat)(es:Array MapEntry)(c:Nat):aq Tryz.prog 72 [.map (some b)] [[.obj b (.map es c)]] (fun v Post=>∃b',v=.map (some b')/\Post=[[.obj b (.map es c)],[.obj b' (.map es c)]]):=by
 refine⟨by kernel_rfl,fun F w hs=>?_⟩;have hb:w.heap[b]? =some (.map es c):=(hs.obj (b:=b) (o:=.map es c) Zs).1;refine(AnyW.maps_Clone Tryz.slcl2 b es c w hb).mono ?_;exact zBA
theorem I0 {P:Program}{n:Nat}{rs:List RO}{Γ:Env}{H R:SH}{Z:List PanicEntry->Env->SH->Prop}{K:Env->SH->Prop}{d:Option Nat}{s x:Operand}{sv:Value}{k:Nat}{xs sp:List Value}{a:Option Addr}{c:Nat}{l:List ByteArray}{A:List kC}
 (hs:ev Γ s=some sv) (hx:ev Γ x=some (.slice a l.length c)) (bF:jG 1 sv k xs sp) (ht:Tk H (ai sv xs sp) R) (hr:eg A (.slice a l.length c) l) (hA:∀y∈A,y∈R.flatten) (bV:(2*(k+l.length)+192)*16<=2 ^ 48)
 (h:∀eK bE,jG 1 eK (k+l.length) (xs++l.map Value.string) bE->VO P n rs (ap d eK Γ) (ai eK (xs++l.map Value.string) bE::R) Z K):VO P n (⟨d,none,.append 9 1 16 [.string ⟨#[]⟩] s x⟩::rs) Γ H Z K:=by
 by_cases hl:0 < l.length
 ·exact jK (m:=l.length) (ys:=l.map Value.string) hs hx bF ht Zr ((L3 hr hl).mono hA) Zs (by simp[vZ,jo]) Zr Zd bV h
 ·have HV:l=[]:=vt Zo;subst HV;have h':=h sv sp (by simpa using bF);simp only[Q9,vg]at h';have h2:VO P n rs (ap d sv Γ) H Z K:=VO.imp (ao.perm (by simpa using ht.perm)) h';have oh:ev Γ x=some (.slice a 0 c):=hx;cases bF with
  |mk h1 h2' h3=>
   cases a with
   |none=>exact jK (m:=0) (ys:=[]) hs oh (.mk h1 h2' h3) ht Zr Zr Zr Zr Zr Zd (by simpa using bV) (fun eK bE g=>by simpa using h eK bE (by simpa using g))
   |some ad=>exact yy hs oh h3 h2
  |nil=>exact IZ hs oh h2
theorem tD(A:List kC)(av:Value)(l:List ByteArray)(h:eg A av l):aq Tryz.prog 73 [av] [A] (fun v Post=>∃B,uM v l B/\Post=[A,B]):=by
 obtain⟨a,c,rfl,hl,hr⟩:=h;refine aq.intro low73 (by simp[n73]) ?_;have eu:∀t∈l,t.size<=140737488355328:=fun t ht=>by
  obtain⟨i,hi⟩:=Vo ht;obtain⟨_,_,_,_,h⟩:=hr i t hi;exact h
 cases a with
 |none=>
  have HV:l=[]:=by
   cases l with
   |nil=>rfl
   |cons t l=>obtain⟨_,_,h,_⟩:=hr 0 t rfl;cases h
  subst HV;refine ae ?_;exact kG (Post:=[A,[]]) (.inr rfl) (.tmp Zr .nil) ⟨[],⟨[],.nil,rfl,Zs,Zs⟩,rfl⟩ ⟨[],by simp[V.dX]⟩
 |some ad=>
  refine ae ?_;refine jE (out:=[]) Zr Zr (fun q=>?_);refine ae ?_;cases HV:l with
  |nil=>
   subst HV;refine yy Zr Zr (Qh _) ?_;refine ae ?_;exact kG (Post:=[A,[]]) (.inr rfl) (.tmp Zr .nil) ⟨[],⟨[],.mk rfl rfl (Qh _),rfl,Zs,Zs⟩,rfl⟩ ⟨[],by simp[V.dX,kA]⟩
  |cons t l'=>
   rw[<- HV];obtain⟨b,o,had,_⟩:=hr 0 t (by rw[HV];rfl);cases had;have ZV:Src [A].flatten 1 l.length (l.map Value.string) (.slice (some ⟨b,o,none⟩) l.length c):=by
    exact zCD
   refine jK (k:=0) (m:=l.length) (xs:=[]) (sp:=[]) (ys:=l.map Value.string) Zr Zr (.mk rfl rfl (Qh _)) (show Tk [kA q 0 [],A] (kA q 0 []) [A]from .here) Zr ZV Zs (by simp[vZ,jo]) Zr Zd Zo (fun eK bE aR=>?_);rw[QL,Qo]at*;obtain⟨a',c',rfl⟩:=aR.form;refine ae ?_;exact kG (Post:=[A,ai (.slice a' l.length c') (l.map Value.string) bE]) (.inr rfl) (.tmp Zr .nil) ⟨_,⟨_,aR,rfl,hl,eu⟩,rfl⟩ ZI
theorem KN(S:List kC)(mp op dp mb:Nat):∀(N:Nat) (x:Nd),x.w<=N->∀vs,jJ S x vs->∀(seen out:List ByteArray) (Ar:Array MapEntry) (mc hb:Nat) (lE:Array MapEntry) (hc:Nat) (sv:Value) (sp:List Value),FrOk seen out Ar mc lE hc sv sp->
 seen.length+x.w<=1099511627776->out.length+x.w<=1099511627776->
 aq Tryz.prog 71 [.agg vs.toArray,.map (some hb),kF mp,kF op,kF dp] [kA mp 0 [.map (some mb)],kA op 0 [sv],kA dp 0 [(.func (.func 71) #[] #[kF mp,kF op,kF dp])],[.obj mb (.map Ar mc)],[.obj hb (.map lE hc)],ai (sv) ((out).map Value.string) sp,S]
  (fun v Post=>∃Dp Uv eK bE,(v=.tuple #[]/\uI (lV seen out x) Dp Uv/\jG 1 eK (lV seen out x).length ((lV seen out x).map Value.string) bE)/\Post=[kA mp 0 [.map (some mb)],kA op 0 [eK],kA dp 0 [(.func (.func 71) #[] #[kF mp,kF op,kF dp])],[.obj mb (.map Dp Uv)],[.obj hb (.map lE hc)],ai (eK) ((lV seen out x).map Value.string) bE,S]):=by
 intro N
 induction N with
 |zero=>intro x hx;have:=x.mN;omega
 |succ N ih=>
  intro x hx vs h seen out Ar mc hb lE hc sv sp aM hsw how;obtain⟨NP,A9,bF⟩:=aM;obtain⟨sa,sc,rfl⟩:=bF.form;cases h with
  |@mk k s lit args ab kids p lv av tv a cc bk o us wf hl bK bG ha hm hr rU=>
  obtain⟨aa,ac,rfl,hav1,gl⟩:=id bK;obtain⟨ta,tc,rfl,htv1,gu⟩:=id bG;have HX:=hl;cases hl with
  |@mk k1 n1 b1 t1 items la lc Lj lo Lk R5 HP rV dS=>
  simp only[Nd.w]at hx hsw how;obtain⟨mH,hH1,hH2,hH3⟩:=id A9.is;obtain⟨mM,hM1,hM2⟩:=id NP.is;have hgs:=hH2 s;have Xu:=hM2 s;obtain⟨s1,NX⟩:∃s1,s1=(if k=7 then seen++args++ab else seen):=⟨_,rfl⟩;obtain⟨o1,K6⟩:∃o1,o1=(if(k=2∨k=3)/\zY s=0/\s∉seen/\s∉out then out++[s]else out):=⟨_,rfl⟩;have xx:lV seen out (.mk k s (.mk k1 n1 b1 t1 items) args ab kids p)=wJ s1 o1 kids:=by rw[lV,<- NX,<- K6]
  rw[xx];have hs1l:s1.length<=seen.length+args.length+ab.length:=by
   rw[NX];split
   ·simp only[Vt];omega
   ·omega
  have ho1l:o1.length<=out.length+1:=by
   rw[K6];split
   ·simp
   ·omega
  obtain⟨fn,tY⟩:∃fn,fn=(Value.func (.func 71) #[] #[kF mp,kF op,kF dp]):=⟨_,rfl⟩;have aE:∀(z:Nd) (us:List Value),z∈kids->jJ S z us->∀(seen out:List ByteArray) (Ar:Array MapEntry) (mc hb:Nat) (lE:Array MapEntry) (hc:Nat) (sv:Value) (sp:List Value),FrOk seen out Ar mc lE hc sv sp->seen.length+z.w<=1099511627776->out.length+z.w<=1099511627776->
   dk Tryz.prog fn [.agg us.toArray,.map (some hb)] [kA mp 0 [.map (some mb)],kA op 0 [sv],kA dp 0 [fn],[.obj mb (.map Ar mc)],[.obj hb (.map lE hc)],ai (sv) ((out).map Value.string) sp,S]
    (fun v Post=>∃Dp Uv eK bE,(v=.tuple #[]/\uI (lV seen out z) Dp Uv/\jG 1 eK (lV seen out z).length ((lV seen out z).map Value.string) bE)/\Post=[kA mp 0 [.map (some mb)],kA op 0 [eK],kA dp 0 [fn],[.obj mb (.map Dp Uv)],[.obj hb (.map lE hc)],ai (eK) ((lV seen out z).map Value.string) bE,S]):=fun z us hz La seen out Ar mc hb lE hc sv sp g1 g2 g3=>by
   have hzw:=Nd.cq hz;rw[tY];exact dk.bY (first:=#[]) (cap:=#[kF mp,kF op,kF dp]) (ih z Zo us La seen out Ar mc hb lE hc sv sp g1 g2 g3)
  rw[<- tY];refine aq.intro low71 (by simp[n71]) ?_;simp only[aH];refine jD ?_;refine kY Zr (fun q=>?_);simp only[Value.cells];refine jD ?_;refine VC.join (α:=Array MapEntry×Nat×Value×List Value×Nat×Array MapEntry×Nat×List kC) (bn:=fun r=>[(1,.map (some r.2.2.2.2.1)),(4,kF dp),(5,kF q)])
   (Hf:=fun r=>[kA q 0 (rA k s k1 n1 b1 t1 la items.length lc aa args.length ac ta ab.length tc a kids.length cc p),kA mp 0 [.map (some mb)],kA op 0 [r.2.2.1],kA dp 0 [fn],[.obj mb (.map r.1 r.2.1)],[.obj r.2.2.2.2.1 (.map r.2.2.2.2.2.1 r.2.2.2.2.2.2.1)],ai (r.2.2.1) ((o1).map Value.string) r.2.2.2.1,S,r.2.2.2.2.2.2.2])
   (I:=fun r=>uI o1 r.1 r.2.1/\rl s1 r.2.2.2.2.2.1 r.2.2.2.2.2.2.1/\jG 1 r.2.2.1 o1.length (o1.map Value.string) r.2.2.2.1/\(kC.obj r.2.2.2.2.1 (.map r.2.2.2.2.2.1 r.2.2.2.2.2.2.1)::r.2.2.2.2.2.2.2).Perm (kC.obj hb (.map lE hc)::(if k=7 then [kC.obj r.2.2.2.2.1 (.map r.2.2.2.2.2.1 r.2.2.2.2.2.2.1)]else []))) ?_ ?_
  ·refine ae ?_;by_cases xA:k=2
   ·subst xA;exact zA9
   by_cases ri:k=3
   ·subst ri;exact zA9
   have D3:o1=out:=by rw[K6,if_neg (fun c=>c.1.elim xA ri)]
   rw[show decide ((k:Int)=2)=false from Zf Zo];refine ae ?_;rw[show decide ((k:Int)=3)=false from Zf Zo];refine ae ?_;by_cases hk7:k=7;rotate_left
   ·rw[show decide ((k:Int)=7)=false from Zf Zo];have E5:s1=seen:=by rw[NX,if_neg hk7]
    refine ae ?_;refine⟨(Ar,mc,.slice sa out.length sc,sp,hb,lE,hc,[]),⟨by rw[D3];exact NP,by rw[E5];exact A9,by rw[D3];exact bF,by rw[if_neg hk7]⟩,ZU,?_⟩;dsimp only;rw[D3];exact bQ
   subst hk7;refine ae ?_;refine kJ (Et hb lE hc) Zr ZP (fun v Post hv=>?_);obtain⟨nR,rfl,rfl⟩:=hv;simp only[aH];have ZD:(args++ab).length=args.length+ab.length:=Vt;refine jD ?_;refine VC.Cg (α:=Value×List kC) (fun r=>[(1,.map (some nR)),(4,kF dp),(5,kF q),(47,r.1),(48,vi (args.length+ab.length:Nat)),(49,vi (0:Nat))])
    (fun r=>[kA q 0 (rA 7 s k1 n1 b1 t1 la items.length lc aa args.length ac ta ab.length tc a kids.length cc p),r.2,[.obj nR (.map lE hc)],kA mp 0 [.map (some mb)],kA op 0 [.slice sa out.length sc],kA dp 0 [fn],[.obj mb (.map Ar mc)],[.obj hb (.map lE hc)],ai (.slice sa out.length sc) ((out).map Value.string) sp,S])
    (fun r=>∃xa xc,r.1=.slice xa (args++ab).length xc/\eg r.2 r.1 (args++ab)) ⟨?_,?_,trivial⟩ ?_
   ·exact zAG
   ·exact zAG
   rintro⟨lv,X⟩ ⟨xa,xc,e1,tZ⟩
   simp only at e1 tZ;subst e1;obtain⟨xa',xc',e',hrl,hrd2⟩:=id tZ;cases e';dsimp only;refine ae ?_;refine VC.loop (α:=Nat×Array MapEntry×Nat) (bn:=fun r=>[(1,.map (some nR)),(4,kF dp),(5,kF q),(47,.slice xa (args++ab).length xc),(48,vi (args.length+ab.length:Nat)),(49,vi r.1)])
    (Hf:=fun r=>[kA q 0 (rA 7 s k1 n1 b1 t1 la items.length lc aa args.length ac ta ab.length tc a kids.length cc p),X,[.obj nR (.map r.2.1 r.2.2)],kA mp 0 [.map (some mb)],kA op 0 [.slice sa out.length sc],kA dp 0 [fn],[.obj mb (.map Ar mc)],[.obj hb (.map lE hc)],ai (.slice sa out.length sc) ((out).map Value.string) sp,S])
    (I:=fun r=>r.1<=args.length+ab.length/\rl (seen++(args++ab).take r.1) r.2.1 r.2.2) (μ:=fun r=>args.length+ab.length - r.1) (0,lE,hc) ⟨Qp _,by rw[Qa,vg];exact A9⟩ ZU ZI ?_
   rintro⟨j,DU,c2⟩ ⟨hj,hh2⟩
   simp only at hj hh2;dsimp only;refine ae ?_;by_cases aO:j < args.length+ab.length;rotate_left
   ·rw[show decide ((j:Int) < ((args.length+ab.length:Nat):Int))=false from Zf Zo];refine ae ?_;rw[QZ Zo]at hh2;refine⟨(Ar,mc,.slice sa out.length sc,sp,nR,DU,c2,[kC.obj hb (.map lE hc)]),⟨by rw[D3];exact NP,by rw[NX,if_pos rfl,vf];exact hh2,by rw[D3];exact bF,List.Perm.swap _ _ _⟩,ZU,?_⟩;dsimp only;rw[D3];exact bQ
   rw[show decide ((j:Int) < ((args.length+ab.length:Nat):Int))=true from Zt Zo];obtain⟨nm,K5⟩:∃nm,(args++ab)[j]? =some nm:=⟨_,Zg Zo⟩;obtain⟨xb,xo,rfl,eX,XC⟩:=hrd2 j nm K5;obtain⟨m2,k1',k2',k3'⟩:=id hh2.is;have k4:=k3' nm;have k5:=NI (s:=nm) k2' k3';rw[Vt,Q4]at k4;refine ae ?_;refine wx (E:=yC) (V:=fun n:Nat=>.int .i64 n) (k:=nm) Zr Zr rfl Zay k1' ?_;rw[JQ];generalize hgn2:(ky nm m2).getD 0=gn2 at k4 k5;refine ae ?_;refine ww (E:=yC) (V:=fun n:Nat=>.int .i64 n) (k:=nm) (v:=gn2+1) Zr Zr Zr rfl ZK k1' (fun cw c' Zb=>?_);refine ae ?_;refine⟨(j+1,cw,c'),⟨by simp only;omega,?_⟩,by simp only;omega,ZU,ZI⟩;have cy:seen++(args++ab).take (j+1)=seen++(args++ab).take j++[nm]:=by rw[QX,K5,vf];rfl
   rw[cy];exact⟨⟨_,Zb,k5.1,k5.2⟩⟩
  rintro⟨mes1,mc1,sv1,sp1,eC,CS,So,ex⟩ ⟨g1,g2,g3,g4⟩
  simp only at g1 g2 g3 g4;dsimp only;refine ae ?_;refine VC.loop (α:=Nat×Array MapEntry×Nat×Value×List Value) (bn:=fun r=>[(1,.map (some eC)),(4,kF dp),(59,.slice a kids.length cc),(60,vi kids.length),(61,vi r.1)])
   (Hf:=fun r=>[kA mp 0 [.map (some mb)],kA op 0 [r.2.2.2.1],kA dp 0 [fn],[.obj mb (.map r.2.1 r.2.2.1)],[.obj eC (.map CS So)],ai (r.2.2.2.1) ((wJ s1 o1 (kids.take r.1)).map Value.string) r.2.2.2.2,S,ex])
   (I:=fun r=>r.1<=kids.length/\uI (wJ s1 o1 (kids.take r.1)) r.2.1 r.2.2.1/\jG 1 r.2.2.2.1 (wJ s1 o1 (kids.take r.1)).length ((wJ s1 o1 (kids.take r.1)).map Value.string) r.2.2.2.2) (μ:=fun r=>kids.length - r.1) (0,mes1,mc1,sv1,sp1) ⟨Qp _,by rw[Qa,wJ];exact g1,by rw[Qa,wJ];exact g3⟩ ZU (by dsimp only;rw[Qa,wJ];exact bQ) ?_
  rintro⟨j,OO,mc2,XZ,sp2⟩ ⟨hj,i1,i2⟩
  simp only at hj i1 i2;dsimp only;obtain⟨o2,ZF⟩:∃o2,o2=wJ s1 o1 (kids.take j):=⟨_,rfl⟩;rw[<- ZF]at i1 i2|-;have ho2l:o2.length<=o1.length+Nd.ws (kids.take j):=by rw[ZF];exact xj s1 _ _
  refine ae ?_;by_cases aO:j < kids.length;rotate_left
  ·rw[show decide ((j:Int) < (kids.length:Int))=false from Zf Zo];rw[QZ Zo]at ZF;rw[<- ZF];refine ae ?_;refine kG (Post:=[kA mp 0 [.map (some mb)],kA op 0 [XZ],kA dp 0 [fn],[.obj mb (.map OO mc2)],[.obj hb (.map lE hc)],ai (XZ) ((o2).map Value.string) sp2,S]) (.inl rfl) .nil ⟨OO,mc2,XZ,sp2,⟨rfl,i1,i2⟩,rfl⟩ ?_;refine ao.cut (M:=[kA mp 0 [.map (some mb)],kA op 0 [XZ],kA dp 0 [fn],[.obj mb (.map OO mc2)],ai XZ (o2.map Value.string) sp2,S,[.obj eC (.map CS So)],ex]) ZI ?_;refine ao.cut (M:=[kA mp 0 [.map (some mb)],kA op 0 [XZ],kA dp 0 [fn],[.obj mb (.map OO mc2)],ai XZ (o2.map Value.string) sp2,S,[.obj hb (.map lE hc)],(if k=7 then [kC.obj eC (.map CS So)]else [])]) (ao.perm ?_) ZI;simp only[V9,VV,vg];refine vV _ (vV _ (vV _ (vV _ (vV _ (vV _ ?_)))));exact g4
  rw[show decide ((j:Int) < (kids.length:Int))=true from Zt Zo];obtain rfl:=ha Zo;obtain⟨z,hz⟩:∃z,kids[j]? =some z:=⟨_,Zg aO⟩;have La:=hr j z hz;have XH:=hm j aO;have bA:=wf.many;have cy:kids.take (j+1)=kids.take j++[z]:=by rw[QX,hz];rfl
  have Sz:Nd.ws (kids.take j)+z.w<=Nd.ws kids:=by
   have e:kids=kids.take j++z::kids.drop (j+1):=by
    rw[<- QY j kids]
    congr 1
    ·rw[QY]
    ·rw[QY,vp aO]
     congr 1
     rw[Zg aO]at hz;exact Qx hz
   have:=Dv (z::kids.drop (j+1)) (kids.take j);rw[<- e]at this;rw[this];simp only[Nd.ws];omega
  have hzk:=aE z (us j) (Zv hz) La s1 o2 OO mc2 eC CS So XZ sp2 ⟨i1,g2,i2⟩ Zo Zo;generalize us j=uj at La XH hzk;obtain⟨f1,f2,f3,f4,f5,f6,f7,f8,f9,f10,f11,f12,f13,f14,f15,f16,f17,rfl,eu,mT⟩:=dG La;refine ae ?_;refine kX Zr (fun u hu=>List.mem_flatten.2 ⟨S,Zs,XH u hu⟩) rfl ?_;refine ae ?_;refine kN (fun q9=>?_);refine ae ?_;refine dN Zr hzk Zr ZP (fun v Post hv=>?_);obtain⟨mes3,mc3,sv3,sp3,⟨rfl,j1,j2⟩,rfl⟩:=hv;simp only[aH];have ho3:wJ s1 o1 (kids.take (j+1))=lV s1 o2 z:=by rw[cy,A8,ZF]
  refine ae ?_;refine⟨(j+1,mes3,mc3,sv3,sp3),⟨by simp only;omega,by simp only;rw[ho3];exact j1,by simp only;rw[ho3];exact j2⟩,by simp only;omega,ZU,?_⟩;dsimp only;rw[ho3];exact bQ
set_option maxHeartbeats 3200000
theorem AN(S:List kC)(x:Nd)(vs:List Value)(h:jJ S x vs)(hw:x.w<=274877906944):aq Tryz.prog 27 [.agg vs.toArray] [S] (fun v Post=>∃B,uM v (lV [] [] x) B/\Post=[S,B]):=by
 have hlen:=Jw [] x [];have eu:=EP [] 274877906944 x [] hw (fun t ht=>by cases ht);have hd:∀(mp op dp mb:Nat) (Ar:Array MapEntry) (mc hb:Nat),uI [] Ar mc->dk Tryz.prog (.func (.func 71) #[] #[kF mp,kF op,kF dp]) [.agg vs.toArray,.map (some hb)] [kA mp 0 [.map (some mb)],kA op 0 [Nz],kA dp 0 [.func (.func 71) #[] #[kF mp,kF op,kF dp]],[.obj mb (.map Ar mc)],[.obj hb (.map #[] 0)],ai Nz (([]:List ByteArray).map Value.string) [],S]
  (fun v Post=>∃Dp Uv eK bE,(v=.tuple #[]/\uI (lV [] [] x) Dp Uv/\jG 1 eK (lV [] [] x).length ((lV [] [] x).map Value.string) bE)/\Post=[kA mp 0 [.map (some mb)],kA op 0 [eK],kA dp 0 [.func (.func 71) #[] #[kF mp,kF op,kF dp]],[.obj mb (.map Dp Uv)],[.obj hb (.map #[] 0)],ai eK ((lV [] [] x).map Value.string) bE,S]):=fun mp op dp mb Ar mc hb hm=>
  dk.bY (first:=#[]) (cap:=#[kF mp,kF op,kF dp]) (KN S mp op dp mb _ x (Qh _) vs h [] [] Ar mc hb #[] 0 Nz [] ⟨hm,rl.nil,.nil⟩ (by rw[Q0];omega) (by rw[Q0];omega))
 obtain⟨g1,g2,g3,g4,g5,g6,g7,g8,g9,g10,g11,g12,g13,g14,g15,g16,rfl⟩:=qd h;refine aq.intro low27 (by simp[n27]) ?_;refine ae ?_;refine kY Zr (fun q=>?_);simp only[Value.cells];refine ae ?_;refine kN (fun op=>?_);refine ae ?_;refine ia (fun mb=>?_);refine ae ?_;refine ww (E:=yC) (V:=fun n:Nat=>.int .i64 n) (k:=x8) (v:=1) Zr Zr Zr rfl ZK .nil (fun es1 c1 h1=>?_);refine ae ?_;refine ww (E:=yC) (V:=fun n:Nat=>.int .i64 n) (k:=nh) (v:=1) Zr Zr Zr rfl ZK h1 (fun DU c2 h2=>?_);refine ae ?_;refine ww (E:=yC) (V:=fun n:Nat=>.int .i64 n) (k:=Fv) (v:=1) Zr Zr Zr rfl ZK h2 (fun es3 c3 h3=>?_);refine ae ?_;refine ww (E:=yC) (V:=fun n:Nat=>.int .i64 n) (k:=x9) (v:=1) Zr Zr Zr rfl ZK h3 (fun es4 c4 h4=>?_);refine ae ?_;refine ww (E:=yC) (V:=fun n:Nat=>.int .i64 n) (k:=qg) (v:=1) Zr Zr Zr rfl ZK h4 (fun es5 c5 h5=>?_);refine ae ?_;refine kN (fun mp=>?_);refine ae ?_;refine kN (fun dp=>?_);refine ae ?_;refine ia (fun hb=>?_);refine ae ?_;refine VO.imp (H':=[kA mp 0 [.map (some mb)],kA op 0 [Nz],kA dp 0 [(.func (.func 71) #[] #[kF mp,kF op,kF dp])],[.obj mb (.map es5 c5)],[.obj hb (.map #[] 0)],ai Nz (([]:List ByteArray).map Value.string) [],S]) ?_ ?_
 ·show ao [[.obj hb (.map #[] 0)],kA dp 0 [(.func (.func 71) #[] #[kF mp,kF op,kF dp])],kA mp 0 [.map (some mb)],[.obj mb (.map es5 c5)],kA op 0 [Nz],kA q 0 _,S] [kA mp 0 [.map (some mb)],kA op 0 [Nz],kA dp 0 [(.func (.func 71) #[] #[kF mp,kF op,kF dp])],[.obj mb (.map es5 c5)],[.obj hb (.map #[] 0)],[],S];exact ao.cut (M:=[kA mp 0 [.map (some mb)],kA op 0 [Nz],kA dp 0 [(.func (.func 71) #[] #[kF mp,kF op,kF dp])],[.obj mb (.map es5 c5)],[.obj hb (.map #[] 0)],S]) ZI (ao.perm Zs)
 refine dN Zr (hd mp op dp mb es5 c5 hb ⟨⟨_,h5,OP⟩⟩) Zr ZP (fun v Post hv=>?_);obtain⟨Dp,Uv,eK,bE,⟨rfl,j1,j2⟩,rfl⟩:=hv;simp only[aH];obtain⟨a',c',rfl⟩:=id j2.form;refine ae ?_;exact kG (Post:=[S,ai (.slice a' (lV [] [] x).length c') ((lV [] [] x).map Value.string) bE]) (.inr rfl) (.tmp Zr .nil) ⟨_,⟨bE,j2,rfl,by rw[Q0]at hlen;omega,fun t ht=>by have:=eu t ht;omega⟩,rfl⟩ ZI
noncomputable def F11:aQ:=bb (o:=gF pq Tryz.f11 [])
theorem n11:F11.n=137:=rfl
theorem low11:aZ Tryz.prog 11 []=some F11:=by kernel_rfl
set_option maxHeartbeats 6400000
def u1:List yJ:=(Cx [] [] m1).1
theorem an1:(Cx [] [] m1).2=(0,0):=by kernel_rfl
theorem an2:(Cx [] [] m2)=([],181,4):=by kernel_rfl
theorem un1:u1.length=3:=by kernel_rfl
theorem un2:u1[0]?.map (·.aB)=some 2:=by kernel_rfl
theorem un3:u1[1]?.map (·.copied.length)=some 2:=by kernel_rfl
theorem un4:(u1[1]?.bind (·.copied[0]?))=some ⟨5,1,0,e0⟩:=by kernel_rfl
theorem un5:(u1[2]?.bind (·.copied[1]?))=some ⟨5,0,0,e0⟩:=by kernel_rfl
theorem un6:u1[2]?.map (·.copied.length)=some 2:=by kernel_rfl
theorem RT {B:List kC}{v:Value}(h:MT B v u1):∃bk o c b1 o1 c1 b2 o2 c2,v=.slice (some ⟨bk,o,none⟩) 3 c/\kC.cell bk (o+4) (.int .i64 2)∈B/\kC.cell bk (o+8) (.slice (some ⟨b1,o1,none⟩) 2 c1)∈B/\kC.cell bk (o+14) (.slice (some ⟨b2,o2,none⟩) 2 c2)∈B/\
 (∀y∈kA b1 o1 [.int .u8 5,.int .i64 1,.int .i64 0,.string ⟨#[]⟩],y∈B)/\∀y∈kA b2 (o2+4) [.int .u8 5,.int .i64 0,.int .i64 0,.string ⟨#[]⟩],y∈B:=by
 obtain⟨a,c,bk,o,us,rfl,h2,h3,h4⟩:=h;obtain⟨x0,e0',k0⟩:=Qu.1 un2;obtain⟨x1,e1,k1⟩:=Qu.1 un3;obtain⟨x2,e2,k2⟩:=Qu.1 un6;have k3:=un4;rw[e1]at k3;have k4:=un5;rw[e2]at k4;rw[un1]at h2 h3|-;obtain rfl:=h2 Zd;obtain⟨cv0,bv0,r0,p0,_⟩:=h4 0 x0 e0';obtain⟨cv1,bv1,r1,p1,_⟩:=h4 1 x1 e1;obtain⟨cv2,bv2,r2,p2,_⟩:=h4 2 x2 e2;obtain⟨a1,c1,rfl,q1⟩:=p1;obtain⟨a2,c2,rfl,q2⟩:=p2;obtain⟨b1,o1,rfl,s1⟩:=q1 0 _ k3;obtain⟨b2,o2,rfl,s2⟩:=q2 1 _ k4;have g0:=h3 0 Zd;have g1:=h3 1 Zd;have g2:=h3 2 Zd;rw[r0]at g0;rw[r1,show x1.copied.length=2 from k1]at g1;rw[r2,show x2.copied.length=2 from k2]at g2;refine⟨bk,o,c,b1,o1,c1,b2,o2,c2,rfl,g0 _ ?_,g1 _ ?_,g2 _ ?_,s1,?_⟩
 ·exact kI.2 ⟨4,.int .i64 2,by rw[<- k0];rfl,Zs⟩
 ·exact kI.2 ⟨2,_,rfl,Zs⟩
 ·exact kI.2 ⟨2,_,rfl,Zs⟩
 ·exact s2
def bl0:Nd:=.mk 7 ⟨#[]⟩ (.mk 0 0 0 ⟨#[]⟩ []) [] [] [] 0
def wh0:Nd:=.mk 4 ⟨#[119,104,105,108,101,84,114,117,101]⟩ (.mk 0 0 0 ⟨#[]⟩ []) [] [] [bl0] 0
theorem eg.Fu(S:List kC):eg S Nz []:=⟨none,0,rfl,Zd,fun i t h=>by simp at h⟩
theorem fP(S:List kC):zw S (.mk 0 0 0 ⟨#[]⟩ []) [cv 0,vi 0,uv 0,.string ⟨#[]⟩,Nz]:=.mk (a:=none) (c:=0) (bk:=0) (o:=0) (us:=fun _=>[]) ⟨Zd,Zd,Zd,Zd,Zd⟩ (fun h=>absurd h Zs) (fun i hi=>absurd hi Zs) (fun i x hx=>by simp at hx)
def z11:List Value:=[.int .u8 7,.string ⟨#[]⟩,.int .u8 0,.int .i64 0,.int .u64 0,.string ⟨#[]⟩,Nz,Nz,Nz,Nz,.int .i64 0]
theorem Yy(S:List kC):jJ S bl0 z11:=
 .mk (a:=none) (c:=0) (bk:=0) (o:=0) (us:=fun _=>[]) ⟨Zd,Zd,Zd,Zd⟩ (fP S) (eg.Fu S) (eg.Fu S) (fun h=>absurd h Zs) (fun i hi=>absurd hi Zs) (fun i x hx=>by simp at hx) (Qh _)
theorem wh0_rd(q c:Nat)(hc:1<=c):jJ (kA q 0 z11) wh0 [.int .u8 4,.string ⟨#[119,104,105,108,101,84,114,117,101]⟩,.int .u8 0,.int .i64 0,.int .u64 0,.string ⟨#[]⟩,Nz,Nz,Nz,.slice (some ⟨q,0,none⟩) 1 c,.int .i64 0]:=
 .mk (a:=some ⟨q,0,none⟩) (c:=c) (bk:=q) (o:=0) (us:=fun _=>z11) (kids:=[bl0]) ⟨Zd,Zd,Zd,Zd⟩ (fP _) (eg.Fu _) (eg.Fu _) (fun _=>rfl) (fun i hi y hy=>by
  have:i=0:=by simpa using hi
  subst this;simpa using hy) (fun i x hx=>by
  cases i with
  |zero=>obtain rfl:bl0=x:=by simpa using hx
         exact Yy _
  |succ i=>simp at hx) hc
theorem ο:gw wh0=true:=by kernel_rfl
theorem ξ:(m1.body[0]?).map gw=some false:=by kernel_rfl
theorem fr_b1:(m1.body[1]?).map (lV [] [])=some [⟨#[117]⟩,⟨#[116]⟩,⟨#[97]⟩]:=by kernel_rfl
theorem w_m1:Nd.ws m1.body<=274877906944:=Qg (by kernel_rfl)
theorem w_m2:Nd.ws m2.body<=274877906944:=Qg (by kernel_rfl)
theorem s_m1:Nd.aw m1.body<=1048576:=Qg (by kernel_rfl)
theorem s_m2:Nd.aw m2.body<=1048576:=Qg (by kernel_rfl)
theorem c_m1:oC m1.args m1.ab m1.body<=1048576:=Qg (by kernel_rfl)
theorem c_m2:oC m2.args m2.ab m2.body<=1048576:=Qg (by kernel_rfl)
theorem Res1(S:List kC)(vs:List Value)(h:Ec S m1 vs):aq Tryz.prog 15 [.agg vs.toArray,Nz,Nz] [S] (fun v Post=>∃aP az D5 B,v=.tuple #[.agg #[.string aP,.int .i64 az,D5],.nilIface]/\MT B D5 u1/\Post=[S,B]):=by
 refine(ir S m1 vs h [] [] _ _ (eg.Fu S) (eg.Fu S) (Qp _) (Qp _) c_m1 s_m1 w_m1).mono ?_
 rintro v Post (⟨l,D5,B,e1,rfl,h2,rfl⟩|⟨e,p,q,e1,ck,_⟩)
 ·have:u1=l:=by unfold u1;rw[e1]
  rw[this];exact⟨_,_,D5,B,rfl,h2,rfl⟩
 ·have:=an1;rw[e1]at this;exact absurd (congrArg Prod.fst this) ck
theorem Res2(S:List kC)(vs:List Value)(h:Ec S m2 vs):aq Tryz.prog 15 [.agg vs.toArray,Nz,Nz] [S] (fun v Post=>∃q,v=.tuple #[.agg #[.string e0,.int .i64 0,Nz],.iface 80 (kF q)]/\Post=[S,j9 q 181 4]):=by
 refine(ir S m2 vs h [] [] _ _ (eg.Fu S) (eg.Fu S) (Qp _) (Qp _) c_m2 s_m2 w_m2).mono ?_
 rintro v Post (⟨l,D5,B,e1,_⟩|⟨e,p,q,e1,ck,rfl,rfl⟩)
 ·rw[an2]at e1;cases e1
 ·rw[an2]at e1;cases e1;exact⟨q,rfl,rfl⟩
theorem mQ.more {A B:List kC}(h:mQ A)(hs:∀x∈A,x∈B):mQ B:=by
 obtain⟨ev,h1,h2⟩:=h;exact⟨ev,hs _ h1,h2⟩
theorem Hn(A:List kC)(hE:mQ A)(hT:X7∈A):aq Tryz.prog 11 [] [A] (fun v Post=>v=.bool true/\Post=[A]):=by
 refine aq.intro low11 (by simp[n11]) ?_;refine ae ?_;refine kJ (Ut A) Zr ZP (fun v Post hv=>?_);obtain⟨vs1,B1,rfl,yV,rfl⟩:=hv;simp only[aH];refine VO.imp (H':=[A++B1]) (ao.perm Zs) ?_;have hmd:Ec (A++B1) m1 vs1:=(yV.more fun z hz=>QB _ hz).ok (hE.more fun z hz=>Zw _ hz) w_m1;have hm1':=yV.more (B:=A++B1) fun z hz=>QB _ hz
 have Te:mQ (A++B1):=hE.more fun z hz=>Zw _ hz
 have hT1:X7∈A++B1:=Zw _ hT;have hA1:∃R,A++B1=A++R:=⟨B1,rfl⟩;generalize A++B1=S1 at hmd hm1' Te hT1 hA1|-;clear yV;obtain⟨⟨aa,ac,ta,tc,a,c,bk,o,us,rfl,bK,bG,hk⟩,bW,pL⟩:=hm1';refine ae ?_;refine kN (fun q1=>?_);refine ae ?_;refine kN (fun q2=>?_);refine ae ?_;refine kJ (Res1 S1 _ hmd) Zr ZP (fun v Post hv=>?_);obtain⟨aP,az,D5,B,rfl,C5,rfl⟩:=hv;obtain⟨ub,uo,uc,rb1,ro1,rc1,rb2,ro2,rc2,rfl,k1,k2,k3,k4,k5⟩:=RT C5;simp only[aH];refine VO.imp (H':=[S1++B,kA q1 0 [.string m1.aP,.slice aa m1.args.length ac,.slice ta m1.ab.length tc,vi m1.az,.slice a m1.body.length c]]) (ao.cut (M:=[S1,B,kA q1 0 [.string m1.aP,.slice aa m1.args.length ac,.slice ta m1.ab.length tc,vi m1.az,.slice a m1.body.length c]]) ZI (ao.perm Zs)) ?_
 replace k1:kC.cell ub (uo+4) (.int .i64 2)∈S1++B:=QB _ k1
 replace k2:=QB S1 k2
 replace k3:=QB S1 k3
 replace k4:∀y∈kA rb1 ro1 [.int .u8 5,.int .i64 1,.int .i64 0,.string ⟨#[]⟩],y∈S1++B:=fun y hy=>QB S1 (k4 y hy)
 replace k5:∀y∈kA rb2 (ro2+4) [.int .u8 5,.int .i64 0,.int .i64 0,.string ⟨#[]⟩],y∈S1++B:=fun y hy=>QB S1 (k5 y hy)
 have xA:∃bk o us,oq (S1++B) m1.body a bk o us:=⟨bk,o,us,hk.at_,hk.many,fun i hi y hy=>Zw _ (hk.mem i hi y hy),fun i x e=>(hk.rd i x e).more fun z hz=>Zw _ hz⟩;have Tf:mQ (S1++B):=Te.more fun z hz=>Zw _ hz
 have hT2:X7∈S1++B:=Zw _ hT1;have hA2:∃R,S1++B=A++R:=by
  obtain⟨R,rfl⟩:=hA1;exact⟨R++B,vf _ _ _⟩
 clear hk hmd bK bG C5;generalize S1++B=S2 at k1 k2 k3 k4 k5 xA Tf hT2 hA2|-;clear Te hT1 hA1;refine ae ?_;refine kN (fun q3=>?_);refine ae ?_;refine kJ (Uu S2) Zr ZP (fun v Post hv=>?_);obtain⟨vs2,B2,rfl,rV,rfl⟩:=hv;simp only[aH];refine VO.imp (H':=[S2++B2,kA q1 0 [.string m1.aP,.slice aa m1.args.length ac,.slice ta m1.ab.length tc,vi m1.az,.slice a m1.body.length c],kA q3 0 [.string aP,.int .i64 az,.slice (some ⟨ub,uo,none⟩) 3 uc]]) (ao.cut (M:=[S2,B2,kA q1 0 [.string m1.aP,.slice aa m1.args.length ac,.slice ta m1.ab.length tc,vi m1.az,.slice a m1.body.length c],kA q3 0 [.string aP,.int .i64 az,.slice (some ⟨ub,uo,none⟩) 3 uc]]) ZI (ao.perm Zs)) ?_;have hmd:Ec (S2++B2) m2 vs2:=(rV.more fun z hz=>QB _ hz).ok (Tf.more fun z hz=>Zw _ hz) w_m2;obtain⟨⟨aa2,ac2,ta2,tc2,a2,c2,_,_,_,rfl,_,_,_⟩,_,_⟩:=rV;refine ae ?_;refine kN (fun q4=>?_);refine ae ?_;refine kN (fun q5=>?_);refine ae ?_;refine kJ (Res2 (S2++B2) _ hmd) Zr ZP (fun v Post hv=>?_);obtain⟨qf,rfl,rfl⟩:=hv;simp only[aH];refine VO.imp (H':=[(S2++B2)++j9 qf 181 4,kA q1 0 [.string m1.aP,.slice aa m1.args.length ac,.slice ta m1.ab.length tc,vi m1.az,.slice a m1.body.length c],kA q3 0 [.string aP,.int .i64 az,.slice (some ⟨ub,uo,none⟩) 3 uc]]) (ao.cut (M:=[S2++B2,j9 qf 181 4,kA q1 0 [.string m1.aP,.slice aa m1.args.length ac,.slice ta m1.ab.length tc,vi m1.az,.slice a m1.body.length c],kA q3 0 [.string aP,.int .i64 az,.slice (some ⟨ub,uo,none⟩) 3 uc]]) ZI (ao.perm Zs)) ?_;have fG:∀y∈j9 qf 181 4,y∈S2++B2++j9 qf 181 4:=fun y hy=>QB _ hy
 have f1:kC.cell qf 1 (.int .i64 4)∈S2++B2++j9 qf 181 4:=fG _ (kI.2 ⟨1,_,rfl,Zs⟩);have f2:kC.cell qf 2 (.iface 44 (.int .i64 181))∈S2++B2++j9 qf 181 4:=fG _ (kI.2 ⟨2,_,rfl,Zs⟩);clear fG hmd;have aY:∀z∈S2,z∈S2++B2++j9 qf 181 4:=fun z hz=>Zw _ (Zw _ hz)
 replace k1:=aY _ k1
 replace k2:=aY _ k2
 replace k3:=aY _ k3
 replace k4:=fun y hy=>aY y (k4 y hy)
 replace k5:=fun y hy=>aY y (k5 y hy)
 have hT3:=aY _ hT2;obtain⟨bk,o,us,hk⟩:=xA;have ri:oq (S2++B2++j9 qf 181 4) m1.body a bk o us:=⟨hk.at_,hk.many,fun i hi y hy=>aY _ (hk.mem i hi y hy),fun i x e=>(hk.rd i x e).more aY⟩;have hA3:∃R,S2++B2++j9 qf 181 4=A++R:=by
  obtain⟨R,rfl⟩:=hA2;exact⟨R++(B2++j9 qf 181 4),Zs⟩
 clear aY hk Tf hT2 hA2;generalize S2++B2++j9 qf 181 4=S at k1 k2 k3 k4 k5 f1 f2 hT3 ri hA3|-;refine ae ?_;refine kN (fun q6=>?_);refine ae ?_;refine kJ (Ee S hT3 qf 4 181 f1 f2) Zr ZP (fun v Post hv=>?_);obtain⟨rfl,rfl⟩:=hv;simp only[aH];obtain rfl:=ri.at_ Zd;refine ae ?_;obtain⟨n1,e1,K4⟩:=Qu.1 fr_b1;obtain⟨n0,e0',hn0⟩:=Qu.1 ξ;have Ha:n1.w<=274877906944:=Qj (Nd.cq (Zv e1)) w_m1;refine kX (us:=us 1) Zr (fun u hu=>by simp only[V9,QA];exact .inl (ri.mem 1 Zd u hu)) (jJ.len (ri.rd 1 n1 e1)) ?_;refine ae ?_;refine kJ (AN S n1 (us 1) (ri.rd 1 n1 e1) Ha) Zr ZP (fun v Post hv=>?_);obtain⟨B3,Sy,rfl⟩:=hv;have tZ:=Sy.rd;rw[K4]at tZ;obtain⟨fa,fc,rfl,_,hr⟩:=tZ;obtain⟨fb,fo,rfl,k6,_⟩:=hr 0 _ rfl;rw[Qd]at k6;clear Sy hr;simp only[aH];refine ae ?_;refine jE (out:=z11) Zr Zr (fun qb=>?_);refine ae ?_;refine kJ (pO (kA qb 0 z11) wh0 _ (wh0_rd qb 1 (Qh _))) Zr ZP (fun v Post hv=>?_);obtain⟨rfl,rfl⟩:=hv;rw[ο];simp only[aH];refine ae ?_;refine kX (us:=us 0) Zr (fun u hu=>by simp only[V9,QA];have:=ri.mem 0 Zd u hu;simp[this]) (jJ.len (ri.rd 0 n0 e0')) ?_;refine ae ?_;refine kJ (pO S n0 (us 0) (ri.rd 0 n0 e0')) Zr ZP (fun v Post hv=>?_);obtain⟨rfl,rfl⟩:=hv;rw[hn0];simp only[aH];refine ae ?_;refine kX (us:=[.int .u8 5,.int .i64 1,.int .i64 0,.string ⟨#[]⟩]) Zr (fun u hu=>by have:=k4 u hu;simp only[V9,QA];simp[this]) rfl ?_;refine ae ?_;refine kX (us:=[.int .u8 5,.int .i64 0,.int .i64 0,.string ⟨#[]⟩]) Zr (fun u hu=>by have:=k5 u hu;simp only[V9,QA];simp[this]) rfl ?_;refine ae ?_;obtain⟨R,rfl⟩:=hA3;exact kG (Post:=[A]) (.inr rfl) (.tmp (v:=.bool true) Zr .nil) ⟨rfl,rfl⟩ (ao.cut (M:=[A++R]) ZI ⟨[R],by simp[V.dX]⟩)
noncomputable def F24:aQ:=bb (o:=gF pq Tryz.f24 [])
theorem n24:F24.n=48:=rfl
theorem low24:aZ Tryz.prog 24 []=some F24:=by kernel_rfl
noncomputable def F67:aQ:=bb (o:=gF pq Tryz.f67 [])
theorem n67:F67.n=37:=rfl
theorem low67:aZ Tryz.prog 67 []=some F67:=by kernel_rfl
noncomputable def F68:aQ:=bb (o:=gF pq Tryz.f68 [])
theorem n68:F68.n=25:=rfl
theorem low68:aZ Tryz.prog 68 []=some F68:=by kernel_rfl
noncomputable def F42:aQ:=bb (o:=gF pq Tryz.f42 [])
theorem n42:F42.n=34:=rfl
theorem low42:aZ Tryz.prog 42 []=some F42:=by kernel_rfl
noncomputable def F12:aQ:=bb (o:=gF pq Tryz.f12 [])
theorem n12:F12.n=20:=rfl
theorem low12:aZ Tryz.prog 12 []=some F12:=by kernel_rfl
end Go.Proofs.YtijnokbblmbpkaaGreatDoor
namespace Go.V
open Go
theorem xS(b:List Lt):∀(a:List Lt),Lt.aw (a++b)=Lt.aw a+Lt.aw b
 |[]=>by rw[QL,Lt.aw,Qo]
 |x::r=>by rw[vj,Lt.aw,Lt.aw,xS b r,Qc]
theorem Ur {l:List Lt}{j:Nat}{y:Lt}(h:l[j]? =some y):Lt.aw (l.take (j+1))=Lt.aw (l.take j)+y.size:=by
 rw[QX,h,xS];simp only[Option.toList,Lt.aw];omega
theorem JT {l:List Nd}{j:Nat}{y:Nd}(h:l[j]? =some y):Nd.ws (l.take (j+1))=Nd.ws (l.take j)+y.w:=by
 rw[QX,h,Dv];simp only[Option.toList,Nd.ws];omega
mutual
theorem size_w:∀(x:Nd),x.size<=x.w
 |.mk k s lit args ab kids p=>by
  have:=yv kids;simp only[Nd.size,Nd.w];omega
theorem yv:∀(l:List Nd),Nd.aw l<=Nd.ws l
 |[]=>Qh _
 |x::r=>by
  have h1:=size_w x;have h2:=yv r;simp only[Nd.aw,Nd.ws];omega
end
mutual
theorem YA:∀(x:Nd),pE x<=x.w
 |.mk k s lit args ab kids p=>by
  have:=uX kids;simp only[pE,iy,Nd.w];omega
theorem uX:∀(l:List Nd),jN l<=Nd.ws l
 |[]=>Qh _
 |x::r=>by
  have h1:=YA x;have h2:=uX r;simp only[jN,Nd.ws];omega
end
end Go.V
namespace Go.Proofs.YtijnokbblmbpkaaGreatDoor
open Go Go.V
set_option maxHeartbeats 3200000
set_option maxRecDepth 100000
theorem Up {A:List kC}{x:Lt}{vs:List Value}(h:zw A x vs):∃(e:Option Addr) (c:Nat),vs=[cv x.kind,vi x.n,uv x.bits,.string x.text,.slice e x.items.length c]:=by
 cases h with
 |mk wf ha hm hr=>exact⟨_,_,rfl⟩
def wB(s:Int):Int:=max s 262144+140737488355329
theorem zl(A:List kC)(av:Value)(l:List ByteArray)(h:eg A av l)(s:Int)(hs:0<=s/\s<=2305843009213693952):aq Tryz.prog 68 [av,vi s] [A] (fun v Post=>∃r,v=vi r/\0<=r/\r<=wB s/\(r<=262144->s+l.length<=r)/\Post=[A]):=by
 obtain⟨a,c,rfl,hl,hr⟩:=h;refine aq.intro low68 (by simp[n68]) ?_;refine ae ?_;refine VC.loop (α:=Nat×Int) (bn:=fun z=>[(0,.slice a l.length c),(1,vi z.2),(5,vi z.1)]) (Hf:=fun _=>[A])
  (I:=fun z=>z.1<=l.length/\0<=z.2/\z.2<=wB s/\s+z.1<=z.2) (μ:=fun z=>l.length - z.1) (0,s) ⟨Qp _,hs.1,by unfold wB;omega,by simp only;omega⟩ ZU ZI ?_
 rintro⟨j,r⟩ ⟨i1,i2,i3,i4⟩
 simp only at i1 i2 i3 i4;dsimp only;unfold wB at i3;refine ae ?_;by_cases hj:j < l.length;rotate_left
 ·rw[show decide ((j:Int) < (l.length:Int))=false from Zf Zo];exact zDS
 rw[show decide ((j:Int) < (l.length:Int))=true from Zt Zo];refine ae ?_;by_cases dS:r<=262144;rotate_left
 ·rw[Zf dS];exact zDS
 rw[Zt dS];obtain⟨x,hx⟩:∃x,l[j]? =some x:=⟨_,Zg hj⟩;obtain⟨b1,o1,rfl,So,ud⟩:=hr j x hx;refine ae ?_;refine⟨(j+1,r+1+x.size),⟨by simp only;omega,by simp only;omega,by simp only;unfold wB;omega,by simp only;omega⟩,by simp only;omega,ZU,ZI⟩
theorem AJ(A:List kC):∀(N:Nat) (x:Lt),x.size<=N->∀vs,zw A x vs->∀(s d:Int),0<=s->s<=2305843009213693952->0<=d->d<=60001->aq Tryz.prog 67 [.agg vs.toArray,vi s,vi d] [A] (fun v Post=>∃r,v=vi r/\0<=r/\r<=wB s/\(r<=262144->s+x.size<=r)/\Post=[A]):=by
 intro N
 induction N with
 |zero=>intro x hx;have:=x.size_pos;omega
 |succ N ih=>
  intro x hx vs h s d ud xF hd1 KX;cases h with
  |@mk k n b t items a c bk o us wf ha hm hr=>
  have bA:=wf.many;have htx:=wf.text;refine aq.intro low67 (by simp[n67]) ?_;refine ae ?_;refine kY Zr (fun q=>?_);simp only[Value.cells];refine ae ?_;by_cases hd:d > 60000
  ·rw[Zt hd];refine ae ?_;exact kG (Post:=[A]) (.inr rfl) (.tmp Zr .nil) ⟨262145,rfl,Zo,by unfold wB;omega,fun hh=>absurd hh Zd,rfl⟩ ZI
  rw[Zf hd];refine ae ?_;refine VC.loop (α:=Nat×Int) (bn:=fun z=>[(1,vi z.2),(2,vi d),(3,kF q),(7,vi z.1)]) (Hf:=fun _=>[A,kA q 0 [cv k,vi n,uv b,.string t,.slice a items.length c]])
   (I:=fun z=>z.1<=items.length/\0<=z.2/\z.2<=wB s/\(z.2<=262144->s+1+Lt.aw (items.take z.1)<=z.2)) (μ:=fun z=>items.length - z.1) (0,s+1+t.size) ⟨Qp _,by simp only;omega,by simp only;unfold wB;omega,fun _=>by simp only[Qa,Lt.aw];omega⟩ ZU ZI ?_
  rintro⟨j,r⟩ ⟨i1,i2,i3,i4⟩
  simp only at i1 i2 i3 i4;dsimp only;unfold wB at i3;refine ae ?_;by_cases hj:j < items.length;rotate_left
  ·rw[show decide ((j:Int) < (items.length:Int))=false from Zf Zo];refine ae ?_;exact kG (Post:=[A]) (.inr rfl) (.tmp Zr .nil) ⟨r,rfl,i2,by unfold wB;omega,fun hh=>(by have:=i4 hh;rw[QZ Zo]at this;simp only[Lt.size];omega),rfl⟩ ZI
  rw[show decide ((j:Int) < (items.length:Int))=true from Zt Zo];refine ae ?_;by_cases dS:r<=262144;rotate_left
  ·rw[Zf dS];refine ae ?_;exact kG (Post:=[A]) (.inr rfl) (.tmp Zr .nil) ⟨r,rfl,i2,by unfold wB;omega,fun hh=>absurd hh dS,rfl⟩ ZI
  rw[Zt dS];obtain rfl:=ha Zo;obtain⟨y,hy⟩:∃y,items[j]? =some y:=⟨_,Zg hj⟩;have cH:=hm j hj;have bL:=hr j y hy;have fH:=bL.len;have h1:=Lt.aD (Zv hy);simp only[Lt.size]at hx;have aE:=ih y Zo _ bL r (d+1) i2 Zo Zo Zo;refine ae ?_;refine kX Zr Cv fH ?_;refine ae ?_;refine kJ aE Zr ZP (fun v Post hv=>?_);obtain⟨r',rfl,h2,h3,h9,rfl⟩:=hv;have i5:=i4 dS;have cy:=Ur hy;unfold wB at h3;simp only[aH];refine ae ?_;refine⟨(j+1,r'),⟨by simp only;omega,by simp only;omega,by simp only;unfold wB;omega,fun hh=>by simp only at hh|-;have:=h9 hh;rw[cy];omega⟩,by simp only;omega,ZU,ZI⟩
def wN(s:Int):Int:=max s 262144+562949953421316
theorem yQ(A:List kC):∀(N:Nat) (x:Nd),x.w<=N->∀vs,jJ A x vs->∀(s d:Int),0<=s->s<=1152921504606846976->0<=d->d<=60001->aq Tryz.prog 24 [.agg vs.toArray,vi s,vi d] [A] (fun v Post=>∃r,v=vi r/\0<=r/\r<=wN s/\(r<=262144->s+x.w<=r)/\Post=[A]):=by
 intro N
 induction N with
 |zero=>intro x hx;have:=x.mN;omega
 |succ N ih=>
  intro x hx vs h s d ud xF hd1 KX;cases h with
  |@mk k nm lit args ab kids p lv av tv a c bk o us wf hl bK bG ha hm hr rU=>
  have bA:=wf.many;have K5:=wf.name;have oL:=fun s ud xF=>AJ A _ lit (Qh _) lv hl s 0 ud xF Zo Zo
  have Sm:=fun s hs=>zl A av args bK s hs
  have htt:=fun s hs=>zl A tv ab bG s hs
  obtain⟨aa,ac,rfl,_,_⟩:=bK;obtain⟨ta,tc,rfl,_,_⟩:=bG;obtain⟨la,lc,rfl⟩:=Up hl;refine aq.intro low24 (by simp[n24]) ?_;simp only[aH];refine ae ?_;refine kY Zr (fun q=>?_);simp only[Value.cells];refine ae ?_;refine kJ (oL (s+1+nm.size) Zo Zo) Zr ZP (fun v Post hv=>?_);obtain⟨r1,rfl,h1,h2,w1,rfl⟩:=hv;unfold wB at h2;simp only[aH];refine ae ?_;refine kJ (Sm r1 Zo) Zr ZP (fun v Post hv=>?_);obtain⟨r2,rfl,h3,h4,w2,rfl⟩:=hv;unfold wB at h4;simp only[aH];refine ae ?_;refine kJ (htt r2 Zo) Zr ZP (fun v Post hv=>?_);obtain⟨r3,rfl,h5,h6,w3,rfl⟩:=hv;unfold wB at h6;simp only[aH];have w4:r3<=262144->s+1+nm.size+lit.size+args.length+ab.length<=r3:=fun hh=>by
   have a3:=w3 hh;have a2:=w2 Zo;have a1:=w1 Zo;omega
  clear w1 w2 w3;have h7:r3<=wN s:=by unfold wN;omega
  clear h2 h4 h6;refine ae ?_;by_cases hd:d > 60000
  ·rw[Zt hd];refine ae ?_;exact kG (Post:=[A]) (.inr rfl) (.tmp Zr .nil) ⟨262145,rfl,Zo,by unfold wN;omega,fun hh=>absurd hh Zd,rfl⟩ ZI
  rw[Zf hd];refine ae ?_;refine VC.loop (α:=Nat×Int) (bn:=fun z=>[(1,vi z.2),(2,vi d),(3,kF q),(7,vi z.1)]) (Hf:=fun _=>[A,kA q 0 (rA k nm lit.kind lit.n lit.bits lit.text la lit.items.length lc aa args.length ac ta ab.length tc a kids.length c p)])
   (I:=fun z=>z.1<=kids.length/\0<=z.2/\z.2<=wN s/\(z.2<=262144->s+1+nm.size+lit.size+args.length+ab.length+Nd.ws (kids.take z.1)<=z.2)) (μ:=fun z=>kids.length - z.1) (0,r3) ⟨Qp _,h5,h7,fun hh=>by simp only at hh|-;have:=w4 hh;simp only[Qa,Nd.ws];omega⟩ ZU ZI ?_
  rintro⟨j,r⟩ ⟨i1,i2,i3,i4⟩
  simp only at i1 i2 i3 i4;dsimp only;unfold wN at i3;refine ae ?_;by_cases hj:j < kids.length;rotate_left
  ·rw[show decide ((j:Int) < (kids.length:Int))=false from Zf Zo];refine ae ?_;exact kG (Post:=[A]) (.inr rfl) (.tmp Zr .nil) ⟨r,rfl,i2,by unfold wN;omega,fun hh=>(by have:=i4 hh;rw[QZ Zo]at this;simp only[Nd.w];omega),rfl⟩ ZI
  rw[show decide ((j:Int) < (kids.length:Int))=true from Zt Zo];refine ae ?_;by_cases dS:r<=262144;rotate_left
  ·rw[Zf dS];refine ae ?_;exact kG (Post:=[A]) (.inr rfl) (.tmp Zr .nil) ⟨r,rfl,i2,by unfold wN;omega,fun hh=>absurd hh dS,rfl⟩ ZI
  rw[Zt dS];obtain rfl:=ha Zo;obtain⟨y,hy⟩:∃y,kids[j]? =some y:=⟨_,Zg hj⟩;have cH:=hm j hj;have bL:=hr j y hy;have fH:=bL.len;have h1:=Nd.cq (Zv hy);simp only[Nd.w]at hx;have aE:=ih y Zo _ bL r (d+1) i2 Zo Zo Zo;refine ae ?_;refine kX Zr Cv fH ?_;refine ae ?_;refine kJ aE Zr ZP (fun v Post hv=>?_);obtain⟨r',rfl,h2,h3,h9,rfl⟩:=hv;have i5:=i4 dS;have cy:=JT hy;unfold wN at h3;exact zCE
theorem sH(A:List kC)(x:Md)(vs:List Value)(h:Ki A x vs):aq Tryz.prog 42 [.agg vs.toArray] [A] (fun v Post=>∃r,v=vi r/\(r<=262144->x.args.length+x.ab.length+Nd.ws x.body<=r)/\Post=[A]):=by
 obtain⟨⟨aa,ac,ta,tc,a,c,bk,o,us,rfl,bK,bG,hk⟩,bW,pL⟩:=h;have Sm:=fun s hs=>zl A _ x.args bK s hs
 have htt:=fun s hs=>zl A _ x.ab bG s hs
 obtain⟨s,args,ab,p,body⟩:=x;simp only at*;have bA:=hk.many;refine aq.intro low42 (by simp[n42]) ?_;refine ae ?_;refine kY Zr (fun q=>?_);simp only[Value.cells];refine ae ?_;refine kJ (Sm s.size Zo) Zr ZP (fun v Post hv=>?_);obtain⟨r1,rfl,h1,h2,w1,rfl⟩:=hv;unfold wB at h2;simp only[aH];refine ae ?_;refine kJ (htt r1 Zo) Zr ZP (fun v Post hv=>?_);obtain⟨r2,rfl,h3,h4,w2,rfl⟩:=hv;have w4:r2<=262144->args.length+ab.length<=r2:=fun hh=>by
  have a2:=w2 hh;have a1:=w1 Zo;omega
 clear w1 w2;unfold wB at h4;simp only[aH];have h5:r2<=wN 0+1000000000000000:=by unfold wN;omega
 clear h2 h4;refine ae ?_;refine VC.loop (α:=Nat×Int) (bn:=fun z=>[(1,kF q),(3,vi z.2),(4,vi z.1)]) (Hf:=fun _=>[A,kA q 0 [.string s,.slice aa args.length ac,.slice ta ab.length tc,vi p,.slice a body.length c]])
  (I:=fun z=>z.1<=body.length/\0<=z.2/\z.2<=wN 0+1000000000000000/\(z.2<=262144->args.length+ab.length+Nd.ws (body.take z.1)<=z.2)) (μ:=fun z=>body.length - z.1) (0,r2) ⟨Qp _,h3,h5,fun hh=>by simp only at hh|-;have:=w4 hh;simp only[Qa,Nd.ws];omega⟩ ZU ZI ?_
 rintro⟨j,r⟩ ⟨i1,i2,i3,i4⟩
 simp only at i1 i2 i3 i4;dsimp only;unfold wN at i3;refine ae ?_;by_cases hj:j < body.length;rotate_left
 ·rw[show decide ((j:Int) < (body.length:Int))=false from Zf Zo];refine ae ?_;exact kG (Post:=[A]) (.inr rfl) (.tmp Zr .nil) ⟨r,rfl,fun hh=>(by have:=i4 hh;rw[QZ Zo]at this;omega),rfl⟩ ZI
 rw[show decide ((j:Int) < (body.length:Int))=true from Zt Zo];refine ae ?_;by_cases dS:r<=262144;rotate_left
 ·rw[Zf dS];refine ae ?_;exact kG (Post:=[A]) (.inr rfl) (.tmp Zr .nil) ⟨r,rfl,fun hh=>absurd hh dS,rfl⟩ ZI
 rw[Zt dS];obtain rfl:=hk.at_ Zo;obtain⟨y,hy⟩:∃y,body[j]? =some y:=⟨_,Zg hj⟩;have cH:=hk.mem j hj;have fH:=(hk.rd j y hy).len;have aE:=yQ A _ y (Qh _) _ (hk.rd j y hy) r 0 i2 Zo Zo Zo;refine ae ?_;refine kX Zr Cv fH ?_;refine ae ?_;refine kJ aE Zr ZP (fun v Post hv=>?_);obtain⟨r',rfl,h2,h4,h9,rfl⟩:=hv;have i5:=i4 dS;have cy:=JT hy;unfold wN at h4;exact zCE
theorem Np(A:List kC)(x:Md)(vs:List Value)(h:Ki A x vs)(F G:List ByteArray)(fv gv:Value)(hF:eg A fv F)(hG:eg A gv G):aq Tryz.prog 12 [.agg vs.toArray,fv,gv] [A] (fun v Post=>∃b,v=.bool b/\(b=false->oC x.args x.ab x.body<=1048576/\Nd.ws x.body<=65536/\F.length<=65536/\G.length<=65536)/\Post=[A]):=by
 have hw:=sH A x vs h;have hcw:=uX x.body;obtain⟨⟨aa,ac,ta,tc,a,c,bk,o,us,rfl,bK,bG,hk⟩,bW,pL⟩:=h;obtain⟨fa,fc,rfl,fG,_⟩:=hF;obtain⟨ga,gc,rfl,hgl,_⟩:=hG;refine aq.intro low12 (by simp[n12]) ?_;refine ae ?_;refine kY Zr (fun q=>?_);simp only[Value.cells];refine ae ?_;refine kJ hw Zr ZP (fun v Post hv=>?_);obtain⟨r,rfl,hr,rfl⟩:=hv;simp only[aH];refine ae ?_;by_cases h1:65536 < r
 ·rw[Zt h1];exact zE3
 rw[Zf h1];refine ae ?_;by_cases h2:65536 < (F.length:Int)
 ·rw[Zt h2];exact zE3
 rw[Zf h2];refine ae ?_;have hr:=hr Zo;exact kG (Post:=[A]) (.inr rfl) (.tmp Zr .nil) ⟨_,rfl,fun hh=>⟨by unfold oC iy;omega,Zo,Zo,by simp at hh;omega⟩,rfl⟩ ZI
end Go.Proofs.YtijnokbblmbpkaaGreatDoor
namespace Go.V
open Go
structure SoundL (l:List yJ)(n c:Nat):Prop where
 pos:0 < l.length
 many:l.length<=255
 first:∃y,l[0]? =some y/\y.outer=-1/\y.copied=[]/\y.args=(n:Int)
 unit:∀i x,l[i]? =some x->Yk l i x/\x.frame<=63/\x.aB<=63/\PN.ws x.body<=2*c
end Go.V
namespace Go.Proofs.YtijnokbblmbpkaaGreatDoor
open Go Go.V
set_option maxHeartbeats 6400000
set_option maxRecDepth 100000
set_option maxHeartbeats 12800000
open Go Go.V Go.ChangeShapes Go.WideShapes Go.Deep
section
variable {H:Type} {enc:TypeId×Value->H}
theorem u3:Tryz.prog.underlying 3=some (.int .i64):=by kernel_rfl
theorem u4:Tryz.prog.underlying 4=some .bool:=by kernel_rfl
theorem u9:Tryz.prog.underlying 9=some .string:=by kernel_rfl
theorem u22:Tryz.prog.underlying 22=some (.slice 9):=by kernel_rfl
theorem u23:Tryz.prog.underlying 23=some (.slice 72):=by kernel_rfl
theorem u68:Tryz.prog.underlying 68=some (.slice 70):=by kernel_rfl
noncomputable def fs70:Array Field:=match Tryz.prog.underlying 70 with|some (.struct fs)=>fs|_=>#[]
theorem u70:Tryz.prog.underlying 70=some (.struct fs70):=by kernel_rfl
noncomputable def fs72:Array Field:=match Tryz.prog.underlying 72 with|some (.struct fs)=>fs|_=>#[]
theorem u72:Tryz.prog.underlying 72=some (.struct fs72):=by kernel_rfl
theorem litT:Yh Tryz.prog 70 68:=⟨⟨fs70,u70,by kernel_rfl,66,2,67,9,by kernel_rfl,by kernel_rfl,by kernel_rfl,by kernel_rfl,by kernel_rfl,by kernel_rfl,by kernel_rfl,by kernel_rfl,by kernel_rfl,by kernel_rfl⟩,by kernel_rfl,u68⟩
theorem nodT:NodT Tryz.prog 72 70 23 22:=⟨⟨fs72,u72,by kernel_rfl,65,9,3,by kernel_rfl,by kernel_rfl,by kernel_rfl,by kernel_rfl,by kernel_rfl,by kernel_rfl,by kernel_rfl,u22⟩,by kernel_rfl,by kernel_rfl,by kernel_rfl,by kernel_rfl,u23⟩
noncomputable def ms50:Array (String×TypeId):=match Tryz.prog.underlying 50 with|some (.interface ms)=>ms|_=>#[]
theorem u50:Tryz.prog.underlying 50=some (.interface ms50):=by kernel_rfl
theorem S3:Jp Tryz.prog [2,3,4,9,22,23,25,65,66,67,68,70,72]=true:=by kernel_rfl
theorem S0:rk Tryz.prog (·∈[2,3,4,9,22,23,25,65,66,67,68,70,72]):=Kr S3
theorem own:ownKnob Tryz.prog.godebug=none:=by kernel_rfl
theorem M6(d:DataW H):1<=Rows.uptoBulk d:=by
 cases d with
 |lit l=>cases l <;> simp[Rows.uptoBulk]
 |_=>simp[Rows.uptoBulk]
theorem M5(l:List (DataW H)):l.length<=Rows.uptoBulkAll l:=by
 induction l with
 |nil=>simp
 |cons d r ih=>
  have:=M6 d;simp only[Rows.uptoBulkAll,Vu];omega
theorem Em {d:DataW H}{l:List (DataW H)}(h:d∈l):Rows.uptoBulk d<=Rows.uptoBulkAll l:=by
 induction l with
 |nil=>cases h
 |cons y r ih=>
  simp only[Rows.uptoBulkAll];exact zC8
theorem En(l:List (DataW H)):(l.map Rows.uptoBulk).sum=Rows.uptoBulkAll l:=by
 induction l with
 |nil=>rfl
 |cons d r ih=>simp only[Q7,List.sum_cons,ih,Rows.uptoBulkAll]
theorem uW:MK (Rows.uptoBulk (H:=H)) where
 agg l d h:=by have:=Em h;simp only[Rows.uptoBulk];omega
 sl es sp d h:=by have:=Em h;simp only[Rows.uptoBulk];omega
 len es sp:=by have:=M5 es;simp only[Rows.uptoBulk];omega
 str bs:=by simp only[Rows.uptoBulk];omega
 sls es sp:=by rw[En];simp only[Rows.uptoBulk];omega
 aggs l:=by rw[En];simp only[Rows.uptoBulk];omega
theorem gEr : Tryz.prog.globalNamed "strconv.ErrRange" = some 5 := by kernel_rfl
theorem gErT:(Tryz.prog.globals[5]?).map (·.type)=some 50:=by kernel_rfl
theorem gRen:Tryz.sl174_ren.g 16=5:=by kernel_rfl
theorem Ri {W : World} {d : DataW Unit} {r : List (String × DataW Unit)} (h : laidMet Tryz.prog (("strconv.ErrRange", d) :: r) W) (hd : ∃ nm e, d = .iface nm e) {A : List kC} (hA : ∀ a : kC, a.holds W → a ∈ A) : mQ A := by
 obtain⟨nm,e,rfl⟩:=hd;obtain⟨ps,⟨g0,t0,cs0,f0,p0,q0,hg0,T7,Z1,Y8,_,e0⟩,_,du⟩:=h;obtain rfl:=Qx (gEr.symm.trans hg0);obtain rfl:=Qx (gErT.symm.trans T7);subst e0;have G1:∃te pe,cs0=#[.iface te pe]:=by
  obtain⟨_,te,pe,he,_,_⟩:=iface_of_trod u50 Y8;exact⟨te,pe,by rw[<- he]⟩
 obtain⟨te,pe,rfl⟩:=G1;obtain⟨⟨c,t,hc⟩,_⟩:=du 5 0 (by simp[MemPlace.row]);refine⟨.iface te pe,?_,.inr ⟨te,pe,rfl⟩⟩;rw[gRen];have eX:W.cell? ⟨5,0,none⟩=some (.iface te pe):=by simpa using World.var?_cell gEr Z1 0
 refine hA _ (Go.V.bX eX ?_);unfold World.frozen?;rw[hc];simp
noncomputable def Tb:Array Field:=match Tryz.prog.underlying 25 with|some (.struct fs)=>fs|_=>#[]
theorem u25:Tryz.prog.underlying 25=some (.struct Tb):=by kernel_rfl
theorem fs25s:Tb.size=5:=by kernel_rfl
theorem EQ:(Tb.toList.map fun f=>(f.type,f.offset))=[(9,0),(22,1),(22,2),(3,3),(23,4)]:=by kernel_rfl
theorem c9:Tryz.prog.cellsOf 9=1:=by kernel_rfl
theorem c22:Tryz.prog.cellsOf 22=1:=by kernel_rfl
theorem c3:Tryz.prog.cellsOf 3=1:=by kernel_rfl
theorem c23:Tryz.prog.cellsOf 23=1:=by kernel_rfl
theorem c25:Tryz.prog.cellsOf 25=5:=by kernel_rfl
theorem c72:Tryz.prog.cellsOf 72=11:=by kernel_rfl
theorem Uw {W:World}{base:Nat}{v:Value}(hv:Value.okWide Tryz.prog W .any base 25 v):∃cs:List Value,v=.agg cs.toArray:=by
 simp only[Value.okWide,u25]at hv;obtain⟨cs,rfl,_⟩:=hv;exact⟨cs.toList,Zs⟩
theorem rd_md {W:World}{A:List kC}(hA:∀a:kC,a.holds W->a∈A)(n:Nat)(cs:List Value)(x:DataW H×List MemPlace)(hN:Rows.uptoBulk x.1<=1048576)(h:DataW.trod enc Tryz.prog W 0 (fun _=>true) true n 25 cs=some x)(hf:W.noneFrozen x.2):∃m:Md,Ki A m cs/\(∀a c,cs[4]? =some (.slice a m.body.length c)->m.body.length<=c)/\(Nd.ws m.body<=Rows.uptoBulk x.1/\m.args.length<=Rows.uptoBulk x.1/\m.ab.length<=Rows.uptoBulk x.1):=by
 obtain⟨ys,k,_,rfl,hlen,fH,Zk⟩:=DataW.trod_struct u25 h;rw[c25]at hlen
 replace hN:Rows.uptoBulk (.agg (ys.map (·.1)))<=1048576:=hN
 have aA:∀(i:Nat) (ty off:Nat),(Tb.toList.map fun f=>(f.type,f.offset))[i]? =some (ty,off)->DataW.trod enc Tryz.prog W 0 (fun _=>true) true k ty ((cs.drop off).take (Tryz.prog.cellsOf ty))=ys[i]?:=fun i ty off hi=>by
  exact zBW
 have hyl5:ys.length=5:=by rw[fH];exact fs25s
 have lq:∀i,i < 5->ys[i]? =some (ys.getD i (.nil,[])):=fun i hi=>by
  rw[Vb,Zg Zo];rfl
 have g0:=(aA 0 9 0 (by rw[EQ];rfl)).trans (lq 0 Zo);have g1:=(aA 1 22 1 (by rw[EQ];rfl)).trans (lq 1 Zo);have g2:=(aA 2 22 2 (by rw[EQ];rfl)).trans (lq 2 Zo);have g3:=(aA 3 3 3 (by rw[EQ];rfl)).trans (lq 3 Zo);have g4:=(aA 4 23 4 (by rw[EQ];rfl)).trans (lq 4 Zo);rw[c9]at g0;rw[c22]at g1 g2;rw[c3]at g3;rw[c23]at g4;obtain⟨s,e0,d0,_⟩:=DataW.trod_string u9 g0;obtain⟨z3,e3,_,w3⟩:=DataW.trod_int u3 g3;have aO:∀i,i < 5->Rows.uptoBulk (ys.getD i (.nil,[])).1 < Rows.uptoBulk (.agg (ys.map (·.1))):=fun i hi=>uW.agg _ _ (QH.2 ⟨_,Zv (lq i hi),rfl⟩)
 have xx:∀i,i < 5->W.noneFrozen (ys.getD i (.nil,[])).2:=fun i hi b o Tj=>hf b o (xi (lq i hi) Tj)
 obtain⟨v1,e1⟩:∃v,(cs.drop 1).take 1=[v]:=Vw.1 ru;obtain⟨v2,e2⟩:∃v,(cs.drop 2).take 1=[v]:=Vw.1 ru;obtain⟨v4,e4⟩:∃v,(cs.drop 4).take 1=[v]:=Vw.1 ru;rw[e1]at g1;rw[e2]at g2;rw[e4]at g4;have l1:=aO 1 Zo;have l2:=aO 2 Zo;have l4:=aO 4 Zo;obtain⟨args,cf,hargl⟩:=mq uW u22 u9 c9 g1 (xx 1 Zo) hA Zo;obtain⟨ab,C3,ZX⟩:=mq uW u22 u9 c9 g2 (xx 2 Zo) hA Zo;obtain⟨a,kk,c,bk,o,us,D,Pl,m,rfl,⟨hk,G3,hkc⟩,ha,hi⟩:=um uW u23 c72 Zd g4 (xx 4 Zo) hA;obtain⟨l,hl,hq⟩:=fM (α:=Nd) (Q:=fun i y=>jJ A y (us i)/\y.w<=Rows.uptoBulk (D i)) (n:=kk) (fun i Ss=>by
  obtain⟨q1,_,_,q4,q5⟩:=hi i Ss;exact Wo uW nodT litT hA (Rows.uptoBulk (D i)) m (us i) (D i,Pl i) (Qh _) Zo q4 q5)
 have b3:=wf_i64 w3;have hs0:s.size<=1048576:=by
  have h3:=aO 0 Zo;have e:(ys.getD 0 (.nil,[])).1=.lit (.string s.data.toList):=congrArg Prod.fst d0;rw[e]at h3;have h5:=uW.str (H:=H) s.data.toList;have e2:s.data.toList.length=s.size:=by simp
  omega
 have hsz4:Nd.ws l<=Rows.uptoBulk (ys.getD 4 (.nil,[])).1:=by
  refine Qj (Nd.X4 (f:=fun i=>Rows.uptoBulk (D i)) (o:=0) (fun i x hx=>?_)) ?_
  ·rw[Qo];exact(hq i x hx).2
  ·rw[hl];exact G3
 have G1:cs=[.string s,v1,v2,vi z3,.slice a l.length c]:=by
  exact zB6
 have Y2:=cf;have T8:=C3;obtain⟨aa,ac,rfl,_,_⟩:=Y2;obtain⟨ta,tc,rfl,_,_⟩:=T8;refine⟨⟨s,args,ab,z3,l⟩,⟨⟨aa,ac,ta,tc,a,c,bk,o,us,G1,cf,C3,⟨fun hp=>ha (by simp only at hp;omega),by simp only;omega,fun i cj=>(hi i (by simp only at cj;omega)).2.2.1,fun i x hx=>(hq i x hx).1⟩⟩,by simp only;omega,b3⟩,fun a' c' e'=>?_,?_⟩
 ·rw[G1]at e';simp only[Vg,Vh,Qy,Value.slice.injEq]at e';simp only;omega
 show Nd.ws l<=Rows.uptoBulk (.agg (ys.map (·.1)))/\args.length<=Rows.uptoBulk (.agg (ys.map (·.1)))/\ab.length<=Rows.uptoBulk (.agg (ys.map (·.1)));omega
theorem yM {W:World}{base:Nat}{v:Value}{d:DataW H}{p:List MemPlace}(hv:Value.okWide Tryz.prog W .any base 22 v)(h:DataW.Trod enc Tryz.prog W 0 (fun _=>true) true 22 v d p)(hb:Rows.uptoBulk d<=1048576)(hf:W.noneFrozen p){A:List kC}(hA:∀a:kC,a.holds W->a∈A):∃l:List ByteArray,eg A v l:=by
 obtain⟨n,hn⟩:=h;have hs:v.cells=#[v]:=by
  cases v <;> simp only[Value.okWide,u22,Cell.okWide,Cell.ok]at hv <;> rfl
 have G5:DataW.trod enc Tryz.prog W 0 (fun _=>true) true n 22 [v]=some (d,p):=by simpa[hs]using hn
 obtain⟨l,h1,_⟩:=mq uW u22 u9 c9 G5 hf hA hb;exact⟨l,h1⟩
theorem witZ {C:Checked}{os:Os}{f:FuncId}{fn:Func}{s:OpenSpec}{conds:List PathCond}{apart:Bool}{laid:List (String×DataW Unit)}(w0:World)(args:Array Value)(hos:w0.os=os)
 (hs:(w0.forCall (fun _ _=>0) ⟨#[],args,[]⟩).Shaped C.prog) (aM:Input.okWideB C.prog (w0.forCall (fun _ _=>0) ⟨#[],args,[]⟩) f ⟨#[],args,[]⟩=true)
 (nS:s.preRow enc C.prog fn conds apart laid (w0.forCall (fun _ _=>0) ⟨#[],args,[]⟩).memory args):
 ∃(w:World) (tape:Tape) (i:Input),w.os=os/\(w.forCall tape i).Shaped C.prog/\i.vars=[]/\Input.okWide C.prog (w.forCall tape i) .any w.heap.size f i/\
  s.preRow enc C.prog fn conds apart laid (w.forCall tape i).memory i.args/\({modest:=false}:Assume).holds C.prog (lone (Frame.enter C.prog f i.args .normal) [] (w.forCall tape i)):=
 ⟨w0,fun _ _=>0,⟨#[],args,[]⟩,hos,hs,(Input.okWide_of_okWideB (base:=0) aM).1,(Input.okWide_of_okWideB aM).2,nS,by
   simp only[Assume.holds];exact⟨Zs,Zs,fun _=>Modest.zero,Zs,Zs⟩⟩
theorem gErr : Tryz.prog.globalNamed "errors.errorType" = some 0 := by kernel_rfl
theorem hRt : (Tryz.prog.cutTypes.find? (·.1 == "internal/reflectlite.rtype")).map (·.2) = some 242 := by kernel_rfl
theorem hOne:((List.range Tryz.prog.types.size).filter fun t=>Tryz.prog.rowNamed t [101,114,114,111,114])=[50]:=by kernel_rfl
theorem hZero:(((begin Tryz.prog (fun _ _=>0) default).world.heap[0]?).bind Obj.row?).isSome=true:=by kernel_rfl
theorem hGlob:0 < Tryz.prog.globals.size:=by decide+kernel
theorem hIn : ("errors.errorType", Rows.laid_errors_errorType) ∈ Rows.scopeSoundUptoRow.laid :=
 QD _ <|QD _ <|QD _ <|QD _ <|QE ..
theorem Nn {W:World}(h:laidMetH Tryz.prog Rows.scopeSoundUptoRow.laid W):W.cell? ⟨0,0,none⟩=some (.iface 242 (.agg #[.pointer (some ⟨9,50,none⟩)])):=by
 obtain ⟨_, h2⟩ := laidMetH_iff.1 h;obtain ⟨name, u, ty, e1, e2, e3, e4, e5⟩ := h2 ("errors.errorType", Rows.laid_errors_errorType) (QF.2 ⟨hIn, rfl⟩);have en : name = [101, 114, 114, 111, 114] := (Qx e1).symm;subst en;obtain rfl := Qx (hRt.symm.trans e2);have hm : ty ∈ (List.range Tryz.prog.types.size).filter fun t => Tryz.prog.rowNamed t [101, 114, 114, 111, 114] := QF.2 ⟨QJ.2 e3, e4⟩
 rw[hOne]at hm;obtain rfl:=QK.1 hm;have hh:typeHandle Tryz.prog 50=.pointer (some ⟨9,50,none⟩):=by kernel_rfl
 rw[hh]at e5;simpa using World.var?_cell gErr e5 0
theorem YH {W:World}(h:laidMetH Tryz.prog Rows.scopeSoundUptoRow.laid W)(hS:W.ShapedOpen Tryz.prog){A:List kC}(hA:∀a:kC,a.holds W->a∈A):X7∈A:=by
 obtain⟨⟨z,ty⟩,hzt⟩:=Qt.1 hZero;obtain⟨cs,hc,hz,_⟩:=hS.1 0 z ty hGlob hzt;have eX:=Nn h;have h0:cs[0]? =some (.iface 242 (.agg #[.pointer (some ⟨9,50,none⟩)])):=by simpa[World.cell?,hc]using eX
 exact hA _ ⟨cs,ty,0,0,hc,h0,Zo⟩
noncomputable def xT:List (String×DataW Unit):=Rows.scopeSoundUptoRow.laid.filter fun x=>x.2.handleName?.isNone
noncomputable def w00(os:Os):World:=
 let w:=World.holding Tryz.prog os ⟨#[],#[],[]⟩
 {w with heap:=w.heap.modify 0 fun
    |.cells _ t frozen=>.cells #[.iface 242 (.agg #[.pointer (some ⟨9,50,none⟩)])] t frozen
    |o=>o}
noncomputable def wW(os:Os):World:=(w00 os).layVars Tryz.prog xT
theorem wW_os(os:Os):(wW os).os=os:=World.layVars_os _ _ _
theorem W1(os:Os):(w00 os).layFits Tryz.prog xT []=true:=by kernel_rfl
theorem Mi(os:Os):(w00 os).layIfaces Tryz.prog xT (wW os)=true:=by kernel_rfl
theorem W2(os:Os)(args:Array Value):laidMet Tryz.prog xT ((wW os).forCall (fun _ _=>0) ⟨#[],args,[]⟩).memory:=by
 have e1:(xT.filter fun x=>(xT.map (·.1)).contains x.1)=xT:=V0.2 fun x hx=>vm.2 (QH.2 ⟨x,hx,rfl⟩)
 have e2:(xT.filter fun x=>!(xT.map (·.1)).contains x.1)=[]:=vz.2 fun x hx=>by rw[vm.2 (QH.2 ⟨x,hx,rfl⟩)];simp
 have h:laidMet Tryz.prog xT (wW os):=laidMet_layVars (w0:=w00 os) (xT.map (·.1)) [] (by rw[e1];rfl) (by rw[e1];exact W1 os) (by rw[e1];exact Mi os) (by rw[e2];exact LaidIn.none);exact h.of_heap (by simp[World.memory,World.forCall,Input.heap])
theorem χ {W:World}(h:laidMetH Tryz.prog Rows.scopeSoundUptoRow.laid W){A:List kC}(hA:∀a:kC,a.holds W->a∈A):mQ A:=by
 obtain ⟨h1, _⟩ := laidMetH_iff.1 h;have h2 : laidMet Tryz.prog [("math/bits.deBruijn32tab", Rows.laid_math_bits_deBruijn32tab), ("math/bits.deBruijn64tab", Rows.laid_math_bits_deBruijn64tab), ("internal/strconv.uint64pow10", Rows.laid_internal_strconv_uint64pow10), ("unicode/utf8.acceptRanges", Rows.laid_unicode_utf8_acceptRanges), ("strconv.ErrRange", Rows.laid_strconv_ErrRange), ("strconv.ErrSyntax", Rows.laid_strconv_ErrSyntax), ("unicode/utf8.first", Rows.laid_unicode_utf8_first)] W := h1;exact Ri (laidMet.tail (laidMet.tail (laidMet.tail (laidMet.tail h2)))) ⟨_, _, rfl⟩ hA
end
end Go.Proofs.YtijnokbblmbpkaaGreatDoor

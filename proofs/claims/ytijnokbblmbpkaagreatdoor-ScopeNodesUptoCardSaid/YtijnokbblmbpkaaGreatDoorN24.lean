/-
  scope.Free: the names that a node leaves open.
-/
import Derived.Test.YtijnokbblmbpkaaGreatDoorN23
import Derived.Test.YtijnokbblmbpkaaGreatDoorN15
import Derived.Test.YtijnokbblmbpkaaGreatDoorN12
import Derived.Shelf.SlMaps.Clone
import Derived.Shelf.Lay
import Derived.Test.YtijnokbblmbpkaaGreatDoorN9
import Derived.KernelRfl
import Derived.Test.YtijnokbblmbpkaaGreatDoorProg
import Derived.Test.YtijnokbblmbpkaaGreatDoorN14
import Derived.Test.YtijnokbblmbpkaaGreatDoorN21
import Derived.Test.YtijnokbblmbpkaaGreatDoorN7
import Derived.Test.YtijnokbblmbpkaaGreatDoorN11
import Derived.Test.YtijnokbblmbpkaaGreatDoorCards
import Derived.Test.YtijnokbblmbpkaaGreatDoorTie
import Derived.OpenShut
import Derived.Deep.DeepHandedRow
import Derived.Deep.DeepWitnessRowRef
import Derived.Lib.LaidTab
import Derived.JoinedCond
import Derived.Lay
import Derived.LaidSub
import Derived.LaidHandle
import Derived.Stop.LaidErr
import Derived.Test.YtijnokbblmbpkaaGreatDoorN22
import Derived.Test.YtijnokbblmbpkaaGreatDoorN17
import Derived.Test.YtijnokbblmbpkaaGreatDoorN18
set_option linter.all false
namespace Go.Proofs
open Go.Shelf
shelf_lay_g SlLaysW.n5 Slmc 5 at Tryz 72 as Tryz.slcl2
end Go.Proofs
namespace Go.Proofs.YtijnokbblmbpkaaGreatDoor
open Go Go.V
set_option maxHeartbeats 20000000
set_option maxRecDepth 100000
theorem D9(b:Nat)(es:Array MapEntry)(c:Nat):ao Tryz.prog 72 [.map (some b)] [[.obj b (.map es c)]] (fun v Post=>∃b',v=.map (some b')/\Post=[[.obj b (.map es c)],[.obj b' (.map es c)]]):=by
 refine⟨by kernel_rfl,fun F w hs=>?_⟩;have hb:w.heap[b]? =some (.map es c):=(hs.obj (b:=b) (o:=.map es c) Zs).1;refine(AnyW.maps_Clone Tryz.slcl2 b es c w hb).mono ?_;exact zBC
theorem iN {P:Program}{n:Nat}{rs:List RO}{Γ:Env}{H R:SH}{Z:List PanicEntry->Env->SH->Prop}{K:Env->SH->Prop}{d:Option Nat}{s x:Operand}{sv:Value}{k:Nat}{xs sp:List Value}{a:Option Addr}{c:Nat}{l:List ByteArray}{A:List kB}
 (hs:ev Γ s=some sv) (hx:ev Γ x=some (.slice a l.length c)) (bh:kY 1 sv k xs sp) (ht:Tk H (ai sv xs sp) R) (hr:du A (.slice a l.length c) l) (hA:∀y∈A,y∈R.flatten) (bm:(2*(k+l.length)+192)*16<=2 ^ 48)
 (h:∀cq aY,kY 1 cq (k+l.length) (xs++l.map Value.string) aY->VO P n rs (ak d cq Γ) (ai cq (xs++l.map Value.string) aY::R) Z K):VO P n (⟨d,none,.append 9 1 16 [.string ⟨#[]⟩] s x⟩::rs) Γ H Z K:=by
 by_cases hl:0 < l.length
 ·exact j8 (m:=l.length) (ys:=l.map Value.string) hs hx bh ht Zr ((MU hr hl).mono hA) Zs (by simp[vX,je]) Zr Zd bm h
 ·have AY:l=[]:=vj Zo;subst AY;have h':=h sv sp (by simpa using bh);simp only[Q6,vd]at h';have h2:VO P n rs (ak d sv Γ) H Z K:=VO.imp (aj.perm (by simpa using ht.perm)) h';have ob:ev Γ x=some (.slice a 0 c):=hx;cases bh with
  |mk h1 ZA h3=>
   cases a with
   |none=>exact j8 (m:=0) (ys:=[]) hs ob (.mk h1 ZA h3) ht Zr Zr Zr Zr Zr Zd (by simpa using bm) (fun cq aY g=>by simpa using h cq aY (by simpa using g))
   |some ad=>exact yu hs ob h3 h2
  |nil=>exact I6 hs ob h2
theorem tx(A:List kB)(av:Value)(l:List ByteArray)(h:du A av l):ao Tryz.prog 73 [av] [A] (fun v Post=>∃B,ed v l B/\Post=[A,B]):=by
 obtain⟨a,c,rfl,hl,hr⟩:=h;refine ao.intro low73 (by simp[n73]) ?_;have gh:∀t∈l,t.size<=140737488355328:=fun t ht=>by
  obtain⟨i,hi⟩:=Vj ht;obtain⟨_,_,_,_,h⟩:=hr i t hi;exact h
 cases a with
 |none=>
  have AY:l=[]:=by
   cases l with
   |nil=>rfl
   |cons t l=>obtain⟨_,_,h,_⟩:=hr 0 t rfl;cases h
  subst AY;refine ae ?_;exact kG (Post:=[A,[]]) (.inr rfl) (.tmp Zr .nil) ⟨[],⟨[],.nil,rfl,Zs,Zs⟩,rfl⟩ ⟨[],by simp[V.cz]⟩
 |some ad=>
  refine ae ?_;refine kg (out:=[]) Zr Zr (fun q=>?_);refine ae ?_;cases AY:l with
  |nil=>
   subst AY;refine yu Zr Zr (Qj _) ?_;refine ae ?_;exact kG (Post:=[A,[]]) (.inr rfl) (.tmp Zr .nil) ⟨[],⟨[],.mk rfl rfl (Qj _),rfl,Zs,Zs⟩,rfl⟩ ⟨[],by simp[V.cz,kA]⟩
  |cons t l'=>
   rw[<- AY];obtain⟨b,o,had,_⟩:=hr 0 t (by rw[AY];rfl);cases had;have O4:Src [A].flatten 1 l.length (l.map Value.string) (.slice (some ⟨b,o,none⟩) l.length c):=by
    exact zCD
   refine j8 (k:=0) (m:=l.length) (xs:=[]) (sp:=[]) (ys:=l.map Value.string) Zr Zr (.mk rfl rfl (Qj _)) (show Tk [kA q 0 [],A] (kA q 0 []) [A]from .here) Zr O4 Zs (by simp[vX,je]) Zr Zd Zo (fun cq aY ax=>?_);rw[QJ,Qr]at*;obtain⟨a',c',rfl⟩:=ax.form;refine ae ?_;exact kG (Post:=[A,ai (.slice a' l.length c') (l.map Value.string) aY]) (.inr rfl) (.tmp Zr .nil) ⟨_,⟨_,ax,rfl,hl,gh⟩,rfl⟩ ZI
theorem K8(S:List kB)(mp op dp mb:Nat):∀(N:Nat) (x:Nd),x.w<=N->∀vs,j7 S x vs->∀(seen out:List ByteArray) (Ai:Array MapEntry) (mc hb:Nat) (ly:Array MapEntry) (hc:Nat) (sv:Value) (sp:List Value),FrOk seen out Ai mc ly hc sv sp->
 seen.length+x.w<=1099511627776->out.length+x.w<=1099511627776->
 ao Tryz.prog 71 [.agg vs.toArray,.map (some hb),kE mp,kE op,kE dp] [kA mp 0 [.map (some mb)],kA op 0 [sv],kA dp 0 [(.func (.func 71) #[] #[kE mp,kE op,kE dp])],[.obj mb (.map Ai mc)],[.obj hb (.map ly hc)],ai (sv) ((out).map Value.string) sp,S]
  (fun v Post=>∃C3 Wg cq aY,(v=.tuple #[]/\uI (fH seen out x) C3 Wg/\kY 1 cq (fH seen out x).length ((fH seen out x).map Value.string) aY)/\Post=[kA mp 0 [.map (some mb)],kA op 0 [cq],kA dp 0 [(.func (.func 71) #[] #[kE mp,kE op,kE dp])],[.obj mb (.map C3 Wg)],[.obj hb (.map ly hc)],ai (cq) ((fH seen out x).map Value.string) aY,S]):=by
 intro N
 induction N with
 |zero=>intro x hx;have:=x.fw;omega
 |succ N ih=>
  intro x hx vs h seen out Ai mc hb ly hc sv sp aN hsw how;obtain⟨OU,AX,bh⟩:=aN;obtain⟨sa,sc,rfl⟩:=bh.form;cases h with
  |@mk k s lit args ab kids p lv av tv a cc bk o us wf hl bB bu ha hm hr tX=>
  obtain⟨aa,ac,rfl,hav1,dV⟩:=id bB;obtain⟨ta,tc,rfl,htv1,dW⟩:=id bu;have JT:=hl;cases hl with
  |@mk k1 n1 b1 t1 items la lc Ns lo Nu Nw GL pC ez=>
  simp only[Nd.w]at hx hsw how;obtain⟨mH,hH1,hH2,hH3⟩:=id AX.is;obtain⟨mM,hM1,hM2⟩:=id OU.is;have hgs:=hH2 s;have JW:=hM2 s;obtain⟨s1,Ac⟩:∃s1,s1=(if k=7 then seen++args++ab else seen):=⟨_,rfl⟩;obtain⟨o1,oO⟩:∃o1,o1=(if(k=2∨k=3)/\wS s=0/\s∉seen/\s∉out then out++[s]else out):=⟨_,rfl⟩;have AV:fH seen out (.mk k s (.mk k1 n1 b1 t1 items) args ab kids p)=jp s1 o1 kids:=by rw[fH,<- Ac,<- oO]
  rw[AV];have hs1l:s1.length<=seen.length+args.length+ab.length:=by
   rw[Ac];split
   ·simp only[Vo];omega
   ·omega
  have ho1l:o1.length<=out.length+1:=by
   rw[oO];split
   ·simp
   ·omega
  obtain⟨fn,tY⟩:∃fn,fn=(Value.func (.func 71) #[] #[kE mp,kE op,kE dp]):=⟨_,rfl⟩;have aU:∀(z:Nd) (us:List Value),z∈kids->j7 S z us->∀(seen out:List ByteArray) (Ai:Array MapEntry) (mc hb:Nat) (ly:Array MapEntry) (hc:Nat) (sv:Value) (sp:List Value),FrOk seen out Ai mc ly hc sv sp->seen.length+z.w<=1099511627776->out.length+z.w<=1099511627776->
   dj Tryz.prog fn [.agg us.toArray,.map (some hb)] [kA mp 0 [.map (some mb)],kA op 0 [sv],kA dp 0 [fn],[.obj mb (.map Ai mc)],[.obj hb (.map ly hc)],ai (sv) ((out).map Value.string) sp,S]
    (fun v Post=>∃C3 Wg cq aY,(v=.tuple #[]/\uI (fH seen out z) C3 Wg/\kY 1 cq (fH seen out z).length ((fH seen out z).map Value.string) aY)/\Post=[kA mp 0 [.map (some mb)],kA op 0 [cq],kA dp 0 [fn],[.obj mb (.map C3 Wg)],[.obj hb (.map ly hc)],ai (cq) ((fH seen out z).map Value.string) aY,S]):=fun z us hz GZ seen out Ai mc hb ly hc sv sp g1 g2 g3=>by
   have hzw:=Nd.bY hz;rw[tY];exact dj.bX (first:=#[]) (cap:=#[kE mp,kE op,kE dp]) (ih z Zo us GZ seen out Ai mc hb ly hc sv sp g1 g2 g3)
  rw[<- tY];refine ao.intro low71 (by simp[n71]) ?_;simp only[aE];refine jW ?_;refine kW Zr (fun q=>?_);simp only[Value.cells];refine jW ?_;refine VC.join (α:=Array MapEntry×Nat×Value×List Value×Nat×Array MapEntry×Nat×List kB) (aW:=fun r=>[(1,.map (some r.2.2.2.2.1)),(4,kE dp),(5,kE q)])
   (Hf:=fun r=>[kA q 0 (rA k s k1 n1 b1 t1 la items.length lc aa args.length ac ta ab.length tc a kids.length cc p),kA mp 0 [.map (some mb)],kA op 0 [r.2.2.1],kA dp 0 [fn],[.obj mb (.map r.1 r.2.1)],[.obj r.2.2.2.2.1 (.map r.2.2.2.2.2.1 r.2.2.2.2.2.2.1)],ai (r.2.2.1) ((o1).map Value.string) r.2.2.2.1,S,r.2.2.2.2.2.2.2])
   (I:=fun r=>uI o1 r.1 r.2.1/\rl s1 r.2.2.2.2.2.1 r.2.2.2.2.2.2.1/\kY 1 r.2.2.1 o1.length (o1.map Value.string) r.2.2.2.1/\(kB.obj r.2.2.2.2.1 (.map r.2.2.2.2.2.1 r.2.2.2.2.2.2.1)::r.2.2.2.2.2.2.2).Perm (kB.obj hb (.map ly hc)::(if k=7 then [kB.obj r.2.2.2.2.1 (.map r.2.2.2.2.2.1 r.2.2.2.2.2.2.1)]else []))) ?_ ?_
  ·refine ae ?_;by_cases sL:k=2
   ·subst sL;exact zA9
   by_cases oM:k=3
   ·subst oM;exact zA9
   have nQ:o1=out:=by rw[oO,if_neg (fun c=>c.1.elim sL oM)]
   rw[show decide ((k:Int)=2)=false from Zf Zo];refine ae ?_;rw[show decide ((k:Int)=3)=false from Zf Zo];refine ae ?_;by_cases hk7:k=7;rotate_left
   ·rw[show decide ((k:Int)=7)=false from Zf Zo];have pR:s1=seen:=by rw[Ac,if_neg hk7]
    refine ae ?_;refine⟨(Ai,mc,.slice sa out.length sc,sp,hb,ly,hc,[]),⟨by rw[nQ];exact OU,by rw[pR];exact AX,by rw[nQ];exact bh,by rw[if_neg hk7]⟩,ZU,?_⟩;dsimp only;rw[nQ];exact bE
   subst hk7;refine ae ?_;refine kI (D9 hb ly hc) Zr ZP (fun v Post hv=>?_);obtain⟨nO,rfl,rfl⟩:=hv;simp only[aE];have Yh:(args++ab).length=args.length+ab.length:=Vo;refine jW ?_;refine VC.B7 (α:=Value×List kB) (fun r=>[(1,.map (some nO)),(4,kE dp),(5,kE q),(47,r.1),(48,vi (args.length+ab.length:Nat)),(49,vi (0:Nat))])
    (fun r=>[kA q 0 (rA 7 s k1 n1 b1 t1 la items.length lc aa args.length ac ta ab.length tc a kids.length cc p),r.2,[.obj nO (.map ly hc)],kA mp 0 [.map (some mb)],kA op 0 [.slice sa out.length sc],kA dp 0 [fn],[.obj mb (.map Ai mc)],[.obj hb (.map ly hc)],ai (.slice sa out.length sc) ((out).map Value.string) sp,S])
    (fun r=>∃xa xc,r.1=.slice xa (args++ab).length xc/\du r.2 r.1 (args++ab)) ⟨?_,?_,trivial⟩ ?_
   ·exact zAJ
   ·exact zAJ
   rintro⟨lv,X⟩ ⟨xa,xc,e1,sO⟩
   simp only at e1 sO;subst e1;obtain⟨xa',xc',e',hrl,HR⟩:=id sO;cases e';dsimp only;refine ae ?_;refine VC.loop (α:=Nat×Array MapEntry×Nat) (aW:=fun r=>[(1,.map (some nO)),(4,kE dp),(5,kE q),(47,.slice xa (args++ab).length xc),(48,vi (args.length+ab.length:Nat)),(49,vi r.1)])
    (Hf:=fun r=>[kA q 0 (rA 7 s k1 n1 b1 t1 la items.length lc aa args.length ac ta ab.length tc a kids.length cc p),X,[.obj nO (.map r.2.1 r.2.2)],kA mp 0 [.map (some mb)],kA op 0 [.slice sa out.length sc],kA dp 0 [fn],[.obj mb (.map Ai mc)],[.obj hb (.map ly hc)],ai (.slice sa out.length sc) ((out).map Value.string) sp,S])
    (I:=fun r=>r.1<=args.length+ab.length/\rl (seen++(args++ab).take r.1) r.2.1 r.2.2) (μ:=fun r=>args.length+ab.length - r.1) (0,ly,hc) ⟨Qs _,by rw[Qd,vd];exact AX⟩ ZU ZI ?_
   rintro⟨j,Dx,c2⟩ ⟨hj,hh2⟩
   simp only at hj hh2;dsimp only;refine ae ?_;by_cases aI:j < args.length+ab.length;rotate_left
   ·rw[show decide ((j:Int) < ((args.length+ab.length:Nat):Int))=false from Zf Zo];refine ae ?_;rw[Qc Zo]at hh2;refine⟨(Ai,mc,.slice sa out.length sc,sp,nO,Dx,c2,[kB.obj hb (.map ly hc)]),⟨by rw[nQ];exact OU,by rw[Ac,if_pos rfl,vZ];exact hh2,by rw[nQ];exact bh,List.Perm.swap _ _ _⟩,ZU,?_⟩;dsimp only;rw[nQ];exact bE
   rw[show decide ((j:Int) < ((args.length+ab.length:Nat):Int))=true from Zt Zo];obtain⟨nm,Tc⟩:∃nm,(args++ab)[j]? =some nm:=⟨_,Zg Zo⟩;obtain⟨xb,xo,rfl,lg,Ψ⟩:=HR j nm Tc;obtain⟨m2,k1',k2',k3'⟩:=id hh2.is;have k4:=k3' nm;have k5:=OP (s:=nm) k2' k3';rw[Vo,Vz]at k4;refine ae ?_;refine wd (E:=zw) (V:=fun n:Nat=>.int .i64 n) (k:=nm) Zr Zr rfl Zay k1' ?_;rw[J9];generalize hgn2:(ky nm m2).getD 0=gn2 at k4 k5;refine ae ?_;refine wa (E:=zw) (V:=fun n:Nat=>.int .i64 n) (k:=nm) (v:=gn2+1) Zr Zr Zr rfl ZK k1' (fun cp c' ZW=>?_);refine ae ?_;refine⟨(j+1,cp,c'),⟨by simp only;omega,?_⟩,by simp only;omega,ZU,ZI⟩;have fK:seen++(args++ab).take (j+1)=seen++(args++ab).take j++[nm]:=by rw[QY,Tc,vZ];rfl
   rw[fK];exact⟨⟨_,ZW,k5.1,k5.2⟩⟩
  rintro⟨mes1,mc1,sv1,sp1,eg,Cx,Hy,ex⟩ ⟨g1,g2,g3,g4⟩
  simp only at g1 g2 g3 g4;dsimp only;refine ae ?_;refine VC.loop (α:=Nat×Array MapEntry×Nat×Value×List Value) (aW:=fun r=>[(1,.map (some eg)),(4,kE dp),(59,.slice a kids.length cc),(60,vi kids.length),(61,vi r.1)])
   (Hf:=fun r=>[kA mp 0 [.map (some mb)],kA op 0 [r.2.2.2.1],kA dp 0 [fn],[.obj mb (.map r.2.1 r.2.2.1)],[.obj eg (.map Cx Hy)],ai (r.2.2.2.1) ((jp s1 o1 (kids.take r.1)).map Value.string) r.2.2.2.2,S,ex])
   (I:=fun r=>r.1<=kids.length/\uI (jp s1 o1 (kids.take r.1)) r.2.1 r.2.2.1/\kY 1 r.2.2.2.1 (jp s1 o1 (kids.take r.1)).length ((jp s1 o1 (kids.take r.1)).map Value.string) r.2.2.2.2) (μ:=fun r=>kids.length - r.1) (0,mes1,mc1,sv1,sp1) ⟨Qs _,by rw[Qd,jp];exact g1,by rw[Qd,jp];exact g3⟩ ZU (by dsimp only;rw[Qd,jp];exact bE) ?_
  rintro⟨j,P1,mc2,Xu,Xp⟩ ⟨hj,i1,i2⟩
  simp only at hj i1 i2;dsimp only;obtain⟨o2,JZ⟩:∃o2,o2=jp s1 o1 (kids.take j):=⟨_,rfl⟩;rw[<- JZ]at i1 i2|-;have ho2l:o2.length<=o1.length+Nd.ws (kids.take j):=by rw[JZ];exact pP s1 _ _
  refine ae ?_;by_cases aI:j < kids.length;rotate_left
  ·rw[show decide ((j:Int) < (kids.length:Int))=false from Zf Zo];rw[Qc Zo]at JZ;rw[<- JZ];refine ae ?_;refine kG (Post:=[kA mp 0 [.map (some mb)],kA op 0 [Xu],kA dp 0 [fn],[.obj mb (.map P1 mc2)],[.obj hb (.map ly hc)],ai (Xu) ((o2).map Value.string) Xp,S]) (.inl rfl) .nil ⟨P1,mc2,Xu,Xp,⟨rfl,i1,i2⟩,rfl⟩ ?_;refine aj.cut (M:=[kA mp 0 [.map (some mb)],kA op 0 [Xu],kA dp 0 [fn],[.obj mb (.map P1 mc2)],ai Xu (o2.map Value.string) Xp,S,[.obj eg (.map Cx Hy)],ex]) ZI ?_;refine aj.cut (M:=[kA mp 0 [.map (some mb)],kA op 0 [Xu],kA dp 0 [fn],[.obj mb (.map P1 mc2)],ai Xu (o2.map Value.string) Xp,S,[.obj hb (.map ly hc)],(if k=7 then [kB.obj eg (.map Cx Hy)]else [])]) (aj.perm ?_) ZI;simp only[V6,V7,vd];refine vU _ (vU _ (vU _ (vU _ (vU _ (vU _ ?_)))));exact g4
  rw[show decide ((j:Int) < (kids.length:Int))=true from Zt Zo];obtain rfl:=ha Zo;obtain⟨z,hz⟩:∃z,kids[j]? =some z:=⟨_,Zg aI⟩;have GZ:=hr j z hz;have Nr:=hm j aI;have bL:=wf.many;have fK:kids.take (j+1)=kids.take j++[z]:=by rw[QY,hz];rfl
  have GX:Nd.ws (kids.take j)+z.w<=Nd.ws kids:=by
   exact zBD
  have UX:=aU z (us j) (Zv hz) GZ s1 o2 P1 mc2 eg Cx Hy Xu Xp ⟨i1,g2,i2⟩ Zo Zo;generalize us j=uj at GZ Nr UX;obtain⟨f1,f2,f3,f4,f5,f6,f7,f8,f9,f10,f11,f12,f13,f14,f15,f16,f17,rfl,gh,iy⟩:=zv GZ;refine ae ?_;refine kS Zr (fun u hu=>List.mem_flatten.2 ⟨S,Zs,Nr u hu⟩) rfl ?_;refine ae ?_;refine kM (fun q9=>?_);refine ae ?_;refine dR Zr UX Zr ZP (fun v Post hv=>?_);obtain⟨mes3,mc3,sv3,sp3,⟨rfl,j1,j2⟩,rfl⟩:=hv;simp only[aE];have ho3:jp s1 o1 (kids.take (j+1))=fH s1 o2 z:=by rw[fK,rQ,JZ]
  refine ae ?_;refine⟨(j+1,mes3,mc3,sv3,sp3),⟨by simp only;omega,by simp only;rw[ho3];exact j1,by simp only;rw[ho3];exact j2⟩,by simp only;omega,ZU,?_⟩;dsimp only;rw[ho3];exact bE
set_option maxHeartbeats 3200000
theorem AE(S:List kB)(x:Nd)(vs:List Value)(h:j7 S x vs)(hw:x.w<=274877906944):ao Tryz.prog 27 [.agg vs.toArray] [S] (fun v Post=>∃B,ed v (fH [] [] x) B/\Post=[S,B]):=by
 have hlen:=tW [] x [];have gh:=pO [] 274877906944 x [] hw (fun t ht=>by cases ht);have hd:∀(mp op dp mb:Nat) (Ai:Array MapEntry) (mc hb:Nat),uI [] Ai mc->dj Tryz.prog (.func (.func 71) #[] #[kE mp,kE op,kE dp]) [.agg vs.toArray,.map (some hb)] [kA mp 0 [.map (some mb)],kA op 0 [Nz],kA dp 0 [.func (.func 71) #[] #[kE mp,kE op,kE dp]],[.obj mb (.map Ai mc)],[.obj hb (.map #[] 0)],ai Nz (([]:List ByteArray).map Value.string) [],S]
  (fun v Post=>∃C3 Wg cq aY,(v=.tuple #[]/\uI (fH [] [] x) C3 Wg/\kY 1 cq (fH [] [] x).length ((fH [] [] x).map Value.string) aY)/\Post=[kA mp 0 [.map (some mb)],kA op 0 [cq],kA dp 0 [.func (.func 71) #[] #[kE mp,kE op,kE dp]],[.obj mb (.map C3 Wg)],[.obj hb (.map #[] 0)],ai cq ((fH [] [] x).map Value.string) aY,S]):=fun mp op dp mb Ai mc hb hm=>
  dj.bX (first:=#[]) (cap:=#[kE mp,kE op,kE dp]) (K8 S mp op dp mb _ x (Qj _) vs h [] [] Ai mc hb #[] 0 Nz [] ⟨hm,rl.nil,.nil⟩ (by rw[Vw];omega) (by rw[Vw];omega))
 obtain⟨g1,g2,g3,g4,g5,g6,g7,g8,g9,g10,g11,g12,g13,g14,g15,g16,rfl⟩:=mq h;refine ao.intro low27 (by simp[n27]) ?_;refine ae ?_;refine kW Zr (fun q=>?_);simp only[Value.cells];refine ae ?_;refine kM (fun op=>?_);refine ae ?_;refine ia (fun mb=>?_);refine ae ?_;refine wa (E:=zw) (V:=fun n:Nat=>.int .i64 n) (k:=x5) (v:=1) Zr Zr Zr rfl ZK .nil (fun es1 c1 h1=>?_);refine ae ?_;refine wa (E:=zw) (V:=fun n:Nat=>.int .i64 n) (k:=nj) (v:=1) Zr Zr Zr rfl ZK h1 (fun Dx c2 h2=>?_);refine ae ?_;refine wa (E:=zw) (V:=fun n:Nat=>.int .i64 n) (k:=Fb) (v:=1) Zr Zr Zr rfl ZK h2 (fun es3 c3 h3=>?_);refine ae ?_;refine wa (E:=zw) (V:=fun n:Nat=>.int .i64 n) (k:=x6) (v:=1) Zr Zr Zr rfl ZK h3 (fun es4 c4 h4=>?_);refine ae ?_;refine wa (E:=zw) (V:=fun n:Nat=>.int .i64 n) (k:=qd) (v:=1) Zr Zr Zr rfl ZK h4 (fun es5 c5 h5=>?_);refine ae ?_;refine kM (fun mp=>?_);refine ae ?_;refine kM (fun dp=>?_);refine ae ?_;refine ia (fun hb=>?_);refine ae ?_;refine VO.imp (H':=[kA mp 0 [.map (some mb)],kA op 0 [Nz],kA dp 0 [(.func (.func 71) #[] #[kE mp,kE op,kE dp])],[.obj mb (.map es5 c5)],[.obj hb (.map #[] 0)],ai Nz (([]:List ByteArray).map Value.string) [],S]) ?_ ?_
 ·show aj [[.obj hb (.map #[] 0)],kA dp 0 [(.func (.func 71) #[] #[kE mp,kE op,kE dp])],kA mp 0 [.map (some mb)],[.obj mb (.map es5 c5)],kA op 0 [Nz],kA q 0 _,S] [kA mp 0 [.map (some mb)],kA op 0 [Nz],kA dp 0 [(.func (.func 71) #[] #[kE mp,kE op,kE dp])],[.obj mb (.map es5 c5)],[.obj hb (.map #[] 0)],[],S];exact aj.cut (M:=[kA mp 0 [.map (some mb)],kA op 0 [Nz],kA dp 0 [(.func (.func 71) #[] #[kE mp,kE op,kE dp])],[.obj mb (.map es5 c5)],[.obj hb (.map #[] 0)],S]) ZI (aj.perm Zs)
 refine dR Zr (hd mp op dp mb es5 c5 hb ⟨⟨_,h5,P2⟩⟩) Zr ZP (fun v Post hv=>?_);obtain⟨C3,Wg,cq,aY,⟨rfl,j1,j2⟩,rfl⟩:=hv;exact zBP
noncomputable def F11:aR:=bj (o:=gF pq Tryz.f11 [])
theorem n11:F11.n=137:=rfl
theorem low11:bi Tryz.prog 11 []=some F11:=by kernel_rfl
set_option maxHeartbeats 6400000
def u1:List yA:=(DS [] [] m1).1
theorem an1:(DS [] [] m1).2=(0,0):=by kernel_rfl
theorem an2:(DS [] [] m2)=([],181,4):=by kernel_rfl
theorem un1:u1.length=3:=by kernel_rfl
theorem un2:u1[0]?.map (·.ay)=some 2:=by kernel_rfl
theorem un3:u1[1]?.map (·.copied.length)=some 2:=by kernel_rfl
theorem un4:(u1[1]?.bind (·.copied[0]?))=some ⟨5,1,0,e0⟩:=by kernel_rfl
theorem un5:(u1[2]?.bind (·.copied[1]?))=some ⟨5,0,0,e0⟩:=by kernel_rfl
theorem un6:u1[2]?.map (·.copied.length)=some 2:=by kernel_rfl
theorem SD {B:List kB}{v:Value}(h:NP B v u1):∃bk o c b1 o1 c1 b2 o2 c2,v=.slice (some ⟨bk,o,none⟩) 3 c/\kB.cell bk (o+4) (.int .i64 2)∈B/\kB.cell bk (o+8) (.slice (some ⟨b1,o1,none⟩) 2 c1)∈B/\kB.cell bk (o+14) (.slice (some ⟨b2,o2,none⟩) 2 c2)∈B/\
 (∀y∈kA b1 o1 [.int .u8 5,.int .i64 1,.int .i64 0,.string ⟨#[]⟩],y∈B)/\∀y∈kA b2 (o2+4) [.int .u8 5,.int .i64 0,.int .i64 0,.string ⟨#[]⟩],y∈B:=by
 obtain⟨a,c,bk,o,us,rfl,h2,h3,h4⟩:=h;obtain⟨x0,e0',k0⟩:=Qx.1 un2;obtain⟨x1,e1,k1⟩:=Qx.1 un3;obtain⟨x2,e2,k2⟩:=Qx.1 un6;have k3:=un4;rw[e1]at k3;have k4:=un5;rw[e2]at k4;rw[un1]at h2 h3|-;obtain rfl:=h2 Zd;obtain⟨cv0,bv0,r0,p0,_⟩:=h4 0 x0 e0';obtain⟨cv1,bv1,r1,p1,_⟩:=h4 1 x1 e1;obtain⟨cv2,bv2,r2,p2,_⟩:=h4 2 x2 e2;obtain⟨a1,c1,rfl,q1⟩:=p1;obtain⟨a2,c2,rfl,q2⟩:=p2;obtain⟨b1,o1,rfl,s1⟩:=q1 0 _ k3;obtain⟨b2,o2,rfl,s2⟩:=q2 1 _ k4;have g0:=h3 0 Zd;have g1:=h3 1 Zd;have g2:=h3 2 Zd;rw[r0]at g0;rw[r1,show x1.copied.length=2 from k1]at g1;rw[r2,show x2.copied.length=2 from k2]at g2;refine⟨bk,o,c,b1,o1,c1,b2,o2,c2,rfl,g0 _ ?_,g1 _ ?_,g2 _ ?_,s1,?_⟩
 ·exact kH.2 ⟨4,.int .i64 2,by rw[<- k0];rfl,Zs⟩
 ·exact kH.2 ⟨2,_,rfl,Zs⟩
 ·exact kH.2 ⟨2,_,rfl,Zs⟩
 ·exact s2
def bl0:Nd:=.mk 7 ⟨#[]⟩ (.mk 0 0 0 ⟨#[]⟩ []) [] [] [] 0
def wh0:Nd:=.mk 4 ⟨#[119,104,105,108,101,84,114,117,101]⟩ (.mk 0 0 0 ⟨#[]⟩ []) [] [] [bl0] 0
theorem du.Fa(S:List kB):du S Nz []:=⟨none,0,rfl,Zd,fun i t h=>by simp at h⟩
theorem ij(S:List kB):zN S (.mk 0 0 0 ⟨#[]⟩ []) [cv 0,vi 0,uv 0,.string ⟨#[]⟩,Nz]:=.mk (a:=none) (c:=0) (bk:=0) (o:=0) (us:=fun _=>[]) ⟨Zd,Zd,Zd,Zd,Zd⟩ (fun h=>absurd h Zs) (fun i hi=>absurd hi Zs) (fun i x hx=>by simp at hx)
def z11:List Value:=[.int .u8 7,.string ⟨#[]⟩,.int .u8 0,.int .i64 0,.int .u64 0,.string ⟨#[]⟩,Nz,Nz,Nz,Nz,.int .i64 0]
theorem Zb(S:List kB):j7 S bl0 z11:=
 .mk (a:=none) (c:=0) (bk:=0) (o:=0) (us:=fun _=>[]) ⟨Zd,Zd,Zd,Zd⟩ (ij S) (du.Fa S) (du.Fa S) (fun h=>absurd h Zs) (fun i hi=>absurd hi Zs) (fun i x hx=>by simp at hx) (Qj _)
theorem wh0_rd(q c:Nat)(hc:1<=c):j7 (kA q 0 z11) wh0 [.int .u8 4,.string ⟨#[119,104,105,108,101,84,114,117,101]⟩,.int .u8 0,.int .i64 0,.int .u64 0,.string ⟨#[]⟩,Nz,Nz,Nz,.slice (some ⟨q,0,none⟩) 1 c,.int .i64 0]:=
 .mk (a:=some ⟨q,0,none⟩) (c:=c) (bk:=q) (o:=0) (us:=fun _=>z11) (kids:=[bl0]) ⟨Zd,Zd,Zd,Zd⟩ (ij _) (du.Fa _) (du.Fa _) (fun _=>rfl) (fun i hi y hy=>by
  have:i=0:=by simpa using hi
  subst this;simpa using hy) (fun i x hx=>by
  cases i with
  |zero=>obtain rfl:bl0=x:=by simpa using hx
         exact Zb _
  |succ i=>simp at hx) hc
theorem inl_wh:wM wh0=true:=by kernel_rfl
theorem inl_b0:(m1.body[0]?).map wM=some false:=by kernel_rfl
theorem fr_b1:(m1.body[1]?).map (fH [] [])=some [⟨#[117]⟩,⟨#[116]⟩,⟨#[97]⟩]:=by kernel_rfl
theorem w_m1:Nd.ws m1.body<=274877906944:=Qi (by kernel_rfl)
theorem w_m2:Nd.ws m2.body<=274877906944:=Qi (by kernel_rfl)
theorem s_m1:Nd.aq m1.body<=1048576:=Qi (by kernel_rfl)
theorem s_m2:Nd.aq m2.body<=1048576:=Qi (by kernel_rfl)
theorem c_m1:tz m1.args m1.ab m1.body<=1048576:=Qi (by kernel_rfl)
theorem c_m2:tz m2.args m2.ab m2.body<=1048576:=Qi (by kernel_rfl)
theorem Res1(S:List kB)(vs:List Value)(h:DN S m1 vs):ao Tryz.prog 15 [.agg vs.toArray,Nz,Nz] [S] (fun v Post=>∃aQ aL Gv B,v=.tuple #[.agg #[.string aQ,.int .i64 aL,Gv],.nilIface]/\NP B Gv u1/\Post=[S,B]):=by
 refine(pG S m1 vs h [] [] _ _ (du.Fa S) (du.Fa S) (Qs _) (Qs _) c_m1 s_m1 w_m1).mono ?_
 rintro v Post (⟨l,Gv,B,e1,rfl,h2,rfl⟩|⟨e,p,q,e1,cF,_⟩)
 ·have:u1=l:=by unfold u1;rw[e1]
  rw[this];exact⟨_,_,Gv,B,rfl,h2,rfl⟩
 ·have:=an1;rw[e1]at this;exact absurd (congrArg Prod.fst this) cF
theorem Res2(S:List kB)(vs:List Value)(h:DN S m2 vs):ao Tryz.prog 15 [.agg vs.toArray,Nz,Nz] [S] (fun v Post=>∃q,v=.tuple #[.agg #[.string e0,.int .i64 0,Nz],.iface 80 (kE q)]/\Post=[S,jL q 181 4]):=by
 refine(pG S m2 vs h [] [] _ _ (du.Fa S) (du.Fa S) (Qs _) (Qs _) c_m2 s_m2 w_m2).mono ?_
 rintro v Post (⟨l,Gv,B,e1,_⟩|⟨e,p,q,e1,cF,rfl,rfl⟩)
 ·rw[an2]at e1;cases e1
 ·rw[an2]at e1;cases e1;exact⟨q,rfl,rfl⟩
theorem rk.more {A B:List kB}(h:rk A)(hs:∀x∈A,x∈B):rk B:=by
 obtain⟨ev,h1,h2⟩:=h;exact⟨ev,hs _ h1,h2⟩
theorem Ha(A:List kB)(hE:rk A)(hT:YQ∈A):ao Tryz.prog 11 [] [A] (fun v Post=>v=.bool true/\Post=[A]):=by
 refine ao.intro low11 (by simp[n11]) ?_;refine ae ?_;refine kI (Wd A) Zr ZP (fun v Post hv=>?_);obtain⟨vs1,B1,rfl,re,rfl⟩:=hv;simp only[aE];refine VO.imp (H':=[A++B1]) (aj.perm Zs) ?_;have hmd:DN (A++B1) m1 vs1:=(re.more fun z hz=>Q8 _ hz).ok (hE.more fun z hz=>Zw _ hz) w_m1;have hm1':=re.more (B:=A++B1) fun z hz=>Q8 _ hz
 have Up:rk (A++B1):=hE.more fun z hz=>Zw _ hz
 have hT1:YQ∈A++B1:=Zw _ hT;have hA1:∃R,A++B1=A++R:=⟨B1,rfl⟩;generalize A++B1=S1 at hmd hm1' Up hT1 hA1|-;clear re;obtain⟨⟨aa,ac,ta,tc,a,c,bk,o,us,rfl,bB,bu,hk⟩,bK,J1⟩:=hm1';refine ae ?_;refine kM (fun q1=>?_);refine ae ?_;refine kM (fun q2=>?_);refine ae ?_;refine kI (Res1 S1 _ hmd) Zr ZP (fun v Post hv=>?_);obtain⟨aQ,aL,Gv,B,rfl,EQ,rfl⟩:=hv;obtain⟨ub,uo,uc,rb1,ro1,rc1,rb2,ro2,rc2,rfl,k1,k2,k3,k4,k5⟩:=SD EQ;simp only[aE];refine VO.imp (H':=[S1++B,kA q1 0 [.string m1.aQ,.slice aa m1.args.length ac,.slice ta m1.ab.length tc,vi m1.aL,.slice a m1.body.length c]]) (aj.cut (M:=[S1,B,kA q1 0 [.string m1.aQ,.slice aa m1.args.length ac,.slice ta m1.ab.length tc,vi m1.aL,.slice a m1.body.length c]]) ZI (aj.perm Zs)) ?_
 replace k1:kB.cell ub (uo+4) (.int .i64 2)∈S1++B:=Q8 _ k1
 replace k2:=Q8 S1 k2
 replace k3:=Q8 S1 k3
 replace k4:∀y∈kA rb1 ro1 [.int .u8 5,.int .i64 1,.int .i64 0,.string ⟨#[]⟩],y∈S1++B:=fun y hy=>Q8 S1 (k4 y hy)
 replace k5:∀y∈kA rb2 (ro2+4) [.int .u8 5,.int .i64 0,.int .i64 0,.string ⟨#[]⟩],y∈S1++B:=fun y hy=>Q8 S1 (k5 y hy)
 have sL:∃bk o us,uH (S1++B) m1.body a bk o us:=⟨bk,o,us,hk.at_,hk.many,fun i hi y hy=>Zw _ (hk.mem i hi y hy),fun i x e=>(hk.rd i x e).more fun z hz=>Zw _ hz⟩;have Ur:rk (S1++B):=Up.more fun z hz=>Zw _ hz
 have hT2:YQ∈S1++B:=Zw _ hT1;have hA2:∃R,S1++B=A++R:=by
  obtain⟨R,rfl⟩:=hA1;exact⟨R++B,vZ _ _ _⟩
 clear hk hmd bB bu EQ;generalize S1++B=S2 at k1 k2 k3 k4 k5 sL Ur hT2 hA2|-;clear Up hT1 hA1;refine ae ?_;refine kM (fun q3=>?_);refine ae ?_;refine kI (We S2) Zr ZP (fun v Post hv=>?_);obtain⟨vs2,B2,rfl,pC,rfl⟩:=hv;simp only[aE];refine VO.imp (H':=[S2++B2,kA q1 0 [.string m1.aQ,.slice aa m1.args.length ac,.slice ta m1.ab.length tc,vi m1.aL,.slice a m1.body.length c],kA q3 0 [.string aQ,.int .i64 aL,.slice (some ⟨ub,uo,none⟩) 3 uc]]) (aj.cut (M:=[S2,B2,kA q1 0 [.string m1.aQ,.slice aa m1.args.length ac,.slice ta m1.ab.length tc,vi m1.aL,.slice a m1.body.length c],kA q3 0 [.string aQ,.int .i64 aL,.slice (some ⟨ub,uo,none⟩) 3 uc]]) ZI (aj.perm Zs)) ?_;have hmd:DN (S2++B2) m2 vs2:=(pC.more fun z hz=>Q8 _ hz).ok (Ur.more fun z hz=>Zw _ hz) w_m2;obtain⟨⟨aa2,ac2,ta2,tc2,a2,c2,_,_,_,rfl,_,_,_⟩,_,_⟩:=pC;refine ae ?_;refine kM (fun q4=>?_);refine ae ?_;refine kM (fun q5=>?_);refine ae ?_;refine kI (Res2 (S2++B2) _ hmd) Zr ZP (fun v Post hv=>?_);obtain⟨qf,rfl,rfl⟩:=hv;simp only[aE];refine VO.imp (H':=[(S2++B2)++jL qf 181 4,kA q1 0 [.string m1.aQ,.slice aa m1.args.length ac,.slice ta m1.ab.length tc,vi m1.aL,.slice a m1.body.length c],kA q3 0 [.string aQ,.int .i64 aL,.slice (some ⟨ub,uo,none⟩) 3 uc]]) (aj.cut (M:=[S2++B2,jL qf 181 4,kA q1 0 [.string m1.aQ,.slice aa m1.args.length ac,.slice ta m1.ab.length tc,vi m1.aL,.slice a m1.body.length c],kA q3 0 [.string aQ,.int .i64 aL,.slice (some ⟨ub,uo,none⟩) 3 uc]]) ZI (aj.perm Zs)) ?_;have fJ:∀y∈jL qf 181 4,y∈S2++B2++jL qf 181 4:=fun y hy=>Q8 _ hy
 have f1:kB.cell qf 1 (.int .i64 4)∈S2++B2++jL qf 181 4:=fJ _ (kH.2 ⟨1,_,rfl,Zs⟩);have f2:kB.cell qf 2 (.iface 44 (.int .i64 181))∈S2++B2++jL qf 181 4:=fJ _ (kH.2 ⟨2,_,rfl,Zs⟩);clear fJ hmd;have bf:∀z∈S2,z∈S2++B2++jL qf 181 4:=fun z hz=>Zw _ (Zw _ hz)
 replace k1:=bf _ k1
 replace k2:=bf _ k2
 replace k3:=bf _ k3
 replace k4:=fun y hy=>bf y (k4 y hy)
 replace k5:=fun y hy=>bf y (k5 y hy)
 have hT3:=bf _ hT2;obtain⟨bk,o,us,hk⟩:=sL;have oM:uH (S2++B2++jL qf 181 4) m1.body a bk o us:=⟨hk.at_,hk.many,fun i hi y hy=>bf _ (hk.mem i hi y hy),fun i x e=>(hk.rd i x e).more bf⟩;have hA3:∃R,S2++B2++jL qf 181 4=A++R:=by
  obtain⟨R,rfl⟩:=hA2;exact⟨R++(B2++jL qf 181 4),Zs⟩
 clear bf hk Ur hT2 hA2;generalize S2++B2++jL qf 181 4=S at k1 k2 k3 k4 k5 f1 f2 hT3 oM hA3|-;refine ae ?_;refine kM (fun q6=>?_);refine ae ?_;refine kI (NQ S hT3 qf 4 181 f1 f2) Zr ZP (fun v Post hv=>?_);obtain⟨rfl,rfl⟩:=hv;simp only[aE];obtain rfl:=oM.at_ Zd;refine ae ?_;obtain⟨n1,e1,Nl⟩:=Qx.1 fr_b1;obtain⟨n0,e0',hn0⟩:=Qx.1 inl_b0;have GW:n1.w<=274877906944:=Ql (Nd.bY (Zv e1)) w_m1;refine kS (us:=us 1) Zr (fun u hu=>by simp only[V6,Q7];exact .inl (oM.mem 1 Zd u hu)) (j7.len (oM.rd 1 n1 e1)) ?_;refine ae ?_;refine kI (AE S n1 (us 1) (oM.rd 1 n1 e1) GW) Zr ZP (fun v Post hv=>?_);obtain⟨B3,hto,rfl⟩:=hv;have sO:=hto.rd;rw[Nl]at sO;obtain⟨fa,fc,rfl,_,hr⟩:=sO;obtain⟨fb,fo,rfl,k6,_⟩:=hr 0 _ rfl;rw[Qh]at k6;clear hto hr;simp only[aE];refine ae ?_;refine kg (out:=z11) Zr Zr (fun qb=>?_);refine ae ?_;refine kI (iA (kA qb 0 z11) wh0 _ (wh0_rd qb 1 (Qj _))) Zr ZP (fun v Post hv=>?_);obtain⟨rfl,rfl⟩:=hv;rw[inl_wh];simp only[aE];refine ae ?_;refine kS (us:=us 0) Zr (fun u hu=>by simp only[V6,Q7];have:=oM.mem 0 Zd u hu;simp[this]) (j7.len (oM.rd 0 n0 e0')) ?_;refine ae ?_;refine kI (iA S n0 (us 0) (oM.rd 0 n0 e0')) Zr ZP (fun v Post hv=>?_);obtain⟨rfl,rfl⟩:=hv;rw[hn0];simp only[aE];refine ae ?_;refine kS (us:=[.int .u8 5,.int .i64 1,.int .i64 0,.string ⟨#[]⟩]) Zr (fun u hu=>by have:=k4 u hu;simp only[V6,Q7];simp[this]) rfl ?_;refine ae ?_;refine kS (us:=[.int .u8 5,.int .i64 0,.int .i64 0,.string ⟨#[]⟩]) Zr (fun u hu=>by have:=k5 u hu;simp only[V6,Q7];simp[this]) rfl ?_;refine ae ?_;obtain⟨R,rfl⟩:=hA3;exact kG (Post:=[A]) (.inr rfl) (.tmp (v:=.bool true) Zr .nil) ⟨rfl,rfl⟩ (aj.cut (M:=[A++R]) ZI ⟨[R],by simp[V.cz]⟩)
noncomputable def F24:aR:=bj (o:=gF pq Tryz.f24 [])
theorem n24:F24.n=48:=rfl
theorem low24:bi Tryz.prog 24 []=some F24:=by kernel_rfl
noncomputable def F67:aR:=bj (o:=gF pq Tryz.f67 [])
theorem n67:F67.n=37:=rfl
theorem low67:bi Tryz.prog 67 []=some F67:=by kernel_rfl
noncomputable def F68:aR:=bj (o:=gF pq Tryz.f68 [])
theorem n68:F68.n=25:=rfl
theorem low68:bi Tryz.prog 68 []=some F68:=by kernel_rfl
end Go.Proofs.YtijnokbblmbpkaaGreatDoor
namespace Go.V
open Go
theorem xM(b:List Lt):∀(a:List Lt),Lt.aq (a++b)=Lt.aq a+Lt.aq b
 |[]=>by rw[QJ,Lt.aq,Qr]
 |x::r=>by rw[vf,Lt.aq,Lt.aq,xM b r,Qe]
theorem Wb {l:List Lt}{j:Nat}{y:Lt}(h:l[j]? =some y):Lt.aq (l.take (j+1))=Lt.aq (l.take j)+y.size:=by
 rw[QY,h,xM];simp only[Option.toList,Lt.aq];omega
theorem Wm {l:List Nd}{j:Nat}{y:Nd}(h:l[j]? =some y):Nd.ws (l.take (j+1))=Nd.ws (l.take j)+y.w:=by
 rw[QY,h,Db];simp only[Option.toList,Nd.ws];omega
end Go.V
namespace Go.Proofs.YtijnokbblmbpkaaGreatDoor
open Go Go.V
set_option maxHeartbeats 3200000
set_option maxRecDepth 100000
theorem mZ {A:List kB}{x:Lt}{vs:List Value}(h:zN A x vs):∃(e:Option Addr) (c:Nat),vs=[cv x.kind,vi x.n,uv x.bits,.string x.text,.slice e x.items.length c]:=by
 cases h with
 |mk wf ha hm hr=>exact⟨_,_,rfl⟩
def wB(s:Int):Int:=max s 262144+140737488355329
theorem lq(A:List kB)(av:Value)(l:List ByteArray)(h:du A av l)(s:Int)(hs:0<=s/\s<=2305843009213693952):ao Tryz.prog 68 [av,vi s] [A] (fun v Post=>∃r,v=vi r/\0<=r/\r<=wB s/\(r<=262144->s+l.length<=r)/\Post=[A]):=by
 obtain⟨a,c,rfl,hl,hr⟩:=h;refine ao.intro low68 (by simp[n68]) ?_;refine ae ?_;refine VC.loop (α:=Nat×Int) (aW:=fun z=>[(0,.slice a l.length c),(1,vi z.2),(5,vi z.1)]) (Hf:=fun _=>[A])
  (I:=fun z=>z.1<=l.length/\0<=z.2/\z.2<=wB s/\s+z.1<=z.2) (μ:=fun z=>l.length - z.1) (0,s) ⟨Qs _,hs.1,by unfold wB;omega,by simp only;omega⟩ ZU ZI ?_
 rintro⟨j,r⟩ ⟨i1,i2,i3,i4⟩
 simp only at i1 i2 i3 i4;dsimp only;unfold wB at i3;refine ae ?_;by_cases hj:j < l.length;rotate_left
 ·rw[show decide ((j:Int) < (l.length:Int))=false from Zf Zo];exact zDR
 rw[show decide ((j:Int) < (l.length:Int))=true from Zt Zo];refine ae ?_;by_cases ez:r<=262144;rotate_left
 ·rw[Zf ez];exact zDR
 rw[Zt ez];obtain⟨x,hx⟩:∃x,l[j]? =some x:=⟨_,Zg hj⟩;obtain⟨b1,o1,rfl,Hy,nS⟩:=hr j x hx;refine ae ?_;refine⟨(j+1,r+1+x.size),⟨by simp only;omega,by simp only;omega,by simp only;unfold wB;omega,by simp only;omega⟩,by simp only;omega,ZU,ZI⟩
theorem Az(A:List kB):∀(N:Nat) (x:Lt),x.size<=N->∀vs,zN A x vs->∀(s d:Int),0<=s->s<=2305843009213693952->0<=d->d<=60001->ao Tryz.prog 67 [.agg vs.toArray,vi s,vi d] [A] (fun v Post=>∃r,v=vi r/\0<=r/\r<=wB s/\(r<=262144->s+x.size<=r)/\Post=[A]):=by
 intro N
 induction N with
 |zero=>intro x hx;have:=x.size_pos;omega
 |succ N ih=>
  intro x hx vs h s d nS nT hd1 ZQ;cases h with
  |@mk k n b t items a c bk o us wf ha hm hr=>
  have bL:=wf.many;have htx:=wf.text;refine ao.intro low67 (by simp[n67]) ?_;refine ae ?_;refine kW Zr (fun q=>?_);simp only[Value.cells];refine ae ?_;by_cases hd:d > 60000
  ·rw[Zt hd];refine ae ?_;exact kG (Post:=[A]) (.inr rfl) (.tmp Zr .nil) ⟨262145,rfl,Zo,by unfold wB;omega,fun hh=>absurd hh Zd,rfl⟩ ZI
  rw[Zf hd];refine ae ?_;refine VC.loop (α:=Nat×Int) (aW:=fun z=>[(1,vi z.2),(2,vi d),(3,kE q),(7,vi z.1)]) (Hf:=fun _=>[A,kA q 0 [cv k,vi n,uv b,.string t,.slice a items.length c]])
   (I:=fun z=>z.1<=items.length/\0<=z.2/\z.2<=wB s/\(z.2<=262144->s+1+Lt.aq (items.take z.1)<=z.2)) (μ:=fun z=>items.length - z.1) (0,s+1+t.size) ⟨Qs _,by simp only;omega,by simp only;unfold wB;omega,fun _=>by simp only[Qd,Lt.aq];omega⟩ ZU ZI ?_
  rintro⟨j,r⟩ ⟨i1,i2,i3,i4⟩
  simp only at i1 i2 i3 i4;dsimp only;unfold wB at i3;refine ae ?_;by_cases hj:j < items.length;rotate_left
  ·rw[show decide ((j:Int) < (items.length:Int))=false from Zf Zo];refine ae ?_;exact kG (Post:=[A]) (.inr rfl) (.tmp Zr .nil) ⟨r,rfl,i2,by unfold wB;omega,fun hh=>(by have:=i4 hh;rw[Qc Zo]at this;simp only[Lt.size];omega),rfl⟩ ZI
  rw[show decide ((j:Int) < (items.length:Int))=true from Zt Zo];refine ae ?_;by_cases ez:r<=262144;rotate_left
  ·rw[Zf ez];refine ae ?_;exact kG (Post:=[A]) (.inr rfl) (.tmp Zr .nil) ⟨r,rfl,i2,by unfold wB;omega,fun hh=>absurd hh ez,rfl⟩ ZI
  rw[Zt ez];obtain rfl:=ha Zo;obtain⟨y,hy⟩:∃y,items[j]? =some y:=⟨_,Zg hj⟩;have lh:=hm j hj;have dD:=hr j y hy;have yR:=dD.len;have h1:=Lt.aH (Zv hy);simp only[Lt.size]at hx;have aU:=ih y Zo _ dD r (d+1) i2 Zo Zo Zo;refine ae ?_;refine kS Zr NR yR ?_;refine ae ?_;refine kI aU Zr ZP (fun v Post hv=>?_);obtain⟨r',rfl,h2,h3,h9,rfl⟩:=hv;have i5:=i4 ez;have fK:=Wb hy;unfold wB at h3;simp only[aE];refine ae ?_;refine⟨(j+1,r'),⟨by simp only;omega,by simp only;omega,by simp only;unfold wB;omega,fun hh=>by simp only at hh|-;have:=h9 hh;rw[fK];omega⟩,by simp only;omega,ZU,ZI⟩
def wN(s:Int):Int:=max s 262144+562949953421316
theorem yN(A:List kB):∀(N:Nat) (x:Nd),x.w<=N->∀vs,j7 A x vs->∀(s d:Int),0<=s->s<=1152921504606846976->0<=d->d<=60001->ao Tryz.prog 24 [.agg vs.toArray,vi s,vi d] [A] (fun v Post=>∃r,v=vi r/\0<=r/\r<=wN s/\(r<=262144->s+x.w<=r)/\Post=[A]):=by
 intro N
 induction N with
 |zero=>intro x hx;have:=x.fw;omega
 |succ N ih=>
  intro x hx vs h s d nS nT hd1 ZQ;cases h with
  |@mk k nm lit args ab kids p lv av tv a c bk o us wf hl bB bu ha hm hr tX=>
  have bL:=wf.many;have Tc:=wf.name;have xu:=fun s nS nT=>Az A _ lit (Qj _) lv hl s 0 nS nT Zo Zo
  have Oy:=fun s hs=>lq A av args bB s hs
  have htt:=fun s hs=>lq A tv ab bu s hs
  obtain⟨aa,ac,rfl,_,_⟩:=bB;obtain⟨ta,tc,rfl,_,_⟩:=bu;obtain⟨la,lc,rfl⟩:=mZ hl;refine ao.intro low24 (by simp[n24]) ?_;simp only[aE];refine ae ?_;refine kW Zr (fun q=>?_);simp only[Value.cells];refine ae ?_;refine kI (xu (s+1+nm.size) Zo Zo) Zr ZP (fun v Post hv=>?_);obtain⟨r1,rfl,h1,h2,w1,rfl⟩:=hv;unfold wB at h2;simp only[aE];refine ae ?_;refine kI (Oy r1 Zo) Zr ZP (fun v Post hv=>?_);obtain⟨r2,rfl,h3,h4,w2,rfl⟩:=hv;unfold wB at h4;simp only[aE];refine ae ?_;refine kI (htt r2 Zo) Zr ZP (fun v Post hv=>?_);obtain⟨r3,rfl,h5,h6,w3,rfl⟩:=hv;unfold wB at h6;simp only[aE];have w4:r3<=262144->s+1+nm.size+lit.size+args.length+ab.length<=r3:=fun hh=>by
   have a3:=w3 hh;have a2:=w2 Zo;have a1:=w1 Zo;omega
  clear w1 w2 w3;have h7:r3<=wN s:=by unfold wN;omega
  clear h2 h4 h6;refine ae ?_;by_cases hd:d > 60000
  ·rw[Zt hd];refine ae ?_;exact kG (Post:=[A]) (.inr rfl) (.tmp Zr .nil) ⟨262145,rfl,Zo,by unfold wN;omega,fun hh=>absurd hh Zd,rfl⟩ ZI
  rw[Zf hd];refine ae ?_;refine VC.loop (α:=Nat×Int) (aW:=fun z=>[(1,vi z.2),(2,vi d),(3,kE q),(7,vi z.1)]) (Hf:=fun _=>[A,kA q 0 (rA k nm lit.kind lit.n lit.bits lit.text la lit.items.length lc aa args.length ac ta ab.length tc a kids.length c p)])
   (I:=fun z=>z.1<=kids.length/\0<=z.2/\z.2<=wN s/\(z.2<=262144->s+1+nm.size+lit.size+args.length+ab.length+Nd.ws (kids.take z.1)<=z.2)) (μ:=fun z=>kids.length - z.1) (0,r3) ⟨Qs _,h5,h7,fun hh=>by simp only at hh|-;have:=w4 hh;simp only[Qd,Nd.ws];omega⟩ ZU ZI ?_
  rintro⟨j,r⟩ ⟨i1,i2,i3,i4⟩
  simp only at i1 i2 i3 i4;dsimp only;unfold wN at i3;refine ae ?_;by_cases hj:j < kids.length;rotate_left
  ·rw[show decide ((j:Int) < (kids.length:Int))=false from Zf Zo];refine ae ?_;exact kG (Post:=[A]) (.inr rfl) (.tmp Zr .nil) ⟨r,rfl,i2,by unfold wN;omega,fun hh=>(by have:=i4 hh;rw[Qc Zo]at this;simp only[Nd.w];omega),rfl⟩ ZI
  rw[show decide ((j:Int) < (kids.length:Int))=true from Zt Zo];refine ae ?_;by_cases ez:r<=262144;rotate_left
  ·rw[Zf ez];refine ae ?_;exact kG (Post:=[A]) (.inr rfl) (.tmp Zr .nil) ⟨r,rfl,i2,by unfold wN;omega,fun hh=>absurd hh ez,rfl⟩ ZI
  rw[Zt ez];obtain rfl:=ha Zo;obtain⟨y,hy⟩:∃y,kids[j]? =some y:=⟨_,Zg hj⟩;have lh:=hm j hj;have dD:=hr j y hy;have yR:=dD.len;have h1:=Nd.bY (Zv hy);simp only[Nd.w]at hx;have aU:=ih y Zo _ dD r (d+1) i2 Zo Zo Zo;refine ae ?_;refine kS Zr NR yR ?_;refine ae ?_;refine kI aU Zr ZP (fun v Post hv=>?_);obtain⟨r',rfl,h2,h3,h9,rfl⟩:=hv;have i5:=i4 ez;have fK:=Wm hy;unfold wN at h3;simp only[aE];refine ae ?_;refine⟨(j+1,r'),⟨by simp only;omega,by simp only;omega,by simp only;unfold wN;omega,fun hh=>by simp only at hh|-;have:=h9 hh;rw[fK];omega⟩,by simp only;omega,ZU,ZI⟩
end Go.Proofs.YtijnokbblmbpkaaGreatDoor
namespace Go.V
open Go
structure SoundL (l:List yA)(n c:Nat):Prop where
 pos:0 < l.length
 many:l.length<=255
 first:∃y,l[0]? =some y/\y.outer=-1/\y.copied=[]/\y.args=(n:Int)
 unit:∀i x,l[i]? =some x->YZ l i x/\x.frame<=63/\x.ay<=63/\PN.ws x.body<=2*c
end Go.V
namespace Go.Proofs.YtijnokbblmbpkaaGreatDoor
open Go Go.V
set_option maxHeartbeats 6400000
set_option maxRecDepth 100000
set_option maxHeartbeats 12800000
open Go Go.V Go.ChangeShapes Go.WideShapes Go.Deep
section
variable {H:Type} {enc:TypeId×Value->H}
theorem u3:Tryz.prog.underlying 3=some (.int .i64):=by kernel_rfl
theorem u4:Tryz.prog.underlying 4=some .bool:=by kernel_rfl
theorem u22:Tryz.prog.underlying 22=some (.slice 9):=by kernel_rfl
theorem u23:Tryz.prog.underlying 23=some (.slice 72):=by kernel_rfl
theorem u68:Tryz.prog.underlying 68=some (.slice 70):=by kernel_rfl
noncomputable def fs70:Array Field:=match Tryz.prog.underlying 70 with|some (.struct fs)=>fs|_=>#[]
theorem u70:Tryz.prog.underlying 70=some (.struct fs70):=by kernel_rfl
noncomputable def fs72:Array Field:=match Tryz.prog.underlying 72 with|some (.struct fs)=>fs|_=>#[]
theorem u72:Tryz.prog.underlying 72=some (.struct fs72):=by kernel_rfl
theorem litT:YW Tryz.prog 70 68:=⟨⟨fs70,u70,by kernel_rfl,66,2,67,9,by kernel_rfl,by kernel_rfl,by kernel_rfl,by kernel_rfl,by kernel_rfl,by kernel_rfl,by kernel_rfl,by kernel_rfl,by kernel_rfl,by kernel_rfl⟩,by kernel_rfl,u68⟩
theorem nodT:NodT Tryz.prog 72 70 23 22:=⟨⟨fs72,u72,by kernel_rfl,65,9,3,by kernel_rfl,by kernel_rfl,by kernel_rfl,by kernel_rfl,by kernel_rfl,by kernel_rfl,by kernel_rfl,u22⟩,by kernel_rfl,by kernel_rfl,by kernel_rfl,by kernel_rfl,u23⟩
noncomputable def ms50:Array (String×TypeId):=match Tryz.prog.underlying 50 with|some (.interface ms)=>ms|_=>#[]
theorem u50:Tryz.prog.underlying 50=some (.interface ms50):=by kernel_rfl
theorem T7:Ju Tryz.prog [2,3,4,9,22,23,25,65,66,67,68,70,72]=true:=by kernel_rfl
theorem T6:rj Tryz.prog (·∈[2,3,4,9,22,23,25,65,66,67,68,70,72]):=KL T7
theorem own:ownKnob Tryz.prog.godebug=none:=by kernel_rfl
theorem N7(d:DataW H):1<=Rows.uptoBulk d:=by
 cases d with
 |lit l=>cases l <;> simp[Rows.uptoBulk]
 |_=>simp[Rows.uptoBulk]
theorem N6(l:List (DataW H)):l.length<=Rows.uptoBulkAll l:=by
 induction l with
 |nil=>simp
 |cons d r ih=>
  have:=N7 d;simp only[Rows.uptoBulkAll,Vp];omega
theorem DZ {d:DataW H}{l:List (DataW H)}(h:d∈l):Rows.uptoBulk d<=Rows.uptoBulkAll l:=by
 induction l with
 |nil=>cases h
 |cons y r ih=>
  simp only[Rows.uptoBulkAll];exact zC9
theorem D3(l:List (DataW H)):(l.map Rows.uptoBulk).sum=Rows.uptoBulkAll l:=by
 induction l with
 |nil=>rfl
 |cons d r ih=>simp only[Q3,List.sum_cons,ih,Rows.uptoBulkAll]
theorem bulkB:NG (Rows.uptoBulk (H:=H)) where
 agg l d h:=by have:=DZ h;simp only[Rows.uptoBulk];omega
 sl es sp d h:=by have:=DZ h;simp only[Rows.uptoBulk];omega
 len es sp:=by have:=N6 es;simp only[Rows.uptoBulk];omega
 str bs:=by simp only[Rows.uptoBulk];omega
 sls es sp:=by rw[D3];simp only[Rows.uptoBulk];omega
 aggs l:=by rw[D3];simp only[Rows.uptoBulk];omega
theorem gEr : Tryz.prog.globalNamed "strconv.ErrRange" = some 5 := by kernel_rfl
theorem gErT:(Tryz.prog.globals[5]?).map (·.type)=some 50:=by kernel_rfl
theorem gRen:Tryz.sl174_ren.g 16=5:=by kernel_rfl
theorem RX {W : World} {d : DataW Unit} {r : List (String × DataW Unit)} (h : laidMet Tryz.prog (("strconv.ErrRange", d) :: r) W) (hd : ∃ nm e, d = .iface nm e) {A : List kB} (hA : ∀ a : kB, a.holds W → a ∈ A) : rk A := by
 obtain⟨nm,e,rfl⟩:=hd;obtain⟨ps,⟨g0,t0,cs0,f0,p0,q0,hg0,ht0,hv0,hd0,_,e0⟩,_,dB⟩:=h;obtain rfl:=X0 (gEr.symm.trans hg0);obtain rfl:=X0 (gErT.symm.trans ht0);subst e0;have Lg:∃te pe,cs0=#[.iface te pe]:=by
  obtain⟨_,te,pe,he,_,_⟩:=iface_of_trod u50 hd0;exact⟨te,pe,by rw[<- he]⟩
 obtain⟨te,pe,rfl⟩:=Lg;obtain⟨⟨c,t,hc⟩,_⟩:=dB 5 0 (by simp[MemPlace.row]);refine⟨.iface te pe,?_,.inr ⟨te,pe,rfl⟩⟩;rw[gRen];have lg:W.cell? ⟨5,0,none⟩=some (.iface te pe):=by simpa using World.var?_cell gEr hv0 0
 refine hA _ (Go.V.bW lg ?_);unfold World.frozen?;rw[hc];simp
theorem c9:Tryz.prog.cellsOf 9=1:=by kernel_rfl
theorem c3:Tryz.prog.cellsOf 3=1:=by kernel_rfl
theorem witZ {C:Checked}{os:Os}{f:FuncId}{fn:Func}{s:OpenSpec}{conds:List PathCond}{apart:Bool}{laid:List (String×DataW Unit)}(w0:World)(args:Array Value)(hos:w0.os=os)
 (hs:(w0.forCall (fun _ _=>0) ⟨#[],args,[]⟩).Shaped C.prog) (aN:Input.okWideB C.prog (w0.forCall (fun _ _=>0) ⟨#[],args,[]⟩) f ⟨#[],args,[]⟩=true)
 (lA:s.preRow enc C.prog fn conds apart laid (w0.forCall (fun _ _=>0) ⟨#[],args,[]⟩).memory args):
 ∃(w:World) (tape:Tape) (i:Input),w.os=os/\(w.forCall tape i).Shaped C.prog/\i.vars=[]/\Input.okWide C.prog (w.forCall tape i) .any w.heap.size f i/\
  s.preRow enc C.prog fn conds apart laid (w.forCall tape i).memory i.args/\({modest:=false}:Assume).holds C.prog (lone (Frame.enter C.prog f i.args .normal) [] (w.forCall tape i)):=
 ⟨w0,fun _ _=>0,⟨#[],args,[]⟩,hos,hs,(Input.okWide_of_okWideB (base:=0) aN).1,(Input.okWide_of_okWideB aN).2,lA,by
   simp only[Assume.holds];exact⟨Zs,Zs,fun _=>Modest.zero,Zs,Zs⟩⟩
theorem gErr : Tryz.prog.globalNamed "errors.errorType" = some 0 := by kernel_rfl
theorem hRt : (Tryz.prog.cutTypes.find? (·.1 == "internal/reflectlite.rtype")).map (·.2) = some 242 := by kernel_rfl
theorem hOne:((List.range Tryz.prog.types.size).filter fun t=>Tryz.prog.rowNamed t [101,114,114,111,114])=[50]:=by kernel_rfl
theorem hZero:(((begin Tryz.prog (fun _ _=>0) default).world.heap[0]?).bind Obj.row?).isSome=true:=by kernel_rfl
theorem hGlob:0 < Tryz.prog.globals.size:=by decide+kernel
theorem hIn : ("errors.errorType", Rows.laid_errors_errorType) ∈ Rows.scopeSoundUptoRow.laid :=
 QA _ <|QA _ <|QA _ <|QA _ <|QB ..
theorem On {W:World}(h:laidMetH Tryz.prog Rows.scopeSoundUptoRow.laid W):W.cell? ⟨0,0,none⟩=some (.iface 242 (.agg #[.pointer (some ⟨9,50,none⟩)])):=by
 obtain ⟨_, h2⟩ := laidMetH_iff.1 h;obtain ⟨name, u, ty, e1, e2, e3, e4, e5⟩ := h2 ("errors.errorType", Rows.laid_errors_errorType) (QC.2 ⟨hIn, rfl⟩);have en : name = [101, 114, 114, 111, 114] := (X0 e1).symm;subst en;obtain rfl := X0 (hRt.symm.trans e2);have hm : ty ∈ (List.range Tryz.prog.types.size).filter fun t => Tryz.prog.rowNamed t [101, 114, 114, 111, 114] := QC.2 ⟨QG.2 e3, e4⟩
 rw[hOne]at hm;obtain rfl:=QI.1 hm;have hh:typeHandle Tryz.prog 50=.pointer (some ⟨9,50,none⟩):=by kernel_rfl
 rw[hh]at e5;simpa using World.var?_cell gErr e5 0
theorem Zn {W:World}(h:laidMetH Tryz.prog Rows.scopeSoundUptoRow.laid W)(hS:W.ShapedOpen Tryz.prog){A:List kB}(hA:∀a:kB,a.holds W->a∈A):YQ∈A:=by
 obtain⟨⟨z,ty⟩,hzt⟩:=Qw.1 hZero;obtain⟨cs,hc,hz,_⟩:=hS.1 0 z ty hGlob hzt;have lg:=On h;have h0:cs[0]? =some (.iface 242 (.agg #[.pointer (some ⟨9,50,none⟩)])):=by simpa[World.cell?,hc]using lg
 exact hA _ ⟨cs,ty,0,0,hc,h0,Zo⟩
noncomputable def xN:List (String×DataW Unit):=Rows.scopeSoundUptoRow.laid.filter fun x=>x.2.handleName?.isNone
noncomputable def w00(os:Os):World:=
 let w:=World.holding Tryz.prog os ⟨#[],#[],[]⟩
 {w with heap:=w.heap.modify 0 fun
    |.cells _ t frozen=>.cells #[.iface 242 (.agg #[.pointer (some ⟨9,50,none⟩)])] t frozen
    |o=>o}
noncomputable def wW(os:Os):World:=(w00 os).layVars Tryz.prog xN
theorem wW_os(os:Os):(wW os).os=os:=World.layVars_os _ _ _
theorem XC(os:Os):(w00 os).layFits Tryz.prog xN []=true:=by kernel_rfl
theorem M9(os:Os):(w00 os).layIfaces Tryz.prog xN (wW os)=true:=by kernel_rfl
theorem XD(os:Os)(args:Array Value):laidMet Tryz.prog xN ((wW os).forCall (fun _ _=>0) ⟨#[],args,[]⟩).memory:=by
 have e1:(xN.filter fun x=>(xN.map (·.1)).contains x.1)=xN:=vt.2 fun x hx=>vg.2 (QE.2 ⟨x,hx,rfl⟩)
 have e2:(xN.filter fun x=>!(xN.map (·.1)).contains x.1)=[]:=vr.2 fun x hx=>by rw[vg.2 (QE.2 ⟨x,hx,rfl⟩)];simp
 have h:laidMet Tryz.prog xN (wW os):=laidMet_layVars (w0:=w00 os) (xN.map (·.1)) [] (by rw[e1];rfl) (by rw[e1];exact XC os) (by rw[e1];exact M9 os) (by rw[e2];exact LaidIn.none);exact h.of_heap (by simp[World.memory,World.forCall,Input.heap])
theorem lib_in {W:World}(h:laidMetH Tryz.prog Rows.scopeSoundUptoRow.laid W){A:List kB}(hA:∀a:kB,a.holds W->a∈A):rk A:=by
 obtain ⟨h1, _⟩ := laidMetH_iff.1 h;have h2 : laidMet Tryz.prog [("math/bits.deBruijn32tab", Rows.laid_math_bits_deBruijn32tab), ("math/bits.deBruijn64tab", Rows.laid_math_bits_deBruijn64tab), ("internal/strconv.uint64pow10", Rows.laid_internal_strconv_uint64pow10), ("unicode/utf8.acceptRanges", Rows.laid_unicode_utf8_acceptRanges), ("strconv.ErrRange", Rows.laid_strconv_ErrRange), ("strconv.ErrSyntax", Rows.laid_strconv_ErrSyntax), ("unicode/utf8.first", Rows.laid_unicode_utf8_first)] W := h1;exact RX (laidMet.tail (laidMet.tail (laidMet.tail (laidMet.tail h2)))) ⟨_, _, rfl⟩ hA
end
noncomputable def F139:aR:=bj (o:=gF pq Tryz.f139 [])
theorem n139:F139.n=19:=rfl
theorem low139:bi Tryz.prog 139 []=some F139:=by kernel_rfl
noncomputable def F80:aR:=bj (o:=gF pq Tryz.f80 [])
theorem n80:F80.n=12:=rfl
theorem low80:bi Tryz.prog 80 []=some F80:=by kernel_rfl
noncomputable def F32:aR:=bj (o:=gF pq Tryz.f32 [])
theorem n32:F32.n=110:=rfl
theorem low32:bi Tryz.prog 32 []=some F32:=by kernel_rfl
noncomputable def F75:aR:=bj (o:=gF pq Tryz.f75 [])
theorem n75:F75.n=72:=rfl
theorem low75:bi Tryz.prog 75 []=some F75:=by kernel_rfl
noncomputable def F29:aR:=bj (o:=gF pq Tryz.f29 [])
theorem n29:F29.n=5:=rfl
theorem low29:bi Tryz.prog 29 []=some F29:=by kernel_rfl
end Go.Proofs.YtijnokbblmbpkaaGreatDoor
namespace Go.V
open Go
def varRow(x:eQ):List Value:=[.string x.name,.int .i64 (x.unit:Int),.bool x.arg,.int .i64 x.own]
def useRow(x:Nat×Nat):List Value:=[.int .i64 (x.1:Int),.int .i64 (x.2:Int)]
structure DW where
 vv:Value
 Jg:List Value
 ov:Value
 IE:List Value
 av:Value
 asp:List Value
 wv:Value
 wsp:List Value
 bv:Value
 bs:List Value
 bsp:List Value
structure DX where
 q:Nat
 fv:Value
 gv:Value
 F:List ByteArray
 G:List ByteArray
structure DOk (X:DX)(st:ah)(w:DW)(R:List kB):Prop where
 v:kY 4 w.vv st.vars.length (st.vars.flatMap varRow) w.Jg
 o:kY 1 w.ov st.outer.length (st.outer.map fun n=>Value.int .i64 n) w.IE
 a:kY 1 w.av st.args.length (st.args.map fun n:Nat=>Value.int .i64 (n:Int)) w.asp
 u:kY 2 w.wv st.uses.length (st.uses.flatMap useRow) w.wsp
 b:kY 1 w.bv st.bodies.length w.bs w.bsp
 bd:∀(i:Nat) l,st.bodies[i]? =some l->∃v,w.bs[i]? =some v/\uK R v l
 ef:∀e p,st.f=some (e,p)->e≠0
 F:du R X.fv X.F
 G:du R X.gv X.G
 bl:st.bodies.length=st.outer.length
def RF(o:Option Nat):Int:=match o with|some v=>(v:Int)|none=>-1
end Go.V
namespace Go.Proofs.YtijnokbblmbpkaaGreatDoor
open Go Go.V
set_option maxHeartbeats 3200000
set_option maxRecDepth 100000
theorem sR(A:List kB)(l:List ByteArray)(lv:Value)(h:du A lv l)(nm:ByteArray):ao Tryz.prog 139 [lv,.string nm] [A] (fun v Post=>v=.int .i64 (RF (l.findIdx? fun s=>decide (s=nm)))/\Post=[A]):=by
 obtain⟨a,c,rfl,hl,hr⟩:=h;refine ao.intro low139 (by simp[n139]) ?_;refine ae ?_;refine VC.loop (α:=Nat) (aW:=fun j=>[(0,.slice a l.length c),(1,.string nm),(5,vi j)]) (Hf:=fun _=>[A]) (I:=fun j=>j<=l.length/\(l.take j).findIdx? (fun s=>decide (s=nm))=none) (μ:=fun j=>l.length - j) 0 ⟨Qs _,Zr⟩ ZU ZI ?_
 rintro j ⟨hj,hn⟩
 refine ae ?_;by_cases aI:j < l.length;rotate_left
 ·rw[show decide ((j:Int) < (l.length:Int))=false from Zf Zo];rw[Qc Zo]at hn;refine ae ?_;exact kG (Post:=[A]) (.inr rfl) (.tmp Zr .nil) ⟨by rw[hn];rfl,rfl⟩ ZI
 rw[show decide ((j:Int) < (l.length:Int))=true from Zt Zo];obtain⟨s,hs⟩:∃s,l[j]? =some s:=⟨_,Zg aI⟩;obtain⟨b,o,rfl,lg,Ψ⟩:=hr j s hs;have pT:=xi hs nm;rw[hn]at pT;refine ae ?_;by_cases e:s=nm
 ·rw[Zt e];rw[if_pos e]at pT;refine ae ?_;refine kG (Post:=[A]) (.inr rfl) (.tmp Zr .nil) ⟨?_,rfl⟩ ZI;have:l.findIdx? (fun s=>decide (s=nm))=some j:=by
   have e2:l=l.take (j+1)++l.drop (j+1):=(QZ _ _).symm;rw[e2,List.findIdx?_append,pT];rfl
  rw[this];rfl
 ·rw[Zf e];rw[if_neg e]at pT;refine ae ?_;exact⟨j+1,⟨Zo,pT⟩,Zo,ZU,ZI⟩
def YV:aR:=laid (X:=⟨21,[.tmp 2],(qS [qz 2 false] [0] (qS [qm 3 0,qo 4 (.bin .eql (.tmp 3) (.const (.string ⟨#[115,101,108,102]⟩))),qm 5 4,qu 5 (qm 6 0),
 qu 5 (qo 7 (.bin .eql (.tmp 6) (.const (.string ⟨#[115,117,112,101,114]⟩)))),qr 8 5 7,qm 9 8,qu 9 (qm 10 0),
 qu 9 (qo 11 (.bin .eql (.tmp 10) (.const (.string ⟨#[110,105,108]⟩)))),qr 12 9 11,qm 13 12,qu 13 (qm 14 0),
 qu 13 (qo 15 (.bin .eql (.tmp 14) (.const (.string ⟨#[116,114,117,101]⟩)))),qr 16 13 15,qm 17 16,qu 17 (qm 18 0),
 qu 17 (qo 19 (.bin .eql (.tmp 18) (.const (.string ⟨#[102,97,108,115,101]⟩)))),qr 20 17 19,qm 2 20] [2] .ret))⟩)
theorem n132:YV.n=21:=rfl
theorem low132:C1 Tryz.prog (kpO YV) (assoc []) 132=some YV:=by kernel_rfl
end Go.Proofs.YtijnokbblmbpkaaGreatDoor
namespace Go.V
open Go
theorem Cp {n:Nat}(hn:n=1∨n=2∨n=3∨n=4){l:List Nd}(h:l.length≠ib n):zl n l=false:=by
 cases e:zl n l with
 |false=>rfl
 |true=>exact absurd (tV hn e) h
theorem Ug {l:List Nd}(h:l.length≠3):zl 5 l=false:=by
 cases e:zl 5 l with
 |false=>rfl
 |true=>exact absurd (K4 e).1 h
theorem Sy {α:Type}:∀{l:List α},l.length=2->∃a b,l=[a,b]
 |[a,b],_=>⟨a,b,rfl⟩
theorem Gp {α:Type}:∀{l:List α},l.length=3->∃a b c,l=[a,b,c]
 |[a,b,c],_=>⟨a,b,c,rfl⟩
theorem one_of {α:Type}:∀{l:List α},l.length=1->∃a,l=[a]
 |[a],_=>⟨a,rfl⟩
theorem MP {s:ByteArray}:kb s=1↔s=YE∨s=YD∨s=Yz∨s=nmOr:=by
 unfold kb;constructor
 ·exact zCO
 ·intro h;rw[if_pos h]
theorem R9 {s:ByteArray}(h1:kb s≠1):kb s=2↔s=nmTF∨s=nmFT:=by
 have Um:=fun k=>h1 (MP.2 k)
 unfold kb;rw[if_neg Um];constructor
 ·exact zCO
 ·intro h;rw[if_pos h]
theorem Xl {s:ByteArray}(h1:kb s≠1)(h2:kb s≠2):kb s=3↔s=YG∨s=YF:=by
 have Um:=fun k=>h1 (MP.2 k)
 have ZA:=fun k=>h2 ((R9 h1).2 k)
 unfold kb;rw[if_neg Um,if_neg ZA];constructor
 ·exact zCO
 ·intro h;rw[if_pos h]
theorem sel4 {s:ByteArray}(h1:kb s≠1)(h2:kb s≠2)(h3:kb s≠3):kb s=4↔s=nmWT∨s=nmWF:=by
 have Um:=fun k=>h1 (MP.2 k)
 have ZA:=fun k=>h2 ((R9 h1).2 k)
 have X5:=fun k=>h3 ((Xl h1 h2).2 k)
 unfold kb;rw[if_neg Um,if_neg ZA,if_neg X5];constructor
 ·exact zCO
 ·intro h;rw[if_pos h]
theorem sel5 {s:ByteArray}(h1:kb s≠1)(h2:kb s≠2)(h3:kb s≠3)(h4:kb s≠4):kb s=5↔s=nmTo:=by
 have Um:=fun k=>h1 (MP.2 k)
 have ZA:=fun k=>h2 ((R9 h1).2 k)
 have X5:=fun k=>h3 ((Xl h1 h2).2 k)
 have h4':=fun k=>h4 ((sel4 h1 h2 h3).2 k)
 unfold kb;rw[if_neg Um,if_neg ZA,if_neg X5,if_neg h4'];constructor
 ·intro h;split at h
  ·assumption
  ·omega
 ·intro h;rw[if_pos h]
theorem sel0 {s:ByteArray}(h1:kb s≠1)(h2:kb s≠2)(h3:kb s≠3)(h4:kb s≠4)(h5:kb s≠5):kb s=0:=by
 have:=qH s;omega
theorem fit_0(l:List Nd):zl 0 l=false:=rfl
end Go.V

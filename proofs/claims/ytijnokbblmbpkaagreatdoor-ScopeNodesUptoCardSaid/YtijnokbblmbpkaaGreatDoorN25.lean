/-
  The document's Free: the names that a node leaves open.
-/
import Derived.Test.YtijnokbblmbpkaaGreatDoorN24
import Derived.Test.YtijnokbblmbpkaaGreatDoorN23
import Derived.Test.YtijnokbblmbpkaaGreatDoorN12
import Derived.Test.YtijnokbblmbpkaaGreatDoorN9
import Derived.KernelRfl
import Derived.Test.YtijnokbblmbpkaaGreatDoorProg
import Derived.Test.YtijnokbblmbpkaaGreatDoorN5
import Derived.Test.YtijnokbblmbpkaaGreatDoorN6
import Derived.Test.YtijnokbblmbpkaaGreatDoorN7
import Derived.Test.YtijnokbblmbpkaaGreatDoorN11
set_option linter.all false
namespace Go.Proofs.YtijnokbblmbpkaaGreatDoor
open Go Go.V
set_option maxHeartbeats 12800000
set_option maxRecDepth 100000
theorem sf {A:List kB}{v:Value}{l:List ByteArray}(h:du A v l):∀t∈l,t.size<=140737488355328:=fun t ht=>by
 obtain⟨a,c,rfl,_,hr⟩:=h;obtain⟨i,hi⟩:=List.mem_iff_getElem?.1 ht;obtain⟨_,_,_,_,k⟩:=hr i t hi;exact k
theorem Ou {l:List ByteArray}{s:ByteArray}(h:s∈l):∃i,l.findIdx? (fun t=>decide (t=s))=some i:=by
 cases e:l.findIdx? (fun t=>decide (t=s))with
 |none=>exact absurd (List.findIdx?_eq_none_iff.1 e s h) Zs
 |some i=>exact⟨i,rfl⟩
theorem Ov {l:List ByteArray}{s:ByteArray}(h:s∉l):l.findIdx? (fun t=>decide (t=s))=none:=
 List.findIdx?_eq_none_iff.2 fun t ht=>Zf fun e=>h (e ▸ ht)
theorem Gm(s:ByteArray):ao Tryz.prog 132 [.string s] [] (fun v Post=>v=.bool (decide (wS s≠0))/\Post=[]):=by
 refine ao.intro low132 (by simp[n132]) ?_;refine ae ?_;by_cases h1:s=⟨#[115,101,108,102]⟩
 ·rw[Zt h1];refine ae ?_;exact kG (Post:=[]) (.inr rfl) (.tmp Zr .nil) ⟨by rw[h1];rfl,rfl⟩ ZI
 rw[Zf h1];refine ae ?_;by_cases h2:s=⟨#[115,117,112,101,114]⟩
 ·rw[Zt h2];refine ae ?_;exact kG (Post:=[]) (.inr rfl) (.tmp Zr .nil) ⟨by rw[h2];rfl,rfl⟩ ZI
 rw[Zf h2];refine ae ?_;by_cases h3:s=⟨#[110,105,108]⟩
 ·rw[Zt h3];refine ae ?_;exact kG (Post:=[]) (.inr rfl) (.tmp Zr .nil) ⟨by rw[h3];rfl,rfl⟩ ZI
 rw[Zf h3];refine ae ?_;by_cases h4:s=⟨#[116,114,117,101]⟩
 ·rw[Zt h4];refine ae ?_;exact kG (Post:=[]) (.inr rfl) (.tmp Zr .nil) ⟨by rw[h4];rfl,rfl⟩ ZI
 rw[Zf h4];refine ae ?_;by_cases h5:s=⟨#[102,97,108,115,101]⟩
 ·exact kG (Post:=[]) (.inr rfl) (.tmp Zr .nil) ⟨by rw[Zt h5,h5];rfl,rfl⟩ ZI
 have bQ:wS s=0:=R0 h1 h2 h3 h4 h5;exact kG (Post:=[]) (.inr rfl) (.tmp Zr .nil) ⟨by rw[bQ,Zf h5];rfl,rfl⟩ ZI
theorem Ht:∀(N:Nat) (x:Nd),x.w<=N->∀(S:List kB) (vs:List Value),j7 S x vs->∀(seen out:List ByteArray) (sv ov:Value) (IE:List Value),du S sv seen->kY 1 ov out.length (out.map Value.string) IE->(∀t∈out,t.size<=140737488355328)->seen.length+x.w<=1099511627776->out.length+x.w<=1099511627776->
 ao Tryz.prog 75 [ov,.agg vs.toArray,sv] [ai ov (out.map Value.string) IE,S] (fun v Post=>∃aY,kY 1 v (fH seen out x).length ((fH seen out x).map Value.string) aY/\Post=[ai v ((fH seen out x).map Value.string) aY,S]):=by
 intro N
 induction N with
 |zero=>intro x hx;have:=x.fw;omega
 |succ N ih=>
  intro x hx S vs h seen out sv ov IE J3 bh hos hsw how;have π:=pO seen 140737488355328 x out Zo hos;obtain⟨oa,oc,rfl⟩:=bh.form;obtain⟨na,nc,rfl,Yh,hnr⟩:=id J3;have CN:=h;cases h with
  |@mk k s lit args ab kids p lv av tv a cc bk o us wf hl bB bu ha hm hr tX=>
  obtain⟨aa,ac,rfl,hav1,dV⟩:=id bB;obtain⟨ta,tc,rfl,htv1,dW⟩:=id bu;have JT:=hl;cases hl with
  |@mk k1 n1 b1 t1 items la lc Ns lo Nu Nw GL pC ez=>
  simp only[Nd.w]at hx hsw how;obtain⟨s1,Ac⟩:∃s1,s1=(if k=7 then seen++args++ab else seen):=⟨_,rfl⟩;obtain⟨o1,oO⟩:∃o1,o1=(if(k=2∨k=3)/\wS s=0/\s∉seen/\s∉out then out++[s]else out):=⟨_,rfl⟩;have AV:fH seen out (.mk k s (.mk k1 n1 b1 t1 items) args ab kids p)=jp s1 o1 kids:=by rw[fH,<- Ac,<- oO]
  rw[AV]at π|-;have hs1l:s1.length<=seen.length+args.length+ab.length:=by
   rw[Ac];split
   ·simp only[Vo];omega
   ·omega
  have ho1l:o1.length<=out.length+1:=by
   rw[oO];split
   ·simp
   ·omega
  have ho1s:∀t∈o1,t.size<=140737488355328:=by
   rw[oO];split
   ·intro t ht;rcases Q7.1 ht with h|h
    ·exact hos t h
    ·rw[QI.1 h];exact wf.name
   ·exact hos
  have bA:∀(T:List kB) (sv:Value) (z:Nd) (us:List Value),z∈kids->(∀y∈S,y∈T)->j7 S z us->du T sv s1->∀(o2:List ByteArray) (ov:Value) (IE:List Value),kY 1 ov o2.length (o2.map Value.string) IE->(∀t∈o2,t.size<=140737488355328)->o2.length+z.w<=1099511627776->
   ao Tryz.prog 75 [ov,.agg us.toArray,sv] [ai ov (o2.map Value.string) IE,T] (fun v Post=>∃aY,kY 1 v (fH s1 o2 z).length ((fH s1 o2 z).map Value.string) aY/\Post=[ai v ((fH s1 o2 z).map Value.string) aY,T]):=fun T sv z us hz hT GZ hs o2 ov IE g1 g2 g3=>by
   have hzw:=Nd.bY hz;exact ih z Zo T us (GZ.more hT) s1 o2 sv ov IE hs g1 g2 Zo g3
  refine ao.intro low75 (by simp[n75]) ?_;simp only[aE];refine jW ?_;refine kW Zr (fun q=>?_);simp only[Value.cells];refine jW ?_;refine VC.join (α:=Value×List Value) (aW:=fun r=>[(0,r.1),(2,.slice na seen.length nc),(4,kE q)])
   (Hf:=fun r=>[kA q 0 (rA k s k1 n1 b1 t1 la items.length lc aa args.length ac ta ab.length tc a kids.length cc p),ai r.1 (o1.map Value.string) r.2,S]) (I:=fun r=>kY 1 r.1 o1.length (o1.map Value.string) r.2) ?_ ?_
  ·refine ae ?_;by_cases sL:k=2
   ·subst sL;exact zAC
   by_cases oM:k=3
   ·subst oM;exact zAC
   have nQ:o1=out:=by rw[oO,if_neg (fun c=>c.1.elim sL oM)]
   rw[show decide ((k:Int)=2)=false from Zf Zo];refine ae ?_;rw[show decide ((k:Int)=3)=false from Zf Zo];refine ae ?_;exact⟨(.slice oa out.length oc,IE),by rw[nQ];exact bh,ZU,by dsimp only;rw[nQ];exact bE⟩
  rintro⟨ov1,WW⟩ χ
  dsimp only at χ|-;obtain⟨oa1,oc1,rfl⟩:=χ.form;refine jW ?_;refine VC.join (α:=Value×List kB) (aW:=fun r=>[(0,.slice oa1 o1.length oc1),(2,r.1),(4,kE q)])
   (Hf:=fun r=>[kA q 0 (rA k s k1 n1 b1 t1 la items.length lc aa args.length ac ta ab.length tc a kids.length cc p),ai (.slice oa1 o1.length oc1) (o1.map Value.string) WW,S++r.2]) (I:=fun r=>du (S++r.2) r.1 s1) ?_ ?_
  ·refine ae ?_;by_cases hk7:k=7;rotate_left
   ·have pR:s1=seen:=by rw[Ac,if_neg hk7]
    rw[show decide ((k:Int)=7)=false from Zf Zo];refine ae ?_;exact⟨(.slice na seen.length nc,[]),by rw[pR];simpa using J3,ZU,by simp only[vd];exact bE⟩
   subst hk7;have pR:s1=seen++args++ab:=by rw[Ac,if_pos rfl]
   refine ae ?_;refine VO.imp (H':=[ai Nz [] [],kA q 0 (rA 7 s k1 n1 b1 t1 la items.length lc aa args.length ac ta ab.length tc a kids.length cc p),ai (.slice oa1 o1.length oc1) (o1.map Value.string) WW,S]) (aj.perm (by simp[ai])) ?_;refine iN Zr Zr .nil ZK J3 (fun y hy=>by simp[hy]) Zo (fun sv1 sp1 nS=>?_);rw[Qr,QJ]at nS;rw[QJ];obtain⟨xa1,xc1,rfl⟩:=nS.form;refine ae ?_;refine iN (k:=seen.length) (xs:=seen.map Value.string) (sp:=sp1) (l:=args) Zr Zr nS ZK bB (fun y hy=>by simp[hy]) Zo (fun Xu Xp nT=>?_);obtain⟨xa2,xc2,rfl⟩:=nT.form;refine ae ?_;refine iN (k:=seen.length+args.length) (xs:=seen.map Value.string++args.map Value.string) (sp:=Xp) (l:=ab) Zr Zr nT ZK bu (fun y hy=>by simp[hy]) Zo (fun sv3 sp3 DE=>?_);obtain⟨xa3,xc3,rfl⟩:=DE.form;rw[<- Q0,<- Q0]at DE|-;have Ta:seen.length+args.length+ab.length=(seen++args++ab).length:=by simp only[Vo]
   have hrd3:=cU Ta DE Zo (fun t ht=>by
    rcases Q7.1 ht with ht|ht
    ·rcases Q7.1 ht with ht|ht
     ·exact sf J3 t ht
     ·exact sf bB t ht
    ·exact sf bu t ht)
   refine ae ?_;refine⟨(_,ai (.slice xa3 (seen.length+args.length+ab.length) xc3) ((seen++args++ab).map Value.string) sp3),?_,ZU,?_⟩
   ·dsimp only;rw[pR];exact hrd3.more fun y hy=>Q8 _ hy
   ·dsimp only;exact aj.cut (M:=[kA q 0 (rA 7 s k1 n1 b1 t1 la items.length lc aa args.length ac ta ab.length tc a kids.length cc p),ai (.slice oa1 o1.length oc1) (o1.map Value.string) WW,S,ai (.slice xa3 (seen.length+args.length+ab.length) xc3) ((seen++args++ab).map Value.string) sp3]) ZI (aj.perm Zs)
  rintro⟨sv1,X⟩ Θ
  dsimp only at Θ|-;obtain⟨na1,nc1,rfl,hnl1,_⟩:=id Θ;refine ae ?_;refine VC.loop (α:=Nat×Value×List Value) (aW:=fun r=>[(0,r.2.1),(2,.slice na1 s1.length nc1),(4,kE q),(9,vi r.1)])
   (Hf:=fun r=>[kA q 0 (rA k s k1 n1 b1 t1 la items.length lc aa args.length ac ta ab.length tc a kids.length cc p),ai r.2.1 ((jp s1 o1 (kids.take r.1)).map Value.string) r.2.2,S++X])
   (I:=fun r=>r.1<=kids.length/\kY 1 r.2.1 (jp s1 o1 (kids.take r.1)).length ((jp s1 o1 (kids.take r.1)).map Value.string) r.2.2) (μ:=fun r=>kids.length - r.1) (0,.slice oa1 o1.length oc1,WW) ⟨Qs _,by rw[Qd,jp];exact χ⟩ ZU (by dsimp only;rw[Qd,jp];exact bE) ?_
  rintro⟨j,ov2,WX⟩ ⟨hj,i2⟩
  simp only at hj i2;dsimp only;obtain⟨o2,JZ⟩:∃o2,o2=jp s1 o1 (kids.take j):=⟨_,rfl⟩;rw[<- JZ]at i2|-;have ho2l:o2.length<=o1.length+Nd.ws (kids.take j):=by rw[JZ];exact pP s1 _ _
  obtain⟨oa2,oc2,rfl⟩:=id i2.form;have bL:=wf.many;refine ae ?_;by_cases aI:j < kids.length;rotate_left
  ·rw[show decide ((j:Int) < (kids.length:Int))=false from Zf Zo];rw[Qc Zo]at JZ;rw[<- JZ];refine ae ?_;refine kG (Post:=[ai (.slice oa2 o2.length oc2) (o2.map Value.string) WX,S]) (.inr rfl) (.tmp Zr .nil) ⟨WX,i2,rfl⟩ ?_;exact aj.cut (M:=[ai (.slice oa2 o2.length oc2) (o2.map Value.string) WX,S++X]) ZI ⟨[X],by simp[V.cz]⟩
  rw[show decide ((j:Int) < (kids.length:Int))=true from Zt Zo];obtain rfl:=ha Zo;obtain⟨z,hz⟩:∃z,kids[j]? =some z:=⟨_,Zg aI⟩;have GZ:=hr j z hz;have Nr:=hm j aI;have fK:kids.take (j+1)=kids.take j++[z]:=by rw[QY,hz];rfl
  have GX:Nd.ws (kids.take j)+z.w<=Nd.ws kids:=by
   exact zBD
  have ho2s:∀t∈o2,t.size<=140737488355328:=by rw[JZ];exact rO s1 _ _ _ Zo ho1s
  have UX:=bA (S++X) _ z (us j) (Zv hz) (fun y hy=>Zw _ hy) GZ Θ o2 _ WX i2 ho2s Zo;generalize us j=uj at GZ Nr UX;obtain⟨f1,f2,f3,f4,f5,f6,f7,f8,f9,f10,f11,f12,f13,f14,f15,f16,f17,rfl,gh,iy⟩:=zv GZ;have hzm2:∀y∈kA bk (o+j*11) _,y∈S++X:=fun y hy=>Zw _ (Nr y hy)
  refine ae ?_;refine kS Zr (fun u hu=>List.mem_flatten.2 ⟨S++X,Zs,hzm2 u hu⟩) rfl ?_;refine ae ?_;refine kI UX Zr ZP (fun v Post hv=>?_);obtain⟨sp3,j2,rfl⟩:=hv;simp only[aE];have ho3:jp s1 o1 (kids.take (j+1))=fH s1 o2 z:=by rw[fK,rQ,JZ]
  refine ae ?_;refine⟨(j+1,_,sp3),⟨by simp only;omega,by simp only;rw[ho3];exact j2⟩,by simp only;omega,ZU,?_⟩;dsimp only;rw[ho3];exact bE
theorem G3(S:List kB)(x:Nd)(vs:List Value)(h:j7 S x vs)(hw:x.w<=274877906944):ao Tryz.prog 29 [.agg vs.toArray] [S] (fun v Post=>∃B,ed v (fH [] [] x) B/\Post=[S,B]):=by
 have hlen:=tW [] x [];have gh:=pO [] 274877906944 x [] hw (fun t ht=>by cases ht);have hd:=Ht _ x (Qj _) S vs h [] [] Nz Nz [] ⟨none,0,rfl,Zs,fun i t e=>by simp at e⟩ .nil (fun t ht=>by cases ht) (by rw[Vw];omega) (by rw[Vw];omega);obtain⟨g1,g2,g3,g4,g5,g6,g7,g8,g9,g10,g11,g12,g13,g14,g15,g16,rfl⟩:=mq h;refine ao.intro low29 (by simp[n29]) ?_;refine ae ?_;refine kW Zr (fun q=>?_);simp only[Value.cells];refine ae ?_;refine VO.imp (H':=[ai Nz (([]:List ByteArray).map Value.string) [],S]) ?_ ?_
 ·exact aj.cut (M:=[S]) ZI (aj.perm (by simp[ai]))
 refine kI hd Zr ZP (fun v Post hv=>?_);obtain⟨aY,j2,rfl⟩:=hv;exact zBP
noncomputable def F92:aR:=bj (o:=gF pq Tryz.f92 [(6,[[0,1,2,3,4,5,6,7,8,9,10,11]])])
theorem n92:F92.n=62:=rfl
theorem low92:bi Tryz.prog 92 [(6,[[0,1,2,3,4,5,6,7,8,9,10,11]])]=some F92:=by kernel_rfl
noncomputable def F20:aR:=bj (o:=gF pq Tryz.f20 [(6,[[0,1,2,3,4,5,6,7,8]])])
theorem n20:F20.n=26:=rfl
theorem low20:bi Tryz.prog 20 [(6,[[0,1,2,3,4,5,6,7,8]])]=some F20:=by kernel_rfl
noncomputable def F138:aR:=bj (o:=gF pq Tryz.f138 [])
theorem n138:F138.n=53:=rfl
theorem low138:bi Tryz.prog 138 []=some F138:=by kernel_rfl
noncomputable def F119:aR:=bj (o:=gF pq Tryz.f119 [(5,[[0,1,2,3,4,5,6,7,8,9,10,11]])])
theorem n119:F119.n=32:=rfl
theorem low119:bi Tryz.prog 119 [(5,[[0,1,2,3,4,5,6,7,8,9,10,11]])]=some F119:=by kernel_rfl
noncomputable def F74:aR:=bj (o:=gF pq Tryz.f74 [(7,[[0,1,2,3,4,5,6,7,8,9,10,11]])])
theorem n74:F74.n=40:=rfl
theorem low74:bi Tryz.prog 74 [(7,[[0,1,2,3,4,5,6,7,8,9,10,11]])]=some F74:=by kernel_rfl
noncomputable def F43:aR:=bj (o:=gF pq Tryz.f43 [])
theorem n43:F43.n=35:=rfl
theorem low43:bi Tryz.prog 43 []=some F43:=by kernel_rfl
noncomputable def F54:aR:=bj (o:=gF pq Tryz.f54 [])
theorem n54:F54.n=24:=rfl
theorem low54:bi Tryz.prog 54 []=some F54:=by kernel_rfl
noncomputable def F69:aR:=bj (o:=gF pq Tryz.f69 [])
theorem n69:F69.n=39:=rfl
theorem low69:bi Tryz.prog 69 []=some F69:=by kernel_rfl
noncomputable def F120:aR:=bj (o:=gF pq Tryz.f120 [])
theorem n120:F120.n=38:=rfl
theorem low120:bi Tryz.prog 120 []=some F120:=by kernel_rfl
noncomputable def F25:aR:=bj (o:=gF pq Tryz.f25 [(7,[])])
theorem n25:F25.n=53:=rfl
theorem low25:bi Tryz.prog 25 [(7,[])]=some F25:=by kernel_rfl
noncomputable def F55:aR:=bj (o:=gF pq Tryz.f55 [])
theorem n55:F55.n=59:=rfl
theorem low55:bi Tryz.prog 55 []=some F55:=by kernel_rfl
noncomputable def F28:aR:=bj (o:=gF pq Tryz.f28 [])
theorem n28:F28.n=14:=rfl
theorem low28:bi Tryz.prog 28 []=some F28:=by kernel_rfl
noncomputable def F30:aR:=bj (o:=gF pq Tryz.f30 [])
theorem n30:F30.n=14:=rfl
theorem low30:bi Tryz.prog 30 []=some F30:=by kernel_rfl
noncomputable def F31:aR:=bj (o:=gF pq Tryz.f31 [])
theorem n31:F31.n=37:=rfl
theorem low31:bi Tryz.prog 31 []=some F31:=by kernel_rfl
noncomputable def F76:aR:=bj (o:=gF pq Tryz.f76 [(8,[[0,1,2,3,4,5,6,7,8,9,10],[0,1,2,4,5,6,7,3,8,9,10]]),(25,[[0,1,2,3,4,5,6,7,8,9,10,11,12,13,14,15,16,17,18,19,20,21,22,23,24,25],[0,1,2,3,4,5,6,8,9,10,7,11,12,13,14,15,16,17,18,19,20,21,22,23,24,25],[0,1,2,4,8,9,10,3,5,6,7,11,12,13,14,15,16,17,18,19,20,21,22,23,24,25],[0,1,2,3,4,5,6,7,8,9,10,11,12,13,14,15,16,17,18,19,21,22,23,20,24,25],[0,1,2,3,4,5,6,8,9,10,7,11,12,13,14,15,16,17,18,19,21,22,23,20,24,25],[0,1,2,4,8,9,10,3,5,6,7,11,12,13,14,15,16,17,18,19,21,22,23,20,24,25],[0,1,2,3,4,5,6,7,8,9,10,11,12,13,14,15,17,21,22,23,16,18,19,20,24,25],[0,1,2,3,4,5,6,8,9,10,7,11,12,13,14,15,17,21,22,23,16,18,19,20,24,25],[0,1,2,4,8,9,10,3,5,6,7,11,12,13,14,15,17,21,22,23,16,18,19,20,24,25]]),(30,[[0,1,2,3,4,5,6,7,8,9,10,11,12,13],[0,1,2,3,4,5,6,7,8,10,11,12,9,13],[0,1,2,4,5,6,10,11,12,3,7,8,9,13]])])
theorem n76:F76.n=123:=rfl
theorem low76:bi Tryz.prog 76 [(8,[[0,1,2,3,4,5,6,7,8,9,10],[0,1,2,4,5,6,7,3,8,9,10]]),(25,[[0,1,2,3,4,5,6,7,8,9,10,11,12,13,14,15,16,17,18,19,20,21,22,23,24,25],[0,1,2,3,4,5,6,8,9,10,7,11,12,13,14,15,16,17,18,19,20,21,22,23,24,25],[0,1,2,4,8,9,10,3,5,6,7,11,12,13,14,15,16,17,18,19,20,21,22,23,24,25],[0,1,2,3,4,5,6,7,8,9,10,11,12,13,14,15,16,17,18,19,21,22,23,20,24,25],[0,1,2,3,4,5,6,8,9,10,7,11,12,13,14,15,16,17,18,19,21,22,23,20,24,25],[0,1,2,4,8,9,10,3,5,6,7,11,12,13,14,15,16,17,18,19,21,22,23,20,24,25],[0,1,2,3,4,5,6,7,8,9,10,11,12,13,14,15,17,21,22,23,16,18,19,20,24,25],[0,1,2,3,4,5,6,8,9,10,7,11,12,13,14,15,17,21,22,23,16,18,19,20,24,25],[0,1,2,4,8,9,10,3,5,6,7,11,12,13,14,15,17,21,22,23,16,18,19,20,24,25]]),(30,[[0,1,2,3,4,5,6,7,8,9,10,11,12,13],[0,1,2,3,4,5,6,7,8,10,11,12,9,13],[0,1,2,4,5,6,10,11,12,3,7,8,9,13]])]=some F76:=by kernel_rfl
noncomputable def F77:aR:=bj (o:=gF pq Tryz.f77 [(8,[[0,1,2,3,4,5,6,7,8,9,10],[0,1,2,4,5,6,7,3,8,9,10]]),(25,[[0,1,2,3,4,5,6,7,8,9,10,11,12,13,14,15,16,17,18,19,20,21,22,23,24,25],[0,1,2,3,4,5,6,8,9,10,7,11,12,13,14,15,16,17,18,19,20,21,22,23,24,25],[0,1,2,4,8,9,10,3,5,6,7,11,12,13,14,15,16,17,18,19,20,21,22,23,24,25],[0,1,2,3,4,5,6,7,8,9,10,11,12,13,14,15,16,17,18,19,21,22,23,20,24,25],[0,1,2,3,4,5,6,8,9,10,7,11,12,13,14,15,16,17,18,19,21,22,23,20,24,25],[0,1,2,4,8,9,10,3,5,6,7,11,12,13,14,15,16,17,18,19,21,22,23,20,24,25],[0,1,2,3,4,5,6,7,8,9,10,11,12,13,14,15,17,21,22,23,16,18,19,20,24,25],[0,1,2,3,4,5,6,8,9,10,7,11,12,13,14,15,17,21,22,23,16,18,19,20,24,25],[0,1,2,4,8,9,10,3,5,6,7,11,12,13,14,15,17,21,22,23,16,18,19,20,24,25]]),(30,[[0,1,2,3,4,5,6,7,8,9,10,11,12,13],[0,1,2,3,4,5,6,7,8,10,11,12,9,13],[0,1,2,4,5,6,10,11,12,3,7,8,9,13]])])
theorem n77:F77.n=123:=rfl
theorem low77:bi Tryz.prog 77 [(8,[[0,1,2,3,4,5,6,7,8,9,10],[0,1,2,4,5,6,7,3,8,9,10]]),(25,[[0,1,2,3,4,5,6,7,8,9,10,11,12,13,14,15,16,17,18,19,20,21,22,23,24,25],[0,1,2,3,4,5,6,8,9,10,7,11,12,13,14,15,16,17,18,19,20,21,22,23,24,25],[0,1,2,4,8,9,10,3,5,6,7,11,12,13,14,15,16,17,18,19,20,21,22,23,24,25],[0,1,2,3,4,5,6,7,8,9,10,11,12,13,14,15,16,17,18,19,21,22,23,20,24,25],[0,1,2,3,4,5,6,8,9,10,7,11,12,13,14,15,16,17,18,19,21,22,23,20,24,25],[0,1,2,4,8,9,10,3,5,6,7,11,12,13,14,15,16,17,18,19,21,22,23,20,24,25],[0,1,2,3,4,5,6,7,8,9,10,11,12,13,14,15,17,21,22,23,16,18,19,20,24,25],[0,1,2,3,4,5,6,8,9,10,7,11,12,13,14,15,17,21,22,23,16,18,19,20,24,25],[0,1,2,4,8,9,10,3,5,6,7,11,12,13,14,15,17,21,22,23,16,18,19,20,24,25]]),(30,[[0,1,2,3,4,5,6,7,8,9,10,11,12,13],[0,1,2,3,4,5,6,7,8,10,11,12,9,13],[0,1,2,4,5,6,10,11,12,3,7,8,9,13]])]=some F77:=by kernel_rfl
noncomputable def F78:aR:=bj (o:=gF pq Tryz.f78 [(8,[[0,1,2,3,4,5,6,7,8,9,10],[0,1,2,4,5,6,7,3,8,9,10]]),(25,[[0,1,2,3,4,5,6,7,8,9,10,11,12,13,14,15,16,17,18,19,20,21,22,23,24,25],[0,1,2,3,4,5,6,8,9,10,7,11,12,13,14,15,16,17,18,19,20,21,22,23,24,25],[0,1,2,4,8,9,10,3,5,6,7,11,12,13,14,15,16,17,18,19,20,21,22,23,24,25],[0,1,2,3,4,5,6,7,8,9,10,11,12,13,14,15,16,17,18,19,21,22,23,20,24,25],[0,1,2,3,4,5,6,8,9,10,7,11,12,13,14,15,16,17,18,19,21,22,23,20,24,25],[0,1,2,4,8,9,10,3,5,6,7,11,12,13,14,15,16,17,18,19,21,22,23,20,24,25],[0,1,2,3,4,5,6,7,8,9,10,11,12,13,14,15,17,21,22,23,16,18,19,20,24,25],[0,1,2,3,4,5,6,8,9,10,7,11,12,13,14,15,17,21,22,23,16,18,19,20,24,25],[0,1,2,4,8,9,10,3,5,6,7,11,12,13,14,15,17,21,22,23,16,18,19,20,24,25]]),(30,[[0,1,2,3,4,5,6,7,8,9,10,11,12,13],[0,1,2,3,4,5,6,7,8,10,11,12,9,13],[0,1,2,4,5,6,10,11,12,3,7,8,9,13]])])
theorem n78:F78.n=123:=rfl
theorem low78:bi Tryz.prog 78 [(8,[[0,1,2,3,4,5,6,7,8,9,10],[0,1,2,4,5,6,7,3,8,9,10]]),(25,[[0,1,2,3,4,5,6,7,8,9,10,11,12,13,14,15,16,17,18,19,20,21,22,23,24,25],[0,1,2,3,4,5,6,8,9,10,7,11,12,13,14,15,16,17,18,19,20,21,22,23,24,25],[0,1,2,4,8,9,10,3,5,6,7,11,12,13,14,15,16,17,18,19,20,21,22,23,24,25],[0,1,2,3,4,5,6,7,8,9,10,11,12,13,14,15,16,17,18,19,21,22,23,20,24,25],[0,1,2,3,4,5,6,8,9,10,7,11,12,13,14,15,16,17,18,19,21,22,23,20,24,25],[0,1,2,4,8,9,10,3,5,6,7,11,12,13,14,15,16,17,18,19,21,22,23,20,24,25],[0,1,2,3,4,5,6,7,8,9,10,11,12,13,14,15,17,21,22,23,16,18,19,20,24,25],[0,1,2,3,4,5,6,8,9,10,7,11,12,13,14,15,17,21,22,23,16,18,19,20,24,25],[0,1,2,4,8,9,10,3,5,6,7,11,12,13,14,15,17,21,22,23,16,18,19,20,24,25]]),(30,[[0,1,2,3,4,5,6,7,8,9,10,11,12,13],[0,1,2,3,4,5,6,7,8,10,11,12,9,13],[0,1,2,4,5,6,10,11,12,3,7,8,9,13]])]=some F78:=by kernel_rfl
noncomputable def F122:aR:=bj (o:=gF pq Tryz.f122 [])
theorem n122:F122.n=9:=rfl
theorem low122:bi Tryz.prog 122 []=some F122:=by kernel_rfl
noncomputable def F123:aR:=bj (o:=gF pq Tryz.f123 [])
theorem n123:F123.n=10:=rfl
theorem low123:bi Tryz.prog 123 []=some F123:=by kernel_rfl
noncomputable def F140:aR:=bj (o:=gF pq Tryz.f140 [])
theorem n140:F140.n=24:=rfl
theorem Py:bi Tryz.prog 140 []=some F140:=by kernel_rfl
noncomputable def F79:aR:=bj (o:=gF pq Tryz.f79 [(8,[[0,1,2,3,4,5,6,7,8,9,10],[0,1,2,4,5,6,7,3,8,9,10],[0,1,2,4,5,6,7,8,3,9,10]]),(25,[]),(30,[[0,1,2,3,4,5,6,7,8,9,10,11,12,13],[0,1,2,3,4,5,6,7,9,10,11,8,12,13],[0,1,2,4,5,6,9,10,11,3,7,8,12,13],[0,1,2,3,4,5,6,7,9,10,11,12,8,13],[0,1,2,4,5,6,9,10,11,3,7,12,8,13],[0,1,2,4,5,6,9,10,11,12,3,7,8,13]])])
theorem n79:F79.n=123:=rfl
theorem low79:bi Tryz.prog 79 [(8,[[0,1,2,3,4,5,6,7,8,9,10],[0,1,2,4,5,6,7,3,8,9,10],[0,1,2,4,5,6,7,8,3,9,10]]),(25,[]),(30,[[0,1,2,3,4,5,6,7,8,9,10,11,12,13],[0,1,2,3,4,5,6,7,9,10,11,8,12,13],[0,1,2,4,5,6,9,10,11,3,7,8,12,13],[0,1,2,3,4,5,6,7,9,10,11,12,8,13],[0,1,2,4,5,6,9,10,11,3,7,12,8,13],[0,1,2,4,5,6,9,10,11,12,3,7,8,13]])]=some F79:=by kernel_rfl
end Go.Proofs.YtijnokbblmbpkaaGreatDoor
namespace Go.V
open Go
section
variable {P:Program} {n:Nat} {rs:List RO} {Γ:Env} {H:SH} {Z:List PanicEntry->Env->SH->Prop} {K:Env->SH->Prop} {d:Option Nat}
theorem I5 {t:TypeId}{size bytes:Nat}{zero:List Value}{s x:Operand}{sv xv:Value}{k m:Nat}{xs sp ys:List Value}{R:SH}(hs:ev Γ s=some sv)(hx:ev Γ x=some xv)(bh:kY size sv k xs sp)
 (ht:Tk H (ai sv xs sp) R) (hm:cR xv=some m) (O4:Src R.flatten size m ys xv) (hlen:ys.length=m*size) (gg:ys.all je=true) (hz:zero.length=size) (hb:bytes≠0) (bm:(2*(k+m)+192)*bytes<=2 ^ 48)
 (bf:∀b o c aY,sv=.slice (Option.some ⟨b,o,none⟩) k c->kY size (.slice (Option.some ⟨b,o,none⟩) (k+m) c) (k+m) (xs++ys) aY->VO P n rs (ak d (.slice (Option.some ⟨b,o,none⟩) (k+m) c) Γ) (ai (.slice (Option.some ⟨b,o,none⟩) (k+m) c) (xs++ys) aY::R) Z K)
 (h:∀cq aY,kY size cq (k+m) (xs++ys) aY->VO P n rs (ak d cq Γ) (ai cq (xs++ys) aY::ai sv xs sp::R) Z K):VO P n (⟨d,none,.append t size bytes zero s x⟩::rs) Γ H Z K:=by
 refine VO.Tv rfl rfl (fun ρ aG=>⟨_,rfl,?_⟩);rw[aG _ _ hs,aG _ _ hx];refine az.perm ht.perm ?_;have A4:Src (ai sv xs sp++R.flatten) size m ys xv:=O4.mono (fun x hx=>Q8 _ hx);have grow:∀(a:Option Addr) (c:Nat),sv=.slice a k c->¬(k+m<=c)->Src (ai sv xs sp++R.flatten) size k xs sv->
  az P (if Builtin.nextslicecap (k + m) c * bytes > 2 ^ 48 ∨ bytes = 0 then stuck "size" else do
   let cap <- choose (.appendCap (k+m) c t)
   let old <- Builtin.firstCells size k sv
   let new <- Builtin.firstCells size m xv
   let b <- newObj (.cells (old++new++(kX (cap - (k+m)) zero).toArray) t)
   pure (Next.value (.slice (Option.some ⟨b,0,none⟩) (k+m) cap)):Sem Next) (ai sv xs sp++R.flatten) fun nx L=>∃v H' X,(nx=.value v∨(nx=.skip/\v=undef))/\L.Perm (List.flatten H'++X)/\VO P n rs (ak d v Γ) H' Z K:=by
  intro a c gO hle hso;have δ:Builtin.nextslicecap (k+m) c*bytes<=2 ^ 48:=Ql (Qo _ (x4 Zo)) bm;rw[if_neg Zo];have fin:∀cap,k+m<=cap->az P (do
   let old <- Builtin.firstCells size k sv
   let new <- Builtin.firstCells size m xv
   let b <- newObj (.cells (old++new++(kX (cap - (k+m)) zero).toArray) t)
   pure (Next.value (.slice (Option.some ⟨b,0,none⟩) (k+m) cap)):Sem Next) (ai sv xs sp++R.flatten) fun nx L=>∃v H' X,(nx=.value v∨(nx=.skip/\v=undef))/\L.Perm (List.flatten H'++X)/\VO P n rs (ak d v Γ) H' Z K:=by
   intro cap Cw;refine az.bind (az.firstCells hso (az.bind (az.firstCells A4 (uh (fun b=>?_)))));have hI:kY size (.slice (Option.some ⟨b,0,none⟩) (k+m) cap) (k+m) (xs++ys) (kX (cap - (k+m)) zero):=by
    exact zCS
   refine⟨_,_,[],.inl rfl,?_,h _ _ hI⟩;have:(xs.toArray++ys.toArray++(kX (cap - (k+m)) zero).toArray).toList=xs++ys++kX (cap - (k+m)) zero:=by simp
   rw[this];simp only[V6,vZ,vd];simp only[ai,vZ];exact vW _
  exact zDX
 cases bh with
 |@mk b o _ c _ _ h1 h2 h3=>
  simp only[hm];by_cases hle:k+m<=c
  ·rw[if_pos hle];refine az.bind (az.firstCells A4 ?_);have dz:ys.length<=sp.length:=by
    have e1:(k+m)*size<=c*size:=Qo _ hle;rw[Qf]at e1;omega
   have mf:kA b o (xs++sp)=kA b o xs++(kA b (o+k*size) (sp.take ys.length)++kA b (o+k*size+ys.length) (sp.drop ys.length)):=by
    exact zDV
   have hI:kY size (.slice (Option.some ⟨b,o,none⟩) (k+m) c) (k+m) (xs++ys) (sp.drop ys.length):=by
    exact zE2
   have ZD:((⟨b,o,none⟩:Addr).add (k*size))=⟨b,o+k*size,none⟩:=eu b o _;simp only[ZD];have cg:(ai (.slice (Option.some ⟨b,o,none⟩) k c) xs sp++R.flatten).Perm (kA b (o+k*size) (sp.take ys.length)++(kA b o xs++(kA b (o+k*size+ys.length) (sp.drop ys.length)++R.flatten))):=by
    simp only[ai,mf,vZ];exact ju _ _ _
   refine az.perm cg (az.bind (az.storeCells tj (vX.1 gg) (az.pure ?_)));refine⟨_,_,[],.inl rfl,?_,bf b o c _ rfl hI⟩;exact zE7
  ·exact zDO
 |nil=>
  exact zBQ
end
structure AOk (a:AW):Prop where
 seqs:(a.files.flatMap fun f=>f.writes.map (·.seq)).Nodup
 rng:∀f∈a.files,∀x∈f.writes,0 < x.seq/\x.seq<=a.seq
 one:(a.names.map (·.2)).Nodup
section
variable {P:Program} {n:Nat} {rs:List RO} {Γ:Env} {H:SH} {Z:List PanicEntry->Env->SH->Prop} {K:Env->SH->Prop} {d:Option Nat}
end
section
variable {P:Program} {n:Nat} {rs:List RO} {Γ:Env} {H:SH} {Z:List PanicEntry->Env->SH->Prop} {K:Env->SH->Prop} {d:Option Nat}
end
section
variable {P:Program} {n:Nat} {rs:List RO} {Γ:Env} {H:SH} {Z:List PanicEntry->Env->SH->Prop} {K:Env->SH->Prop} {d:Option Nat}
theorem Sf {x y:Operand}{a b:ByteArray}(hx:ev Γ x=some (.string a))(hy:ev Γ y=some (.string b))(hb:a.size+b.size<=9223372036854775807)(h:VO P n rs (ak d (.string (a++b)) Γ) H Z K):VO P n (⟨d,none,.bin .add x y⟩::rs) Γ H Z K:=
 VO.pure rfl (fun ρ aG=>by simp only[kR,aG _ _ hx,aG _ _ hy,zF,I7,hb,if_true]) h
end
theorem yB.cell {A:List kB}{v:Value}{α:Type}{f:α->Value}{l:List α}(h:yB 1 A v l.length (l.map f)){i:Nat}{x:α}(hx:l[i]? =some x):
 ∃b o c,v=.slice (some ⟨b,o,none⟩) l.length c/\kB.cell b (o+i) (f x)∈A:=by
 have hi:=(Vh.1 hx).1;rcases h with⟨_,h2,_⟩|⟨b,o,c,h1,h2,h3,h4⟩
 ·omega
 ·exact⟨b,o,c,h1,h4 _ (kH.2 ⟨i,f x,by simp[hx],rfl⟩)⟩
section
variable {P:Program} {n:Nat} {rs:List RO} {Γ:Env} {H:SH} {Z:List PanicEntry->Env->SH->Prop} {K:Env->SH->Prop} {d:Option Nat}
end
def XW(n:Nat):ByteArray:=⟨#[UInt8.ofNat (97+n % 26)]⟩
def fg(n:Nat):ByteArray:=if _h:26<=n then fg (n / 26)++XW n else XW n
termination_by n
decreasing_by omega
def P3:ByteArray:=⟨#[45]⟩
def zj(z:Int):ByteArray:=if z < 0 then P3++fg (-z).toNat else fg z.toNat
theorem Ip:∀(f n:Nat),n < 26 ^ (f+1)->(fg n).size<=f+1:=by
 intro f
 induction f with
 |zero=>
  intro n h;unfold fg;rw[dif_neg (by simp at h;omega)];exact Qj _
 |succ f ih=>
  intro n h;unfold fg;split
  ·have:n / 26 < 26 ^ (f+1):=by
    rw[Nat.div_lt_iff_lt_mul Zo];rw[Nat.pow_succ]at h;exact h
   have:=ih _ this;rw[ByteArray.size_append];have e:(XW n).size=1:=rfl;omega
  ·have e:(XW n).size=1:=rfl;omega
theorem sS {n:Nat}(h:n<=4611686018427387904):(fg n).size<=14:=by
 refine Ip 13 n ?_;rw[show(26:Nat) ^ (13+1)=64509974703297150976 by decide];omega
theorem Zc(n:Nat):Uj [UInt8.ofNat (97+n % 26)]=XW n:=rfl
end Go.V
namespace Go.Proofs.YtijnokbblmbpkaaGreatDoor
open Go Go.V
set_option maxHeartbeats 6400000
set_option maxRecDepth 100000
theorem xQ:∀n:Nat,n<=4611686018427387904->ao Tryz.prog 140 [vi n] [] (fun v Post=>v=.string (fg n)/\Post=[]):=by
 intro n
 induction n using Nat.strongRecOn with
 |_ n ih=>
 intro hn;refine ao.intro Py (by simp[n140]) ?_;refine GO ?_;have hr:(n:Int).tmod 26=((n % 26:Nat):Int):=by rw[Int.tmod_eq_emod_of_nonneg Zo];omega
 have he:IntKind.u8.wrap (IntKind.i64.wrap (97+(n:Int).tmod 26))=((UInt8.ofNat (97+n % 26)).toNat:Int):=by
  rw[hr,wrap64 ⟨Zo,Zo⟩];have:(UInt8.ofNat (97+n % 26)).toNat=97+n % 26:=by simp;omega
  rw[this];simp[IntKind.wrap,IntKind.bits,IntKind.signed];omega
 rw[he];refine kg (out:=[M3 (UInt8.ofNat (97+n % 26))]) Zr Zr (fun q=>?_);refine GO ?_;refine st_b2s (l:=[UInt8.ofNat (97+n % 26)]) Zr ((kY.mk (b:=q) (o:=0) (n:=1) (c:=1) (xs:=[M3 (UInt8.ofNat (97+n % 26))]) (sp:=[]) rfl rfl (Qj _)).bytes .here) ?_;rw[Zc];refine GO ?_;by_cases h26:26<=n
 ·simp only[show(26:Int)<=(n:Int) by omega,decide_true,show((n:Int) ≥ 26) by omega];refine GO ?_;have hq:IntKind.i64.wrap ((n:Int).tdiv 26)=((n / 26:Nat):Int):=by
   rw[Int.tdiv_eq_ediv_of_nonneg Zo];rw[wrap64 ⟨Zo,Zo⟩];omega
  rw[hq];refine GO ?_;refine kI (ih (n / 26) Zo Zo) Zr cz.nil (fun v Post hv=>?_);obtain⟨rfl,rfl⟩:=hv;simp only[QJ];have hs:=sS (n:=n / 26) Zo;refine GO ?_;refine Sf Zr Zr (by have e:(XW n).size=1:=rfl;omega) ?_;refine GO ?_;exact kG (Post:=[]) (.inr rfl) (.tmp Zr .nil) ⟨by rw[show fg n=fg (n / 26)++XW n by rw[fg,dif_pos h26]];rfl,rfl⟩ ZI
 ·simp only[show ¬((n:Int) ≥ 26) by omega,decide_false];refine GO ?_;exact kG (Post:=[]) (.inr rfl) (.tmp Zr .nil) ⟨by rw[show fg n=XW n by rw[fg,dif_neg h26]];rfl,rfl⟩ ZI
theorem gU(z:Int)(h1:-4611686018427387904<=z)(h2:z<=4611686018427387904):ao Tryz.prog 140 [vi z] [] (fun v Post=>v=.string (zj z)/\Post=[]):=by
 by_cases hz:z < 0;rotate_left
 ·obtain⟨n,rfl⟩:=Int.eq_ofNat_of_zero_le (show 0<=z by omega);rw[show zj n=fg n by unfold zj;rw[if_neg Zo];rfl];exact xQ n Zo
 refine ao.intro Py (by simp[n140]) ?_;refine GO ?_;simp only[Zt hz];refine GO ?_;have hw:IntKind.i64.wrap (0 - z)=(((-z).toNat:Nat):Int):=by rw[wrap64 ⟨Zo,Zo⟩];omega
 rw[hw];refine kI (xQ (-z).toNat Zo) Zr cz.nil (fun v Post hv=>?_);obtain⟨rfl,rfl⟩:=hv;simp only[QJ];have hs:=sS (n:=(-z).toNat) Zo;refine GO ?_;refine Sf Zr Zr (by have e:(ByteArray.mk #[45]).size=1:=rfl;omega) ?_;refine GO ?_;exact kG (Post:=[]) (.inr rfl) (.tmp Zr .nil) ⟨by rw[show zj z=P3++fg (-z).toNat by unfold zj;rw[if_pos hz]];rfl,rfl⟩ ZI
def zR(i k:Nat):Int:=(i:Int)*20000+k
def rC(i k:Nat):Int:=-1 - (i:Int)*20 - k
theorem sq(i k:Nat)(hi:i<=1073741824)(hk:k<=1073741824):ao Tryz.prog 122 [vi i,vi k] [] (fun v Post=>v=vi (zR i k)/\Post=[]):=by
 refine ao.intro low122 (by simp[n122]) ?_;exact zBA
theorem DV(i k:Nat)(hi:i<=1073741824)(hk:k<=1073741824):ao Tryz.prog 123 [vi i,vi k] [] (fun v Post=>v=vi (rC i k)/\Post=[]):=by
 refine ao.intro low123 (by simp[n123]) ?_;exact zBA
end Go.Proofs.YtijnokbblmbpkaaGreatDoor
namespace Go.V
open Go
structure OwnI where
 v:Value
 n:Nat
 xs:List Value
 sp:List Value
def Kept(size:Nat)(E:List kB)(v:Value)(n:Nat)(ms:List Value)(xv:Value)(m:Nat):Prop:=
 yB size E v n ms∨(E=[]/\∃b o c,v=.slice (some ⟨b,o,none⟩) n c/\xv=.slice (some ⟨b,o,none⟩) m c)
theorem Kept.start {size n:Nat}{v:Value}{ms sp:List Value}(h:kY size v n ms sp):Kept size [] v n ms v n:=by
 cases h with
 |mk h1 h2 h3=>exact .inr ⟨rfl,_,_,_,rfl,rfl⟩
 |nil=>exact .inl (.inl ⟨rfl,rfl,rfl⟩)
theorem Kept.done {size n m:Nat}{E:List kB}{v xv:Value}{ms ts GH:List Value}(h:Kept size E v n ms xv m)(hx:kY size xv m (ms++ts) GH)(hm:ms.length=n*size)(Tc:n<=m):
 yB size (ai xv (ms++ts) GH++E) v n ms:=by
 rcases h with h|⟨rfl,b,o,c,rfl,rfl⟩
 ·exact h.mono (fun a ha=>Q8 _ ha)
 ·cases hx with
  |mk h1 h2 h3=>
   refine .inr ⟨b,o,c,rfl,Zo,hm,fun x hx=>?_⟩;simp only[ai,vd,kd,Q7];exact .inl (.inl hx)
theorem Kept.moved {size n m m':Nat}{E:List kB}{v xv xv':Value}{ms ts GH:List Value}(h:Kept size E v n ms xv m)(hx:kY size xv m (ms++ts) GH)(hm:ms.length=n*size)(Tc:n<=m):Kept size (ai xv (ms++ts) GH++E) v n ms xv' m':=.inl (h.done hx hm Tc)
structure pF where
 v:Value
 rows:List (List Value)
 sp:List Value
def IF(p:pF):List kB:=ai p.v p.rows.flatten p.sp
def OkR(sz:Nat)(p:pF):Prop:=kY sz p.v p.rows.length p.rows.flatten p.sp/\(∀r∈p.rows,r.length=sz)/\p.rows.length<=1073741824
def w8(mk:Nat->Value)(f k:Nat)(rows:List (List Value)):List (List Value):=rows.mapIdx fun j r=>if j < k then r.set f (mk j)else r
theorem zk {mk:Nat->Value}{f k:Nat}{rows:List (List Value)}:(w8 mk f k rows).length=rows.length:=by simp[w8]
theorem cJ {mk:Nat->Value}{f k j:Nat}{rows:List (List Value)}{r:List Value}(h:rows[j]? =some r):(w8 mk f k rows)[j]? =some (if j < k then r.set f (mk j)else r):=by simp[w8,h]
theorem gT {mk:Nat->Value}{f k sz:Nat}{rows:List (List Value)}(h:∀r∈rows,r.length=sz):∀r∈w8 mk f k rows,r.length=sz:=by
 intro r hr;obtain⟨j,hj⟩:=Vj hr;have tC:j < rows.length:=by have:=(Vh.1 hj).1;rwa [zk]at this
 rw[cJ (Zg tC)]at hj;cases hj;have:=h rows[j] (Vn _);split
 ·rw[Vx];exact this
 ·exact this
theorem Io {mk:Nat->Value}{f:Nat}{rows:List (List Value)}:w8 mk f 0 rows=rows:=by
 apply vm;intro j;cases h:rows[j]? with
 |none=>rw[Ve (by rw[zk];exact Vg.1 h)]
 |some r=>rw[cJ h];simp
theorem K5 {sz f:Nat}{u:Value}(hf:f < sz):∀{rows:List (List Value)} {k:Nat} {r:List Value},(∀r∈rows,r.length=sz)->rows[k]? =some r->(rows.set k (r.set f u)).flatten=rows.flatten.set (k*sz+f) u:=by
 intro rows
 induction rows with
 |nil=>intro k r _ h;simp at h
 |cons x rows ih=>
  intro k r h hk;have hx:=h x Zs;cases k with
  |zero=>
   cases hk;simp only[List.set_cons_zero,V6,Qt,Qr];rw[List.set_append_left _ _ Zo]
  |succ k=>
   simp only[QV,V6];rw[ih (fun r hr=>h r (by simp[hr])) (by simpa using hk),QU _ _ (by rw[hx,Qf];omega),hx]
   congr 2
   rw[Qf];omega
theorem En {sz f:Nat}(hf:f < sz):∀{rows:List (List Value)} {k:Nat} {r:List Value},(∀r∈rows,r.length=sz)->rows[k]? =some r->rows.flatten[k*sz+f]? =r[f]?:=by
 intro rows
 induction rows with
 |nil=>intro k r _ h;simp at h
 |cons x rows ih=>
  intro k r h hk;have hx:=h x Zs;cases k with
  |zero=>
   cases hk;simp only[V6,Qt,Qr];rw[VV Zo]
  |succ k=>
   simp only[V6];rw[Va (by rw[hx,Qf];omega),hx,<- ih (fun r hr=>h r (by simp[hr])) (k:=k) (by simpa using hk)]
   congr 1
   rw[Qf];omega
theorem Im {mk:Nat->Value}{f k:Nat}{rows:List (List Value)}{r:List Value}(h:rows[k]? =some r):w8 mk f (k+1) rows=(w8 mk f k rows).set k (r.set f (mk k)):=by
 apply vm;intro j;have HF:=(Vh.1 h).1;by_cases e:k=j
 ·subst e;rw[cJ h,if_pos Zo,List.getElem?_set_self (by rw[zk];exact HF)]
 ·rw[List.getElem?_set_ne e];cases hj:rows[j]? with
  |none=>rw[Ve (by rw[zk];exact Vg.1 hj),Ve (by rw[zk];exact Vg.1 hj)]
  |some s=>
   rw[cJ hj,cJ hj];by_cases g:j < k
   ·rw[if_pos g,if_pos Zo]
   ·rw[if_neg g,if_neg Zo]
theorem LK {mk:Nat->Value}{f k sz:Nat}(hf:f < sz){rows:List (List Value)}(h:∀r∈rows,r.length=sz)(hk:k < rows.length):(w8 mk f (k+1) rows).flatten=(w8 mk f k rows).flatten.set (k*sz+f) (mk k):=by
 have h1:=Zg hk;rw[Im h1];have h2:=cJ (mk:=mk) (f:=f) (k:=k) h1;rw[if_neg Zo]at h2;exact K5 hf (gT h) h2
theorem LJ {mk:Nat->Value}{f k n sz:Nat}(hf:f < sz){rows:List (List Value)}(h:∀r∈rows,r.length=sz)(hk:k < rows.length)(hn:k < n):(w8 mk f n rows).flatten[k*sz+f]? =some (mk k):=by
 have h1:=Zg hk;have h2:=cJ (mk:=mk) (f:=f) (k:=n) h1;rw[if_pos hn]at h2;rw[En hf (gT h) h2,List.getElem?_set_self (by rw[h _ (Vn _)];exact hf)]
def tU(mb:Nat->Value)(z:List Value)(f m:Nat):List (List Value):=(List.range m).map fun k=>z.set f (mb k)
theorem T3 {mb:Nat->Value}{z:List Value}{f m:Nat}:∀r∈tU mb z f m,r.length=z.length:=by
 intro r hr;obtain⟨k,_,rfl⟩:=QE.1 hr;rw[Vx]
theorem N3(mb:Nat->Value)(z:List Value)(f m:Nat):tU mb z f (m+1)=tU mb z f m++[z.set f (mb m)]:=by simp[tU,List.range_succ]
theorem T5 {mb:Nat->Value}{z:List Value}{f m k:Nat}(h:k < m):(tU mb z f m)[k]? =some (z.set f (mb k)):=by simp[tU,h]
def IH(mk:Nat->Nat->Value)(f i:Nat)(ps:List pF):List pF:=ps.mapIdx fun j p=>if j < i then {p with rows:=w8 (mk j) f p.rows.length p.rows}else p
theorem ur {mk:Nat->Nat->Value}{f i:Nat}{ps:List pF}:(IH mk f i ps).length=ps.length:=by simp[IH]
theorem nB {mk:Nat->Nat->Value}{f i j:Nat}{ps:List pF}{p:pF}(h:ps[j]? =some p):(IH mk f i ps)[j]? =some (if j < i then {p with rows:=w8 (mk j) f p.rows.length p.rows}else p):=by simp[IH,h]
theorem RL {mk:Nat->Nat->Value}{f:Nat}{ps:List pF}:IH mk f 0 ps=ps:=by
 apply vm;intro j;cases h:ps[j]? with
 |none=>rw[Ve (by rw[ur];exact Vg.1 h)]
 |some r=>rw[nB h];simp
theorem RJ {mk:Nat->Nat->Value}{f i:Nat}{ps:List pF}{p:pF}(h:ps[i]? =some p):IH mk f (i+1) ps=(IH mk f i ps).set i {p with rows:=w8 (mk i) f p.rows.length p.rows}:=by
 apply vm;intro j;have cf:=(Vh.1 h).1;by_cases e:i=j
 ·subst e;rw[nB h,if_pos Zo,List.getElem?_set_self (by rw[ur];exact cf)]
 ·rw[List.getElem?_set_ne e];cases hj:ps[j]? with
  |none=>rw[Ve (by rw[ur];exact Vg.1 hj),Ve (by rw[ur];exact Vg.1 hj)]
  |some s=>
   rw[nB hj,nB hj];by_cases g:j < i
   ·rw[if_pos g,if_pos Zo]
   ·rw[if_neg g,if_neg Zo]
theorem W2 {mk:Nat->Nat->Value}{f:Nat}{ps:List pF}{i:Nat}{p:pF}(h:ps[i]? =some p):((IH mk f ps.length ps).drop i).flatMap IF=ai p.v (w8 (mk i) f p.rows.length p.rows).flatten p.sp++((IH mk f ps.length ps).drop (i+1)).flatMap IF:=by
 have hl:=(Vh.1 h).1;have hg:=nB (mk:=mk) (f:=f) (i:=ps.length) h;rw[if_pos hl]at hg;obtain⟨h1,h2⟩:=Vh.1 hg;rw[vh h1,h2];rfl
theorem yB.part {sz:Nat}{A:List kB}{v:Value}{n:Nat}{ms:List Value}(h:yB sz A v n ms){m:Nat}{u:Value}(hm:ms[m]? =some u)(hn:0 < n):∃b o c,v=.slice (some ⟨b,o,none⟩) n c/\kB.cell b (o+m) u∈A:=by
 rcases h with⟨_,h2,_⟩|⟨b,o,c,h1,h2,h3,h4⟩
 ·omega
 ·exact⟨b,o,c,h1,h4 _ (kH.2 ⟨m,u,hm,rfl⟩)⟩
section
variable {P:Program} {n:Nat}
def Holds(dst:Nat->Option Nat)(vv:Nat->Value×List kB)(done:List Nat)(Γ:Env):Prop:=∀i∈done,∀t,dst i=some t->look Γ t=some (vv i).1
def DL(Nf:Env)(ds:List Nat)(Γ:Env):Prop:=∀t v,look Nf t=some v->t∉ds->look Γ t=some v
theorem R5 {X:Nat->RO×Oper}{G:Nat->Value->List kB->Prop}{base:SH}{Nf:Env}{ds:List Nat}{an:Nat->List Nat}(li:List Nat)(hn:li.Nodup)(nP:∀i∈li,rp P n [(X i).1] [X i])
 (hds:∀i∈li,∀t,(X i).1.dst=some t->t∈ds) (S6:∀i∈li,∀j∈li,∀t,(X i).1.dst=some t->(X j).1.dst=some t->i=j)
 (hbef:∀l1 i l2,li=l1++i::l2->∀j∈an i,j∈l1)
 (step:∀i∈li,∀(vv:Nat->Value×List kB),(∀j∈an i,G j (vv j).1 (vv j).2)->∀Γ,Holds (fun j=>(X j).1.dst) vv (an i) Γ->DL Nf ds Γ->
   VO P n [(X i).1] Γ base (fun _ _ _=>False) (fun aw H'=>∃v B,aw=ak (X i).1.dst v Γ/\G i v B/\aj H' (B::base)))
 {F:List kB} {ZZ:Exit->Act->World->Prop} {Q:Act->World->Prop} {rest:List (RO×Oper)} {a0:Act} {w0:World}
 (hq:∀(vv:Nat->Value×List kB) a' w' aw,(∀i∈li,G i (vv i).1 (vv i).2)->Holds (fun j=>(X j).1.dst) vv li aw->DL Nf ds aw->jl n aw a'->a'.defers=a0.defers->Sat w' ((li.flatMap fun i=>(vv i).2)++(base.flatten++F))->ki w0 w'->eK P ZZ Q rest a' w'):
 ∀(l2 l1:List Nat),li=l1++l2->∀(vv:Nat->Value×List kB) Γ a w,(∀i∈l1,G i (vv i).1 (vv i).2)->Holds (fun j=>(X j).1.dst) vv l1 Γ->DL Nf ds Γ->jl n Γ a->a.defers=a0.defers->Sat w ((l1.flatMap fun i=>(vv i).2)++(base.flatten++F))->ki w0 w->eK P ZZ Q (l2.map X++rest) a w:=by
 intro l2
 induction l2 with
 |nil=>
  intro l1 hl vv Γ a w hg hh hk ha hd hs hkw;rw[vd]at hl;subst hl;exact hq vv a w Γ hg hh hk ha hd hs hkw
 |cons i l2 ih=>
  intro l1 hl vv Γ a w hg hh hk ha hd hs hkw;have hi:i∈li:=by rw[hl];simp
  have hb:=hbef l1 i l2 hl;have st:=step i hi vv (fun j hj=>hg j (hb j hj)) Γ (fun j hj=>hh j (hb j hj)) hk;have DD:Sat w (base.flatten++((l1.flatMap fun i=>(vv i).2)++F)):=hs.perm (by
   rw[<- vZ,<- vZ];exact QN.append_right F)
  have cf:i∉l1:=by
   rw[hl]at hn;intro h;exact(QK.1 hn).2.2 i h i Zs rfl
  refine st [X i] (nP i hi) a w ((l1.flatMap fun i=>(vv i).2)++F) ZZ (eK P ZZ Q (l2.map X++rest)) ha DD (fun a' w' aw H' ⟨v,B,k1,k2,k3⟩ g1 g2 g3 g4=>?_) (fun _ _ _ _ _ k=>k.elim);subst k1;have Tg:∀j∈l1,(if j=i then(v,B)else vv j)=vv j:=fun j hj=>if_neg (fun e:j=i=>cf (e ▸ hj))
  refine ih (l1++[i]) (by rw[hl];simp) (fun j=>if j=i then(v,B)else vv j) _ a' w' (fun j hj=>?_) (fun j hj t ht=>?_) (fun t u hu CN=>?_) g1 (g2.trans hd) ?_ (hkw.trans g4)
  ·rcases Q7.1 hj with h|h
   ·simp only[Tg j h];exact hg j h
   ·rw[QI.1 h];simp only[if_true];exact k2
  ·rcases Q7.1 hj with h|h
   ·have JR:j≠i:=fun e=>cf (e ▸ h)
    have hj2:j∈li:=by rw[hl];simp[h]
    simp only[Tg j h];cases ZQ:(X i).1.dst with
    |none=>exact hh j h t ht
    |some s=>
     have:s≠t:=fun e=>JR (S6 j hj2 i hi t ht (by rw[ZQ,e]))
     simp only[ak,look,if_neg this];exact hh j h t ht
   ·rw[QI.1 h]at ht|-;simp only[if_true];simp only[ht,ak,look,if_true]
  ·cases ZQ:(X i).1.dst with
   |none=>exact hk t u hu CN
   |some s=>
    have:s≠t:=fun e=>CN (e ▸ hds i hi s ZQ)
    simp only[ak,look,if_neg this];exact hk t u hu CN
  ·have g5:=g3.imp k3;have e:((l1++[i]).flatMap fun j=>(if j=i then(v,B)else vv j).2)=(l1.flatMap fun i=>(vv i).2)++B:=by
    rw[vx]
    congr 1
    ·rw[vz,vz]
     congr 1
     exact Q1 fun j hj=>by rw[Tg j hj]
    ·simp
   rw[e];refine g5.perm ?_;simp only[V6,vZ];have p1:(B++(base.flatten++((l1.flatMap fun i=>(vv i).2)++F))).Perm (B++((l1.flatMap fun i=>(vv i).2)++(base.flatten++F))):=by
    refine vU _ ?_;rw[<- vZ,<- vZ];exact QN.append_right F
   refine p1.trans ?_;rw[<- vZ,<- vZ (l1.flatMap _)];exact QN.append_right _
def tailB(an:List (List Nat))(k n:Nat):Bool:=(List.range n).all fun i=>decide (i < k)||(List.range i).all fun j=>(an.getD i []).contains j
def Og(rs:List RO)(k:Nat):Bool:=C9 ((rs.take k).filterMap fun r=>r.dst)
 where C9:List Nat->Bool
  |[]=>true
  |x::r=>!r.contains x&&C9 r
theorem Fh:∀{l:List Nat},Og.C9 l=true->l.Nodup:=by
 intro l
 induction l with
 |nil=>intro _;exact .nil
 |cons x r ih=>
  intro h;simp only[Og.C9,vF,vL,List.contains_eq_mem,decide_eq_false_iff_not]at h;exact QL.2 ⟨h.1,ih h.2⟩
theorem T9:∀{rs:List RO} {k:Nat},((rs.take k).filterMap fun r=>r.dst).Nodup->∀{i j t:Nat},i < k->j < k->i < rs.length->j < rs.length->(rs.getD i default).dst=some t->(rs.getD j default).dst=some t->i=j:=by
 intro rs
 induction rs with
 |nil=>intro k _ i j t _ _ hi;simp at hi
 |cons r rs ih=>
  intro k h i j t hi hj Z5 hlj h1 h2;cases k with
  |zero=>omega
  |succ k=>
   simp only[List.take_succ_cons,List.filterMap_cons]at h;have bM:∀{m:Nat},m < k->m < rs.length->(rs.getD m default).dst=some t->t∈(rs.take k).filterMap fun r=>r.dst:=fun {m} hm hlm hd=>by
    refine List.mem_filterMap.2 ⟨rs.getD m default,?_,hd⟩;rw[V8,Zg hlm,Qv];exact List.mem_take_iff_getElem.2 ⟨m,Zo,rfl⟩
   have eX:((rs.take k).filterMap fun r=>r.dst).Nodup:=by
    cases hr:r.dst with
    |none=>rw[hr]at h;exact h
    |some d=>rw[hr]at h;exact(QL.1 h).2
   cases i with
   |zero=>
    cases j with
    |zero=>rfl
    |succ j=>
     simp only[List.getD_cons_zero,List.getD_cons_succ]at h1 h2;rw[h1]at h;exact absurd (bM Zo (by simpa using hlj) h2) (QL.1 h).1
   |succ i=>
    cases j with
    |zero=>
     simp only[List.getD_cons_zero,List.getD_cons_succ]at h1 h2;rw[h2]at h;exact absurd (bM Zo (by simpa using Z5) h1) (QL.1 h).1
    |succ j=>
     simp only[List.getD_cons_succ]at h1 h2;rw[ih eX Zo Zo (by simpa using Z5) (by simpa using hlj) h1 h2]
theorem VC.free {Γ:Env}{base:SH}{Q:Exit->Env->SH->Prop}{rs:List RO}{an:List (List Nat)}{aP:List Nat}(k:Nat)(G:Nat->Value->List kB->Prop)(hk:k<=rs.length)(htail:tailB an k rs.length=true)(ZV:Og rs k=true)
 (step:∀i,i < k->∀(vv:Nat->Value×List kB),(∀j∈an.getD i [],G j (vv j).1 (vv j).2)->∀aw,Holds (fun j=>(rs.getD j default).dst) vv (an.getD i []) aw->DL Γ ((rs.take k).filterMap fun r=>r.dst) aw->
   VO P n [rs.getD i default] aw base (fun _ _ _=>False) (fun cr H'=>∃v B,cr=ak (rs.getD i default).dst v aw/\G i v B/\aj H' (B::base)))
 (fin:∀(vv:Nat->Value×List kB),(∀i,i < k->G i (vv i).1 (vv i).2)->∀aw,Holds (fun j=>(rs.getD j default).dst) vv (List.range k) aw->DL Γ ((rs.take k).filterMap fun r=>r.dst) aw->
   VO P n (rs.drop k) aw (((List.range k).map fun i=>(vv i).2)++base) (fun ch _ H'=>Q (.panic ch) [] H') (fun cr H'=>Q .normal (aJ aP cr) H')):VC P n (.free rs an aP) Γ base Q:=by
 intro ρ kp od code hl a w F QQ hr ha hs hh;obtain⟨id,ops,rfl,h1,hm,hb,rfl,rfl⟩:=jV hl;have hlen:=(ji h1).1;refine wpIn_region_draw (fun t=>?_);have oP:Region.schedule (P.follows .mixedOrders) ops t=jX ops ops.size t (Array.replicate ops.size false):=by simp[Region.schedule,hm,Region.linearise,jX]
 rw[oP];have hu:om ops (Array.replicate ops.size false)=List.range ops.size:=by
  exact zAW
 obtain⟨s1,s2,_⟩:=zc hb ops.size t (Array.replicate ops.size false) Zs (by rw[hu];simp);have JL:∀{x y:Nat},y < ops.size->x∈(gD ops).getD y []->Jk (jX ops ops.size t (Array.replicate ops.size false)) x y:=fun hy hx=>tT hb (Qj _) (il hx) hy
 generalize hl:jX ops ops.size t (Array.replicate ops.size false)=l at*;have bM:∀i,i∈l↔i < ops.size:=fun i=>by rw[s2,hu];simp
 have hX:∀i,i < ops.size->ops[i]? =some ((rs.zip ops.toList).getD i default).2/\((rs.zip ops.toList).getD i default).1=rs.getD i default/\dJ P n ops ((rs.zip ops.toList).getD i default).2=some ((rs.zip ops.toList).getD i default).1:=fun i hi=>wY h1 hi
 have hro:rs.length=ops.size:=by simpa using hlen
 have tI:∀i,k<=i->i < rs.length->∀j,j < i->j∈(gD ops).getD i []:=fun i hki hi j hj=>by
  have:=vX.1 htail i (QG.2 hi);simp only[vO,decide_eq_true_eq]at this;rcases this with h|h
  ·omega
  ·have:=vX.1 h j (QG.2 hj);exact vg.1 this
 have mf:l.filter (fun i=>decide (i < k))++List.range' k (rs.length - k)=l:=by
  refine sG ?_ s1 ?_
  ·refine(QP ?_ s1).2 (fun x=>?_)
   ·refine QK.2 ⟨s1.filter _,List.nodup_range',fun x hx y hy e=>?_⟩;have h1:=(QC.1 hx).2;have h2:=QH.1 hy;simp only[decide_eq_true_eq]at h1;omega
   ·simp only[Q7,QC,bM,QH,decide_eq_true_eq];omega
  ·refine List.pairwise_append.2 ⟨List.pairwise_iff_forall_sublist.2 fun h=>h.trans List.filter_sublist,?_,?_⟩
   ·refine(List.pairwise_lt_range' (s:=k) (n:=rs.length - k) (step:=1)).imp_of_mem ?_;intro x y hx hy GY;have h1:=QH.1 hx;have h2:=QH.1 hy;exact(JL Zo (tI y Zo Zo x GY)).sub
   ·intro x hx y hy;have h1:=(QC.1 hx).2;have h2:=QH.1 hy;simp only[decide_eq_true_eq]at h1;exact(JL Zo (tI y Zo Zo x Zo)).sub
 generalize Z5:l.filter (fun i=>decide (i < k))=li at mf;have CJ:∀i,i∈li↔i < k:=fun i=>by
  rw[<- Z5,QC,bM,decide_eq_true_eq];omega
 have hlin:li.Nodup:=Z5 ▸ s1.filter _;refine eM (P:=P) (ρ:=ρ) (n:=n) (ops:=ops) (X:=fun i=>(rs.zip ops.toList).getD i default) (QQ:=QQ) (fun i hi=>⟨(hX i hi).1,(hX i hi).2.2⟩) _ a _ (fun i hi=>(bM i).1 hi) ?_;rw[<- mf,Q0];have hXi:∀i,i < k->((rs.zip ops.toList).getD i default).1=rs.getD i default:=fun i hi=>(hX i Zo).2.1
 have CN:=Fh ZV;refine R5 (X:=fun i=>(rs.zip ops.toList).getD i default) (G:=G) (base:=base) (Nf:=Γ) (ds:=(rs.take k).filterMap fun r=>r.dst) (an:=fun i=>(gD ops).getD i []) li hlin (fun i hi=>?_) (fun i hi t ht=>?_) (fun i hi j hj t ht1 ht2=>?_) ?_ ?_ (F:=F) (a0:=a) (w0:={w with drawn:=w.drawn+1}) ?_ li [] rfl (fun _=>(undef,[])) Γ a _ (fun i hi=>by cases hi) (fun i hi=>by cases hi) (fun t v h _=>h) ha rfl (by simp only[List.flatMap_nil,QJ];exact hs.drawn _) (.refl _)
 ·have bO:=(CJ i).1 hi;exact⟨rfl,fun x hx=>by rw[QI.1 hx];exact⟨ops,(hX i Zo).2.2⟩⟩
 ·have bO:=(CJ i).1 hi;simp only[hXi i bO]at ht;refine List.mem_filterMap.2 ⟨rs.getD i default,?_,ht⟩;rw[V8,Zg Zo,Qv];exact List.mem_take_iff_getElem.2 ⟨i,Zo,rfl⟩
 ·have bO:=(CJ i).1 hi;have JQ:=(CJ j).1 hj;simp only[hXi i bO,hXi j JQ]at ht1 ht2;exact T9 CN bO JQ Zo Zo ht1 ht2
 ·intro l1 i l2 e j hj;have hi:i < k:=(CJ i).1 (by rw[e];simp);have sK:=JL Zo hj;rw[<- mf,e]at sK;have hnn:(l1++i::l2++List.range' k (rs.length - k)).Nodup:=by rw[<- e,mf];exact s1
  have Ey:=sK.2.2;rw[vZ,List.idxOf_append (l₁:=l1),List.idxOf_append (l₁:=l1)]at Ey;by_cases tC:j∈l1
  ·exact tC
  ·rw[if_neg tC]at Ey;have cf:i∉l1:=by
    rw[vZ]at hnn;intro h;exact(QK.1 hnn).2.2 i h i Zs rfl
   rw[if_neg cf]at Ey;rw[vf,List.idxOf_cons_self]at Ey;omega
 ·intro i hi vv hg aw hh iy;have bO:=(CJ i).1 hi;have e:=hXi i bO;show VO P n [((rs.zip ops.toList).getD i default).1] _ _ _ _;rw[e];have hanlt:∀j∈(gD ops).getD i [],j < k∨True:=fun _ _=>.inr trivial
  refine(step i bO vv hg aw (fun j hj t ht=>?_) iy);refine hh j hj t ?_;have hjm:j < ops.size:=(bM j).1 (JL Zo hj).1;show((rs.zip ops.toList).getD j default).1.dst=some t;rw[(hX j hjm).2.1];exact ht
 ·intro vv a' w' aw hg hhold iy Cv ON DD hkw;have hf:=fin vv (fun i hi=>hg i ((CJ i).2 hi)) aw (fun j hj t ht=>by
   have JQ:=QG.1 hj;refine hhold j ((CJ j).2 JQ) t ?_;show((rs.zip ops.toList).getD j default).1.dst=some t;rw[hXi j JQ];exact ht) iy
  have nP:rp P n (rs.drop k) ((List.range' k (rs.length - k)).map fun i=>(rs.zip ops.toList).getD i default):=by
   refine⟨?_,fun x hx=>?_⟩
   ·rw[Q5];apply vm;intro i;simp only[Vd,Vi];by_cases hi:i < rs.length - k
    ·rw[List.getElem?_range' hi];simp only[Qz,Function.comp];rw[(hX (k+1*i) Zo).2.1,Nat.one_mul,V8,Zg Zo,Qv]
    ·rw[Ve (by simpa using hi),Ve Zo];rfl
   ·obtain⟨i,hi,rfl⟩:=QE.1 hx;have:=QH.1 hi;exact⟨ops,(hX i Zo).2.2⟩
  have cg:(li.flatMap fun i=>(vv i).2).Perm ((List.range k).map fun i=>(vv i).2).flatten:=by
   rw[<- vz];refine List.Perm.flatMap_right _ ?_;refine(QP hlin QM).2 (fun x=>?_);rw[CJ,QG]
  have nT:Sat w' ((((List.range k).map fun i=>(vv i).2)++base).flatten++F):=DD.perm (by
   rw[V5,vZ];exact cg.append_right _)
  refine hf _ nP a' w' F QQ (QQ .normal) Cv nT (fun a2 w2 cr H2 q2 k1 k2 k3 k4=>?_) (fun ch a2 w2 cr H2 q2 k1 k2 k3 k4=>?_)
  ·exact hh _ a2 w2 _ H2 [] q2 ⟨k1.size,fun t v e=>k1.slots t v (nH _ _ t v e)⟩ (k2.trans ON) k3.bV (((ki.refl w).drawn _).trans (hkw.trans k4))
  ·exact hh _ a2 w2 [] H2 [] q2 ⟨k1.size,fun t v e=>by cases e⟩ (k2.trans ON) k3.bV (((ki.refl w).drawn _).trans (hkw.trans k4))
end
end Go.V

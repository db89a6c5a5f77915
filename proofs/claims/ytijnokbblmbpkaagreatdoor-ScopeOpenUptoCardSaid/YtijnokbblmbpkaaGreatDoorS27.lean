/-
  How deep a node is, by the document: brackets, and all together.
-/
import Derived.Test.YtijnokbblmbpkaaGreatDoorS26
import Derived.Test.YtijnokbblmbpkaaGreatDoorS6
import Derived.Test.YtijnokbblmbpkaaGreatDoorS9
import Derived.Test.YtijnokbblmbpkaaGreatDoorS25
import Derived.KernelRfl
import Derived.Test.YtijnokbblmbpkaaGreatDoorProg
import Derived.Test.YtijnokbblmbpkaaGreatDoorS13
import Derived.Test.YtijnokbblmbpkaaGreatDoorS12
import Derived.Test.YtijnokbblmbpkaaGreatDoorS24
set_option linter.all false
namespace Go.Proofs.YtijnokbblmbpkaaGreatDoor
open Go Go.V
set_option maxHeartbeats 1600000
set_option maxRecDepth 100000
theorem uV(A:List kC)(x:Nd)(vs:List Value)(h:jJ A x vs)(hf:jV x=true)(i:Nat)(y:Nd)(hy:x.kids[i]? =some y):aq Tryz.prog 153 [.agg vs.toArray,vi i] [A] (fun v Post=>v=.bool (tB x.kind (pA x.kind x.name x.kids) i y)/\Post=[A]):=by
 obtain⟨e1,e2,e3,e4,e5,e6,e7,e8,e9,tF,tG,tH,tI,a,cc,bk,o,us,lJ,bA,ha,hm,hr⟩:=OV h;have hl:=(Vm.1 hy).1;obtain rfl:=ha Zo;have bL:=hr i y hy;have cH:=hm i hl;obtain⟨XG,_⟩:=rR hf i y hy;have dQ:=fun e=>@oJ y XG (.inl e)
 generalize us i=uj at bL cH;obtain⟨f1,f2,f3,f4,f5,f6,f7,f8,f9,f10,f11,f12,f13,f14,f15,f16,f17,rfl,lq,hyk⟩:=dG bL;have NN:=Ff y.kind y.name lq dQ (cv f1) (vi f2) (uv f3) (.string f4) (.slice f5 f6 f7) (.slice f8 f9 f10) (.slice f11 f12 f13) (.slice f14 f15 f16) (vi f17);have HX:ew y.kind y.name=jz y:=rfl;rw[HX]at NN;have CR:=Kn A x vs h hf i;unfold tB;rw[lJ]at CR|-;generalize fL x.kind (pA x.kind x.name x.kids) i=ak at CR|-;generalize jz y=lv at NN|-;refine aq.intro aax (by simp[n153]) ?_;refine jD ?_;refine kY Zr (fun q=>?_);simp only[Value.cells];refine jD ?_;refine kX Zr (fun z hz=>QB _ (Zw _ (cH z hz))) rfl ?_;refine jD ?_;refine kN (fun q6=>?_);refine jD ?_;refine VC.join (α:=Unit) (fun _=>[(1,vi i),(2,kF q),(5,kF q6)]) (fun _=>[A,kA q 0 (rA x.kind x.name e1 e2 e3 e4 e5 e6 e7 e8 e9 tF tG tH tI (some ⟨bk,o,none⟩) x.kids.length cc x.at_),kA q6 0 (rA y.kind y.name f1 f2 f3 f4 f5 f6 f7 f8 f9 f10 f11 f12 f13 f14 f15 f16 f17)]) (fun _=>y.kind≠6/\y.kind≠9) ?_ ?_
 ·refine ae ?_;by_cases k6:y.kind=6
  ·skip
   rw[show decide ((y.kind:Int)=6)=true from Zt Zo];refine ae ?_;exact kG (Post:=[A]) (.inr rfl) (.tmp Zr .nil) ⟨by simp[bJ,k6],rfl⟩ ZI
  rw[show decide ((y.kind:Int)=6)=false from Zf Zo];refine ae ?_;by_cases k9:y.kind=9
  ·skip
   rw[show decide ((y.kind:Int)=9)=true from Zt Zo];refine ae ?_;exact kG (Post:=[A]) (.inr rfl) (.tmp Zr .nil) ⟨by simp[bJ,k9],rfl⟩ ZI
  rw[show decide ((y.kind:Int)=9)=false from Zf Zo];refine ae ?_;exact⟨(),⟨k6,k9⟩,ZU,ZI⟩
 rintro⟨⟩ ⟨k6,k9⟩
 refine ae ?_;refine VC.Cg (α:=Unit) (fun _=>[(4,.bool (decide (lv < ak)))]) (fun _=>[A]) (fun _=>True) ⟨?_,?_,trivial⟩ ?_;rotate_left 2
 ·rintro⟨⟩ _
  refine ae ?_;exact kG (Post:=[A]) (.inr rfl) (.tmp Zr .nil) ⟨by simp[bJ,k6,k9],rfl⟩ ZI
 all_goals
  refine ae ?_;refine kK NN Zr ?_;refine ae ?_;refine kJ CR Zr ZP (fun v Post hv=>?_);obtain⟨rfl,rfl⟩:=hv;simp only[aH];refine ae ?_;refine⟨(),trivial,?_,ZI⟩;rw[show decide ((lv:Int) < (ak:Int))=decide (lv < ak)from decide_eq_decide.2 ⟨fun h=>by omega,fun h=>by omega⟩];exact tX
theorem xd {x:Nd}(h:jV x=true):jm x<=2*x.w:=by
 have h1:=Bt _ x (Qh _);rw[h]at h1;exact Fw _ x (Qh _) (jm x) (jd x) h1
theorem Kf(A:List kC):∀(N:Nat) (x:Nd),x.w<=N->x.w<=274877906944->jV x=true->∀vs,jJ A x vs->aq Tryz.prog 89 [.agg vs.toArray] [A] (fun v Post=>v=vi (jm x)/\Post=[A]):=by
 intro N
 induction N with
 |zero=>intro x hx;have:=x.mN;omega
 |succ N ih=>
  intro x hx hb hf vs h;have HS:=xd hf;have Tl:=fun i y hy=>uV A x vs h hf i y hy
  have bh:=rR hf;cases h with
  |@mk k s lit args ab kids p lv av tv a c bk o us wf hl bK bG ha hm hr rU=>
  simp only[Nd.kind,Nd.name,Nd.kids]at Tl bh;simp only[jm]at HS|-;simp only[Nd.w]at hx hb HS;have bA:=wf.many;have lp:=wf.kind;have oL:=Am A _ lit (Qh _) Zo lv hl;cases hl with
  |@mk lk ln lb lt items la lc Lj lo Lk MD MA MB MC=>
  obtain⟨aa,ac,rfl,sQ,dQ⟩:=bK;obtain⟨ta,tc,rfl,ue,JL⟩:=bG;generalize hS:pA k s kids=S at Tl HS|-;generalize z9 (.mk lk ln lb lt items)=ld at oL HS|-;generalize hT:max ld (js k S 0 kids)=T at HS|-;have hd01:(if k=7∨k=8 then 1 else 0)<=1:=by split <;> omega
  simp only[aH]at Tl|-;refine aq.intro low89 (by simp[n89]) ?_;refine jD ?_;refine kY Zr (fun q=>?_);simp only[Value.cells];refine jD ?_;refine kJ oL Zr ZP (fun v Post hv=>?_);obtain⟨rfl,rfl⟩:=hv;simp only[aH];refine jD ?_;refine VC.join (α:=Unit) (fun _=>[(1,kF q),(3,vi T)]) (fun _=>[A,kA q 0 (rA k s lk ln lb lt la items.length lc aa args.length ac ta ab.length tc a kids.length c p)]) (fun _=>True) ?_ ?_
  ·refine ae ?_;refine VC.loop (α:=Nat×Nat) (bn:=fun z=>[(1,kF q),(3,vi z.2),(4,vi z.1)]) (Hf:=fun _=>[A,kA q 0 (rA k s lk ln lb lt la items.length lc aa args.length ac ta ab.length tc a kids.length c p)])
    (I:=fun z=>z.1<=kids.length/\max z.2 (js k S z.1 (kids.drop z.1))=T) (μ:=fun z=>kids.length - z.1) (0,ld) ⟨Qp _,hT⟩ ZU ZI ?_
   rintro⟨j,M⟩ ⟨i1,i2⟩
   simp only at i1 i2;dsimp only;refine ae ?_;by_cases hj:j < kids.length;rotate_left
   ·rw[vq Zo]at i2;simp only[js,Nat.max_zero]at i2;subst i2;rw[show decide ((j:Int) < (kids.length:Int))=false from Zf Zo];exact W8
   rw[show decide ((j:Int) < (kids.length:Int))=true from Zt Zo];obtain rfl:=ha Zo;obtain⟨y,hy⟩:∃y,kids[j]? =some y:=⟨_,Zg hj⟩;have bL:=hr j y hy;have cH:=hm j hj;have fH:=bL.len;have hzw:y.w<=Nd.ws kids:=Nd.cq (Zv hy);have XG:=(bh j y hy).1;have aE:=ih y Zo Zo XG _ bL;have hbr:=Tl j y hy;have δ:=xd XG;have EX:kids.drop j=y::kids.drop (j+1):=by
    exact zD8
   rw[EX]at i2;simp only[js]at i2;generalize us j=uj at bL cH aE fH;generalize jm y=d at aE δ i2;generalize tB k S j y=br at hbr i2;refine ae ?_;refine kX Zr Cv fH ?_;refine ae ?_;refine kJ aE Zr ZP (fun v Post hv=>?_);obtain⟨rfl,rfl⟩:=hv;simp only[aH];refine ae ?_;refine kJ hbr Zr ZP (fun v Post hv=>?_);obtain⟨rfl,rfl⟩:=hv;simp only[aH];cases br with
   |true=>
    simp only[if_true]at i2;refine ae ?_;by_cases hd:M < d+1
    ·skip
     rw[show decide ((d:Int)+1 > (M:Int))=true from Zt Zo];refine ae ?_;exact⟨(j+1,d+1),⟨by simp only;omega,by simp only;omega⟩,by simp only;omega,ZU,ZI⟩
    ·skip
     rw[show decide ((d:Int)+1 > (M:Int))=false from Zf Zo];exact zE5
   |false=>
    simp only[vK,if_false]at i2;refine ae ?_;by_cases hd:M < d
    ·skip
     rw[show decide ((d:Int) > (M:Int))=true from Zt Zo];refine ae ?_;exact⟨(j+1,d),⟨by simp only;omega,by simp only;omega⟩,by simp only;omega,ZU,ZI⟩
    ·skip
     rw[show decide ((d:Int) > (M:Int))=false from Zf Zo];exact zE5
  rintro⟨⟩ _
  refine ae ?_;by_cases k7:k=7
  ·skip
   rw[show decide ((k:Int)=7)=true from Zt Zo];refine ae ?_;exact kG (Post:=[A]) (.inr rfl) (.tmp Zr .nil) ⟨by simp[bJ,k7],rfl⟩ ZI
  rw[show decide ((k:Int)=7)=false from Zf Zo];refine ae ?_;by_cases k8:k=8
  ·skip
   rw[show decide ((k:Int)=8)=true from Zt Zo];refine ae ?_;exact kG (Post:=[A]) (.inr rfl) (.tmp Zr .nil) ⟨by simp[bJ,k8],rfl⟩ ZI
  rw[show decide ((k:Int)=8)=false from Zf Zo];refine ae ?_;exact kG (Post:=[A]) (.inr rfl) (.tmp Zr .nil) ⟨by simp[bJ,k7,k8],rfl⟩ ZI
theorem tJ(k:Nat)(s:ByteArray)(lp:k < 256)(c2 c3 c4 c5 c6 c7 c8 c9 re:Value):aq Tryz.prog 150 [.agg #[cv k,.string s,c2,c3,c4,c5,c6,c7,c8,c9,re]] [] (fun v Post=>v=.bool (!z8 k s&&decide (k≠9/\k≠6))/\Post=[]):=by
 refine aq.intro aau (by simp[n150]) ?_;have G9:=tu k s c2 c3 c4 c5 c6 c7 c8 c9 re;generalize z8 k s=su at G9|-;refine ae ?_;refine kY Zr (fun q=>?_);simp only[Value.cells];refine ae ?_;by_cases k6:k=6
 ·skip
  rw[show decide ((k:Int)=6)=true from Zt Zo];refine ae ?_;exact kG (Post:=[]) (.inr rfl) (.tmp Zr .nil) ⟨by simp[bJ,k6],rfl⟩ ZI
 rw[show decide ((k:Int)=6)=false from Zf Zo];refine ae ?_;by_cases k9:k=9
 ·skip
  rw[show decide ((k:Int)=9)=true from Zt Zo];refine ae ?_;exact kG (Post:=[]) (.inr rfl) (.tmp Zr .nil) ⟨by simp[bJ,k9],rfl⟩ ZI
 rw[show decide ((k:Int)=9)=false from Zf Zo];refine ae ?_;refine kK G9 Zr ?_;refine ae ?_;exact kG (Post:=[]) (.inr rfl) (.tmp Zr .nil) ⟨by simp[bJ,k6,k9],rfl⟩ ZI
end Go.Proofs.YtijnokbblmbpkaaGreatDoor
namespace Go.V
open Go
theorem L8(l:List Nd):jb (we l (l.map kO))=cR (ke 7 l.length 0 l) (mx jm l) (l.any jd):=by
 have hk:∀y∈l,kO y=cR (jV y) (jm y) (jd y):=fun y _=>Bt _ y (Qh _)
 have l1:∀x:Nd,(if jz x < 1 then 1 else 0)=0:=fun x=>if_neg (by have:=oN x;omega)
 rcases(Classical.em (l=[])).imp_right XM with rfl|⟨l,x,rfl⟩
 ·rfl
 ·have hl:jb (l.map fun x=>jY x 1 (kO x))=cR (l.all fun x=>jV x&&zt x) (mx jm l) (l.any jd):=Dm fun x hx=>by rw[hk x (by simp[hx]),ik,l1];rfl
  have fG:ke 7 (l++[x]).length 0 l=l.all fun x=>jV x&&zt x:=eW fun j y hy=>gV Zo Zo (by
   have:=(Vm.1 hy).1;rw[Vt,Q3];omega)
  have hx1:(if x.kind=9 then kO x else jY x 1 (kO x))=cR (jV x&&gz 7 (l++[x]).length (0+l.length) x) (jm x) (jd x):=by
   exact zB3
  rw[tq,sY,hl,eD,hx1,show jb []=some (0,false)from rfl,uU,pC];rw[n6,fG];have Mv:∀l:List Nd,mx jm (l++[x])=max (mx jm l) (jm x):=by
   intro l
   induction l with
   |nil=>simp[mx]
   |cons y l ih=>simp only[vj,mx,ih];omega
  rw[Mv];refine lO (by simp[ke]) fun _=>⟨rfl,Zs⟩
theorem abI {α:Type}{f:α->Nat}{K:Nat}:∀l:List α,decide (K < mx f l)=l.any fun x=>decide (K < f x):=by
 intro l
 induction l with
 |nil=>simp[mx]
 |cons x l ih=>
  rw[vd,<- ih,vI,vP,decide_eq_true_eq,decide_eq_true_eq];simp only[decide_eq_true_eq];show K < max (f x) (mx f l)↔K < f x∨K < mx f l;rcases Nat.le_total (f x) (mx f l)with h|h
  ·rw[Nat.max_eq_right h];omega
  ·rw[Nat.max_eq_left h];omega
end Go.V
namespace Go.Proofs.YtijnokbblmbpkaaGreatDoor
open Go Go.V
set_option maxRecDepth 100000
noncomputable def F87:aQ:=bb (o:=gF pq Tryz.f87 [])
theorem n87:F87.n=44:=rfl
theorem low87:aZ Tryz.prog 87 []=some F87:=by kernel_rfl
noncomputable def F34:aQ:=bb (o:=gF pq Tryz.f34 [])
theorem n34:F34.n=88:=rfl
theorem low34:aZ Tryz.prog 34 []=some F34:=by kernel_rfl
set_option maxHeartbeats 1600000
theorem kidB7(m i:Nat)(y:Nd):gz 7 m i y=((decide (y.kind=9)&&decide (i+1=m))||zt y):=by
 unfold gz zt;by_cases a:y.kind=9
 ·have:jQ y=false:=by rw[vH];intro h;have:=fB h;omega
  by_cases b:i+1=m <;> simp[a,b,this]
 ·by_cases b:y.kind=6 <;> cases jQ y <;> simp[a,b]
theorem Kq(A:List kC)(hE:mQ A)(l:List Nd)(hw:Nd.ws l<=274877906944)(a:Option Addr)(c bk o:Nat)(us:Nat->List Value)(hk:oq A l a bk o us):aq Tryz.prog 87 [.slice a l.length c] [A] (fun v Post=>v=.bool (ke 7 l.length 0 l)/\Post=[A]):=by
 obtain⟨ha,bA,hm,hr⟩:=hk;refine aq.intro low87 (by simp[n87]) ?_;refine ae ?_;refine VC.loop (α:=Nat) (bn:=fun j=>[(0,.slice a l.length c),(3,vi j)]) (Hf:=fun _=>[A]) (I:=fun j=>j<=l.length/\ke 7 l.length 0 l=ke 7 l.length j (l.drop j)) (μ:=fun j=>l.length - j) 0 ⟨Qp _,rfl⟩ ZU ZI ?_
 rintro j ⟨i1,i2⟩
 refine ae ?_;by_cases hj:j < l.length;rotate_left
 ·rw[vq Zo]at i2;rw[show decide ((j:Int) < (l.length:Int))=false from Zf Zo];exact zC2
 rw[show decide ((j:Int) < (l.length:Int))=true from Zt Zo];obtain rfl:=ha Zo;obtain⟨y,hy⟩:∃y,l[j]? =some y:=⟨_,Zg hj⟩;have bL:=hr j y hy;have cH:=hm j hj;have fH:=bL.len;have hzw:y.w<=Nd.ws l:=Nd.cq (Zv hy);have aE:=D7 A hE _ y (Qh _) Zo _ bL;have EX:l.drop j=y::l.drop (j+1):=by
  exact zD8
 rw[EX]at i2;simp only[ke,kidB7]at i2;generalize us j=uj at bL cH aE fH;obtain⟨c2,c3,c4,c5,c6,c7,c8,c9,re,rfl,eu,lp⟩:=p8 bL;have Ze:=tJ y.kind y.name lp c2 c3 c4 c5 c6 c7 c8 c9 re;have Tu:(!z8 y.kind y.name&&decide (y.kind≠9/\y.kind≠6))=zt y:=rfl;rw[Tu]at Ze;have hkc:kC.cell bk (o+j*11) (cv y.kind)∈A:=cH _ (kI.2 ⟨0,_,rfl,rfl⟩);generalize zt y=kp at Ze i2;generalize jV y=f at aE i2;have go:(f&&((decide (y.kind=9)&&decide (j+1=l.length))||kp))=true->(j+1<=l.length/\ke 7 l.length 0 l=ke 7 l.length (j+1) (l.drop (j+1))):=fun h=>⟨Zo,by rw[i2,h,vS]⟩
 have bad:(f&&((decide (y.kind=9)&&decide (j+1=l.length))||kp))=false->ke 7 l.length 0 l=false:=fun h=>by rw[i2,h];rfl
 clear i2;refine ae ?_;refine kX Zr Cv fH ?_;refine ae ?_;refine kJ aE Zr ZP (fun v Post hv=>?_);obtain⟨rfl,rfl⟩:=hv;simp only[aH];refine ae ?_;refine VO.bool 29 (decide (y.kind=9)&&decide (j+1=l.length)) Zr ?_ ?_
 ·by_cases k9:y.kind=9
  ·skip
   rw[show decide ((y.kind:Int)=9)=true from Zt Zo];refine ae ?_;refine⟨?_,ZU,ZI⟩;rw[show decide ((j:Int)=(l.length:Int) - 1)=decide (j+1=l.length)from decide_eq_decide.2 ⟨fun h=>by omega,fun h=>by omega⟩];simp[k9]
  ·skip
   exact zEM
 generalize (decide (y.kind=9)&&decide (j+1=l.length))=ret at go bad|-;cases f with
 |false=>
  refine ae ?_;exact kG (Post:=[A]) (.inr rfl) (.tmp Zr .nil) ⟨by rw[bad rfl];rfl,rfl⟩ ZI
 |true=>
  cases ret with
  |true=>
   refine ae ?_;exact⟨j+1,go Zs,Zo,ZU,ZI⟩
  |false=>
   refine ae ?_;refine kX Zr Cv fH ?_;refine ae ?_;refine kK Ze Zr ?_;cases kp with
   |true=>
    refine ae ?_;exact⟨j+1,go Zs,Zo,ZU,ZI⟩
   |false=>
    refine ae ?_;exact kG (Post:=[A]) (.inr rfl) (.tmp Zr .nil) ⟨by rw[bad Zs];rfl,rfl⟩ ZI
theorem Hr(x:Md):wK x=if(decide (kR x.aP=x.args.length/\0<=x.az/\x.az<=255)&&(x.args.all jO&&(x.ab.all jO&&ke 7 x.body.length 0 x.body)))=false then 150 else if(decide (15 < x.args.length)||(decide (63 < x.ab.length)||x.body.any jd))=true then 151 else if(x.body.any fun y=>decide (40 < jm y))=true then 152 else 0:=by
 unfold wK dc wk;rw[L8,ez,ji,ez,ji,ji,<- abI];generalize (decide (kR x.aP=x.args.length/\0<=x.az/\x.az<=255)&&(x.args.all jO&&(x.ab.all jO&&ke 7 x.body.length 0 x.body)))=b1;generalize (decide (15 < x.args.length)||(decide (63 < x.ab.length)||x.body.any jd))=b2;cases b1 with
 |false=>rfl
 |true=>
  simp only[cR,if_true,Nj];cases b2 <;> simp
theorem EO {k m:Nat}:∀{l:List Nd} {i:Nat},ke k m i l=true->∀y∈l,jV y=true:=fun {l i} h y hy=>HK h y hy
theorem D6(A:List kC)(hE:mQ A)(x:Md)(hw:Nd.ws x.body<=274877906944)(vs:List Value)(h:Ki A x vs):aq Tryz.prog 34 [.agg vs.toArray] [A] (fun v Post=>v=vi (wK x)/\Post=[A]):=by
 rw[Hr];obtain⟨⟨aa,ac,ta,tc,a,c,bk,o,us,rfl,bK,bG,hk⟩,bW,pL⟩:=h;have dQ:=fK x.aP bW;have sQ:=rC x.aP bW;have Sq:=iB A _ x.args bK;have Zn:=iB A _ x.ab bG;have xu:=Kq A hE x.body hw a c bk o us hk;have CV:=@EO 7 x.body.length x.body 0;have hla:x.args.length<=1099511627776:=by obtain⟨_,_,_,h,_⟩:=bK;exact h
 have aO:x.ab.length<=1099511627776:=by obtain⟨_,_,_,h,_⟩:=bG;exact h
 obtain⟨ha,bA,hm,hr⟩:=hk;obtain⟨az,hpr⟩:∃p,x.az=p:=⟨_,rfl⟩;rw[hpr]at pL|-;generalize kR x.aP=ar at dQ sQ|-;generalize x.args.all jO=fa at Sq|-;generalize x.ab.all jO=ft at Zn|-;generalize ke 7 x.body.length 0 x.body=fb at xu CV|-;refine aq.intro low34 (by simp[n34]) ?_;refine jD ?_;refine kY Zr (fun q=>?_);simp only[Value.cells];refine jD ?_;refine kK dQ Zr ?_;refine jD ?_;refine kJ Sq Zr ZP (fun v Post hv=>?_);obtain⟨rfl,rfl⟩:=hv;simp only[aH];refine VO.bool 19 (fa&&ft) Zr ?_ ?_
 ·cases fa with
  |false=>
   refine ae ?_;exact⟨Zs,ZU,ZI⟩
  |true=>
   refine ae ?_;refine kJ Zn Zr ZP (fun v Post hv=>?_);obtain⟨rfl,rfl⟩:=hv;simp only[aH];refine ae ?_;exact⟨Zs,ZU,ZI⟩
 refine jD ?_;refine kJ xu Zr ZP (fun v Post hv=>?_);obtain⟨rfl,rfl⟩:=hv;simp only[aH];refine jD ?_;generalize K5:(fa&&ft)=nm;have hgood:(decide (ar=x.args.length/\0<=az/\az<=255)&&(fa&&(ft&&fb)))=(decide (ar=x.args.length/\0<=az/\az<=255)&&(nm&&fb)):=by rw[<- K5,Bool.and_assoc]
 rw[hgood];refine VC.join (α:=Unit) (fun _=>[(1,kF q)]) (fun _=>[A,kA q 0 [.string x.aP,.slice aa x.args.length ac,.slice ta x.ab.length tc,vi az,.slice a x.body.length c]]) (fun _=>(decide (ar=x.args.length/\0<=az/\az<=255)&&(nm&&fb))=true) ?_ ?_
 ·refine ae ?_;have stop:∀b:Bool,b=false->(if b=false then 150 else if(decide (15 < x.args.length)||(decide (63 < x.ab.length)||x.body.any jd))=true then 151 else if(x.body.any fun y=>decide (40 < jm y))=true then 152 else 0)=150:=fun b h=>if_pos h
  by_cases h1:ar < 0
  ·skip
   rw[show decide (ar < 0)=true from Zt Zo];exact zBG
  rw[show decide (ar < 0)=false from Zf Zo];refine ae ?_;by_cases h2:ar=x.args.length;rotate_left
  ·skip
   rw[show decide (ar=(x.args.length:Int))=false from Zf Zo];exact zBG
  rw[show decide (ar=(x.args.length:Int))=true from Zt Zo];refine ae ?_;cases nm with
  |false=>
   exact zEL
  |true=>
   refine ae ?_;by_cases h3:az < 0
   ·skip
    rw[show decide (az < 0)=true from Zt Zo];exact zBG
   rw[show decide (az < 0)=false from Zf Zo];refine ae ?_;by_cases h4:az > 255
   ·skip
    rw[show decide (az > 255)=true from Zt Zo];exact zBG
   rw[show decide (az > 255)=false from Zf Zo];refine ae ?_;cases fb with
   |false=>
    exact zEL
   |true=>
    refine ae ?_;exact⟨(),by rw[Zt Zo];rfl,ZU,ZI⟩
 rintro⟨⟩ aM
 rw[aM];have hfb:fb=true:=by
  simp only[vF]at aM;exact aM.2.2
 have CV:=CV hfb;rw[if_neg Zs];refine ae ?_;refine VO.bool 59 (decide (15 < x.args.length)||decide (63 < x.ab.length)) Zr ?_ ?_
 ·by_cases h1:15 < x.args.length
  ·skip
   rw[show decide ((x.args.length:Int) > 15)=true from Zt Zo];refine ae ?_;exact⟨by simp[h1],ZU,ZI⟩
  ·skip
   rw[show decide ((x.args.length:Int) > 15)=false from Zf Zo];refine ae ?_;refine⟨?_,ZU,ZI⟩;rw[show decide ((x.ab.length:Int) > 63)=decide (63 < x.ab.length)from decide_eq_decide.2 ⟨fun h=>by omega,fun h=>by omega⟩];simp[h1]
 rw[<- vO];generalize (decide (15 < x.args.length)||decide (63 < x.ab.length))=m0;refine jD ?_;refine VC.join (α:=Unit) (fun _=>[(6,.bool (m0||x.body.any jd)),(7,.bool (x.body.any fun y=>decide (40 < jm y)))]) (fun _=>[A]) (fun _=>True) ?_ ?_
 ·refine ae ?_;refine VC.loop (α:=Nat) (bn:=fun j=>[(1,kF q),(6,.bool (m0||(x.body.take j).any jd)),(7,.bool ((x.body.take j).any fun y=>decide (40 < jm y))),(8,vi j)]) (Hf:=fun _=>[A,kA q 0 [.string x.aP,.slice aa x.args.length ac,.slice ta x.ab.length tc,vi az,.slice a x.body.length c]]) (I:=fun j=>j<=x.body.length) (μ:=fun j=>x.body.length - j) 0 (Qp _) (by simp only[Qa,List.any_nil,vR];exact tX) ZI ?_
  rintro j i1
  by_cases hj:j < x.body.length;rotate_left
  ·rw[QZ Zo];generalize (x.body.any fun y=>decide (40 < jm y))=d1;generalize (m0||x.body.any jd)=m1;refine ae ?_;rw[show decide ((j:Int) < (x.body.length:Int))=false from Zf Zo];exact W8
  obtain rfl:=ha Zo;obtain⟨y,hy⟩:∃y,x.body[j]? =some y:=⟨_,Zg hj⟩;have bL:=hr j y hy;have cH:=hm j hj;have fH:=bL.len;have hzw:y.w<=Nd.ws x.body:=Nd.cq (Zv hy);have hcm:=Kh A _ y (Qh _) _ bL;have XG:=CV y (Zv hy);have NE:=Kf A _ y (Qh _) Zo XG _ bL;have HS:=xd XG;have T9:(x.body.take (j+1)).any jd=((x.body.take j).any jd||jd y):=by rw[QX,hy];simp
  have htd:((x.body.take (j+1)).any fun y=>decide (40 < jm y))=((x.body.take j).any (fun y=>decide (40 < jm y))||decide (40 < jm y)):=by rw[QX,hy];simp
  generalize us j=uj at bL cH hcm NE fH;have K5:(m0||(x.body.take (j+1)).any jd)=((m0||(x.body.take j).any jd)||jd y):=by rw[T9,vO]
  generalize (m0||(x.body.take j).any jd)=mj at K5|-;generalize ((x.body.take j).any fun y=>decide (40 < jm y))=dj at htd|-;generalize jd y=my at hcm K5;generalize jm y=dy at NE HS htd;refine ae ?_;rw[show decide ((j:Int) < (x.body.length:Int))=true from Zt Zo];refine ae ?_;refine VO.bool 75 (mj||my) Zr ?_ ?_
  ·cases mj with
   |true=>
    refine ae ?_;exact⟨Zs,ZU,ZI⟩
   |false=>
    refine ae ?_;refine kX Zr Cv fH ?_;refine ae ?_;refine kJ hcm Zr ZP (fun v Post hv=>?_);obtain⟨rfl,rfl⟩:=hv;simp only[aH];refine ae ?_;exact⟨Zs,ZU,ZI⟩
  refine ae ?_;refine VO.bool 85 (dj||decide (40 < dy)) Zr ?_ ?_
  ·cases dj with
   |true=>
    refine ae ?_;exact⟨Zs,ZU,ZI⟩
   |false=>
    refine ae ?_;refine kX Zr Cv fH ?_;refine ae ?_;refine kJ NE Zr ZP (fun v Post hv=>?_);obtain⟨rfl,rfl⟩:=hv;simp only[aH];refine ae ?_;refine⟨?_,ZU,ZI⟩;rw[show decide ((dy:Int) > 40)=decide (40 < dy)from decide_eq_decide.2 ⟨fun h=>by omega,fun h=>by omega⟩];simp
  refine ae ?_;refine⟨j+1,Zo,Zo,?_,ZI⟩;rw[K5,htd];exact tX
 rintro⟨⟩ _
 generalize (x.body.any fun y=>decide (40 < jm y))=d1;generalize (m0||x.body.any jd)=m1;cases m1 with
 |true=>
  exact Se
 |false=>
  cases d1 with
  |true=>
   exact Se
  |false=>
   exact Se
end Go.Proofs.YtijnokbblmbpkaaGreatDoor
namespace Go.V
open Go
theorem Nt(args ab:List ByteArray)(kids:List Nd):lV [] [] (.mk 7 e0 fP args ab kids 0)=wJ ([]++args++ab) [] kids:=by
 rw[lV,if_pos rfl,if_neg (fun h=>by have:=h.1;omega)]
def JX(e:Nat)(all:Bool):Bool:=if e=0∨e=183 then all else if e=181 then !all else decide (e=180∨e=182)
theorem P4(F G args ab:List ByteArray)(kids:List Nd)(hk:∀y∈kids,kO y≠none):JX (mC F G args ab kids).answer.2.1 ((wJ ([]++args++ab) [] kids).all (kn F G))=true:=by
 have h:=Cb F G args ab kids hk;generalize wJ ([]++args++ab) [] kids=bH at h|-;generalize mC F G args ab kids=st at h|-;cases hf:st.f with
 |none=>
  have ha:bH.all (kn F G)=true:=vZ.2 fun s hs=>by
   rcases h.ok hf s hs with k|k
   ·cases k
   ·exact k
  have he:st.answer.2.1=0∨st.answer.2.1=183:=by
   unfold ah.answer;rw[hf];simp only
   repeat' split
   ·exact .inr rfl
   ·exact .inr rfl
   ·exact .inl rfl
  unfold JX;rw[if_pos he,ha]
 |some f=>
  obtain⟨e,p⟩:=f;rw[Ej hf];have hw:=h.err e p hf;unfold JX;unfold errW at hw;simp only;rw[if_neg Zo];by_cases c:e=181
  ·rw[if_pos c];subst c;obtain⟨s,hs,hk'⟩:=h.bad p hf;rw[vM,List.all_eq_false];exact⟨s,hs,by rw[hk'];simp⟩
  ·rw[if_neg c,decide_eq_true_eq];omega
theorem Kk {α:Type}{p:α->Bool}{l:List α}{i:Nat}{x:α}(h:l[i]? =some x):(l.take (i+1)).all p=((l.take i).all p&&p x):=by
 rw[QX,h];simp
end Go.V
namespace Go.Proofs.YtijnokbblmbpkaaGreatDoor
open Go Go.V
set_option maxRecDepth 100000
noncomputable def F41:aQ:=bb (o:=gF pq Tryz.f41 [])
theorem n41:F41.n=18:=rfl
theorem low41:aZ Tryz.prog 41 []=some F41:=by kernel_rfl
noncomputable def F9:aQ:=bb (o:=gF pq Tryz.f9 [])
theorem n9:F9.n=90:=rfl
theorem low9:aZ Tryz.prog 9 []=some F9:=by kernel_rfl
set_option maxHeartbeats 12800000
theorem ET(A:List kC)(l:List ByteArray)(lv:Value)(h:eg A lv l)(nm:ByteArray):aq Tryz.prog 41 [lv,.string nm] [A] (fun v Post=>v=.bool (l.any fun s=>decide (s=nm))/\Post=[A]):=by
 obtain⟨a,c,rfl,hl,hr⟩:=h;refine aq.intro low41 (by simp[n41]) ?_;refine ae ?_;refine VC.loop (α:=Nat) (bn:=fun j=>[(0,.slice a l.length c),(1,.string nm),(5,vi j)]) (Hf:=fun _=>[A]) (I:=fun j=>j<=l.length/\(l.take j).any (fun s=>decide (s=nm))=false) (μ:=fun j=>l.length - j) 0 ⟨Qp _,Zr⟩ ZU ZI ?_
 rintro j ⟨hj,hn⟩
 refine ae ?_;by_cases aO:j < l.length;rotate_left
 ·rw[show decide ((j:Int) < (l.length:Int))=false from Zf Zo];rw[QZ Zo]at hn;refine ae ?_;exact kG (Post:=[A]) (.inr rfl) (.tmp Zr .nil) ⟨by rw[hn];rfl,rfl⟩ ZI
 rw[show decide ((j:Int) < (l.length:Int))=true from Zt Zo];obtain⟨s,hs⟩:∃s,l[j]? =some s:=⟨_,Zg aO⟩;obtain⟨b,o,rfl,eX,XC⟩:=hr j s hs;have dz:=ER hs nm;rw[hn,vL]at dz;refine ae ?_;by_cases e:s=nm
 ·rw[Zt e];refine ae ?_;refine kG (Post:=[A]) (.inr rfl) (.tmp Zr .nil) ⟨?_,rfl⟩ ZI;have:l.any (fun s=>decide (s=nm))=true:=ve.2 ⟨s,Zv hs,Zt e⟩;rw[this];rfl
 ·rw[Zf e]at dz|-;refine ae ?_;exact⟨j+1,⟨Zo,dz⟩,Zo,ZU,ZI⟩
theorem Yz {A:List kC}{x:Md}{aa:Option Addr}{ac:Nat}{ta:Option Addr}{tc:Nat}{a:Option Addr}{c bk o:Nat}{us:Nat->List Value}(bK:eg A (.slice aa x.args.length ac) x.args)(bG:eg A (.slice ta x.ab.length tc) x.ab)(hk:oq A x.body a bk o us)(rU:x.body.length<=c):
 jJ A (.mk 7 e0 Go.V.fP x.args x.ab x.body 0) [.int .u8 7,.string ⟨#[]⟩,.int .u8 0,.int .i64 0,.int .u64 0,.string ⟨#[]⟩,Nz,.slice aa x.args.length ac,.slice ta x.ab.length tc,.slice a x.body.length c,.int .i64 0]:=
 .mk (lv:=[cv 0,vi 0,uv 0,.string e0,Nz]) ⟨Zd,Zd,hk.many,Zd,Zd⟩ (fP A) bK bG hk.at_ hk.mem hk.rd rU
theorem uK(A:List kC)(hE:mQ A)(hT:X7∈A)(x:Md)(vs:List Value)(h:Ki A x vs)(rU:∀a c,vs[4]? =some (.slice a x.body.length c)->x.body.length<=c)(F G:List ByteArray)(fv gv:Value)(hF:eg A fv F)(hG:eg A gv G):aq Tryz.prog 9 [.agg vs.toArray,fv,gv] [A] (fun v Post=>v=.bool true/\Post=[A]):=by
 have hfar:=Np A x vs h F G fv gv hF hG;have Tn:=fun hw=>D6 A hE x hw vs h
 have hres:=fun hw=>ir A x vs (h.ok hE hw) F G fv gv hF hG
 have eu:=yv x.body;have hhF:=ET A F fv hF;have hhG:=ET A G gv hG;have cf:x.args.length<=1099511627776:=by
  obtain⟨⟨aa,ac,ta,tc,a,c,bk,o,us,_,bK,_⟩,_⟩:=h;obtain⟨_,_,_,g,_⟩:=bK;exact g
 obtain⟨⟨aa,ac,ta,tc,a,c,bk,o,us,rfl,bK,bG,hk⟩,bW,pL⟩:=h;have hblk:=Yz bK bG hk (rU a c rfl);obtain⟨fa,fc,rfl,fG,xx⟩:=hF;obtain⟨ga,gc,rfl,hgl,DW⟩:=hG;refine aq.intro low9 (by simp[n9]) ?_;refine ae ?_;refine kY Zr (fun q3=>?_);simp only[Value.cells];refine ae ?_;refine kJ (Hn A hE hT) Zr ZP (fun v Post hv=>?_);obtain⟨rfl,rfl⟩:=hv;simp only[aH];refine ae ?_;refine kJ hfar Zr ZP (fun v Post hv=>?_);obtain⟨b,rfl,hb,rfl⟩:=hv;simp only[aH];cases b with
 |true=>
  exact zBO
 |false=>
 obtain⟨eC,sR,Ms,hb4⟩:=hb rfl;refine ae ?_;refine kJ (Tn Zo) Zr ZP (fun v Post hv=>?_);obtain⟨rfl,rfl⟩:=hv;simp only[aH];refine ae ?_;by_cases hc:wK x=0;rotate_left
 ·rw[show decide (((wK x:Nat):Int)=0)=false from Zf Zo];exact zBO
 rw[show decide (((wK x:Nat):Int)=0)=true from Zt Zo];refine ae ?_;refine kJ (AN A _ _ hblk (by
  have e1:e0.size=0:=rfl;have e2:Go.V.fP.size=1:=by decide
  have e3:oC x.args x.ab x.body=1+x.args.length+x.ab.length+jN x.body:=rfl;rw[Nd.w];omega)) Zr ZP (fun v Post hv=>?_)
 obtain⟨B,Sy,rfl⟩:=hv;have tZ:=Sy.rd;rw[Nt]at tZ;have xB:=P4 F G x.args x.ab x.body (sC hc);have CQ:Cx F G x=(mC F G x.args x.ab x.body).answer:=if_pos hc;generalize wJ ([]++x.args++x.ab) [] x.body=l at tZ xB;obtain⟨la,lc,rfl,K2,K3⟩:=tZ;clear Sy hfar Tn;simp only[aH];refine ae ?_;refine VC.loop (α:=Nat) (bn:=fun j=>[(1,.slice fa F.length fc),(2,.slice ga G.length gc),(3,kF q3),(9,.slice la l.length lc),(10,.bool ((l.take j).all (kn F G))),(11,vi j)]) (Hf:=fun _=>[kA q3 0 [.string x.aP,.slice aa x.args.length ac,.slice ta x.ab.length tc,vi x.az,.slice a x.body.length c],A,B]) (I:=fun j=>j<=l.length) (μ:=fun j=>l.length - j) 0 (Qp _) ZU ZI ?_;intro j hj;refine ae ?_;by_cases aO:j < l.length;rotate_left
 ·rw[show decide ((j:Int) < (l.length:Int))=false from Zf Zo,QZ Zo];refine ae ?_;refine ae ?_;refine kJ (hres Zo Zo Zo eC Zo Zo) Zr ZP (fun v Post hv=>?_);unfold JX at xB;rcases hv with⟨GJ,D5,B2,e1,rfl,C5,rfl⟩|⟨e,p,q,e1,ck,rfl,rfl⟩
  ·rw[CQ]at e1;rw[e1,if_pos (.inl rfl)]at xB;obtain⟨la2,lc2,Yx,lo2,ws2,rfl,_⟩:=C5;simp only[aH];refine ae ?_;refine kN (fun eF=>?_);refine ae ?_;refine kJ (Kj A) Zr ZP (fun v Post hv=>?_);obtain⟨rfl,rfl⟩:=hv;simp only[aH];refine ae ?_;exact kG (Post:=[A]) (.inr rfl) (.tmp Zr .nil) ⟨by rw[xB];rfl,rfl⟩ ZI
  ·rw[CQ]at e1;rw[e1]at xB;simp only at xB;simp only[aH];refine ae ?_;refine kN (fun eF=>?_);refine ae ?_;refine VO.imp (H':=[A++j9 q e p,B]) (ao.cut (M:=[A,j9 q e p,B]) ZI (ao.perm Zs)) ?_;have fG:∀y∈j9 q e p,y∈A++j9 q e p:=fun y hy=>QB _ hy
   have f1:kC.cell q 1 (.int .i64 p)∈A++j9 q e p:=fG _ (kI.2 ⟨1,_,rfl,Zs⟩);have f2:kC.cell q 2 (.iface 44 (.int .i64 e))∈A++j9 q e p:=fG _ (kI.2 ⟨2,_,rfl,Zs⟩);refine kJ (Ee (A++j9 q e p) (Zw _ hT) q p e f1 f2) Zr ZP (fun v Post hv=>?_);obtain⟨rfl,rfl⟩:=hv;simp only[aH];have hA:∀{H:SH},ao H [A++j9 q e p]->ao H [A]:=fun h=>ao.cut h ⟨[j9 q e p],by simp[V.dX]⟩
   refine ae ?_;rw[show decide ((e:Int)=0)=false from Zf Zo];refine ae ?_;by_cases s1:e=183
   ·rw[if_pos (.inr s1)]at xB;rw[show decide ((e:Int)=183)=true from Zt Zo];exact zE7
   rw[if_neg Zo]at xB;rw[show decide ((e:Int)=183)=false from Zf Zo];refine ae ?_;by_cases s2:e=181
   ·rw[if_pos s2]at xB;rw[show decide ((e:Int)=181)=true from Zt Zo];exact zE7
   rw[if_neg s2,decide_eq_true_eq]at xB;rw[show decide ((e:Int)=181)=false from Zf Zo];refine ae ?_;by_cases s3:e=180
   ·rw[show decide ((e:Int)=180)=true from Zt Zo];refine ae ?_;exact kG (Post:=[A]) (.inr rfl) (.tmp Zr .nil) ⟨rfl,rfl⟩ (hA ZI)
   rw[show decide ((e:Int)=180)=false from Zf Zo];refine ae ?_;rw[show decide ((e:Int)=182)=true from Zt Zo];refine ae ?_;exact kG (Post:=[A]) (.inr rfl) (.tmp Zr .nil) ⟨rfl,rfl⟩ (hA ZI)
 rw[show decide ((j:Int) < (l.length:Int))=true from Zt Zo];obtain⟨s,hs⟩:∃s,l[j]? =some s:=⟨_,Zg aO⟩;obtain⟨b,o,rfl,eX,XC⟩:=K3 j s hs;have dz:=Kk (p:=kn F G) hs;have hf:=hhF s;have hg:=hhG s;unfold kn at dz;generalize hp:(l.take j).all (fun s=>F.any (fun t=>decide (t=s))||G.any (fun t=>decide (t=s)))=al at dz;rw[show(l.take j).all (kn F G)=al from hp];cases al with
 |false=>
  rw[vJ]at dz;refine ae ?_;refine⟨j+1,Zo,Zo,?_,ZI⟩;rw[show(l.take (j+1)).all (kn F G)=false from dz];exact tX
 |true=>
  rw[vS]at dz;refine ae ?_;refine kJ hf Zr ZP (fun v Post hv=>?_);obtain⟨rfl,rfl⟩:=hv;simp only[aH];generalize F.any (fun t=>decide (t=s))=bf at dz|-;cases bf with
  |true=>
   refine ae ?_;refine⟨j+1,Zo,Zo,?_,ZI⟩;rw[show(l.take (j+1)).all (kn F G)=true from dz];exact tX
  |false=>
   rw[vL]at dz;refine ae ?_;refine kJ hg Zr ZP (fun v Post hv=>?_);obtain⟨rfl,rfl⟩:=hv;simp only[aH];refine ae ?_;refine⟨j+1,Zo,Zo,?_,ZI⟩;rw[show(l.take (j+1)).all (kn F G)=_ from dz];exact tX
end Go.Proofs.YtijnokbblmbpkaaGreatDoor

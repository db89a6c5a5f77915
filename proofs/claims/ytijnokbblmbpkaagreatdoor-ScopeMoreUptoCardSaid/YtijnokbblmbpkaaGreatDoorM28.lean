/-
  How deep a node is, by the document: brackets, and all together.
-/
import Derived.Test.YtijnokbblmbpkaaGreatDoorM27
import Derived.Test.YtijnokbblmbpkaaGreatDoorM6
import Derived.Test.YtijnokbblmbpkaaGreatDoorM9
import Derived.Test.YtijnokbblmbpkaaGreatDoorM26
import Derived.KernelRfl
import Derived.Test.YtijnokbblmbpkaaGreatDoorProg
import Derived.Test.YtijnokbblmbpkaaGreatDoorM13
import Derived.Test.YtijnokbblmbpkaaGreatDoorM12
import Derived.Test.YtijnokbblmbpkaaGreatDoorM25
import Derived.Test.YtijnokbblmbpkaaGreatDoorM11
set_option linter.all false
namespace Go.Proofs.YtijnokbblmbpkaaGreatDoor
open Go Go.V
set_option maxHeartbeats 1600000
set_option maxRecDepth 100000
theorem xu(A:List kC)(x:Nd)(vs:List Value)(h:jJ A x vs)(hf:jY x=true)(i:Nat)(y:Nd)(hy:x.kids[i]? =some y):aw Tryz.prog 153 [.agg vs.toArray,vi i] [A] (fun v Post=>v=.bool (tY x.kind (pQ x.kind x.name x.kids) i y)/\Post=[A]):=by
 obtain⟨e1,e2,e3,e4,e5,e6,e7,e8,e9,uf,ug,uh,ui,a,cc,bk,o,us,ma,bz,ha,hm,hr⟩:=R0 h;have hl:=(Vt.1 hy).1;obtain rfl:=ha Zo;have bK:=hr i y hy;have cQ:=hm i hl;obtain⟨Zb,_⟩:=si hf i y hy;have ec:=fun e=>@oY y Zb (.inl e)
 generalize us i=uj at bK cQ;obtain⟨f1,f2,f3,f4,f5,f6,f7,f8,f9,f10,f11,f12,f13,f14,f15,f16,f17,rfl,lS,hyk⟩:=dQ bK;have Pb:=GI y.kind y.name lS ec (cv f1) (vi f2) (uv f3) (.string f4) (.slice f5 f6 f7) (.slice f8 f9 f10) (.slice f11 f12 f13) (.slice f14 f15 f16) (vi f17);have I1:eD y.kind y.name=wI y:=rfl;rw[I1]at Pb;have DD:=Lm A x vs h hf i;unfold tY;rw[ma]at DD|-;generalize fZ x.kind (pQ x.kind x.name x.kids) i=ak at DD|-;generalize wI y=lv at Pb|-;refine aw.intro low153 (by simp[n153]) ?_;refine jF ?_;refine kX Zr (fun q=>?_);simp only[Value.cells];refine jF ?_;refine kS Zr (fun z hz=>QG _ (Zw _ (cQ z hz))) rfl ?_;refine jF ?_;refine kO (fun q6=>?_);refine jF ?_;refine VC.join (α:=Unit) (fun _=>[(1,vi i),(2,kF q),(5,kF q6)]) (fun _=>[A,kA q 0 (rA x.kind x.name e1 e2 e3 e4 e5 e6 e7 e8 e9 uf ug uh ui (some ⟨bk,o,none⟩) x.kids.length cc x.at_),kA q6 0 (rA y.kind y.name f1 f2 f3 f4 f5 f6 f7 f8 f9 f10 f11 f12 f13 f14 f15 f16 f17)]) (fun _=>y.kind≠6/\y.kind≠9) ?_ ?_
 ·refine ae ?_;by_cases k6:y.kind=6
  ·skip
   rw[show decide ((y.kind:Int)=6)=true from Zt Zo];refine ae ?_;exact kG (Post:=[A]) (.inr rfl) (.tmp Zr .nil) ⟨by simp[bH,k6],rfl⟩ ZI
  rw[show decide ((y.kind:Int)=6)=false from Zf Zo];refine ae ?_;by_cases k9:y.kind=9
  ·skip
   rw[show decide ((y.kind:Int)=9)=true from Zt Zo];refine ae ?_;exact kG (Post:=[A]) (.inr rfl) (.tmp Zr .nil) ⟨by simp[bH,k9],rfl⟩ ZI
  rw[show decide ((y.kind:Int)=9)=false from Zf Zo];refine ae ?_;exact⟨(),⟨k6,k9⟩,ZU,ZI⟩
 rintro⟨⟩ ⟨k6,k9⟩
 refine ae ?_;refine VC.Dd (α:=Unit) (fun _=>[(4,.bool (decide (lv < ak)))]) (fun _=>[A]) (fun _=>True) ⟨?_,?_,trivial⟩ ?_;rotate_left 2
 ·rintro⟨⟩ _
  refine ae ?_;exact kG (Post:=[A]) (.inr rfl) (.tmp Zr .nil) ⟨by simp[bH,k6,k9],rfl⟩ ZI
 all_goals
  refine ae ?_;refine kK Pb Zr ?_;refine ae ?_;refine kH DD Zr ZP (fun v Post hv=>?_);obtain⟨rfl,rfl⟩:=hv;simp only[aJ];refine ae ?_;refine⟨(),trivial,?_,ZI⟩;rw[show decide ((lv:Int) < (ak:Int))=decide (lv < ak)from decide_eq_decide.2 ⟨fun h=>by omega,fun h=>by omega⟩];exact AO
theorem xB {x:Nd}(h:jY x=true):jp x<=2*x.w:=by
 have h1:=CT _ x (Qn _);rw[h]at h1;exact G4 _ x (Qn _) (jp x) (jh x) h1
theorem Ld(A:List kC):∀(N:Nat) (x:Nd),x.w<=N->x.w<=274877906944->jY x=true->∀vs,jJ A x vs->aw Tryz.prog 89 [.agg vs.toArray] [A] (fun v Post=>v=vi (jp x)/\Post=[A]):=by
 intro N
 induction N with
 |zero=>intro x hx;have:=x.nC;omega
 |succ N ih=>
  intro x hx hb hf vs h;have IX:=xB hf;have U8:=fun i y hy=>xu A x vs h hf i y hy
  have bh:=si hf;cases h with
  |@mk k s lit args ab kids p lv av tv a c bk o us wf hl bJ bF ha hm hr ss=>
  simp only[Nd.kind,Nd.name,Nd.kids]at U8 bh;simp only[jp]at IX|-;simp only[Nd.w]at hx hb IX;have bz:=wf.many;have lR:=wf.kind;have mO:=A9 A _ lit (Qn _) Zo lv hl;cases hl with
  |@mk lk ln lb lt items la lc Mq lo Mr NP NM NN NO=>
  obtain⟨aa,ac,rfl,tq,ec⟩:=bJ;obtain⟨ta,tc,rfl,sE,KH⟩:=bF;generalize hS:pQ k s kids=S at U8 IX|-;generalize zJ (.mk lk ln lb lt items)=ld at mO IX|-;generalize hT:max ld (jx k S 0 kids)=T at IX|-;have hd01:(if k=7∨k=8 then 1 else 0)<=1:=by split <;> omega
  simp only[aJ]at U8|-;refine aw.intro low89 (by simp[n89]) ?_;refine jF ?_;refine kX Zr (fun q=>?_);simp only[Value.cells];refine jF ?_;refine kH mO Zr ZP (fun v Post hv=>?_);obtain⟨rfl,rfl⟩:=hv;simp only[aJ];refine jF ?_;refine VC.join (α:=Unit) (fun _=>[(1,kF q),(3,vi T)]) (fun _=>[A,kA q 0 (rA k s lk ln lb lt la items.length lc aa args.length ac ta ab.length tc a kids.length c p)]) (fun _=>True) ?_ ?_
  ·refine ae ?_;refine VC.loop (α:=Nat×Nat) (bi:=fun z=>[(1,kF q),(3,vi z.2),(4,vi z.1)]) (Hf:=fun _=>[A,kA q 0 (rA k s lk ln lb lt la items.length lc aa args.length ac ta ab.length tc a kids.length c p)])
    (I:=fun z=>z.1<=kids.length/\max z.2 (jx k S z.1 (kids.drop z.1))=T) (μ:=fun z=>kids.length - z.1) (0,ld) ⟨Qv _,hT⟩ ZU ZI ?_
   rintro⟨j,M⟩ ⟨i1,i2⟩
   simp only at i1 i2;dsimp only;refine ae ?_;by_cases hj:j < kids.length;rotate_left
   ·rw[vx Zo]at i2;simp only[jx,Nat.max_zero]at i2;subst i2;rw[show decide ((j:Int) < (kids.length:Int))=false from Zf Zo];exact Yq
   rw[show decide ((j:Int) < (kids.length:Int))=true from Zt Zo];obtain rfl:=ha Zo;obtain⟨y,hy⟩:∃y,kids[j]? =some y:=⟨_,Zg hj⟩;have bK:=hr j y hy;have cQ:=hm j hj;have fT:=bK.len;have hzw:y.w<=Nd.ws kids:=Nd.cy (Zv hy);have Zb:=(bh j y hy).1;have aC:=ih y Zo Zo Zb _ bK;have hbr:=U8 j y hy;have hyd:=xB Zb;have Gk:kids.drop j=y::kids.drop (j+1):=by
    exact zDF
   rw[Gk]at i2;simp only[jx]at i2;generalize us j=uj at bK cQ aC fT;generalize jp y=d at aC hyd i2;generalize tY k S j y=br at hbr i2;refine ae ?_;refine kS Zr Dt fT ?_;refine ae ?_;refine kH aC Zr ZP (fun v Post hv=>?_);obtain⟨rfl,rfl⟩:=hv;simp only[aJ];refine ae ?_;refine kH hbr Zr ZP (fun v Post hv=>?_);obtain⟨rfl,rfl⟩:=hv;simp only[aJ];cases br with
   |true=>
    simp only[if_true]at i2;refine ae ?_;by_cases hd:M < d+1
    ·skip
     rw[show decide ((d:Int)+1 > (M:Int))=true from Zt Zo];refine ae ?_;exact⟨(j+1,d+1),⟨by simp only;omega,by simp only;omega⟩,by simp only;omega,ZU,ZI⟩
    ·skip
     rw[show decide ((d:Int)+1 > (M:Int))=false from Zf Zo];exact zED
   |false=>
    simp only[vL,if_false]at i2;refine ae ?_;by_cases hd:M < d
    ·skip
     rw[show decide ((d:Int) > (M:Int))=true from Zt Zo];refine ae ?_;exact⟨(j+1,d),⟨by simp only;omega,by simp only;omega⟩,by simp only;omega,ZU,ZI⟩
    ·skip
     rw[show decide ((d:Int) > (M:Int))=false from Zf Zo];exact zED
  rintro⟨⟩ _
  refine ae ?_;by_cases k7:k=7
  ·skip
   rw[show decide ((k:Int)=7)=true from Zt Zo];refine ae ?_;exact kG (Post:=[A]) (.inr rfl) (.tmp Zr .nil) ⟨by simp[bH,k7],rfl⟩ ZI
  rw[show decide ((k:Int)=7)=false from Zf Zo];refine ae ?_;by_cases k8:k=8
  ·skip
   rw[show decide ((k:Int)=8)=true from Zt Zo];refine ae ?_;exact kG (Post:=[A]) (.inr rfl) (.tmp Zr .nil) ⟨by simp[bH,k8],rfl⟩ ZI
  rw[show decide ((k:Int)=8)=false from Zf Zo];refine ae ?_;exact kG (Post:=[A]) (.inr rfl) (.tmp Zr .nil) ⟨by simp[bH,k7,k8],rfl⟩ ZI
theorem uk(k:Nat)(s:ByteArray)(lR:k < 256)(c2 c3 c4 c5 c6 c7 c8 c9 rH:Value):aw Tryz.prog 150 [.agg #[cv k,.string s,c2,c3,c4,c5,c6,c7,c8,c9,rH]] [] (fun v Post=>v=.bool (!zI k s&&decide (k≠9/\k≠6))/\Post=[]):=by
 refine aw.intro low150 (by simp[n150]) ?_;have xZ:=tT k s c2 c3 c4 c5 c6 c7 c8 c9 rH;generalize zI k s=su at xZ|-;refine ae ?_;refine kX Zr (fun q=>?_);simp only[Value.cells];refine ae ?_;by_cases k6:k=6
 ·skip
  rw[show decide ((k:Int)=6)=true from Zt Zo];refine ae ?_;exact kG (Post:=[]) (.inr rfl) (.tmp Zr .nil) ⟨by simp[bH,k6],rfl⟩ ZI
 rw[show decide ((k:Int)=6)=false from Zf Zo];refine ae ?_;by_cases k9:k=9
 ·skip
  rw[show decide ((k:Int)=9)=true from Zt Zo];refine ae ?_;exact kG (Post:=[]) (.inr rfl) (.tmp Zr .nil) ⟨by simp[bH,k9],rfl⟩ ZI
 rw[show decide ((k:Int)=9)=false from Zf Zo];refine ae ?_;refine kK xZ Zr ?_;refine ae ?_;exact kG (Post:=[]) (.inr rfl) (.tmp Zr .nil) ⟨by simp[bH,k6,k9],rfl⟩ ZI
end Go.Proofs.YtijnokbblmbpkaaGreatDoor
namespace Go.V
open Go
theorem Na(l:List Nd):jc (wp l (l.map kN))=cR (ke 7 l.length 0 l) (mx jp l) (l.any jh):=by
 have hk:∀y∈l,kN y=cR (jY y) (jp y) (jh y):=fun y _=>CT _ y (Qn _)
 have l1:∀x:Nd,(if wI x < 1 then 1 else 0)=0:=fun x=>if_neg (by have:=o8 x;omega)
 rcases(Classical.em (l=[])).imp_right Zp with rfl|⟨l,x,rfl⟩
 ·rfl
 ·have hl:jc (l.map fun x=>ja x 1 (kN x))=cR (l.all fun x=>jY x&&yA x) (mx jp l) (l.any jh):=Ee fun x hx=>by rw[hk x (by simp[hx]),iM,l1];rfl
  have gS:ke 7 (l++[x]).length 0 l=l.all fun x=>jY x&&yA x:=fA fun j y hy=>iz Zo Zo (by
   have:=(Vt.1 hy).1;rw[Vy,Q8];omega)
  have pL:(if x.kind=9 then kN x else ja x 1 (kN x))=cR (jY x&&gW 7 (l++[x]).length (0+l.length) x) (jp x) (jh x):=by
   exact zB5
  rw[tS,tC,hl,eQ,pL,show jc []=some (0,false)from rfl,xq,pS];rw[oz,gS];have NG:∀l:List Nd,mx jp (l++[x])=max (mx jp l) (jp x):=by
   intro l
   induction l with
   |nil=>simp[mx]
   |cons y l ih=>simp only[vr,mx,ih];omega
  rw[NG];refine ml (by simp[ke]) fun _=>⟨rfl,Zs⟩
theorem mx_any {α:Type}{f:α->Nat}{K:Nat}:∀l:List α,decide (K < mx f l)=l.any fun x=>decide (K < f x):=by
 intro l
 induction l with
 |nil=>simp[mx]
 |cons x l ih=>
  rw[vf,<- ih,vJ,vR,decide_eq_true_eq,decide_eq_true_eq];simp only[decide_eq_true_eq];show K < max (f x) (mx f l)↔K < f x∨K < mx f l;rcases Nat.le_total (f x) (mx f l)with h|h
  ·rw[Nat.max_eq_right h];omega
  ·rw[Nat.max_eq_left h];omega
end Go.V
namespace Go.Proofs.YtijnokbblmbpkaaGreatDoor
open Go Go.V
set_option maxRecDepth 100000
noncomputable def F87:aQ:=bb (o:=gF pq Tryz.f87 [])
theorem n87:F87.n=44:=rfl
theorem low87:aY Tryz.prog 87 []=some F87:=by kernel_rfl
noncomputable def F34:aQ:=bb (o:=gF pq Tryz.f34 [])
theorem n34:F34.n=88:=rfl
theorem low34:aY Tryz.prog 34 []=some F34:=by kernel_rfl
set_option maxHeartbeats 1600000
theorem kidB7(m i:Nat)(y:Nd):gW 7 m i y=((decide (y.kind=9)&&decide (i+1=m))||yA y):=by
 unfold gW yA;by_cases a:y.kind=9
 ·have:jR y=false:=by rw[vI];intro h;have:=fN h;omega
  by_cases b:i+1=m <;> simp[a,b,this]
 ·by_cases b:y.kind=6 <;> cases jR y <;> simp[a,b]
theorem Lp(A:List kC)(hE:nE A)(l:List Nd)(hw:Nd.ws l<=274877906944)(a:Option Addr)(c bk o:Nat)(us:Nat->List Value)(hk:oK A l a bk o us):aw Tryz.prog 87 [.slice a l.length c] [A] (fun v Post=>v=.bool (ke 7 l.length 0 l)/\Post=[A]):=by
 obtain⟨ha,bz,hm,hr⟩:=hk;refine aw.intro low87 (by simp[n87]) ?_;refine ae ?_;refine VC.loop (α:=Nat) (bi:=fun j=>[(0,.slice a l.length c),(3,vi j)]) (Hf:=fun _=>[A]) (I:=fun j=>j<=l.length/\ke 7 l.length 0 l=ke 7 l.length j (l.drop j)) (μ:=fun j=>l.length - j) 0 ⟨Qv _,rfl⟩ ZU ZI ?_
 rintro j ⟨i1,i2⟩
 refine ae ?_;by_cases hj:j < l.length;rotate_left
 ·rw[vx Zo]at i2;rw[show decide ((j:Int) < (l.length:Int))=false from Zf Zo];exact zC6
 rw[show decide ((j:Int) < (l.length:Int))=true from Zt Zo];obtain rfl:=ha Zo;obtain⟨y,hy⟩:∃y,l[j]? =some y:=⟨_,Zg hj⟩;have bK:=hr j y hy;have cQ:=hm j hj;have fT:=bK.len;have hzw:y.w<=Nd.ws l:=Nd.cy (Zv hy);have aC:=E7 A hE _ y (Qn _) Zo _ bK;have Gk:l.drop j=y::l.drop (j+1):=by
  exact zDF
 rw[Gk]at i2;simp only[ke,kidB7]at i2;generalize us j=uj at bK cQ aC fT;obtain⟨c2,c3,c4,c5,c6,c7,c8,c9,rH,rfl,eC,lR⟩:=qM bK;have hexp:=uk y.kind y.name lR c2 c3 c4 c5 c6 c7 c8 c9 rH;have DJ:(!zI y.kind y.name&&decide (y.kind≠9/\y.kind≠6))=yA y:=rfl;rw[DJ]at hexp;have hkc:kC.cell bk (o+j*11) (cv y.kind)∈A:=cQ _ (kJ.2 ⟨0,_,rfl,rfl⟩);generalize yA y=kp at hexp i2;generalize jY y=f at aC i2;have go:(f&&((decide (y.kind=9)&&decide (j+1=l.length))||kp))=true->(j+1<=l.length/\ke 7 l.length 0 l=ke 7 l.length (j+1) (l.drop (j+1))):=fun h=>⟨Zo,by rw[i2,h,vU]⟩
 have bad:(f&&((decide (y.kind=9)&&decide (j+1=l.length))||kp))=false->ke 7 l.length 0 l=false:=fun h=>by rw[i2,h];rfl
 clear i2;refine ae ?_;refine kS Zr Dt fT ?_;refine ae ?_;refine kH aC Zr ZP (fun v Post hv=>?_);obtain⟨rfl,rfl⟩:=hv;simp only[aJ];refine ae ?_;refine VO.bool 29 (decide (y.kind=9)&&decide (j+1=l.length)) Zr ?_ ?_
 ·by_cases k9:y.kind=9
  ·skip
   rw[show decide ((y.kind:Int)=9)=true from Zt Zo];refine ae ?_;refine⟨?_,ZU,ZI⟩;rw[show decide ((j:Int)=(l.length:Int) - 1)=decide (j+1=l.length)from decide_eq_decide.2 ⟨fun h=>by omega,fun h=>by omega⟩];simp[k9]
  ·skip
   exact zES
 generalize (decide (y.kind=9)&&decide (j+1=l.length))=ret at go bad|-;cases f with
 |false=>
  refine ae ?_;exact kG (Post:=[A]) (.inr rfl) (.tmp Zr .nil) ⟨by rw[bad rfl];rfl,rfl⟩ ZI
 |true=>
  cases ret with
  |true=>
   refine ae ?_;exact⟨j+1,go Zs,Zo,ZU,ZI⟩
  |false=>
   refine ae ?_;refine kS Zr Dt fT ?_;refine ae ?_;refine kK hexp Zr ?_;cases kp with
   |true=>
    refine ae ?_;exact⟨j+1,go Zs,Zo,ZU,ZI⟩
   |false=>
    refine ae ?_;exact kG (Post:=[A]) (.inr rfl) (.tmp Zr .nil) ⟨by rw[bad Zs];rfl,rfl⟩ ZI
theorem Iw(x:Md):wO x=if(decide (kR x.aE=x.args.length/\0<=x.ax/\x.ax<=255)&&(x.args.all jO&&(x.ab.all jO&&ke 7 x.body.length 0 x.body)))=false then 150 else if(decide (15 < x.args.length)||(decide (63 < x.ab.length)||x.body.any jh))=true then 151 else if(x.body.any fun y=>decide (40 < jp y))=true then 152 else 0:=by
 unfold wO dz wy;rw[Na,eE,jm,eE,jm,jm,<- mx_any];generalize (decide (kR x.aE=x.args.length/\0<=x.ax/\x.ax<=255)&&(x.args.all jO&&(x.ab.all jO&&ke 7 x.body.length 0 x.body)))=b1;generalize (decide (15 < x.args.length)||(decide (63 < x.ab.length)||x.body.any jh))=b2;cases b1 with
 |false=>rfl
 |true=>
  simp only[cR,if_true,OM];cases b2 <;> simp
theorem Gb {k m:Nat}:∀{l:List Nd} {i:Nat},ke k m i l=true->∀y∈l,jY y=true:=fun {l i} h y hy=>IL h y hy
theorem E5(A:List kC)(hE:nE A)(x:Md)(hw:Nd.ws x.body<=274877906944)(vs:List Value)(h:Lg A x vs):aw Tryz.prog 34 [.agg vs.toArray] [A] (fun v Post=>v=vi (wO x)/\Post=[A]):=by
 rw[Iw];obtain⟨⟨aa,ac,ta,tc,a,c,bk,o,us,rfl,bJ,bF,hk⟩,bY,qg⟩:=h;have ec:=fY x.aE bY;have tq:=rV x.aE bY;have Ud:=iY A _ x.args bJ;have hft:=iY A _ x.ab bF;have xP:=Lp A hE x.body hw a c bk o us hk;have DH:=@Gb 7 x.body.length x.body 0;have hla:x.args.length<=1099511627776:=by obtain⟨_,_,_,h,_⟩:=bJ;exact h
 have aS:x.ab.length<=1099511627776:=by obtain⟨_,_,_,h,_⟩:=bF;exact h
 obtain⟨ha,bz,hm,hr⟩:=hk;obtain⟨ax,hpr⟩:∃p,x.ax=p:=⟨_,rfl⟩;rw[hpr]at qg|-;generalize kR x.aE=ar at ec tq|-;generalize x.args.all jO=fa at Ud|-;generalize x.ab.all jO=ft at hft|-;generalize ke 7 x.body.length 0 x.body=fb at xP DH|-;refine aw.intro low34 (by simp[n34]) ?_;refine jF ?_;refine kX Zr (fun q=>?_);simp only[Value.cells];refine jF ?_;refine kK ec Zr ?_;refine jF ?_;refine kH Ud Zr ZP (fun v Post hv=>?_);obtain⟨rfl,rfl⟩:=hv;simp only[aJ];refine VO.bool 19 (fa&&ft) Zr ?_ ?_
 ·cases fa with
  |false=>
   refine ae ?_;exact⟨Zs,ZU,ZI⟩
  |true=>
   refine ae ?_;refine kH hft Zr ZP (fun v Post hv=>?_);obtain⟨rfl,rfl⟩:=hv;simp only[aJ];refine ae ?_;exact⟨Zs,ZU,ZI⟩
 refine jF ?_;refine kH xP Zr ZP (fun v Post hv=>?_);obtain⟨rfl,rfl⟩:=hv;simp only[aJ];refine jF ?_;generalize L8:(fa&&ft)=nm;have hgood:(decide (ar=x.args.length/\0<=ax/\ax<=255)&&(fa&&(ft&&fb)))=(decide (ar=x.args.length/\0<=ax/\ax<=255)&&(nm&&fb)):=by rw[<- L8,Bool.and_assoc]
 rw[hgood];refine VC.join (α:=Unit) (fun _=>[(1,kF q)]) (fun _=>[A,kA q 0 [.string x.aE,.slice aa x.args.length ac,.slice ta x.ab.length tc,vi ax,.slice a x.body.length c]]) (fun _=>(decide (ar=x.args.length/\0<=ax/\ax<=255)&&(nm&&fb))=true) ?_ ?_
 ·refine ae ?_;have stop:∀b:Bool,b=false->(if b=false then 150 else if(decide (15 < x.args.length)||(decide (63 < x.ab.length)||x.body.any jh))=true then 151 else if(x.body.any fun y=>decide (40 < jp y))=true then 152 else 0)=150:=fun b h=>if_pos h
  by_cases h1:ar < 0
  ·skip
   rw[show decide (ar < 0)=true from Zt Zo];exact zBJ
  rw[show decide (ar < 0)=false from Zf Zo];refine ae ?_;by_cases h2:ar=x.args.length;rotate_left
  ·skip
   rw[show decide (ar=(x.args.length:Int))=false from Zf Zo];exact zBJ
  rw[show decide (ar=(x.args.length:Int))=true from Zt Zo];refine ae ?_;cases nm with
  |false=>
   exact zER
  |true=>
   refine ae ?_;by_cases h3:ax < 0
   ·skip
    rw[show decide (ax < 0)=true from Zt Zo];exact zBJ
   rw[show decide (ax < 0)=false from Zf Zo];refine ae ?_;by_cases h4:ax > 255
   ·skip
    rw[show decide (ax > 255)=true from Zt Zo];exact zBJ
   rw[show decide (ax > 255)=false from Zf Zo];refine ae ?_;cases fb with
   |false=>
    exact zER
   |true=>
    refine ae ?_;exact⟨(),by rw[Zt Zo];rfl,ZU,ZI⟩
 rintro⟨⟩ aP
 rw[aP];have hfb:fb=true:=by
  simp only[vF]at aP;exact aP.2.2
 have DH:=DH hfb;rw[if_neg Zs];refine ae ?_;refine VO.bool 59 (decide (15 < x.args.length)||decide (63 < x.ab.length)) Zr ?_ ?_
 ·by_cases h1:15 < x.args.length
  ·skip
   rw[show decide ((x.args.length:Int) > 15)=true from Zt Zo];refine ae ?_;exact⟨by simp[h1],ZU,ZI⟩
  ·skip
   rw[show decide ((x.args.length:Int) > 15)=false from Zf Zo];refine ae ?_;refine⟨?_,ZU,ZI⟩;rw[show decide ((x.ab.length:Int) > 63)=decide (63 < x.ab.length)from decide_eq_decide.2 ⟨fun h=>by omega,fun h=>by omega⟩];simp[h1]
 rw[<- vP];generalize (decide (15 < x.args.length)||decide (63 < x.ab.length))=m0;refine jF ?_;refine VC.join (α:=Unit) (fun _=>[(6,.bool (m0||x.body.any jh)),(7,.bool (x.body.any fun y=>decide (40 < jp y)))]) (fun _=>[A]) (fun _=>True) ?_ ?_
 ·refine ae ?_;refine VC.loop (α:=Nat) (bi:=fun j=>[(1,kF q),(6,.bool (m0||(x.body.take j).any jh)),(7,.bool ((x.body.take j).any fun y=>decide (40 < jp y))),(8,vi j)]) (Hf:=fun _=>[A,kA q 0 [.string x.aE,.slice aa x.args.length ac,.slice ta x.ab.length tc,vi ax,.slice a x.body.length c]]) (I:=fun j=>j<=x.body.length) (μ:=fun j=>x.body.length - j) 0 (Qv _) (by simp only[Qh,List.any_nil,vT];exact AO) ZI ?_
  rintro j i1
  by_cases hj:j < x.body.length;rotate_left
  ·rw[Qg Zo];generalize (x.body.any fun y=>decide (40 < jp y))=d1;generalize (m0||x.body.any jh)=m1;refine ae ?_;rw[show decide ((j:Int) < (x.body.length:Int))=false from Zf Zo];exact Yq
  obtain rfl:=ha Zo;obtain⟨y,hy⟩:∃y,x.body[j]? =some y:=⟨_,Zg hj⟩;have bK:=hr j y hy;have cQ:=hm j hj;have fT:=bK.len;have hzw:y.w<=Nd.ws x.body:=Nd.cy (Zv hy);have hcm:=Lf A _ y (Qn _) _ bK;have Zb:=DH y (Zv hy);have L2:=Ld A _ y (Qn _) Zo Zb _ bK;have IX:=xB Zb;have Wx:(x.body.take (j+1)).any jh=((x.body.take j).any jh||jh y):=by rw[Qe,hy];simp
  have htd:((x.body.take (j+1)).any fun y=>decide (40 < jp y))=((x.body.take j).any (fun y=>decide (40 < jp y))||decide (40 < jp y)):=by rw[Qe,hy];simp
  generalize us j=uj at bK cQ hcm L2 fT;have L8:(m0||(x.body.take (j+1)).any jh)=((m0||(x.body.take j).any jh)||jh y):=by rw[Wx,vP]
  generalize (m0||(x.body.take j).any jh)=mj at L8|-;generalize ((x.body.take j).any fun y=>decide (40 < jp y))=dj at htd|-;generalize jh y=my at hcm L8;generalize jp y=dy at L2 IX htd;refine ae ?_;rw[show decide ((j:Int) < (x.body.length:Int))=true from Zt Zo];refine ae ?_;refine VO.bool 75 (mj||my) Zr ?_ ?_
  ·cases mj with
   |true=>
    refine ae ?_;exact⟨Zs,ZU,ZI⟩
   |false=>
    refine ae ?_;refine kS Zr Dt fT ?_;refine ae ?_;refine kH hcm Zr ZP (fun v Post hv=>?_);obtain⟨rfl,rfl⟩:=hv;simp only[aJ];refine ae ?_;exact⟨Zs,ZU,ZI⟩
  refine ae ?_;refine VO.bool 85 (dj||decide (40 < dy)) Zr ?_ ?_
  ·cases dj with
   |true=>
    refine ae ?_;exact⟨Zs,ZU,ZI⟩
   |false=>
    refine ae ?_;refine kS Zr Dt fT ?_;refine ae ?_;refine kH L2 Zr ZP (fun v Post hv=>?_);obtain⟨rfl,rfl⟩:=hv;simp only[aJ];refine ae ?_;refine⟨?_,ZU,ZI⟩;rw[show decide ((dy:Int) > 40)=decide (40 < dy)from decide_eq_decide.2 ⟨fun h=>by omega,fun h=>by omega⟩];simp
  refine ae ?_;refine⟨j+1,Zo,Zo,?_,ZI⟩;rw[L8,htd];exact AO
 rintro⟨⟩ _
 generalize (x.body.any fun y=>decide (40 < jp y))=d1;generalize (m0||x.body.any jh)=m1;cases m1 with
 |true=>
  exact T0
 |false=>
  cases d1 with
  |true=>
   exact T0
  |false=>
   exact T0
end Go.Proofs.YtijnokbblmbpkaaGreatDoor
namespace Go.V
open Go
theorem Fj(F G:List ByteArray)(m:ByteArray):∀(l:List Nd),(∀y∈l,kN y≠none)->∀st env u seen out,jr st env seen->m∉jz seen out l->kT (F++[m]) (G++[m]) l st env u=kT F G l st env u
 |[],_,st,env,u,seen,out,_,_=>by rw[kT,kT]
 |x::r,hd,st,env,u,seen,out,hs,hm=>by
  rw[jz]at hm;have hx:=(My F G m _ x (Qn _) (hd x Zs) st env u seen out hs (fun k=>hm (wX seen r _ m k))).1;have g:=(wd F G _ x (Qn _) st env u).1;rw[je,je,hx,Fj F G m r (fun y hy=>hd y B9) _ env u seen _ (hs.gr g.vars) hm]
theorem MW(F G args ab:List ByteArray)(kids:List Nd)(m:ByteArray)(hk:∀y∈kids,kN y≠none)(hm:m∉jz ([]++args++ab) [] kids):dU (F++[m]) (G++[m]) args ab kids=dU F G args ab kids:=by
 unfold dU;have hE:jr (mg.aF (-1) args.length) [] []:=⟨(fun v h=>by cases h),fun nm=>by rw[cM];simp⟩;have IP:=jr.decl 0 true true 0 args 0 _ [] [] hE;have IQ:jr (aW args ab 0 mg [] (-1)).1 (aW args ab 0 mg [] (-1)).2 ([]++args++ab):=jr.decl 0 false true 0 ab 0 _ _ _ IP;rw[wC,wC,Fj F G m kids hk _ _ _ _ _ IQ hm]
theorem OW(args ab:List ByteArray)(kids:List Nd):lZ [] [] (.mk 7 e0 fV args ab kids 0)=jz ([]++args++ab) [] kids:=by
 rw[lZ,if_pos rfl,if_neg (fun h=>by have:=h.1;omega)]
end Go.V
namespace Go.Proofs.YtijnokbblmbpkaaGreatDoor
open Go Go.V
set_option maxRecDepth 100000
noncomputable def F93:aQ:=bb (o:=gF pq Tryz.f93 [(6,[[0,1,2,3,4,5,6,7,8]])])
theorem n93:F93.n=26:=rfl
theorem low93:aY Tryz.prog 93 [(6,[[0,1,2,3,4,5,6,7,8]])]=some F93:=by kernel_rfl
noncomputable def F37:aQ:=bb (o:=gF pq Tryz.f37 [(8,[[0,1,2,3,4,5,6,7,8,9,10,11]])])
theorem n37:F37.n=82:=rfl
theorem low37:aY Tryz.prog 37 [(8,[[0,1,2,3,4,5,6,7,8,9,10,11]])]=some F37:=by kernel_rfl
noncomputable def F51:aQ:=bb (o:=gF pq Tryz.f51 [(7,[[0,1,2,3,4,5,6,7,8,9,10,11]])])
theorem n51:F51.n=72:=rfl
theorem low51:aY Tryz.prog 51 [(7,[[0,1,2,3,4,5,6,7,8,9,10,11]])]=some F51:=by kernel_rfl
noncomputable def F17:aQ:=bb (o:=gF pq Tryz.f17 [(6,[[0,1,2,3,4,5,6,7,8,9,10,11]])])
theorem n17:F17.n=48:=rfl
theorem low17:aY Tryz.prog 17 [(6,[[0,1,2,3,4,5,6,7,8,9,10,11]])]=some F17:=by kernel_rfl
noncomputable def F41:aQ:=bb (o:=gF pq Tryz.f41 [])
theorem n41:F41.n=18:=rfl
theorem low41:aY Tryz.prog 41 []=some F41:=by kernel_rfl
noncomputable def F10:aQ:=bb (o:=gF pq Tryz.f10 [(10,[])])
theorem n10:F10.n=99:=rfl
theorem low10:aY Tryz.prog 10 [(10,[])]=some F10:=by kernel_rfl
set_option maxHeartbeats 12800000
theorem O0(A:List kC)(l:List ByteArray)(lv:Value)(h:dG A lv l)(nm:ByteArray):aw Tryz.prog 41 [lv,.string nm] [A] (fun v Post=>v=.bool (l.any fun s=>decide (s=nm))/\Post=[A]):=by
 obtain⟨a,c,rfl,hl,hr⟩:=h;refine aw.intro low41 (by simp[n41]) ?_;refine ae ?_;refine VC.loop (α:=Nat) (bi:=fun j=>[(0,.slice a l.length c),(1,.string nm),(5,vi j)]) (Hf:=fun _=>[A]) (I:=fun j=>j<=l.length/\(l.take j).any (fun s=>decide (s=nm))=false) (μ:=fun j=>l.length - j) 0 ⟨Qv _,Zr⟩ ZU ZI ?_
 rintro j ⟨hj,hn⟩
 refine ae ?_;by_cases aS:j < l.length;rotate_left
 ·rw[show decide ((j:Int) < (l.length:Int))=false from Zf Zo];rw[Qg Zo]at hn;refine ae ?_;exact kG (Post:=[A]) (.inr rfl) (.tmp Zr .nil) ⟨by rw[hn];rfl,rfl⟩ ZI
 rw[show decide ((j:Int) < (l.length:Int))=true from Zt Zo];obtain⟨s,hs⟩:∃s,l[j]? =some s:=⟨_,Zg aS⟩;obtain⟨b,o,rfl,gh,hss⟩:=hr j s hs;have xY:=Ge hs nm;rw[hn,vM]at xY;refine ae ?_;by_cases e:s=nm
 ·rw[Zt e];refine ae ?_;refine kG (Post:=[A]) (.inr rfl) (.tmp Zr .nil) ⟨?_,rfl⟩ ZI;have:l.any (fun s=>decide (s=nm))=true:=vh.2 ⟨s,Zv hs,Zt e⟩;rw[this];rfl
 ·rw[Zf e]at xY|-;refine ae ?_;exact⟨j+1,⟨Zo,xY⟩,Zo,ZU,ZI⟩
theorem π {A:List kC}{x:Md}{aa:Option Addr}{ac:Nat}{ta:Option Addr}{tc:Nat}{a:Option Addr}{c bk o:Nat}{us:Nat->List Value}(bJ:dG A (.slice aa x.args.length ac) x.args)(bF:dG A (.slice ta x.ab.length tc) x.ab)(hk:oK A x.body a bk o us)(ss:x.body.length<=c):
 jJ A (.mk 7 e0 Go.V.fV x.args x.ab x.body 0) [.int .u8 7,.string ⟨#[]⟩,.int .u8 0,.int .i64 0,.int .u64 0,.string ⟨#[]⟩,Nz,.slice aa x.args.length ac,.slice ta x.ab.length tc,.slice a x.body.length c,.int .i64 0]:=
 .mk (lv:=[cv 0,vi 0,uv 0,.string e0,Nz]) ⟨Zd,Zd,hk.many,Zd,Zd⟩ (fV A) bJ bF hk.at_ hk.mem hk.rd ss
noncomputable def F92:aQ:=bb (o:=gF pq Tryz.f92 [(6,[[0,1,2,3,4,5,6,7,8,9,10,11]])])
theorem n92:F92.n=62:=rfl
theorem low92:aY Tryz.prog 92 [(6,[[0,1,2,3,4,5,6,7,8,9,10,11]])]=some F92:=by kernel_rfl
set_option maxHeartbeats 6400000
theorem D7(T:List kC):∀(N:Nat) (x:Lt),x.size<=N->∀vs ws,zk T x vs->zk T x ws->aw Tryz.prog 92 [.agg vs.toArray,.agg ws.toArray] [T] (fun v Post=>v=.bool true/\Post=[T]):=by
 intro N
 induction N with
 |zero=>intro x hx;have:=x.size_pos;omega
 |succ N ih=>
  intro x hx vs ws h h2;cases h with
  |@mk k n b t items a c bk o us wf ha hm hr=>
  cases h2 with
  |@mk _ _ _ _ _ a' c' Yy o' K8 wf' Cr hm' AK=>
  have bz:=wf.many;refine aw.intro low92 (by simp[n92]) ?_;refine ae ?_;refine kX Zr (fun q=>?_);refine kX Zr (fun q2=>?_);simp only[Value.cells];refine ae ?_;rw[show decide ((k:Int)=(k:Int))=true from Zt rfl];refine ae ?_;rw[show decide (n=n)=true from Zt rfl];refine ae ?_;rw[show decide ((b:Int)=(b:Int))=true from Zt rfl];refine ae ?_;rw[show decide (t=t)=true from Zt rfl];refine ae ?_;refine VC.loop (α:=Nat) (bi:=fun j=>[(2,kF q),(3,kF q2),(5,vi j)]) (Hf:=fun _=>[T,kA q 0 [cv k,vi n,uv b,.string t,.slice a items.length c],kA q2 0 [cv k,vi n,uv b,.string t,.slice a' items.length c']])
   (I:=fun j=>j<=items.length) (μ:=fun j=>items.length - j) 0 (Qv _) ZU ZI ?_
  intro j i1;refine ae ?_;by_cases hj:j < items.length;rotate_left
  ·rw[show decide ((j:Int) < ((items.length:Nat):Int))=false from Zf Zo];exact zBS
  rw[show decide ((j:Int) < ((items.length:Nat):Int))=true from Zt Zo];obtain rfl:=ha Zo;obtain rfl:=Cr Zo;obtain⟨x,pL⟩:∃x,items[j]? =some x:=⟨_,Zg hj⟩;have hu:=hm j hj;have hw:=hm' j hj;have DU:=(hr j x pL).len;have WE:=(AK j x pL).len;have aC:=ih x (by have:=Lt.aD (Zv pL);simp only[Lt.size]at hx;omega) _ _ (hr j x pL) (AK j x pL);refine ae ?_;refine kS Zr (fun z hz=>Zw _ (hu z hz)) DU ?_;refine ae ?_;refine kS Zr (fun z hz=>Zw _ (hw z hz)) WE ?_;exact zB7
theorem oG(T:List kC)(rs:List zY)(hn:rs.length<=1099511627776)(v w:Value)(hv:jy T v rs)(hw:jy T w rs):aw Tryz.prog 93 [v,w] [T] (fun v Post=>v=.bool true/\Post=[T]):=by
 obtain⟨a,c,rfl,hr⟩:=hv;obtain⟨a2,c2,rfl,du⟩:=hw;refine aw.intro low93 (by simp[n93]) ?_;refine ae ?_;refine VC.loop (α:=Nat) (bi:=fun j=>[(0,.slice a rs.length c),(1,.slice a2 rs.length c2),(5,vi j)]) (Hf:=fun _=>[T]) (I:=fun j=>j<=rs.length) (μ:=fun j=>rs.length - j) 0 (Qv _) ZU ZI ?_;intro j i1;refine ae ?_;by_cases hj:j < rs.length;rotate_left
 ·rw[show decide ((j:Int) < ((rs.length:Nat):Int))=false from Zf Zo];exact zBS
 rw[show decide ((j:Int) < ((rs.length:Nat):Int))=true from Zt Zo];obtain⟨r,hr1⟩:∃r,rs[j]? =some r:=⟨_,Zg hj⟩;obtain⟨b,o,rfl,hm⟩:=hr j r hr1;obtain⟨b2,o2,rfl,p8⟩:=du j r hr1;refine ae ?_;refine kS (us:=jN r) Zr (fun z hz=>Zw _ (hm z hz)) rfl ?_;refine ae ?_;refine kS (us:=jN r) Zr (fun z hz=>Zw _ (p8 z hz)) rfl ?_;unfold jN;refine ae ?_;exact⟨j+1,Zo,Zo,ZU,ZI⟩
theorem Bl(T:List kC):∀(N:Nat) (x:PN),PN.w x<=N->∀vs ws,HX T x vs->HX T x ws->PN.w x<=1099511627776->aw Tryz.prog 37 [.agg vs.toArray,.agg ws.toArray] [T] (fun v Post=>v=.bool true/\Post=[T]):=by
 intro N
 induction N with
 |zero=>intro x hx;cases x;simp only[PN.w]at hx;omega
 |succ N ih=>
  intro x hx vs ws h h2 hw;cases h with
  |@mk k nm lit refs un fM kids lv rv a c bk o us hl hr ha hm hs=>
  cases h2 with
  |@mk _ _ _ _ _ _ _ lv' rv' a' c' Yy o' K8 rJ AK Cr hm' sB=>
  simp only[PN.w]at hx hw;have mO:=D7 T _ lit (Qn _) _ _ hl rJ;have I5:=oG T refs Zo _ _ hr AK;obtain⟨ra,rc,rfl,_⟩:=hr;obtain⟨ra',rc',rfl,_⟩:=AK;obtain⟨la,lc,rfl⟩:=Ec hl;obtain⟨la',lc',rfl⟩:=Ec rJ;refine aw.intro low37 (by simp[n37]) ?_;simp only[aJ];refine ae ?_;refine kX Zr (fun q=>?_);refine kX Zr (fun q2=>?_);simp only[Value.cells];refine ae ?_;refine kH mO Zr ZP (fun v Post hv=>?_);obtain⟨rfl,rfl⟩:=hv;simp only[aJ];refine ae ?_;refine kH I5 Zr ZP (fun v Post hv=>?_);obtain⟨rfl,rfl⟩:=hv;simp only[aJ];refine ae ?_;rw[show decide ((k:Int)=(k:Int))=true from Zt rfl];refine ae ?_;rw[show decide (nm=nm)=true from Zt rfl];refine ae ?_;rw[show decide (un=un)=true from Zt rfl];refine ae ?_;rw[show(if true=true then !fM==fM else fM==fM)=false by cases fM <;> rfl];refine ae ?_;refine VC.loop (α:=Nat) (bi:=fun j=>[(2,kF q),(3,kF q2),(7,vi j)]) (Hf:=fun _=>[T,kA q 0 (rB k nm lit.kind lit.n lit.bits lit.text la lit.items.length lc ra refs.length rc un fM a kids.length c),kA q2 0 (rB k nm lit.kind lit.n lit.bits lit.text la' lit.items.length lc' ra' refs.length rc' un fM a' kids.length c')])
   (I:=fun j=>j<=kids.length) (μ:=fun j=>kids.length - j) 0 (Qv _) ZU ZI ?_
  have KB:=Eo kids;intro j i1;refine ae ?_;by_cases hj:j < kids.length;rotate_left
  ·rw[show decide ((j:Int) < ((kids.length:Nat):Int))=false from Zf Zo];exact zBS
  rw[show decide ((j:Int) < ((kids.length:Nat):Int))=true from Zt Zo];obtain rfl:=ha Zo;obtain rfl:=Cr Zo;obtain⟨x,pL⟩:∃x,kids[j]? =some x:=⟨_,Zg hj⟩;have hu:=hm j hj;have I8:=hm' j hj;have DU:=(hs j x pL).len;have WE:=(sB j x pL).len;have DP:=PN.K9 (Zv pL);have aC:=ih x Zo _ _ (hs j x pL) (sB j x pL) Zo;refine ae ?_;refine kS Zr (fun z hz=>Zw _ (hu z hz)) DU ?_;refine ae ?_;refine kS Zr (fun z hz=>Zw _ (I8 z hz)) WE ?_;exact zB7
theorem Bv(T:List kC)(x:wY)(vs ws:List Value)(h:Nt T x vs)(h2:Nt T x ws)(h1:x.copied.length<=1099511627776)(hw:PN.ws x.body<=1099511627776):aw Tryz.prog 51 [.agg vs.toArray,.agg ws.toArray] [T] (fun v Post=>v=.bool true/\Post=[T]):=by
 obtain⟨cv,bv,rfl,hc,hb⟩:=h;obtain⟨cv',bv',rfl,H8,mJ⟩:=h2;have I5:=oG T x.copied h1 _ _ hc H8;obtain⟨ca,cc,rfl,_⟩:=hc;obtain⟨ca',cc',rfl,_⟩:=H8;obtain⟨a,c,bk,o,us,rfl,ha,hm,hs⟩:=hb;obtain⟨a',c',Yy,o',K8,rfl,Cr,hm',sB⟩:=mJ;refine aw.intro low51 (by simp[n51]) ?_;unfold K7;refine ae ?_;refine kX Zr (fun q=>?_);refine kX Zr (fun q2=>?_);simp only[Value.cells];refine ae ?_;refine kH I5 Zr ZP (fun v Post hv=>?_);obtain⟨rfl,rfl⟩:=hv;simp only[aJ];refine ae ?_;rw[show decide (x.outer=x.outer)=true from Zt rfl];refine ae ?_;rw[show decide (x.args=x.args)=true from Zt rfl];refine ae ?_;rw[show decide (x.locals=x.locals)=true from Zt rfl];refine ae ?_;rw[show decide (x.aA=x.aA)=true from Zt rfl];refine ae ?_;refine VC.loop (α:=Nat) (bi:=fun j=>[(2,kF q),(3,kF q2),(6,vi j)]) (Hf:=fun _=>[T,kA q 0 [.int .i64 x.outer,.int .i64 x.args,.slice ca x.copied.length cc,.int .i64 x.locals,.int .i64 x.aA,.slice a x.body.length c],kA q2 0 [.int .i64 x.outer,.int .i64 x.args,.slice ca' x.copied.length cc',.int .i64 x.locals,.int .i64 x.aA,.slice a' x.body.length c']])
  (I:=fun j=>j<=x.body.length) (μ:=fun j=>x.body.length - j) 0 (Qv _) ZU ZI ?_
 have KB:=Eo x.body;intro j i1;refine ae ?_;by_cases hj:j < x.body.length;rotate_left
 ·rw[show decide ((j:Int) < ((x.body.length:Nat):Int))=false from Zf Zo];exact zBS
 rw[show decide ((j:Int) < ((x.body.length:Nat):Int))=true from Zt Zo];obtain rfl:=ha Zo;obtain rfl:=Cr Zo;obtain⟨y,pL⟩:∃y,x.body[j]? =some y:=⟨_,Zg hj⟩;have hu:=hm j hj;have I8:=hm' j hj;have DU:=(hs j y pL).len;have WE:=(sB j y pL).len;have DP:=PN.K9 (Zv pL);have aC:=Bl T _ y (Qn _) _ _ (hs j y pL) (sB j y pL) Zo;refine ae ?_;refine kS Zr (fun z hz=>Zw _ (hu z hz)) DU ?_;refine ae ?_;refine kS Zr (fun z hz=>Zw _ (I8 z hz)) WE ?_;exact zB7
theorem Ak(T:List kC)(aE:ByteArray)(ax:Int)(l:List wY)(hl:l.length<=1099511627776)(hu:∀x∈l,x.copied.length<=1099511627776/\PN.ws x.body<=1099511627776)(v w:Value)(h:pN T v l)(h2:pN T w l):aw Tryz.prog 17 [.agg #[.string aE,vi ax,v],.agg #[.string aE,vi ax,w]] [T] (fun v Post=>v=.bool true/\Post=[T]):=by
 obtain⟨a,c,bk,o,us,rfl,ha,hm,hs⟩:=h;obtain⟨a',c',Yy,o',K8,rfl,Cr,hm',sB⟩:=h2;refine aw.intro low17 (by simp[n17]) ?_;refine ae ?_;refine kX Zr (fun q=>?_);refine kX Zr (fun q2=>?_);simp only[Value.cells];refine ae ?_;rw[show decide (aE=aE)=true from Zt rfl];refine ae ?_;rw[show decide (ax=ax)=true from Zt rfl];refine ae ?_;refine VC.loop (α:=Nat) (bi:=fun j=>[(2,kF q),(3,kF q2),(5,vi j)]) (Hf:=fun _=>[T,kA q 0 [.string aE,vi ax,.slice a l.length c],kA q2 0 [.string aE,vi ax,.slice a' l.length c']])
  (I:=fun j=>j<=l.length) (μ:=fun j=>l.length - j) 0 (Qv _) ZU ZI ?_
 intro j i1;refine ae ?_;by_cases hj:j < l.length;rotate_left
 ·rw[show decide ((j:Int) < ((l.length:Nat):Int))=false from Zf Zo];exact zBS
 rw[show decide ((j:Int) < ((l.length:Nat):Int))=true from Zt Zo];obtain rfl:=ha Zo;obtain rfl:=Cr Zo;obtain⟨y,pL⟩:∃y,l[j]? =some y:=⟨_,Zg hj⟩;have hu1:=hm j hj;have I8:=hm' j hj;have DU:=(hs j y pL).len;have WE:=(sB j y pL).len;obtain⟨k1,k2⟩:=hu y (Zv pL);have aC:=Bv T y _ _ (hs j y pL) (sB j y pL) k1 k2;refine ae ?_;refine kS Zr (fun z hz=>Zw _ (hu1 z hz)) DU ?_;refine ae ?_;refine kS Zr (fun z hz=>Zw _ (I8 z hz)) WE ?_;exact zB7
end Go.Proofs.YtijnokbblmbpkaaGreatDoor
namespace Go.V
open Go
section
variable {P:Program} {n:Nat}
def Holds(dst:Nat->Option Nat)(vv:Nat->Value×List kC)(done:List Nat)(Γ:Env):Prop:=∀i∈done,∀t,dst i=some t->look Γ t=some (vv i).1
def Fc(Nr:Env)(ds:List Nat)(Γ:Env):Prop:=∀t v,look Nr t=some v->t∉ds->look Γ t=some v
def tailB(an:List (List Nat))(k n:Nat):Bool:=(List.range n).all fun i=>decide (i < k)||(List.range i).all fun j=>(an.getD i []).contains j
def Km(rs:List RO)(k:Nat):Bool:=yx ((rs.take k).filterMap fun r=>r.dst)
 where yx:List Nat->Bool
  |[]=>true
  |x::r=>!r.contains x&&yx r
theorem tF:∀{l:List Nat},Km.yx l=true->l.Nodup:=by
 intro l
 induction l with
 |nil=>intro _;exact .nil
 |cons x r ih=>
  intro h;simp only[Km.yx,vF,vN,List.contains_eq_mem,decide_eq_false_iff_not]at h;exact QU.2 ⟨h.1,ih h.2⟩
theorem UQ:∀{rs:List RO} {k:Nat},((rs.take k).filterMap fun r=>r.dst).Nodup->∀{i j t:Nat},i < k->j < k->i < rs.length->j < rs.length->(rs.getD i default).dst=some t->(rs.getD j default).dst=some t->i=j:=by
 intro rs
 induction rs with
 |nil=>intro k _ i j t _ _ hi;simp at hi
 |cons r rs ih=>
  intro k h i j t hi hj hli hlj h1 h2;cases k with
  |zero=>omega
  |succ k=>
   simp only[List.take_succ_cons,List.filterMap_cons]at h;have bO:∀{m:Nat},m < k->m < rs.length->(rs.getD m default).dst=some t->t∈(rs.take k).filterMap fun r=>r.dst:=fun {m} hm hlm hd=>by
    refine List.mem_filterMap.2 ⟨rs.getD m default,?_,hd⟩;rw[Vh,Zg hlm,Qy];exact List.mem_take_iff_getElem.2 ⟨m,Zo,rfl⟩
   have bM:((rs.take k).filterMap fun r=>r.dst).Nodup:=by
    cases hr:r.dst with
    |none=>rw[hr]at h;exact h
    |some d=>rw[hr]at h;exact(QU.1 h).2
   cases i with
   |zero=>
    cases j with
    |zero=>rfl
    |succ j=>
     simp only[List.getD_cons_zero,List.getD_cons_succ]at h1 h2;rw[h1]at h;exact absurd (bO Zo (by simpa using hlj) h2) (QU.1 h).1
   |succ i=>
    cases j with
    |zero=>
     simp only[List.getD_cons_zero,List.getD_cons_succ]at h1 h2;rw[h2]at h;exact absurd (bO Zo (by simpa using hli) h1) (QU.1 h).1
    |succ j=>
     simp only[List.getD_cons_succ]at h1 h2;rw[ih bM Zo Zo (by simpa using hli) (by simpa using hlj) h1 h2]
end
section
variable {P:Program} {n:Nat}
def KQ(l:List Nat)(vv:Nat->Value×List kC):Nat->Value:=fun j=>if j∈l then(vv j).1 else undef
theorem RX {l:List Nat}{vv vv':Nat->Value×List kC}(h:∀j∈l,vv' j=vv j):KQ l vv'=KQ l vv:=by
 funext j
 unfold KQ;split
 ·rename_i hj;rw[h j hj]
 ·rfl
def Nu(cs:Nat->List Nat)(l:List Nat):List Nat:=l.filter fun x=>l.all fun j=>!(cs j).contains x
theorem Oc {cs:Nat->List Nat}{l:List Nat}{i:Nat}(hn:l.Nodup)(h1:∀x∈cs i,x∈l)(h2:(cs i).Nodup)(h3:∀j∈l,∀x∈cs j,x∉cs i)(h4:∀j∈l,i∉cs j)(h5:i∉cs i):
 (Nu cs l).Perm (cs i++l.filter fun x=>(l.all fun j=>!(cs j).contains x)&&!(cs i).contains x)/\Nu cs (l++[i])=(l.filter fun x=>(l.all fun j=>!(cs j).contains x)&&!(cs i).contains x)++[i]:=by
 constructor
 ·refine(QY (hn.filter _) (QT.2 ⟨h2,hn.filter _,fun x hx y hy e=>?_⟩)).2 (fun x=>?_)
  ·subst e;have:=(QK.1 hy).2;simp[hx]at this
  ·simp only[Nu,QF,QK,ve,vN,List.contains_eq_mem,decide_eq_false_iff_not,vF];constructor
   ·rintro⟨a,b⟩
    by_cases c:x∈cs i
    ·exact .inl c
    ·exact .inr ⟨a,b,c⟩
   ·rintro(a|⟨a,b,c⟩)
    ·exact⟨h1 x a,fun j hj hx=>h3 j hj x hx a⟩
    ·exact⟨a,b⟩
 ·rw[Nu,V5]
  congr 1
  ·refine List.filter_congr fun x hx=>?_
   rw[List.all_append];simp
  ·rw[List.filter_cons_of_pos,List.filter_nil];simp only[List.all_append,vF,ve,vN,List.contains_eq_mem,decide_eq_false_iff_not,QR];exact⟨h4,fun j hj=>hj ▸ h5⟩
theorem MY {X:Nat->RO×Oper}{G:Nat->Value->List kC->(Nat->Value)->Prop}{base:SH}{Nr:Env}{ds:List Nat}{an cs:Nat->List Nat}(li:List Nat)(hn:li.Nodup)(mP:∀i∈li,rQ P n [(X i).1] [X i])
 (hds:∀i∈li,∀t,(X i).1.dst=some t->t∈ds) (IW:∀i∈li,∀j∈li,∀t,(X i).1.dst=some t->(X j).1.dst=some t->i=j)
 (hbef:∀l1 i l2,li=l1++i::l2->∀j∈an i,j∈l1) (AV:∀i∈li,(∀x∈cs i,x∈an i)/\(cs i).Nodup) (L2:∀i∈li,∀j∈li,i≠j->∀x∈cs j,x∉cs i)
 (step:∀i∈li,∀(vv:Nat->Value×List kC),(∀j∈an i,G j (vv j).1 (vv j).2 (KQ (an j) vv))->∀Γ,Holds (fun j=>(X j).1.dst) vv (an i) Γ->Fc Nr ds Γ->
   VO P n [(X i).1] Γ ((cs i).map (fun j=>(vv j).2)++base) (fun _ _ _=>False) (fun ay H'=>∃v B,ay=ap (X i).1.dst v Γ/\G i v B (KQ (an i) vv)/\ao H' (B::base)))
 {F:List kC} {ZZ:Exit->Act->World->Prop} {Q:Act->World->Prop} {rest:List (RO×Oper)} {a0:Act} {w0:World}
 (hq:∀(vv:Nat->Value×List kC) a' w' ay,(∀i∈li,G i (vv i).1 (vv i).2 (KQ (an i) vv))->Holds (fun j=>(X j).1.dst) vv li ay->Fc Nr ds ay->w8 n ay a'->a'.defers=a0.defers->Sat w' (((Nu cs li).flatMap fun i=>(vv i).2)++(base.flatten++F))->kg w0 w'->cr P ZZ Q rest a' w'):
 ∀(l2 l1:List Nat),li=l1++l2->∀(vv:Nat->Value×List kC) Γ a w,(∀i∈l1,G i (vv i).1 (vv i).2 (KQ (an i) vv))->Holds (fun j=>(X j).1.dst) vv l1 Γ->Fc Nr ds Γ->w8 n Γ a->a.defers=a0.defers->Sat w (((Nu cs l1).flatMap fun i=>(vv i).2)++(base.flatten++F))->kg w0 w->cr P ZZ Q (l2.map X++rest) a w:=by
 intro l2
 induction l2 with
 |nil=>
  intro l1 hl vv Γ a w hg hh hk ha hd hs hkw;rw[vm]at hl;subst hl;exact hq vv a w Γ hg hh hk ha hd hs hkw
 |cons i l2 ih=>
  intro l1 hl vv Γ a w hg hh hk ha hd hs hkw;have hi:i∈li:=by rw[hl];simp
  have hb:=hbef l1 i l2 hl;have st:=step i hi vv (fun j hj=>hg j (hb j hj)) Γ (fun j hj=>hh j (hb j hj)) hk;have cF:i∉l1:=by
   rw[hl]at hn;intro h;exact(QT.1 hn).2.2 i h i Zs rfl
  obtain⟨p1,p2⟩:=Oc (cs:=cs) (l:=l1) (i:=i) (by rw[hl]at hn;exact(QT.1 hn).1) (fun x hx=>hb x ((AV i hi).1 x hx)) (AV i hi).2 (fun j hj x hx=>L2 i hi j (by rw[hl];simp[hj]) (fun e=>cF (e ▸ hj)) x hx) (fun j hj hx=>by
   obtain⟨q1,q2,rfl⟩:=vp hj;exact cF (by have:=hbef q1 j (q2++i::l2) (by rw[hl];simp) i ((AV j (by rw[hl];simp)).1 i hx);simp[this])) (fun hx=>cF (hb i ((AV i hi).1 i hx)))
  generalize hR:(l1.filter fun x=>(l1.all fun j=>!(cs j).contains x)&&!(cs i).contains x)=R at p1 p2;have hR1:∀x∈R,x∈l1:=fun x hx=>by rw[<- hR]at hx;exact(QK.1 hx).1
  have sB:Sat w (((cs i).map (fun j=>(vv j).2)++base).flatten++((R.flatMap fun i=>(vv i).2)++F)):=hs.perm (by
   have q:=p1.flatMap_right (fun i=>(vv i).2);refine(q.append_right _).trans ?_;rw[VV,Vc,<- Va,vj,vj];refine vX _ ?_;rw[<- vj,<- vj];exact QW.append_right F)
  refine st [X i] (mP i hi) a w ((R.flatMap fun i=>(vv i).2)++F) ZZ (cr P ZZ Q (l2.map X++rest)) ha sB (fun a' w' ay H' ⟨v,B,k1,k2,k3⟩ g1 g2 g3 g4=>?_) (fun _ _ _ _ _ k=>k.elim);subst k1;have NL:∀j∈l1,(if j=i then(v,B)else vv j)=vv j:=fun j hj=>if_neg (fun e:j=i=>cF (e ▸ hj))
  refine ih (l1++[i]) (by rw[hl];simp) (fun j=>if j=i then(v,B)else vv j) _ a' w' (fun j hj=>?_) (fun j hj t ht=>?_) (fun t u hu E1=>?_) g1 (g2.trans hd) ?_ (hkw.trans g4)
  ·rcases QF.1 hj with h|h
   ·have hm:KQ (an j) (fun j=>if j=i then(v,B)else vv j)=KQ (an j) vv:=RX fun x hx=>by
     obtain⟨q1,q2,rfl⟩:=vp h;exact NL x (by have:=hbef q1 j (q2++i::l2) (by rw[hl];simp) x hx;simp[this])
    simp only[NL j h,hm];exact hg j h
   ·rw[QR.1 h];have hm:KQ (an i) (fun j=>if j=i then(v,B)else vv j)=KQ (an i) vv:=RX fun x hx=>NL x (hb x hx)
    simp only[if_true,hm];exact k2
  ·rcases QF.1 hj with h|h
   ·have ND:j≠i:=fun e=>cF (e ▸ h)
    have hj2:j∈li:=by rw[hl];simp[h]
    simp only[NL j h];cases Gi:(X i).1.dst with
    |none=>exact hh j h t ht
    |some s=>
     have:s≠t:=fun e=>ND (IW j hj2 i hi t ht (by rw[Gi,e]))
     simp only[ap,look,if_neg this];exact hh j h t ht
   ·rw[QR.1 h]at ht|-;simp only[if_true];simp only[ht,ap,look,if_true]
  ·cases Gi:(X i).1.dst with
   |none=>exact hk t u hu E1
   |some s=>
    have:s≠t:=fun e=>E1 (e ▸ hds i hi s Gi)
    simp only[ap,look,if_neg this];exact hk t u hu E1
  ·have g5:=g3.imp k3;have e:((Nu cs (l1++[i])).flatMap fun j=>(if j=i then(v,B)else vv j).2)=(R.flatMap fun i=>(vv i).2)++B:=by
    rw[p2,VV]
    congr 1
    ·rw[Va,Va]
     congr 1
     exact QB fun j hj=>by rw[NL j (hR1 j hj)]
    ·simp
   rw[e];refine g5.perm ?_;simp only[Vd,vj];have p1:(B++(base.flatten++((R.flatMap fun i=>(vv i).2)++F))).Perm (B++((R.flatMap fun i=>(vv i).2)++(base.flatten++F))):=by
    refine vX _ ?_;rw[<- vj,<- vj];exact QW.append_right F
   refine p1.trans ?_;rw[<- vj,<- vj (R.flatMap _)];exact QW.append_right _
def YC(an:List (List Nat))(cs:Nat->List Nat)(k:Nat):Bool:=(List.range k).all fun i=>((cs i).all fun x=>(an.getD i []).contains x)&&Km.yx (cs i)&&(List.range k).all fun j=>decide (i=j)||(cs j).all fun x=>!(cs i).contains x
theorem Iy {an:List (List Nat)}{cs:Nat->List Nat}{k:Nat}(h:YC an cs k=true):(∀i,i < k->(∀x∈cs i,x∈an.getD i [])/\(cs i).Nodup)/\∀i,i < k->∀j,j < k->i≠j->∀x∈cs j,x∉cs i:=by
 have h':∀i,i < k->_:=fun i hi=>ve.1 h i (QO.2 hi)
 refine⟨fun i hi=>?_,fun i hi j hj O9 x hx=>?_⟩
 ·have:=h' i hi;rw[vF,vF]at this;exact⟨fun x hx=>vt.1 (ve.1 this.1.1 x hx),tF this.1.2⟩
 ·have:=h' i hi;rw[vF,vF]at this;have:=ve.1 this.2 j (QO.2 hj);rw[vR,decide_eq_true_eq]at this;rcases this with e|e
  ·exact absurd e O9
  ·have:=ve.1 e x hx;intro hc;simp[hc]at this
theorem VC.freeC {Γ:Env}{base:SH}{Q:Exit->Env->SH->Prop}{rs:List RO}{an:List (List Nat)}{aV:List Nat}(k:Nat)(G:Nat->Value->List kC->(Nat->Value)->Prop)(hk:k<=rs.length)(htail:tailB an k rs.length=true)(hdst:Km rs k=true)(cs:Nat->List Nat)(hcons:YC an cs k=true)
 (step:∀i,i < k->∀(vv:Nat->Value×List kC),(∀j∈an.getD i [],G j (vv j).1 (vv j).2 (KQ (an.getD j []) vv))->∀ay,Holds (fun j=>(rs.getD j default).dst) vv (an.getD i []) ay->Fc Γ ((rs.take k).filterMap fun r=>r.dst) ay->
   VO P n [rs.getD i default] ay ((cs i).map (fun j=>(vv j).2)++base) (fun _ _ _=>False) (fun cu H'=>∃v B,cu=ap (rs.getD i default).dst v ay/\G i v B (KQ (an.getD i []) vv)/\ao H' (B::base)))
 (fin:∀(vv:Nat->Value×List kC),(∀i,i < k->G i (vv i).1 (vv i).2 (KQ (an.getD i []) vv))->∀ay,Holds (fun j=>(rs.getD j default).dst) vv (List.range k) ay->Fc Γ ((rs.take k).filterMap fun r=>r.dst) ay->
   VO P n (rs.drop k) ay (((Nu cs (List.range k)).map fun i=>(vv i).2)++base) (fun ch _ H'=>Q (.panic ch) [] H') (fun cu H'=>Q .normal (aR aV cu) H')):VC P n (.free rs an aV) Γ base Q:=by
 intro ρ kp od code hl a w F QQ hr ha hs hh;obtain⟨id,ops,rfl,h1,hm,hb,rfl,rfl⟩:=jd hl;have hlen:=(jv h1).1;refine wpIn_region_draw (fun t=>?_);have o6:Region.schedule (P.follows .mixedOrders) ops t=jf ops ops.size t (Array.replicate ops.size false):=by simp[Region.schedule,hm,Region.linearise,jf]
 rw[o6];have hu:oI ops (Array.replicate ops.size false)=List.range ops.size:=by
  exact zAU
 obtain⟨s1,s2,_⟩:=y8 hb ops.size t (Array.replicate ops.size false) Zs (by rw[hu];simp);have Kw:∀{x y:Nat},y < ops.size->x∈(ij ops).getD y []->J8 (jf ops ops.size t (Array.replicate ops.size false)) x y:=fun hy hx=>uE hb (Qn _) (iQ hx) hy
 generalize hl:jf ops ops.size t (Array.replicate ops.size false)=l at*;have bO:∀i,i∈l↔i < ops.size:=fun i=>by rw[s2,hu];simp
 have hX:∀i,i < ops.size->ops[i]? =some ((rs.zip ops.toList).getD i default).2/\((rs.zip ops.toList).getD i default).1=rs.getD i default/\dP P n ops ((rs.zip ops.toList).getD i default).2=some ((rs.zip ops.toList).getD i default).1:=fun i hi=>z7 h1 hi
 have hro:rs.length=ops.size:=by simpa using hlen
 have sE:∀i,k<=i->i < rs.length->∀j,j < i->j∈(ij ops).getD i []:=fun i hki hi j hj=>by
  have:=ve.1 htail i (QO.2 hi);simp only[vR,decide_eq_true_eq]at this;rcases this with h|h
  ·omega
  ·have:=ve.1 h j (QO.2 hj);exact vt.1 this
 have sD:l.filter (fun i=>decide (i < k))++List.range' k (rs.length - k)=l:=by
  refine ti ?_ s1 ?_
  ·refine(QY ?_ s1).2 (fun x=>?_)
   ·refine QT.2 ⟨s1.filter _,List.nodup_range',fun x hx y hy e=>?_⟩;have h1:=(QK.1 hx).2;have h2:=QP.1 hy;simp only[decide_eq_true_eq]at h1;omega
   ·simp only[QF,QK,bO,QP,decide_eq_true_eq];omega
  ·refine List.pairwise_append.2 ⟨List.pairwise_iff_forall_sublist.2 fun h=>h.trans List.filter_sublist,?_,?_⟩
   ·refine(List.pairwise_lt_range' (s:=k) (n:=rs.length - k) (step:=1)).imp_of_mem ?_;intro x y hx hy hxy;have h1:=QP.1 hx;have h2:=QP.1 hy;exact(Kw Zo (sE y Zo Zo x hxy)).sub
   ·intro x hx y hy;have h1:=(QK.1 hx).2;have h2:=QP.1 hy;simp only[decide_eq_true_eq]at h1;exact(Kw Zo (sE y Zo Zo x Zo)).sub
 generalize hli:l.filter (fun i=>decide (i < k))=li at sD;have sw:∀i,i∈li↔i < k:=fun i=>by
  rw[<- hli,QK,bO,decide_eq_true_eq];omega
 have hlin:li.Nodup:=hli ▸ s1.filter _;refine eY (P:=P) (ρ:=ρ) (n:=n) (ops:=ops) (X:=fun i=>(rs.zip ops.toList).getD i default) (QQ:=QQ) (fun i hi=>⟨(hX i hi).1,(hX i hi).2.2⟩) _ a _ (fun i hi=>(bO i).1 hi) ?_;rw[<- sD,QA];have hXi:∀i,i < k->((rs.zip ops.toList).getD i default).1=rs.getD i default:=fun i hi=>(hX i Zo).2.1
 have E1:=tF hdst;have IV:=Iy hcons;refine MY (cs:=cs) (X:=fun i=>(rs.zip ops.toList).getD i default) (G:=G) (base:=base) (Nr:=Γ) (ds:=(rs.take k).filterMap fun r=>r.dst) (an:=fun i=>(ij ops).getD i []) li hlin (fun i hi=>?_) (fun i hi t ht=>?_) (fun i hi j hj t ht1 ht2=>?_) ?_ (fun i hi=>⟨(IV.1 i ((sw i).1 hi)).1,(IV.1 i ((sw i).1 hi)).2⟩) (fun i hi j hj=>IV.2 i ((sw i).1 hi) j ((sw j).1 hj)) ?_ (F:=F) (a0:=a) (w0:={w with drawn:=w.drawn+1}) ?_ li [] rfl (fun _=>(undef,[])) Γ a _ (fun i hi=>by cases hi) (fun i hi=>by cases hi) (fun t v h _=>h) ha rfl (by simp only[Nu,List.filter_nil,List.flatMap_nil,QS];exact hs.drawn _) (.refl _)
 ·have bQ:=(sw i).1 hi;exact⟨rfl,fun x hx=>by rw[QR.1 hx];exact⟨ops,(hX i Zo).2.2⟩⟩
 ·have bQ:=(sw i).1 hi;simp only[hXi i bQ]at ht;refine List.mem_filterMap.2 ⟨rs.getD i default,?_,ht⟩;rw[Vh,Zg Zo,Qy];exact List.mem_take_iff_getElem.2 ⟨i,Zo,rfl⟩
 ·have bQ:=(sw i).1 hi;have KA:=(sw j).1 hj;simp only[hXi i bQ,hXi j KA]at ht1 ht2;exact UQ E1 bQ KA Zo Zo ht1 ht2
 ·intro l1 i l2 e j hj;have hi:i < k:=(sw i).1 (by rw[e];simp);have p7:=Kw Zo hj;rw[<- sD,e]at p7;have hnn:(l1++i::l2++List.range' k (rs.length - k)).Nodup:=by rw[<- e,sD];exact s1
  have O9:=p7.2.2;rw[vj,List.idxOf_append (l₁:=l1),List.idxOf_append (l₁:=l1)]at O9;by_cases xT:j∈l1
  ·exact xT
  ·rw[if_neg xT]at O9;have cF:i∉l1:=by
    rw[vj]at hnn;intro h;exact(QT.1 hnn).2.2 i h i Zs rfl
   rw[if_neg cF]at O9;rw[vr,List.idxOf_cons_self]at O9;omega
 ·intro i hi vv hg ay hh ir;have bQ:=(sw i).1 hi;have e:=hXi i bQ;show VO P n [((rs.zip ops.toList).getD i default).1] _ _ _ _;rw[e];have hanlt:∀j∈(ij ops).getD i [],j < k∨True:=fun _ _=>.inr trivial
  refine(step i bQ vv hg ay (fun j hj t ht=>?_) ir);refine hh j hj t ?_;have hjm:j < ops.size:=(bO j).1 (Kw Zo hj).1;show((rs.zip ops.toList).getD j default).1.dst=some t;rw[(hX j hjm).2.1];exact ht
 ·intro vv a' w' ay hg hhold ir Cr O4 sB hkw;have hf:=fin vv (fun i hi=>hg i ((sw i).2 hi)) ay (fun j hj t ht=>by
   have KA:=QO.1 hj;refine hhold j ((sw j).2 KA) t ?_;show((rs.zip ops.toList).getD j default).1.dst=some t;rw[hXi j KA];exact ht) ir
  have mP:rQ P n (rs.drop k) ((List.range' k (rs.length - k)).map fun i=>(rs.zip ops.toList).getD i default):=by
   refine⟨?_,fun x hx=>?_⟩
   ·rw[QD];apply V0;intro i;simp only[Vo,Vu];by_cases hi:i < rs.length - k
    ·rw[List.getElem?_range' hi];simp only[X2,Function.comp];rw[(hX (k+1*i) Zo).2.1,Nat.one_mul,Vh,Zg Zo,Qy]
    ·rw[Vp (by simpa using hi),Vp Zo];rfl
   ·obtain⟨i,hi,rfl⟩:=QM.1 hx;have:=QP.1 hi;exact⟨ops,(hX i Zo).2.2⟩
  have dI:((Nu cs li).flatMap fun i=>(vv i).2).Perm ((Nu cs (List.range k)).map fun i=>(vv i).2).flatten:=by
   rw[<- Va];refine List.Perm.flatMap_right _ ?_;refine(QY (hlin.filter _) (QV.filter _)).2 (fun x=>?_);simp only[QK,sw,QO,ve]
  have rK:Sat w' ((((Nu cs (List.range k)).map fun i=>(vv i).2)++base).flatten++F):=sB.perm (by
   rw[Vc,vj];exact dI.append_right _)
  refine hf _ mP a' w' F QQ (QQ .normal) Cr rK (fun a2 w2 cu H2 q2 k1 k2 k3 k4=>?_) (fun ch a2 w2 cu H2 q2 k1 k2 k3 k4=>?_)
  ·exact hh _ a2 w2 _ H2 [] q2 ⟨k1.size,fun t v e=>k1.slots t v (n6 _ _ t v e)⟩ (k2.trans O4) k3.cf (((kg.refl w).drawn _).trans (hkw.trans k4))
  ·exact hh _ a2 w2 [] H2 [] q2 ⟨k1.size,fun t v e=>by cases e⟩ (k2.trans O4) k3.cf (((kg.refl w).drawn _).trans (hkw.trans k4))
end
end Go.V

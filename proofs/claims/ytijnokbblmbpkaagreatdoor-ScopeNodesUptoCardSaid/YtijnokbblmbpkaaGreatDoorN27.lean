/-
  Sameness, by the document's own functions.
-/
import Derived.Test.YtijnokbblmbpkaaGreatDoorN24
import Derived.Test.YtijnokbblmbpkaaGreatDoorN12
import Derived.Test.YtijnokbblmbpkaaGreatDoorN22
import Derived.Test.YtijnokbblmbpkaaGreatDoorN25
import Derived.Test.YtijnokbblmbpkaaGreatDoorN13
import Derived.Test.YtijnokbblmbpkaaGreatDoorN26
import Derived.Test.YtijnokbblmbpkaaGreatDoorN9
import Derived.KernelRfl
import Derived.Test.YtijnokbblmbpkaaGreatDoorProg
import Derived.Test.YtijnokbblmbpkaaGreatDoorN17
import Derived.Test.YtijnokbblmbpkaaGreatDoorN5
set_option linter.all false
namespace Go.Proofs.YtijnokbblmbpkaaGreatDoor
open Go Go.V
set_option maxHeartbeats 3200000
set_option maxRecDepth 100000
theorem zr(A:List kB)(av bv:Value)(l m:List ByteArray)(hl:du A av l)(hm:du A bv m):ao Tryz.prog 20 [av,bv] [A] (fun v Post=>v=.bool (decide (l=m))/\Post=[A]):=by
 obtain⟨a,c,rfl,Ln,Lo⟩:=hl;obtain⟨b,cb,rfl,OV,hmr⟩:=hm;refine ao.intro low20 (by simp[n20]) ?_;obtain⟨t,ht⟩:∃t,t=decide (l=m):=⟨_,rfl⟩;rw[<- ht];refine ae ?_;by_cases hlen:l.length=m.length;rotate_left
 ·have bQ:t=false:=by rw[ht];exact Zf fun h=>hlen (by rw[h])
  rw[show decide ((l.length:Int)=(m.length:Int))=false from Zf Zo];exact GI
 rw[show decide ((l.length:Int)=(m.length:Int))=true from Zt Zo];refine ae ?_;refine VC.loop (α:=Nat) (aW:=fun j=>[(0,.slice a l.length c),(1,.slice b m.length cb),(5,vi j)]) (Hf:=fun _=>[A])
  (I:=fun j=>j<=l.length/\∀i x y,i < j->l[i]? =some x->m[i]? =some y->x=y) (μ:=fun j=>l.length - j) 0 ⟨Qs _,fun i x y h=>absurd h Zo⟩ ZU ZI ?_
 rintro j ⟨i1,i2⟩
 refine ae ?_;by_cases hj:j < l.length;rotate_left
 ·rw[show decide ((j:Int) < (l.length:Int))=false from Zf Zo];have htt:t=true:=by
   rw[ht];refine Zt (Su hlen fun i x y e1 e2=>i2 i x y ?_ e1 e2);have:=(Vh.1 e1).1;omega
  exact zCX
 rw[show decide ((j:Int) < (l.length:Int))=true from Zt Zo];obtain⟨x,hx⟩:∃x,l[j]? =some x:=⟨_,Zg hj⟩;obtain⟨y,hy⟩:∃y,m[j]? =some y:=⟨_,Zg (hlen ▸ hj)⟩;obtain⟨b1,o1,rfl,Hy,nS⟩:=Lo j x hx;obtain⟨b2,o2,rfl,AU,nT⟩:=hmr j y hy;refine ae ?_;by_cases GY:x=y
 ·rw[Zt GY];refine ae ?_;refine⟨j+1,⟨Zo,fun i u v hi e1 e2=>?_⟩,Zo,ZU,ZI⟩;by_cases Ey:i=j
  ·subst Ey;rw[hx]at e1;rw[hy]at e2;cases e1;cases e2;exact GY
  ·exact i2 i u v Zo e1 e2
 ·have bQ:t=false:=by
   rw[ht];refine Zf fun h=>GY ?_
   subst h;rw[hx]at hy;cases hy;rfl
  rw[Zf GY];exact GI
theorem Dl(A:List kB):∀(N:Nat) (x y:Lt),x.size<=N->∀vs ws,zN A x vs->zN A y ws->ao Tryz.prog 92 [.agg vs.toArray,.agg ws.toArray] [A] (fun v Post=>v=.bool (eo x y)/\Post=[A]):=by
 intro N
 induction N with
 |zero=>intro x y hx;have:=x.size_pos;omega
 |succ N ih=>
  intro x y hx vs ws h h2;cases h with
  |@mk k n b t items a c bk o us wf ha hm hr=>
  cases h2 with
  |@mk k' n' b' t' mj a' c' XQ o' Kw wf' Cv hm' sN=>
  have bL:=wf.many;refine ao.intro low92 (by simp[n92]) ?_;obtain⟨E,hE⟩:∃E,E=eo (.mk k n b t items) (.mk k' n' b' t' mj):=⟨_,rfl⟩;rw[<- hE];simp only[eo]at hE;refine ae ?_;refine kW Zr (fun q=>?_);refine kW Zr (fun q2=>?_);simp only[Value.cells];refine ae ?_;by_cases h1:k=k';rotate_left
  ·have bQ:E=false:=by simp[hE,h1]
   rw[show decide ((k:Int)=(k':Int))=false from Zf Zo];exact GI
  rw[show decide ((k:Int)=(k':Int))=true from Zt Zo];refine ae ?_;by_cases h2:n=n';rotate_left
  ·have bQ:E=false:=by simp[hE,h2]
   rw[Zf h2];exact GI
  rw[Zt h2];refine ae ?_;by_cases h3:b=b';rotate_left
  ·have bQ:E=false:=by simp[hE,h3]
   rw[show decide ((b:Int)=(b':Int))=false from Zf Zo];exact GI
  rw[show decide ((b:Int)=(b':Int))=true from Zt Zo];refine ae ?_;by_cases h4:t=t';rotate_left
  ·have bQ:E=false:=by simp[hE,h4]
   rw[Zf h4];exact GI
  rw[Zt h4];refine ae ?_;by_cases h5:items.length=mj.length;rotate_left
  ·have bQ:E=false:=by simp[hE,Ig h5]
   rw[show decide ((items.length:Int)=(mj.length:Int))=false from Zf Zo];exact GI
  rw[show decide ((items.length:Int)=(mj.length:Int))=true from Zt Zo];have HX:E=eY items mj:=by simp[hE,h1,h2,h3,h4]
  clear hE;refine ae ?_;refine VC.loop (α:=Nat) (aW:=fun j=>[(2,kE q),(3,kE q2),(5,vi j)]) (Hf:=fun _=>[A,kA q 0 [cv k,vi n,uv b,.string t,.slice a items.length c],kA q2 0 [cv k',vi n',uv b',.string t',.slice a' mj.length c']])
   (I:=fun j=>j<=items.length/\∀i x y,i < j->items[i]? =some x->mj[i]? =some y->eo x y=true) (μ:=fun j=>items.length - j) 0 ⟨Qs _,fun i x y h=>absurd h Zo⟩ ZU ZI ?_
  rintro j ⟨i1,i2⟩
  refine ae ?_;by_cases hj:j < items.length;rotate_left
  ·rw[show decide ((j:Int) < (items.length:Int))=false from Zf Zo];have htt:E=true:=by
    rw[HX];exact(iC _ _).2 ⟨h5,fun i x y e1 e2=>i2 i x y (by have:=(Vh.1 e1).1;omega) e1 e2⟩
   exact zCX
  rw[show decide ((j:Int) < (items.length:Int))=true from Zt Zo];obtain rfl:=ha Zo;obtain rfl:=Cv Zo;obtain⟨x,Pb⟩:∃x,items[j]? =some x:=⟨_,Zg hj⟩;obtain⟨y,Nq⟩:∃y,mj[j]? =some y:=⟨_,Zg (h5 ▸ hj)⟩;have hu:=hm j hj;have hw:=hm' j Zo;have EP:=(hr j x Pb).len;have hwl:=(sN j y Nq).len;have aU:=ih x y (by have:=Lt.aH (Zv Pb);simp only[Lt.size]at hx;omega) _ _ (hr j x Pb) (sN j y Nq);refine ae ?_;refine kS Zr (fun z hz=>Zw _ (hu z hz)) EP ?_;refine ae ?_;refine kS Zr (fun z hz=>Zw _ (hw z hz)) hwl ?_;refine ae ?_;refine kI aU Zr ZP (fun v Post hv=>?_);obtain⟨rfl,rfl⟩:=hv;simp only[aE];cases GY:eo x y with
  |true=>
   refine ae ?_;refine⟨j+1,⟨Zo,fun i u v hi e1 e2=>?_⟩,Zo,ZU,ZI⟩;by_cases Ey:i=j
   ·subst Ey;rw[Pb]at e1;rw[Nq]at e2;cases e1;cases e2;exact GY
   ·exact i2 i u v Zo e1 e2
  |false=>
   have bQ:E=false:=by rw[HX];exact CY Pb Nq GY
   exact GI
def fZ(x y:Nd):Bool:=decide (x.kind=y.kind)&&decide (x.name=y.name)&&decide (x.args=y.args)&&decide (x.ab=y.ab)&&eo x.lit y.lit&&decide (x.kids.length=y.kids.length)
theorem uO(A:List kB)(x y:Nd)(vs ws:List Value)(h:j7 A x vs)(h2:j7 A y ws):ao Tryz.prog 138 [.agg vs.toArray,.agg ws.toArray] [A] (fun v Post=>v=.bool (fZ x y)/\Post=[A]):=by
 cases h with
 |@mk k s lit args ab kids p lv av tv a c bk o us wf hl bB bu ha hm hr tX=>
 cases h2 with
 |@mk k' s' EX sB mP ml p' lv' av' M1 a' c' XQ o' Kw wf' qZ Es tJ Cv hm' sN hcp'=>
 have hlits:=Dl A _ lit EX (Qj _) _ _ hl qZ;have cu:=zr A _ _ args sB bB Es;have HT:=zr A _ _ ab mP bu tJ;obtain⟨aa,ac,rfl,_,_⟩:=bB;obtain⟨ta,tc,rfl,_,_⟩:=bu;obtain⟨aa',ac',rfl,_,_⟩:=Es;obtain⟨ta',tc',rfl,_,_⟩:=tJ;obtain⟨la,lc,rfl⟩:=mZ hl;obtain⟨la',lc',rfl⟩:=mZ qZ;refine ao.intro low138 (by simp[n138]) ?_;obtain⟨E,hE⟩:∃E,E=fZ (.mk k s lit args ab kids p) (.mk k' s' EX sB mP ml p'):=⟨_,rfl⟩;rw[<- hE];simp only[fZ,Nd.kind,Nd.name,Nd.args,Nd.ab,Nd.lit,Nd.kids]at hE;simp only[aE]at*;refine ae ?_;refine kW Zr (fun q=>?_);refine kW Zr (fun q2=>?_);simp only[Value.cells];refine ae ?_;refine kI hlits Zr ZP (fun v Post hv=>?_);obtain⟨rfl,rfl⟩:=hv;simp only[aE];refine ae ?_;refine kI cu Zr ZP (fun v Post hv=>?_);obtain⟨rfl,rfl⟩:=hv;simp only[aE];refine ae ?_;refine kI HT Zr ZP (fun v Post hv=>?_);obtain⟨rfl,rfl⟩:=hv;simp only[aE];refine ae ?_;cases h5:eo lit EX with
 |false=>
  have bQ:E=false:=by simp[hE,h5]
  exact GI
 |true=>
  refine ae ?_;by_cases h3:args=sB;rotate_left
  ·have bQ:E=false:=by simp[hE,h3]
   rw[Zf h3];exact GI
  rw[Zt h3];refine ae ?_;by_cases h4:ab=mP;rotate_left
  ·have bQ:E=false:=by simp[hE,h4]
   rw[Zf h4];exact GI
  rw[Zt h4];refine ae ?_;by_cases h1:k=k';rotate_left
  ·have bQ:E=false:=by simp[hE,h1]
   rw[show decide ((k:Int)=(k':Int))=false from Zf Zo];exact GI
  rw[show decide ((k:Int)=(k':Int))=true from Zt Zo];refine ae ?_;by_cases h2:s=s';rotate_left
  ·have bQ:E=false:=by simp[hE,h2]
   rw[Zf h2];exact GI
  rw[Zt h2];refine ae ?_;have HX:E=decide ((kids.length:Int)=(ml.length:Int)):=by
   simp only[hE,h1,h2,h3,h4,h5,decide_true,vR];exact decide_eq_decide.2 Zo
  exact kG (Post:=[A]) (.inr rfl) (.tmp Zr .nil) ⟨by rw[HX];rfl,rfl⟩ ZI
theorem Iw(x y:Nd):oW x y=(fZ x y&&mr x.kids y.kids):=by
 cases x with
 |mk k s lit args ab kids p=>
 cases y with
 |mk k' s' EX sB mP ml p'=>
 show oW _ _=(decide (k=k')&&decide (s=s')&&decide (args=sB)&&decide (ab=mP)&&eo lit EX&&decide (kids.length=ml.length)&&mr kids ml);simp only[oW];by_cases h:kids.length=ml.length
 ·simp[h]
 ·rw[LV h];simp
theorem Iy(x y:Nd):tM x y=(fZ x y&&decide (x.at_=y.at_)&&gV x.kids y.kids):=by
 cases x with
 |mk k s lit args ab kids p=>
 cases y with
 |mk k' s' EX sB mP ml p'=>
 show tM _ _=(decide (k=k')&&decide (s=s')&&decide (args=sB)&&decide (ab=mP)&&eo lit EX&&decide (kids.length=ml.length)&&decide (p=p')&&gV kids ml);simp only[tM];by_cases h:kids.length=ml.length
 ·simp[h]
 ·rw[LW h];simp[h]
theorem oz {x y:Nd}(h:fZ x y=true):x.kids.length=y.kids.length:=by
 simp only[fZ,vF,decide_eq_true_eq]at h;exact h.2
theorem Tn(A:List kB):∀(N:Nat) (x y:Nd),x.w<=N->∀vs ws,j7 A x vs->j7 A y ws->ao Tryz.prog 119 [.agg vs.toArray,.agg ws.toArray] [A] (fun v Post=>v=.bool (oW x y)/\Post=[A]):=by
 intro N
 induction N with
 |zero=>intro x y hx;have:=x.fw;omega
 |succ N ih=>
  intro x y hx vs ws h h2;have xn:=uO A x y vs ws h h2;have hxk:∀u∈x.kids,u.w<=N:=fun u hu=>by
   cases x;have:=Nd.bY hu;simp only[Nd.kids]at this;simp only[Nd.w]at hx;omega
  obtain⟨e1,e2,e3,e4,e5,e6,e7,e8,e9,u7,u9,xd,xe,a,c,bk,o,us,rfl,bL,ha,hm,hr⟩:=Kc h;obtain⟨f1,f2,f3,f4,f5,f6,f7,f8,f9,f10,f11,f12,f13,a',c',XQ,o',Kw,rfl,Z8,Cv,hm',sN⟩:=Kc h2;refine ao.intro low119 (by simp[n119]) ?_;have hE:=Iw x y;refine ae ?_;refine kW Zr (fun q=>?_);refine kW Zr (fun q2=>?_);simp only[Value.cells];refine ae ?_;refine kI xn Zr ZP (fun v Post hv=>?_);obtain⟨rfl,rfl⟩:=hv;simp only[aE];refine ae ?_;refine VC.loop (α:=Nat×Bool) (aW:=fun s=>[(2,kE q),(3,kE q2),(5,.bool s.2),(6,vi s.1)]) (Hf:=fun _=>[A,kA q 0 (rA x.kind x.name e1 e2 e3 e4 e5 e6 e7 e8 e9 u7 u9 xd xe a x.kids.length c x.at_),kA q2 0 (rA y.kind y.name f1 f2 f3 f4 f5 f6 f7 f8 f9 f10 f11 f12 f13 a' y.kids.length c' y.at_)])
   (I:=fun s=>s.1<=x.kids.length/\(s.2=true->fZ x y=true/\∀i u v,i < s.1->x.kids[i]? =some u->y.kids[i]? =some v->oW u v=true)/\(s.2=false->oW x y=false)) (μ:=fun s=>(x.kids.length - s.1)*2+(if s.2 then 1 else 0)) (0,fZ x y) ⟨Qs _,fun h=>⟨h,fun i u v h=>absurd h Zo⟩,fun h=>by simp only at h;rw[hE,h];rfl⟩ ZU ZI ?_
  rintro⟨j,b⟩ ⟨i1,i2,i3⟩
  simp only at i1 i2 i3;dsimp only;refine ae ?_;by_cases hj:j < x.kids.length;rotate_left
  ·rw[show decide ((j:Int) < (x.kids.length:Int))=false from Zf Zo];have hb:b=oW x y:=by
    cases b with
    |false=>exact(i3 rfl).symm
    |true=>
     obtain⟨g1,g2⟩:=i2 rfl;rw[hE,g1,(r8 _ _).2 ⟨oz g1,fun i u v e1 e2=>g2 i u v (by have:=(Vh.1 e1).1;omega) e1 e2⟩];rfl
   refine ae ?_;exact kG (Post:=[A]) (.inr rfl) (.tmp Zr .nil) ⟨by rw[hb];rfl,rfl⟩ ZI
  rw[show decide ((j:Int) < (x.kids.length:Int))=true from Zt Zo];cases b with
  |false=>
   have bQ:=i3 rfl;exact GI
  |true=>
   obtain⟨g1,g2⟩:=i2 rfl;have hlen:=oz g1;obtain rfl:=ha Zo;obtain rfl:=Cv Zo;obtain⟨u,hu⟩:∃u,x.kids[j]? =some u:=⟨_,Zg hj⟩;obtain⟨z,hz⟩:∃z,y.kids[j]? =some z:=⟨_,Zg (hlen ▸ hj)⟩;have hum:=hm j hj;have Nr:=hm' j Zo;have EP:=(hr j u hu).len;have Ys:=(sN j z hz).len;have aU:=ih u z (hxk u (Zv hu)) _ _ (hr j u hu) (sN j z hz);refine ae ?_;refine kS Zr (fun z hz=>Zw _ (hum z hz)) EP ?_;refine ae ?_;refine kS Zr (fun z hz=>Zw _ (Nr z hz)) Ys ?_;refine ae ?_;refine kI aU Zr ZP (fun v Post hv=>?_);obtain⟨rfl,rfl⟩:=hv;simp only[aE];refine ae ?_;refine⟨(j+1,oW u z),⟨by simp only;omega,fun hb=>⟨g1,fun i p r hi e1 e2=>?_⟩,fun hb=>?_⟩,by simp only;split <;> simp <;> omega,ZU,ZI⟩
   ·by_cases Ey:i=j
    ·subst Ey;rw[hu]at e1;rw[hz]at e2;cases e1;cases e2;exact hb
    ·exact g2 i p r (by simp only at hi;omega) e1 e2
   ·simp only at hb;rw[hE,E6 hu hz hb,Bool.and_false]
theorem yk(A:List kB):∀(N:Nat) (x y:Nd),x.w<=N->∀vs ws,j7 A x vs->j7 A y ws->ao Tryz.prog 74 [.agg vs.toArray,.agg ws.toArray] [A] (fun v Post=>v=.bool (tM x y)/\Post=[A]):=by
 intro N
 induction N with
 |zero=>intro x y hx;have:=x.fw;omega
 |succ N ih=>
  intro x y hx vs ws h h2;have xn:=uO A x y vs ws h h2;have hxk:∀u∈x.kids,u.w<=N:=fun u hu=>by
   cases x;have:=Nd.bY hu;simp only[Nd.kids]at this;simp only[Nd.w]at hx;omega
  obtain⟨e1,e2,e3,e4,e5,e6,e7,e8,e9,u7,u9,xd,xe,a,c,bk,o,us,rfl,bL,ha,hm,hr⟩:=Kc h;obtain⟨f1,f2,f3,f4,f5,f6,f7,f8,f9,f10,f11,f12,f13,a',c',XQ,o',Kw,rfl,Z8,Cv,hm',sN⟩:=Kc h2;refine ao.intro low74 (by simp[n74]) ?_;obtain⟨E,hE⟩:∃E,E=tM x y:=⟨_,rfl⟩;rw[<- hE];rw[Iy]at hE;refine ae ?_;refine kW Zr (fun q=>?_);refine kW Zr (fun q2=>?_);simp only[Value.cells];refine ae ?_;refine kI xn Zr ZP (fun v Post hv=>?_);obtain⟨rfl,rfl⟩:=hv;simp only[aE];cases g1:fZ x y with
  |false=>
   have bQ:E=false:=by rw[hE,g1];rfl
   exact GI
  |true=>
   have hlen:=oz g1;refine ae ?_;by_cases Oy:x.at_=y.at_;rotate_left
   ·have bQ:E=false:=by rw[hE,Zf Oy,Bool.and_false,vI]
    rw[Zf Oy];exact GI
   rw[Zt Oy];have HX:E=gV x.kids y.kids:=by rw[hE,g1,Zt Oy];rfl
   clear hE;refine ae ?_;refine VC.loop (α:=Nat) (aW:=fun j=>[(2,kE q),(3,kE q2),(6,vi j)]) (Hf:=fun _=>[A,kA q 0 (rA x.kind x.name e1 e2 e3 e4 e5 e6 e7 e8 e9 u7 u9 xd xe a x.kids.length c x.at_),kA q2 0 (rA y.kind y.name f1 f2 f3 f4 f5 f6 f7 f8 f9 f10 f11 f12 f13 a' y.kids.length c' y.at_)])
    (I:=fun j=>j<=x.kids.length/\∀i u v,i < j->x.kids[i]? =some u->y.kids[i]? =some v->tM u v=true) (μ:=fun j=>x.kids.length - j) 0 ⟨Qs _,fun i u v h=>absurd h Zo⟩ ZU ZI ?_
   rintro j ⟨i1,i2⟩
   refine ae ?_;by_cases hj:j < x.kids.length;rotate_left
   ·rw[show decide ((j:Int) < (x.kids.length:Int))=false from Zf Zo];have htt:E=true:=by
     rw[HX];exact(nh _ _).2 ⟨hlen,fun i u v e1 e2=>i2 i u v (by have:=(Vh.1 e1).1;omega) e1 e2⟩
    exact zCX
   rw[show decide ((j:Int) < (x.kids.length:Int))=true from Zt Zo];obtain rfl:=ha Zo;obtain rfl:=Cv Zo;obtain⟨u,hu⟩:∃u,x.kids[j]? =some u:=⟨_,Zg hj⟩;obtain⟨z,hz⟩:∃z,y.kids[j]? =some z:=⟨_,Zg (hlen ▸ hj)⟩;have hum:=hm j hj;have Nr:=hm' j Zo;have EP:=(hr j u hu).len;have Ys:=(sN j z hz).len;have aU:=ih u z (hxk u (Zv hu)) _ _ (hr j u hu) (sN j z hz);refine ae ?_;refine kS Zr (fun z hz=>Zw _ (hum z hz)) EP ?_;refine ae ?_;refine kS Zr (fun z hz=>Zw _ (Nr z hz)) Ys ?_;refine ae ?_;refine kI aU Zr ZP (fun v Post hv=>?_);obtain⟨rfl,rfl⟩:=hv;simp only[aE];cases GY:tM u z with
   |true=>
    refine ae ?_;refine⟨j+1,⟨Zo,fun i p r hi e1 e2=>?_⟩,Zo,ZU,ZI⟩;by_cases Ey:i=j
    ·subst Ey;rw[hu]at e1;rw[hz]at e2;cases e1;cases e2;exact GY
    ·exact i2 i p r Zo e1 e2
   |false=>
    have bQ:E=false:=by rw[HX];exact E7 hu hz GY
    exact GI
theorem Ar(A:List kB):∀(N:Nat) (x:Nd),x.w<=N->∀vs,dk A x vs->ao Tryz.prog 55 [.agg vs.toArray] [A] (fun v Post=>v=.bool true/\Post=[A]):=by
 intro N
 induction N with
 |zero=>intro x hx;have:=x.fw;omega
 |succ N ih=>
  intro x hx vs h;cases h with
  |@mk k s lit args ab kids p lv av tv c bk us wf hl bB bu hm hr bm hc=>
  simp only[Nd.w]at hx;have bL:=wf.many;have xu:=Di A _ lit (Qj _) lv hl;have hwa:=lr A av args bB;have hwt:=lr A tv ab bu;obtain⟨le,lc,hle⟩:=mZ hl.rd;obtain⟨aa,ac,rfl,_⟩:=bB;obtain⟨ta,tc,rfl,_⟩:=bu;rw[hle]at xu|-;refine ao.intro low55 (by simp[n55]) ?_;simp only[aE];refine ae ?_;refine kW Zr (fun q=>?_);simp only[Value.cells];refine ae ?_;refine nG (l:=0) (h:=kids.length+1) (o':=0) Zr .Jx (.num Zr) ⟨Zo,Zo⟩ (by split <;> omega) ?_;refine ae ?_;refine kI xu Zr ZP (fun v Post hv=>?_);obtain⟨rfl,rfl⟩:=hv;simp only[aE];refine ae ?_;refine kI hwa Zr ZP (fun v Post hv=>?_);obtain⟨rfl,rfl⟩:=hv;simp only[aE];refine ae ?_;refine kI hwt Zr ZP (fun v Post hv=>?_);obtain⟨rfl,rfl⟩:=hv;simp only[aE];refine ae ?_;refine VC.loop (α:=Nat) (aW:=fun j=>[(1,kE q),(7,.bool true),(8,vi j)]) (Hf:=fun _=>[A,kA q 0 (rA k s lit.kind lit.n lit.bits lit.text le lit.items.length lc (some ⟨aa,0,none⟩) args.length ac (some ⟨ta,0,none⟩) ab.length tc (some ⟨bk,0,none⟩) kids.length c p)]) (I:=fun j=>j<=kids.length) (μ:=fun j=>kids.length - j) 0 (Qs _) ZU ZI ?_
  rintro j i1
  refine ae ?_;by_cases hj:j < kids.length;rotate_left
  ·skip
   rw[show decide ((j:Int) < (kids.length:Int))=false from Zf Zo];exact zB4
  rw[show decide ((j:Int) < (kids.length:Int))=true from Zt Zo];obtain⟨y,hy⟩:∃y,kids[j]? =some y:=⟨_,Zg hj⟩;have lh:=hm j hj;have dD:=hr j y hy;have h1:=Nd.bY (Zv hy);exact zC2
theorem uN(A:List kB)(x:Nd)(vs ws:List Value)(h:dk A x vs)(h2:j7 A x ws):ao Tryz.prog 28 [.agg vs.toArray,.agg ws.toArray] [A] (fun v Post=>v=.bool true/\Post=[A]):=by
 have J2:=yk A _ x x (Qj _) vs ws h.rd h2;rw[LU _ x (Qj _)]at J2;have bm:=Ar A _ x (Qj _) vs h;obtain⟨e1,e2,e3,e4,e5,e6,e7,e8,e9,u7,u9,xd,xe,Ee,Ef,Eg,Oh,rfl,_,_⟩:=zv h.rd;obtain⟨f1,f2,f3,f4,f5,f6,f7,f8,f9,f10,f11,f12,f13,f14,f15,f16,f17,rfl,_,_⟩:=zv h2;refine ao.intro low28 (by simp[n28]) ?_;refine ae ?_;refine kW Zr (fun q=>?_);simp only[Value.cells];refine ae ?_;refine kW Zr (fun q2=>?_);simp only[Value.cells];refine ae ?_;refine kI J2 Zr ZP (fun v Post hv=>?_);obtain⟨rfl,rfl⟩:=hv;simp only[aE];refine ae ?_;refine kI bm Zr ZP (fun v Post hv=>?_);obtain⟨rfl,rfl⟩:=hv;simp only[aE];exact zB4
noncomputable def F5:aR:=bj (o:=gF pq Tryz.f5 [])
theorem n5:F5.n=68:=rfl
theorem low5:bi Tryz.prog 5 []=some F5:=by kernel_rfl
set_option maxHeartbeats 6400000
end Go.Proofs.YtijnokbblmbpkaaGreatDoor
namespace Go.V
open Go
section
variable {P:Program} {n:Nat} {rs l1 l2:List RO} {Γ:Env} {H:SH} {Z:List PanicEntry->Env->SH->Prop} {K:Env->SH->Prop}
end
end Go.V
namespace Go.Proofs.YtijnokbblmbpkaaGreatDoor
open Go Go.V
set_option maxHeartbeats 6400000
set_option maxRecDepth 100000
set_option maxHeartbeats 12800000
theorem dK(A:List kB)(x:Nd)(vs:List Value)(h:j7 A x vs):ao Tryz.prog 80 [.agg vs.toArray] [A] (fun v Post=>v=.bool (jK x)/\Post=[A]):=by
 obtain⟨e1,e2,e3,e4,e5,e6,e7,a1,c1,a2,c2,a3,c3,bk,o,us,rfl,_⟩:=wI h;refine ao.intro low80 (by simp[n80]) ?_;refine ae ?_;refine kW Zr (fun q=>?_);simp only[Value.cells];unfold jK;refine ae ?_;by_cases hk:x.kind=7
 ·rw[show decide ((x.kind:Int)=7)=true from Zt Zo,Zt hk,vR];refine ae ?_;rw[show decide ((x.args.length:Int)=0)=decide (x.args.length=0)from decide_eq_decide.2 Zo];exact zB4
 ·rw[show decide ((x.kind:Int)=7)=false from Zf Zo,Zf hk,vI];exact zB4
theorem yT(A:List kB)(x:Nd)(vs:List Value)(h:j7 A x vs):ao Tryz.prog 32 [.agg vs.toArray] [A] (fun v Post=>v=.bool (wM x)/\Post=[A]):=by
 obtain⟨e1,e2,e3,e4,e5,e6,e7,a1,c1,a2,c2,a3,c3,bk,o,us,rfl,xu,bB,bu,hk8,ha,hm,hr,tX⟩:=wI h;refine ao.intro low32 (by simp[n32]) ?_;refine VC.join (α:=Nat) (aW:=fun q=>[(1,kE q)]) (Hf:=fun q=>[kA q 0 (rN x.kind x.name e1 e2 e3 e4 e5 e6 e7 a1 x.args.length c1 a2 x.ab.length c2 a3 x.kids.length c3 x.at_),A]) (I:=fun _=>True) ?_ (fun q _=>?_)
 ·refine ae ?_;exact zCU
 refine VC.join (α:=Unit) (aW:=fun _=>[(1,kE q)]) (Hf:=fun _=>[kA q 0 (rN x.kind x.name e1 e2 e3 e4 e5 e6 e7 a1 x.args.length c1 a2 x.ab.length c2 a3 x.kids.length c3 x.at_),A]) (I:=fun _=>x.kind=4/\0 < x.kids.length) ?_ ?_
 ·refine ae ?_;by_cases hk:x.kind=4;rotate_left
  ·rw[show decide ((x.kind:Int)=4)=false from Zf Zo];refine ae ?_;have dw:wM x=false:=by unfold wM fD;simp[hk]
   exact zCC
  rw[show decide ((x.kind:Int)=4)=true from Zt Zo];refine ae ?_;by_cases AY:x.kids.length=0
  ·rw[show decide ((x.kids.length:Int)=0)=true from Zt Zo];refine ae ?_;have tF:x.kids=[]:=vj AY;have dw:wM x=false:=by
    exact zE6
   exact zCC
  rw[show decide ((x.kids.length:Int)=0)=false from Zf Zo];refine ae ?_;exact⟨(),⟨hk,Zo⟩,ZU,ZI⟩
 rintro⟨⟩ ⟨hk,AY⟩
 obtain rfl:=ha AY;obtain⟨r,ud⟩:∃r,x.kids[0]? =some r:=⟨_,Zg Zo⟩;have UM:=hr 0 r ud;have Z7:∀z∈kA bk o (us 0),z∈A:=by simpa using hm 0 AY
 have hu0:=UM.len;have Ad:jM x.kids=jh r:=by
  exact zBY
 have θ:=dK A r (us 0) UM;generalize hu:us 0=u0 at UM Z7 hu0 θ;obtain⟨r1,r2,r3,r4,r5,r6,r7,p1,d1,p2,d2,p3,d3,XR,o2,DG,HU,_⟩:=wI UM;subst HU;refine jW ?_;refine kS (us:=(rN r.kind r.name r1 r2 r3 r4 r5 r6 r7 p1 r.args.length d1 p2 r.ab.length d2 p3 r.kids.length d3 r.at_)) Zr (fun z hz=>by have:=Z7 z hz;simp[this]) rfl ?_;refine kM (fun q3=>?_);refine jW ?_;refine VC.join (α:=Unit) (aW:=fun _=>[(1,kE q),(3,kE q3)]) (Hf:=fun _=>[kA q 0 (rN x.kind x.name e1 e2 e3 e4 e5 e6 e7 a1 x.args.length c1 a2 x.ab.length c2 (some ⟨bk,o,none⟩) x.kids.length c3 x.at_),kA q3 0 (rN r.kind r.name r1 r2 r3 r4 r5 r6 r7 p1 r.args.length d1 p2 r.ab.length d2 p3 r.kids.length d3 r.at_),A]) (I:=fun _=>jM x.kids=false) ?_ ?_
 ·refine ae ?_;by_cases EL:r.kind=2
  ·rw[show decide ((r.kind:Int)=2)=true from Zt Zo];refine ae ?_;by_cases UL:r.name=⟨#[115,117,112,101,114]⟩
   ·rw[Zt UL];refine ae ?_;have:jh r=true:=by unfold jh;rw[Zt EL,Zt (cT.2 UL)];rfl
    have dw:wM x=false:=by unfold wM fD;rw[Ad,this];simp
    exact zCC
   rw[Zf UL];have Ξ:jh r=false:=by unfold jh;rw[Zf (fun e=>UL (cT.1 e))];simp
   refine ae ?_;exact⟨(),by rw[Ad];exact Ξ,ZU,ZI⟩
  ·rw[show decide ((r.kind:Int)=2)=false from Zf Zo];have Ξ:jh r=false:=by unfold jh;rw[Zf EL];rfl
   refine ae ?_;exact⟨(),by rw[Ad];exact Ξ,ZU,ZI⟩
 rintro⟨⟩ hsup
 have dw:wM x=zl (kb x.name) x.kids:=by unfold wM fD;rw[hk,hsup];rfl
 obtain⟨H0,Nk⟩:∃H0:SH,H0=[kA q 0 (rN x.kind x.name e1 e2 e3 e4 e5 e6 e7 a1 x.args.length c1 a2 x.ab.length c2 (some ⟨bk,o,none⟩) x.kids.length c3 x.at_),kA q3 0 (rN r.kind r.name r1 r2 r3 r4 r5 r6 r7 p1 r.args.length d1 p2 r.ab.length d2 p3 r.kids.length d3 r.at_),A]:=⟨_,rfl⟩;refine jW ?_;refine VC.seq ?_;refine jW ?_;refine VC.join (α:=Bool) (aW:=fun b=>[(1,kE q),(3,kE q3),(4,vi x.kids.length),(30,.string x.name),(31,.bool b)]) (Hf:=fun _=>H0) (I:=fun b=>b=decide (kb x.name=1)) ?_ ?_
 ·refine ae ?_;by_cases g0:x.name=⟨#[105,102,84,114,117,101,58]⟩
  ·exact zC8
  rw[Zf g0];refine ae ?_;by_cases g1:x.name=⟨#[105,102,70,97,108,115,101,58]⟩
  ·rw[Zt g1];refine ae ?_;exact⟨true,by rw[g1];decide,ZU,by subst Nk;exact bE⟩
  rw[Zf g1];refine ae ?_;by_cases g2:x.name=⟨#[97,110,100,58]⟩
  ·rw[Zt g2];refine ae ?_;exact⟨true,by rw[g2];decide,ZU,by subst Nk;exact bE⟩
  rw[Zf g2];refine ae ?_;refine⟨_,?_,ZU,by subst Nk;exact bE⟩;refine decide_eq_decide.2 ⟨fun k=>MP.2 (.inr (.inr (.inr k))),fun k=>?_⟩;rcases MP.1 k with k|k|k|k
  ·exact absurd k g0
  ·exact absurd k g1
  ·exact absurd k g2
  ·exact k
 rintro b hb
 cases b with
 |true=>
  have bK:kb x.name=1:=of_decide_eq_true hb.symm;rw[bK]at dw;subst Nk;refine ae ?_;by_cases h2:x.kids.length=2
  ·obtain⟨k0,k1,lY⟩:=Sy h2;have re:∀z∈kA bk (o+1*11) (us 1),z∈A:=hm 1 Zo;have OW:=dK A k1 (us 1) (hr 1 k1 (by rw[lY];rfl));have Lm:=(hr 1 k1 (by rw[lY];rfl)).len;have cE:wM x=jK k1:=by rw[dw,lY];rfl
   rw[show decide ((x.kids.length:Int)=2)=true from Zt Zo];refine ae ?_;refine kS (us:=us 1) Zr (fun z hz=>by have:=re z (by simpa using hz);simp[this]) Lm ?_;refine ae ?_;refine kI OW Zr ZP (fun v Post hv=>?_);obtain⟨rfl,rfl⟩:=hv;simp only[aE];refine ae ?_;exact Ny
  ·rw[show decide ((x.kids.length:Int)=2)=false from Zf Zo];refine ae ?_;have cE:wM x=false:=by rw[dw];exact Cp (.inl rfl) h2
   exact Ny
 |false=>
 have n1:kb x.name≠1:=of_decide_eq_false hb.symm;refine jW ?_;refine VC.join (α:=Bool) (aW:=fun b=>[(1,kE q),(3,kE q3),(4,vi x.kids.length),(30,.string x.name),(45,.bool b)]) (Hf:=fun _=>H0) (I:=fun b=>b=decide (kb x.name=2)) ?_ ?_
 ·refine ae ?_;by_cases g0:x.name=⟨#[105,102,84,114,117,101,58,105,102,70,97,108,115,101,58]⟩
  ·exact zC8
  rw[Zf g0];refine ae ?_;refine⟨_,?_,ZU,by subst Nk;exact bE⟩;refine decide_eq_decide.2 ⟨fun k=>(R9 n1).2 (.inr k),fun k=>?_⟩;rcases(R9 n1).1 k with k|k
  ·exact absurd k g0
  ·exact k
 rintro b hb
 cases b with
 |true=>
  have bK:kb x.name=2:=of_decide_eq_true hb.symm;rw[bK]at dw;subst Nk;refine ae ?_;by_cases h2:x.kids.length=3
  ·obtain⟨k0,k1,k2,lY⟩:=Gp h2;have re:∀z∈kA bk (o+1*11) (us 1),z∈A:=hm 1 Zo;have OW:=dK A k1 (us 1) (hr 1 k1 (by rw[lY];rfl));have Lm:=(hr 1 k1 (by rw[lY];rfl)).len;have pC:∀z∈kA bk (o+2*11) (us 2),z∈A:=hm 2 Zo;have rh:=dK A k2 (us 2) (hr 2 k2 (by rw[lY];rfl));have dz:=(hr 2 k2 (by rw[lY];rfl)).len;have cE:wM x=(jK k1&&jK k2):=by rw[dw,lY];rfl
   rw[show decide ((x.kids.length:Int)=3)=true from Zt Zo];refine ae ?_;refine kS (us:=us 1) Zr (fun z hz=>by have:=re z (by simpa using hz);simp[this]) Lm ?_;refine ae ?_;refine kI OW Zr ZP (fun v Post hv=>?_);obtain⟨rfl,rfl⟩:=hv;simp only[aE];refine ae ?_;cases eg:jK k1 with
   |false=>
    rw[eg]at cE;refine ae ?_;exact Ny
   |true=>
    rw[eg]at cE;refine ae ?_;refine kS (us:=us 2) Zr (fun z hz=>by have:=pC z (by simpa using hz);simp[this]) dz ?_;refine ae ?_;refine kI rh Zr ZP (fun v Post hv=>?_);obtain⟨rfl,rfl⟩:=hv;simp only[aE];refine ae ?_;exact Ny
  ·rw[show decide ((x.kids.length:Int)=3)=false from Zf Zo];refine ae ?_;have cE:wM x=false:=by rw[dw];exact Cp (.inr (.inl rfl)) h2
   exact Ny
 |false=>
 have n2:kb x.name≠2:=of_decide_eq_false hb.symm;refine jW ?_;refine VC.join (α:=Bool) (aW:=fun b=>[(1,kE q),(3,kE q3),(4,vi x.kids.length),(30,.string x.name),(64,.bool b)]) (Hf:=fun _=>H0) (I:=fun b=>b=decide (kb x.name=3)) ?_ ?_
 ·refine ae ?_;by_cases g0:x.name=⟨#[119,104,105,108,101,84,114,117,101,58]⟩
  ·exact zC8
  rw[Zf g0];refine ae ?_;refine⟨_,?_,ZU,by subst Nk;exact bE⟩;refine decide_eq_decide.2 ⟨fun k=>(Xl n1 n2).2 (.inr k),fun k=>?_⟩;rcases(Xl n1 n2).1 k with k|k
  ·exact absurd k g0
  ·exact k
 rintro b hb
 cases b with
 |true=>
  have bK:kb x.name=3:=of_decide_eq_true hb.symm;rw[bK]at dw;subst Nk;refine ae ?_;by_cases h2:x.kids.length=2
  ·obtain⟨k0,k1,lY⟩:=Sy h2;have tZ:k0=r:=by rw[lY]at ud;simpa using ud
   subst tZ;have re:∀z∈kA bk (o+1*11) (us 1),z∈A:=hm 1 Zo;have OW:=dK A k1 (us 1) (hr 1 k1 (by rw[lY];rfl));have Lm:=(hr 1 k1 (by rw[lY];rfl)).len;have cE:wM x=(jK k0&&jK k1):=by rw[dw,lY];rfl
   rw[show decide ((x.kids.length:Int)=2)=true from Zt Zo];refine ae ?_;refine kI θ Zr ZP (fun v Post hv=>?_);obtain⟨rfl,rfl⟩:=hv;simp only[aE];refine ae ?_;cases eg:jK k0 with
   |false=>
    rw[eg]at cE;refine ae ?_;exact Ny
   |true=>
    rw[eg]at cE;refine ae ?_;refine kS (us:=us 1) Zr (fun z hz=>by have:=re z (by simpa using hz);simp[this]) Lm ?_;refine ae ?_;refine kI OW Zr ZP (fun v Post hv=>?_);obtain⟨rfl,rfl⟩:=hv;simp only[aE];refine ae ?_;exact Ny
  ·rw[show decide ((x.kids.length:Int)=2)=false from Zf Zo];refine ae ?_;have cE:wM x=false:=by rw[dw];exact Cp (.inr (.inr (.inl rfl))) h2
   exact Ny
 |false=>
 have n3:kb x.name≠3:=of_decide_eq_false hb.symm;refine jW ?_;refine VC.join (α:=Bool) (aW:=fun b=>[(1,kE q),(3,kE q3),(4,vi x.kids.length),(30,.string x.name),(80,.bool b)]) (Hf:=fun _=>H0) (I:=fun b=>b=decide (kb x.name=4)) ?_ ?_
 ·refine ae ?_;by_cases g0:x.name=⟨#[119,104,105,108,101,84,114,117,101]⟩
  ·exact zC8
  rw[Zf g0];refine ae ?_;refine⟨_,?_,ZU,by subst Nk;exact bE⟩;refine decide_eq_decide.2 ⟨fun k=>(sel4 n1 n2 n3).2 (.inr k),fun k=>?_⟩;rcases(sel4 n1 n2 n3).1 k with k|k
  ·exact absurd k g0
  ·exact k
 rintro b hb
 cases b with
 |true=>
  have bK:kb x.name=4:=of_decide_eq_true hb.symm;rw[bK]at dw;subst Nk;refine ae ?_;by_cases h2:x.kids.length=1
  ·obtain⟨k0,lY⟩:=one_of h2;have tZ:k0=r:=by rw[lY]at ud;simpa using ud
   subst tZ;have cE:wM x=jK k0:=by rw[dw,lY];rfl
   rw[show decide ((x.kids.length:Int)=1)=true from Zt Zo];refine ae ?_;refine kI θ Zr ZP (fun v Post hv=>?_);obtain⟨rfl,rfl⟩:=hv;simp only[aE];refine ae ?_;exact Ny
  ·rw[show decide ((x.kids.length:Int)=1)=false from Zf Zo];refine ae ?_;have cE:wM x=false:=by rw[dw];exact Cp (.inr (.inr (.inr rfl))) h2
   exact Ny
 |false=>
 have n4:kb x.name≠4:=of_decide_eq_false hb.symm;subst Nk;refine ae ?_;by_cases g5:x.name=⟨#[116,111,58,100,111,58]⟩
 ·have bK:kb x.name=5:=by rw[g5];decide
  rw[bK]at dw;rw[Zt g5];refine ae ?_;by_cases h2:x.kids.length=3
  ·obtain⟨k0,k1,k2,lY⟩:=Gp h2;have cE:wM x=(decide (k2.kind=7)&&decide (k2.args.length=1)):=by rw[dw,lY];rfl
   have HR:=hr 2 k2 (by rw[lY];rfl);have Z9:=hm 2 Zo;generalize us 2=u2 at HR Z9;obtain⟨s1,s2,s3,s4,s5,s6,s7,t1,v1,t2,v2,t3,v3,bk3,o3,us3,rfl,_⟩:=wI HR;have c0:kB.cell bk (o+22) (.int .u8 k2.kind)∈A:=Z9 _ (kH.2 ⟨0,_,rfl,Zs⟩);have c7:kB.cell bk (o+29) (.slice t1 k2.args.length v1)∈A:=Z9 _ (kH.2 ⟨7,_,rfl,Zs⟩);rw[show decide ((x.kids.length:Int)=3)=true from Zt Zo];refine ae ?_;by_cases h7:k2.kind=7
   ·rw[Zt h7,vR]at cE;rw[show decide ((k2.kind:Int)=7)=true from Zt Zo];refine ae ?_;refine kG (Post:=[A]) (.inr rfl) (.tmp Zr .nil) ⟨?_,rfl⟩ ZI;rw[cE,show decide (k2.args.length=1)=decide ((k2.args.length:Int)=1)from decide_eq_decide.2 Zo];rfl
   ·rw[Zf h7,vI]at cE;rw[show decide ((k2.kind:Int)=7)=false from Zf Zo];refine ae ?_;exact Ny
  ·rw[show decide ((x.kids.length:Int)=3)=false from Zf Zo];refine ae ?_;have cE:wM x=false:=by rw[dw];exact Ug h2
   exact Ny
 ·have n5:kb x.name≠5:=fun k=>g5 ((sel5 n1 n2 n3 n4).1 k)
  rw[sel0 n1 n2 n3 n4 n5,fit_0]at dw;rw[Zf g5];refine ae ?_;exact zCC
set_option maxHeartbeats 6400000
theorem ti(A:List kB)(hE:rk A)(hT:YQ∈A)(x:Nd)(vs:List Value)(h:j7 A x vs):ao Tryz.prog 5 [.agg vs.toArray] [A] (fun v Post=>v=.bool true/\Post=[A]):=by
 have hwt:=yN A _ x (Qj _) vs h 0 0 Zo Zo Zo Zo;have Yc:=fun hw=>yU A _ x (Qj _) hw vs h
 have h0:=h;obtain⟨e1,e2,e3,e4,e5,e6,e7,a1,c1,a2,c2,a3,c3,bk,o,us,tK,_⟩:=wI h;rw[tK]at hwt Yc h0|-;refine ao.intro low5 (by simp[n5]) ?_;refine ae ?_;refine kW Zr (fun q=>?_);simp only[Value.cells];refine ae ?_;refine kI (Ha A hE hT) Zr ZP (fun v Post hv=>?_);obtain⟨rfl,rfl⟩:=hv;simp only[aE];refine ae ?_;refine kI hwt Zr ZP (fun v Post hv=>?_);obtain⟨r,rfl,ud,hr1,ez,rfl⟩:=hv;simp only[aE];unfold wN at hr1;refine ae ?_;by_cases ew:r > 65536
 ·rw[Zt ew];exact zB4
 rw[Zf ew];have hw:x.w<=65536:=by have:=ez Zo;omega
 refine ae ?_;refine kI (Yc Zo) Zr ZP (fun v Post hv=>?_);obtain⟨ws,B1,rfl,⟨Pb,_⟩,rfl⟩:=hv;simp only[aE];obtain⟨f1,f2,f3,f4,f5,f6,f7,b1,d1,b2,d2,b3,d3,XR,o2,DG,rfl,_⟩:=wI Pb.rd;refine ae ?_;refine kM (fun q4=>?_);refine ae ?_;obtain⟨Q,hQ⟩:∃Q,Q=kA q 0 (rN x.kind x.name e1 e2 e3 e4 e5 e6 e7 a1 x.args.length c1 a2 x.ab.length c2 a3 x.kids.length c3 x.at_):=⟨_,rfl⟩;obtain⟨Q4,hQ4⟩:∃Q4,Q4=kA q4 0 (rN x.kind x.name f1 f2 f3 f4 f5 f6 f7 b1 x.args.length d1 b2 x.ab.length d2 b3 x.kids.length d3 x.at_):=⟨_,rfl⟩;generalize hC:A++B1=C;have hAC:∀z∈A,z∈C:=fun z hz=>by rw[<- hC];exact Zw _ hz
 have hX:=Pb.more (B:=C) (fun z hz=>by rw[<- hC];exact Q8 _ hz);have hXR:=hX.rd;have h0C:=h0.more hAC;refine VO.imp (H':=[C,kA q4 0 (rN x.kind x.name f1 f2 f3 f4 f5 f6 f7 b1 x.args.length d1 b2 x.ab.length d2 b3 x.kids.length d3 x.at_),kA q 0 (rN x.kind x.name e1 e2 e3 e4 e5 e6 e7 a1 x.args.length c1 a2 x.ab.length c2 a3 x.kids.length c3 x.at_)]) (aj.cut (M:=[A,B1,kA q4 0 (rN x.kind x.name f1 f2 f3 f4 f5 f6 f7 b1 x.args.length d1 b2 x.ab.length d2 b3 x.kids.length d3 x.at_),kA q 0 (rN x.kind x.name e1 e2 e3 e4 e5 e6 e7 a1 x.args.length c1 a2 x.ab.length c2 a3 x.kids.length c3 x.at_)]) ZI (aj.perm (by simp[<- hC]))) ?_;have s0:=iA C x _ hXR;have s1:=AE C x _ hXR Zo;have s2:=uN C x _ _ hX h0C;have s3:=G3 C x _ h0C Zo;have s4:=yT C x _ h0C;have hlen:=tW [] x [];rw[Vw]at hlen;generalize fH [] [] x=names at*;refine ae ?_;refine kI s0 Zr ZP (fun v Post hv=>?_);obtain⟨rfl,rfl⟩:=hv;simp only[aE];refine ae ?_;refine kI s1 Zr ZP (fun v Post hv=>?_);obtain⟨S1,⟨sp1,nS,GK,_,GV⟩,rfl⟩:=hv;simp only[aE];obtain⟨t1a,t1c,rfl⟩:=nS.form;refine ae ?_;refine kI s1 Zr ZP (fun v Post hv=>?_);obtain⟨S2,⟨Xp,nT,Cu,_,_⟩,rfl⟩:=hv;simp only[aE];obtain⟨t2a,t2c,rfl⟩:=nT.form;refine ae ?_;refine kI s2 Zr ZP (fun v Post hv=>?_);obtain⟨rfl,rfl⟩:=hv;simp only[aE];refine ae ?_;refine kI s3 Zr ZP (fun v Post hv=>?_);obtain⟨S3,⟨sp3,DE,hS3,_,_⟩,rfl⟩:=hv;simp only[aE];obtain⟨t3a,t3c,rfl⟩:=DE.form;have t1:=cU rfl nS Zo GV;have t2:=cU rfl nT Zo GV;have t3:=cU rfl DE Zo GV;rw[<- GK]at t1;rw[<- Cu]at t2;rw[<- hS3]at t3;have u1:=zr (S1++S3) _ _ names names (t1.more fun z hz=>Zw _ hz) (t3.more fun z hz=>Q8 _ hz);have u2:=zr (S2++S3) _ _ names names (t2.more fun z hz=>Zw _ hz) (t3.more fun z hz=>Q8 _ hz);rw[Zt rfl]at u1 u2;refine ae ?_;refine VO.imp (H':=[S1++S3,S2,C,kA q 0 (rN x.kind x.name e1 e2 e3 e4 e5 e6 e7 a1 x.args.length c1 a2 x.ab.length c2 a3 x.kids.length c3 x.at_)]) (aj.cut (M:=[S1,S3,S2,C,kA q 0 (rN x.kind x.name e1 e2 e3 e4 e5 e6 e7 a1 x.args.length c1 a2 x.ab.length c2 a3 x.kids.length c3 x.at_)]) ZI (aj.perm Zs)) ?_;refine kI u1 Zr ZP (fun v Post hv=>?_);obtain⟨rfl,rfl⟩:=hv;simp only[aE];refine ae ?_;refine VO.imp (H':=[S2++S3,S1,C,kA q 0 (rN x.kind x.name e1 e2 e3 e4 e5 e6 e7 a1 x.args.length c1 a2 x.ab.length c2 a3 x.kids.length c3 x.at_)]) (aj.cut (M:=[S1,S3,S2,C,kA q 0 (rN x.kind x.name e1 e2 e3 e4 e5 e6 e7 a1 x.args.length c1 a2 x.ab.length c2 a3 x.kids.length c3 x.at_)]) (aj.perm Zs) (aj.cut (M:=[S2,S3,S1,C,kA q 0 (rN x.kind x.name e1 e2 e3 e4 e5 e6 e7 a1 x.args.length c1 a2 x.ab.length c2 a3 x.kids.length c3 x.at_)]) ZI (aj.perm Zs))) ?_;refine kI u2 Zr ZP (fun v Post hv=>?_);obtain⟨rfl,rfl⟩:=hv;simp only[aE];refine ae ?_;refine kW Zr (fun p=>?_);simp only[Value.cells];refine VO.imp (H':=[kA p 0 [.slice none 0 0,.slice none 0 0,.slice none 0 0,.slice none 0 0],ai (.slice none 0 0) [] [],S1,S2,C,kA q 0 (rN x.kind x.name e1 e2 e3 e4 e5 e6 e7 a1 x.args.length c1 a2 x.ab.length c2 a3 x.kids.length c3 x.at_)]) (aj.cut (M:=[S2++S3,S1,C,kA q 0 (rN x.kind x.name e1 e2 e3 e4 e5 e6 e7 a1 x.args.length c1 a2 x.ab.length c2 a3 x.kids.length c3 x.at_),kA p 0 [.slice none 0 0,.slice none 0 0,.slice none 0 0,.slice none 0 0]]) ZI (aj.cut (M:=[S2,S3,S1,C,kA q 0 (rN x.kind x.name e1 e2 e3 e4 e5 e6 e7 a1 x.args.length c1 a2 x.ab.length c2 a3 x.kids.length c3 x.at_),kA p 0 [.slice none 0 0,.slice none 0 0,.slice none 0 0,.slice none 0 0]]) (aj.perm Zs) (aj.cut (M:=[kA p 0 [.slice none 0 0,.slice none 0 0,.slice none 0 0,.slice none 0 0],S1,S2,C,kA q 0 (rN x.kind x.name e1 e2 e3 e4 e5 e6 e7 a1 x.args.length c1 a2 x.ab.length c2 a3 x.kids.length c3 x.at_)]) ZI (aj.perm (by simp[ai]))))) ?_;refine ae ?_;refine kI (uM p (.slice none 0 0) (.slice none 0 0) (.slice none 0 0) (.slice none 0 0) 0 [] [] .nil Zo t1a names.length t1c) Zr ZP (fun v Post hv=>?_);obtain⟨rfl,x1,xp1,hx1s,rfl⟩:=hv;simp only[aE]at hx1s|-;refine ae ?_;refine kI (uM p (.slice none 0 0) (.slice none 0 0) (.slice none 0 0) x1 1 _ _ hx1s Zo t2a names.length t2c) Zr ZP (fun v Post hv=>?_);obtain⟨rfl,x2,xp2,hx2s,rfl⟩:=hv;simp only[aE]at hx2s|-;have EK:=KF p x2 [⟨.slice t1a names.length t1c,IT names,sp1⟩,⟨.slice t2a names.length t2c,IT names,Xp⟩] xp2 hx2s (fun q hq=>by
  simp only[Q9,List.not_mem_nil,or_false]at hq;rcases hq with rfl|rfl
  ·exact⟨by simp only[sj,qG];exact nS,F4 _,by simp only[qG];omega⟩
  ·exact⟨by simp only[sj,qG];exact nT,F4 _,by simp only[qG];omega⟩) Zs
 simp only[Q3,Q6,vy,List.flatMap_nil,IF,sj,vd,<- GK,<- Cu]at EK;obtain⟨xa2,xc2,rfl⟩:=hx2s.form;refine VO.imp (H':=[kA p 0 [Nz,Nz,Nz,.slice xa2 (1+1) xc2],ai (.slice xa2 (1+1) xc2) [.slice t1a names.length t1c,.slice t2a names.length t2c] xp2,S1++S2,C,kA q 0 (rN x.kind x.name e1 e2 e3 e4 e5 e6 e7 a1 x.args.length c1 a2 x.ab.length c2 a3 x.kids.length c3 x.at_)]) (aj.cut (M:=[kA p 0 [Nz,Nz,Nz,.slice xa2 (1+1) xc2],ai (.slice xa2 (1+1) xc2) [.slice t1a names.length t1c,.slice t2a names.length t2c] xp2,S1,S2,C,kA q 0 (rN x.kind x.name e1 e2 e3 e4 e5 e6 e7 a1 x.args.length c1 a2 x.ab.length c2 a3 x.kids.length c3 x.at_)]) ZI (aj.perm Zs)) ?_;refine ae ?_;refine kI EK Zr ZP (fun v Post hv=>?_);obtain⟨rfl,rfl⟩:=hv;simp only[aE];refine ae ?_;refine kI s4 Zr ZP (fun v Post hv=>?_);obtain⟨rfl,rfl⟩:=hv;simp only[aE];have OZ:aj [C,kA q 0 (rN x.kind x.name e1 e2 e3 e4 e5 e6 e7 a1 x.args.length c1 a2 x.ab.length c2 a3 x.kids.length c3 x.at_)] [A]:=aj.cut (M:=[C]) ZI (aj.cut (M:=[A,B1]) (aj.perm (by simp[<- hC])) ZI);cases wM x with
 |true=>
  refine ae ?_;exact kG (Post:=[A]) (.inr rfl) (.tmp Zr .nil) ⟨rfl,rfl⟩ OZ
 |false=>
  refine ae ?_;exact kG (Post:=[A]) (.inr rfl) (.tmp Zr .nil) ⟨rfl,rfl⟩ OZ
open Go Go.V Go.ChangeShapes Go.WideShapes Go.Deep
theorem Fc {W:World}{base:Nat}{v:Value}(hv:Value.okWide Tryz.prog W .any base 72 v):∃cs:List Value,v=.agg cs.toArray:=by
 simp only[Value.okWide,u72]at hv;obtain⟨cs,rfl,_⟩:=hv;exact⟨cs.toList,Zs⟩
end Go.Proofs.YtijnokbblmbpkaaGreatDoor

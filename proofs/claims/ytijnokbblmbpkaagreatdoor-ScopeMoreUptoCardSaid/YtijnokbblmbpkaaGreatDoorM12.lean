/-
  Looks: a literal.
-/
import Derived.Test.YtijnokbblmbpkaaGreatDoorM11
import Derived.Test.YtijnokbblmbpkaaGreatDoorM6
import Derived.Test.YtijnokbblmbpkaaGreatDoorM9
import Derived.Test.YtijnokbblmbpkaaGreatDoorM10
import Derived.KernelRfl
import Derived.Test.YtijnokbblmbpkaaGreatDoorProg
set_option linter.all false
namespace Go.Proofs.YtijnokbblmbpkaaGreatDoor
open Go Go.V
set_option maxHeartbeats 3200000
set_option maxRecDepth 100000
structure oe where
 d:Nat
 mm:Bool
 n:Int
 b:Nat
 t:ByteArray
 sv:Value
 l:Nat
def oe.ok(s:oe):Prop:=s.n=0/\s.b=0/\s.t.size=0/\s.l=0
instance(s:oe):Decidable s.ok:=by unfold oe.ok;infer_instance
theorem Ri(A:List kC)(hE:nE A):∀(N:Nat) (x:Lt),x.size<=N->x.size<=1099511627776->∀vs,zk A x vs->∀(lb:Nat) (m0 deep inside:Bool),AM 202 [kF lb,.agg vs.toArray,.bool inside] A lb m0 deep (jK x inside):=by
 intro N
 induction N with
 |zero=>intro x hx;have:=x.size_pos;omega
 |succ N ih=>
  intro x hx hbd vs ma lb m0 deep inside;have hvs2:=ma;cases ma with
  |@mk k n b t items a c bk o us wf ha hm hr=>
  refine ji.intro low202 (by simp[n202]) ?_;refine jF ?_;refine kX Zr (fun q=>?_);simp only[Value.cells];refine jF ?_;refine kO (fun r=>?_);refine jF ?_;refine VC.join (α:=oe) (fun s=>[(7,vi s.d),(8,kF r)]) (fun s=>[A,aZ lb (m0||s.mm) deep,kA r 0 [cv k,vi s.n,uv s.b,.string s.t,s.sv]])
   (fun s=>(∃a c,s.sv=.slice a s.l c)/\jK (.mk k n b t items) inside=if s.ok then some (s.d,s.mm)else none) ?_ ?_
  ·have lR:=wf.kind;obtain⟨L7,AY⟩:=wf.n;by_cases k1:k=1
   ·subst k1;exact zAK
   by_cases k2:k=2
   ·subst k2;exact zAK
   by_cases k3:k=3
   ·subst k3;exact zAK
   by_cases k4:k=4
   ·subst k4;refine ae ?_;by_cases h1:-1152921504606846976<=n;rotate_left
    ·have aH:jK (.mk 4 n b t items) inside=none:=by simp[jK,kQ,h1]
     rw[Zf h1];exact Bz
    rw[Zt h1];refine ae ?_;by_cases h2:n<=1152921504606846975;rotate_left
    ·have aH:jK (.mk 4 n b t items) inside=none:=by simp[jK,kQ,h2]
     rw[Zf h2];exact Bz
    exact zBT
   by_cases k5:k=5
   ·subst k5;refine ae ?_;refine kH (DZ A hE t wf.text) Zr ZP (fun v Post hv=>?_);obtain⟨hq,rfl⟩:=hv;obtain⟨kk,nn,tt,ee,rfl,Wk⟩:=hq.large;simp only[aJ];refine ae ?_;refine kO (fun q2=>?_);refine ae ?_;by_cases h1:ee=0;rotate_left
    ·have aH:jK (.mk 5 n b t items) inside=none:=by
      have:mZ (kB t)=false:=vI.2 fun h=>h1 (Wk.2 h).1
      simp[jK,kQ,this]
     rw[show decide ((ee:Int)=0)=false from Zf Zo];exact Bz
    rw[show decide ((ee:Int)=0)=true from Zt Zo];refine ae ?_;by_cases h2:kk=5;rotate_left
    ·have aH:jK (.mk 5 n b t items) inside=none:=by
      have:mZ (kB t)=false:=vI.2 fun h=>h2 (Wk.2 h).2.1
      simp[jK,kQ,this]
     rw[show decide ((kk:Int)=5)=false from Zf Zo];exact Bz
    rw[show decide ((kk:Int)=5)=true from Zt Zo];refine ae ?_;by_cases h3:tt=t;rotate_left
    ·have aH:jK (.mk 5 n b t items) inside=none:=by
      have:mZ (kB t)=false:=vI.2 fun h=>h3 (Wk.2 h).2.2
      simp[jK,kQ,this]
     rw[Zf h3];exact Bz
    rw[Zt h3];refine ae ?_;refine kL (jC true) Zr ZP (fun v Post hv=>?_) HZ;obtain⟨_,rfl,rfl⟩:=hv;simp only[QS];refine ae ?_;have hl5:=Wk.1 ⟨h1,h2,h3⟩;refine⟨⟨0,false,n,b,⟨#[]⟩,_,_⟩,⟨⟨_,_,rfl⟩,?_⟩,ZU,by rw[vT];exact bS⟩;simp[jK,kQ,oe.ok,hl5,show(⟨#[]⟩:ByteArray).size=0 from rfl]
   by_cases k6:k=6
   ·subst k6;have hbits:=wf.bits;refine ae ?_;by_cases h1:b*2 % 18446744073709551616 / 9007199254740992=2047
    ·have aH:jK (.mk 6 n b t items) inside=none:=by simp[jK,kQ,h1]
     rw[show decide (((b*2 % 18446744073709551616 / 9007199254740992:Nat):Int)=2047)=true from Zt Zo,Bool.not_true];exact Bz
    rw[show decide (((b*2 % 18446744073709551616 / 9007199254740992:Nat):Int)=2047)=false from Zf Zo,vO];refine ae ?_;refine kL (jC true) Zr ZP (fun v Post hv=>?_) HZ;obtain⟨_,rfl,rfl⟩:=hv;simp only[QS];refine ae ?_;refine⟨⟨0,false,n,0,t,.slice a items.length c,items.length⟩,⟨⟨_,_,rfl⟩,?_⟩,ZU,by rw[vT];show ao _ [A,aZ lb m0 deep,kA r 0 [cv 6,vi n,.int .u64 0,.string t,.slice a items.length c]];exact bS⟩;simp[jK,kQ,oe.ok,h1]
   by_cases k7:k=7
   ·subst k7;refine ae ?_;by_cases h1:0<=n;rotate_left
    ·have aH:jK (.mk 7 n b t items) inside=none:=by simp[jK,kQ,h1]
     rw[Zf h1];exact Bz
    rw[Zt h1];refine ae ?_;by_cases h2:n<=255;rotate_left
    ·have aH:jK (.mk 7 n b t items) inside=none:=by simp[jK,kQ,h2]
     rw[Zf h2];exact Bz
    exact zBT
   by_cases k8:k=8
   ·subst k8;exact zCQ
   by_cases k9:k=9
   ·subst k9;exact zCQ
   by_cases k11:k=11
   ·subst k11;have h0:(⟨#[]⟩:ByteArray).size=0:=rfl;cases m0 with
    |true=>
     refine ae ?_;refine⟨⟨0,decide (255 < t.size),n,b,⟨#[]⟩,_,_⟩,⟨⟨_,_,rfl⟩,?_⟩,ZU,by rw[Bool.true_or];exact bS⟩;simp[jK,kQ,oe.ok,h0]
    |false=>
     refine ae ?_;by_cases h1:255 < t.size
     ·rw[show decide ((t.size:Int) > 255)=true from Zt Zo];refine ae ?_;refine⟨⟨0,true,n,b,⟨#[]⟩,_,_⟩,⟨⟨_,_,rfl⟩,?_⟩,ZU,by rw[Bool.or_true];exact bS⟩;simp[jK,kQ,oe.ok,h0,h1]
     ·rw[show decide ((t.size:Int) > 255)=false from Zf Zo];refine ae ?_;refine⟨⟨0,false,n,b,⟨#[]⟩,_,_⟩,⟨⟨_,_,rfl⟩,?_⟩,ZU,by rw[vT];exact bS⟩;simp[jK,kQ,oe.ok,h0,h1]
   by_cases k10:k=10
   ·subst k10;cases m0 with
    |true=>
     have Wo:∀mm,(true||(decide (255 < items.length)||mm))=(true||mm):=fun _=>by simp
     exact zA8
    |false=>
     refine ae ?_;by_cases sq:255 < items.length
     ·have Wo:∀mm,(false||(decide (255 < items.length)||mm))=(true||mm):=fun _=>by simp[sq]
      rw[show decide ((items.length:Int) > 255)=true from Zt Zo];exact zA8
     ·have Wo:∀mm,(false||(decide (255 < items.length)||mm))=(false||mm):=fun _=>by simp[sq]
      rw[show decide ((items.length:Int) > 255)=false from Zf Zo];refine ae ?_;refine VC.loop (α:=Nat×Nat×Bool) (bi:=fun s=>[(0,kF lb),(7,vi s.2.1),(8,kF r),(114,.slice a items.length c),(115,vi items.length),(116,vi s.1)]) (Hf:=fun s=>[A,aZ lb (false||s.2.2) deep,kA r 0 [cv 10,vi n,uv b,.string t,.slice a items.length c]])
       (I:=fun s=>s.1<=items.length/\jc ((items.take s.1).map fun x=>jK x true)=some (s.2.1,s.2.2)) (μ:=fun s=>items.length - s.1) (0,0,false) ⟨Qv _,rfl⟩ ZU (by rw[vT];exact bS) ?_
      rintro⟨j,d,mm⟩ ⟨i1,i2⟩
      simp only at i1 i2;dsimp only;have bz:=wf.many;simp only[Lt.size]at hbd;have hdb:d<=Lt.aq items:=gl (fun r hr d m e=>by
       obtain⟨y,hy,rfl⟩:=QM.1 hr;have h1:=Lt.aD (QN hy);have h2:=D4 _ y (Qn _) true d m e;omega) i2
      refine ae ?_;by_cases hj:j < items.length;rotate_left
      ·rw[show decide ((j:Int) < (items.length:Int))=false from Zf Zo];have cH:items.take j=items:=Qg Zo;rw[cH,<- cS]at i2;refine ae ?_;refine⟨⟨d+1,decide (255 < items.length)||mm,n,b,t,Nz,0⟩,⟨⟨_,_,rfl⟩,?_⟩,ZU,?_⟩
       ·simp[jK,i2,wo,wi,kQ,oe.ok]
       ·rw[Wo];exact bS
      obtain rfl:=ha Zo;rw[show decide ((j:Int) < (items.length:Int))=true from Zt Zo];obtain⟨y,hy⟩:∃y,items[j]? =some y:=⟨_,Zg hj⟩;have bK:=hr j y hy;have cQ:=hm j hj;have Pz:y.size<=N:=by
       have h1:=Lt.aD (Zv hy);simp only[Lt.size]at hx;omega
      have Un:=Lt.aD (Zv hy);have aC:=ih y Pz Zo _ bK lb (false||mm) deep true;generalize us j=uj at bK cQ aC;have hyr2:=bK;cases hyr2 with
      |@mk k2 n2 b2 t2 Ji a2 c2 bk2 o2 Dj Tt IS p8 du=>
      refine ae ?_;refine kS Zr Dt rfl ?_;refine ae ?_;refine kO (fun q2=>?_);refine ae ?_;refine kL aC Zr ZP (fun v Post hv=>?_) (fun ch Post hz=>?_);rotate_left
      ·obtain⟨hb,rfl,m2,rfl⟩:=hz;have aH:jK (.mk 10 n b t items) inside=none:=by
        have h1:jc (tB items)=none:=by
         rw[cS];exact cU (QM.2 ⟨_,Zv hy,hb⟩)
        simp[jK,h1,wo,wi,kQ]
       exact⟨[A,aZ lb m2 deep],ZI,aH,rfl,m2,rfl⟩
      obtain⟨e,m2,he,rfl,rfl⟩:=hv;simp only[aJ];have cH:items.take (j+1)=items.take j++[.mk k2 n2 b2 t2 Ji]:=by rw[Qe,hy];rfl
      refine ae ?_;rw[show(if(e:Int) > (d:Int)then(e:Int)else(d:Int))=((max d e:Nat):Int) by split <;> omega];refine⟨(j+1,max d e,mm||m2),⟨by simp only;omega,?_⟩,by simp only;omega,ZU,?_⟩
      ·simp only[cH,QA,QC,QE,he];exact cV i2
      ·simp only[vP];exact bS
   refine ae ?_;rw[show decide ((k:Int)=1)=false from Zf Zo];refine ae ?_;rw[show decide ((k:Int)=2)=false from Zf Zo];refine ae ?_;rw[show decide ((k:Int)=3)=false from Zf Zo];refine ae ?_;rw[show decide ((k:Int)=4)=false from Zf Zo];refine ae ?_;rw[show decide ((k:Int)=5)=false from Zf Zo];refine ae ?_;rw[show decide ((k:Int)=6)=false from Zf Zo];refine ae ?_;rw[show decide ((k:Int)=7)=false from Zf Zo];refine ae ?_;rw[show decide ((k:Int)=11)=false from Zf Zo];refine ae ?_;rw[show decide ((k:Int)=8)=false from Zf Zo];refine ae ?_;rw[show decide ((k:Int)=9)=false from Zf Zo];refine ae ?_;rw[show decide ((k:Int)=10)=false from Zf Zo];refine ae ?_;have aH:jK (.mk k n b t items) inside=none:=by simp[jK,k1,k2,k3,k4,k5,k6,k7,k8,k9,k10,k11]
   refine kL (jC false) Zr ZP Zai (fun ch Post hz=>?_);obtain⟨_,rfl,rfl⟩:=hz;exact⟨[A,aZ lb m0 deep],ZI,aH,rfl,m0,rfl⟩
  ·rintro⟨d,mm,n',b',t',sv,l⟩ ⟨⟨a',c',gT⟩,hl⟩
   simp only at gT hl;subst gT;rw[hl];unfold oe.ok;simp only;refine jF ?_;by_cases h1:n'=0;rotate_left
   ·have dt:¬(n'=0/\b'=0/\t'.size=0/\l=0):=fun h=>h1 h.1
    rw[Zf h1];exact NS
   rw[Zt h1];refine jF ?_;by_cases h2:b'=0;rotate_left
   ·have dt:¬(n'=0/\b'=0/\t'.size=0/\l=0):=fun h=>h2 h.2.1
    rw[show decide ((b':Int)=0)=false from Zf Zo];exact NS
   rw[show decide ((b':Int)=0)=true from Zt Zo];refine jF ?_;by_cases h3:t'=⟨#[]⟩;rotate_left
   ·have dt:¬(n'=0/\b'=0/\t'.size=0/\l=0):=fun h=>h3 (ByteArray.ext (v6 h.2.2.1))
    rw[Zf h3];exact NS
   rw[Zt h3];refine jF ?_;by_cases h4:l=0;rotate_left
   ·have dt:¬(n'=0/\b'=0/\t'.size=0/\l=0):=fun h=>h4 h.2.2.2
    rw[show decide ((l:Int)=0)=false from Zf Zo];exact NS
   rw[show decide ((l:Int)=0)=true from Zt Zo];refine jF ?_;refine kL (jC true) Zr ZP (fun v Post hv=>?_) HZ;obtain⟨_,rfl,rfl⟩:=hv;simp only[QS];refine jF ?_;exact jL (kG (Post:=[A,aZ lb (m0||mm) deep]) (.inr rfl) (.tmp Zr .nil) ⟨d,mm,if_pos ⟨h1,h2,by rw[h3];rfl,h4⟩,rfl,rfl⟩ ZI)
theorem Xi(A:List kC)(hE:nE A)(x:Nd)(vs:List Value)(h:jJ A x vs)(hw:x.w<=274877906944)(aP:∀y us,y∈x.kids->jJ A y us->zZ A y us)(hk:x.kind=1):eZ A x vs:=by
 intro lb q r m0 deep;cases h with
 |@mk k s lit args ab kids p lv av tv a c bk o us wf hl bJ bF ha hm hr ss=>
 simp only[Nd.kind]at hk;have fQ:=hl;cases fQ with
 |@mk lk ln bp lt items la lc Mq lo Mr NP NM NN NO=>
 have gP:=bJ;have gU:=bF;obtain⟨aa,ac,rfl,tq,ec⟩:=gP;obtain⟨ta,tc,rfl,sE,KH⟩:=gU;have bh:yD A kids a bk o us:=⟨ha,wf.many,hm,hr,fun i y e=>aP y (us i) (Zv e) (hr i y e)⟩;have AZ:=wf.name;have bz:=wf.many;simp only[Nd.w]at hw;obtain⟨RR,bW⟩:∃RR,RR=kN (.mk k s (.mk lk ln bp lt items) args ab kids p):=⟨_,rfl⟩;rw[<- bW];rw[show kN (.mk k s (.mk lk ln bp lt items) args ab kids p)=ju k s (.mk lk ln bp lt items) args ab kids (kids.map kN) by simp[kN,jq]]at bW;show VC _ _ _ _ [kA r 0 (rA k s lk ln bp lt la items.length lc aa args.length ac ta ab.length tc none 0 0 p),kA q 0 (rA k s lk ln bp lt la items.length lc aa args.length ac ta ab.length tc a kids.length c p),A,aZ lb m0 deep] _;subst hk;refine ae ?_;by_cases Ct:kids.length=0;rotate_left
 ·have aH:RR=none:=by simp[bW,zL.ok,ju,kQ,wk,Lt.kind,Lt.n,Lt.bits,Lt.text,Lt.items,Ct]
  rw[show decide ((kids.length:Int)=0)=false from Zf Zo];exact Bz
 rw[show decide ((kids.length:Int)=0)=true from Zt Zo];refine ae ?_;refine kL (jC true) Zr ZP (fun v Post hv=>?_) HZ;obtain⟨_,rfl,rfl⟩:=hv;simp only[QS];refine ae ?_;refine kL (Ri A hE _ _ (Qn _) Zo _ hl lb m0 deep false) Zr ZP (fun v Post hv=>?_) (fun ch Post hz=>?_);rotate_left
 ·exact zDA
 obtain⟨d,m2,he,rfl,rfl⟩:=hv;simp only[aJ];refine ae ?_;refine⟨⟨d,m2,s,0,0,0,⟨#[]⟩,none,0,0,aa,args.length,ac,ta,ab.length,tc⟩,?_,ZU,?_⟩
 ·simp[bW,zL.ok,ju,kQ,wk,Lt.kind,Lt.n,Lt.bits,Lt.text,Lt.items,he,Ct,show(⟨#[]⟩:ByteArray).size=0 from rfl]
 ·show ao _ [A,aZ lb (m0||m2) deep,kA r 0 [cv 1,.string s,.int .u8 0,.int .i64 0,.int .u64 0,.string ⟨#[]⟩,Nz,.slice aa args.length ac,.slice ta ab.length tc,Nz,vi p]];exact bS
theorem Xj(A:List kC)(hE:nE A)(x:Nd)(vs:List Value)(h:jJ A x vs)(hw:x.w<=274877906944)(aP:∀y us,y∈x.kids->jJ A y us->zZ A y us)(hk:x.kind=2):eZ A x vs:=by
 intro lb q r m0 deep;cases h with
 |@mk k s lit args ab kids p lv av tv a c bk o us wf hl bJ bF ha hm hr ss=>
 simp only[Nd.kind]at hk;have fQ:=hl;cases fQ with
 |@mk lk ln bp lt items la lc Mq lo Mr NP NM NN NO=>
 have gP:=bJ;have gU:=bF;obtain⟨aa,ac,rfl,tq,ec⟩:=gP;obtain⟨ta,tc,rfl,sE,KH⟩:=gU;have bh:yD A kids a bk o us:=⟨ha,wf.many,hm,hr,fun i y e=>aP y (us i) (Zv e) (hr i y e)⟩;have AZ:=wf.name;have bz:=wf.many;simp only[Nd.w]at hw;obtain⟨RR,bW⟩:∃RR,RR=kN (.mk k s (.mk lk ln bp lt items) args ab kids p):=⟨_,rfl⟩;rw[<- bW];rw[show kN (.mk k s (.mk lk ln bp lt items) args ab kids p)=ju k s (.mk lk ln bp lt items) args ab kids (kids.map kN) by simp[kN,jq]]at bW;show VC _ _ _ _ [kA r 0 (rA k s lk ln bp lt la items.length lc aa args.length ac ta ab.length tc none 0 0 p),kA q 0 (rA k s lk ln bp lt la items.length lc aa args.length ac ta ab.length tc a kids.length c p),A,aZ lb m0 deep] _;subst hk;refine ae ?_;by_cases Ct:kids.length=0;rotate_left
 ·have aH:RR=none:=by simp[bW,zL.ok,ju,kQ,wk,Lt.kind,Lt.n,Lt.bits,Lt.text,Lt.items,Ct]
  rw[show decide ((kids.length:Int)=0)=false from Zf Zo];exact Bz
 rw[show decide ((kids.length:Int)=0)=true from Zt Zo];refine ae ?_;refine kK (nN s AZ) Zr ?_;cases hn:zn s with
 |false=>
  have aH:RR=none:=by simp[bW,zL.ok,ju,kQ,wk,Lt.kind,Lt.n,Lt.bits,Lt.text,Lt.items,hn]
  exact Bz
 |true=>
  refine ae ?_;refine kL (jC true) Zr ZP (fun v Post hv=>?_) HZ;obtain⟨_,rfl,rfl⟩:=hv;simp only[QS];refine ae ?_;refine⟨⟨0,false,⟨#[]⟩,lk,ln,bp,lt,la,items.length,lc,aa,args.length,ac,ta,ab.length,tc⟩,?_,ZU,?_⟩
  ·simp[bW,zL.ok,ju,kQ,wk,Lt.kind,Lt.n,Lt.bits,Lt.text,Lt.items,hn,Ct,show(⟨#[]⟩:ByteArray).size=0 from rfl];simp only[and_assoc]
  ·rw[vT];show ao _ [A,aZ lb m0 deep,kA r 0 [cv 2,.string ⟨#[]⟩,cv lk,vi ln,uv bp,.string lt,.slice la items.length lc,.slice aa args.length ac,.slice ta ab.length tc,Nz,vi p]];exact bS
theorem Xq(A:List kC)(hE:nE A)(x:Nd)(vs:List Value)(h:jJ A x vs)(hw:x.w<=274877906944)(aP:∀y us,y∈x.kids->jJ A y us->zZ A y us)(hk:x.kind=9):eZ A x vs:=by
 intro lb q r m0 deep;cases h with
 |@mk k s lit args ab kids p lv av tv a c bk o us wf hl bJ bF ha hm hr ss=>
 simp only[Nd.kind]at hk;have fQ:=hl;cases fQ with
 |@mk lk ln bp lt items la lc Mq lo Mr NP NM NN NO=>
 have gP:=bJ;have gU:=bF;obtain⟨aa,ac,rfl,tq,ec⟩:=gP;obtain⟨ta,tc,rfl,sE,KH⟩:=gU;have bh:yD A kids a bk o us:=⟨ha,wf.many,hm,hr,fun i y e=>aP y (us i) (Zv e) (hr i y e)⟩;have AZ:=wf.name;have bz:=wf.many;simp only[Nd.w]at hw;obtain⟨RR,bW⟩:∃RR,RR=kN (.mk k s (.mk lk ln bp lt items) args ab kids p):=⟨_,rfl⟩;rw[<- bW];rw[show kN (.mk k s (.mk lk ln bp lt items) args ab kids p)=ju k s (.mk lk ln bp lt items) args ab kids (kids.map kN) by simp[kN,jq]]at bW;show VC _ _ _ _ [kA r 0 (rA k s lk ln bp lt la items.length lc aa args.length ac ta ab.length tc none 0 0 p),kA q 0 (rA k s lk ln bp lt la items.length lc aa args.length ac ta ab.length tc a kids.length c p),A,aZ lb m0 deep] _;subst hk;refine ae ?_;by_cases um:kids.length=1;rotate_left
 ·have aH:RR=none:=by
   rw[bW];unfold ju;rw[if_neg Zd,if_neg Zd,if_neg Zd,if_neg Zd,if_neg Zd,if_neg Zd,if_neg Zd,if_neg Zd,if_pos rfl];unfold kQ;split
   ·match kids,um with
    |[],_=>rfl
    |_::_::_,_=>rfl
   ·rfl
  rw[show decide ((kids.length:Int)=1)=false from Zf Zo];exact Bz
 rw[show decide ((kids.length:Int)=1)=true from Zt Zo];obtain⟨y,EV⟩:∃y,kids=[y]:=Q1.1 um;have I9:kids[0]? =some y:=by rw[EV];rfl
 have cQ:=hm 0 Zo;rw[Qw,Qj]at cQ;have fT:=(hr 0 y I9).len;obtain rfl:=ha Zo;have hok0:=bh.ok 0 y I9;have x5:=fun m=>zz A y _ (hr 0 y I9) hok0 1 lb m deep
 refine ae ?_;refine kL (jC true) Zr ZP (fun v Post hv=>?_) HZ;obtain⟨_,rfl,rfl⟩:=hv;simp only[QS];refine ae ?_;refine kS Zr (fun z hz=>QG _ (QG _ (Zw _ (cQ z hz)))) fT ?_;refine ae ?_;refine kL (x5 m0) Zr ZP (fun v Post hv=>?_) (fun ch Post hz=>?_);rotate_left
 ·exact zD6
 obtain⟨d,m2,he,rfl,rfl⟩:=hv;simp only[aJ];refine ae ?_;refine⟨⟨d,m2,s,lk,ln,bp,lt,la,items.length,lc,aa,args.length,ac,ta,ab.length,tc⟩,?_,ZU,?_⟩
 ·simp[bW,zL.ok,ju,kQ,wk,Lt.kind,Lt.n,Lt.bits,Lt.text,Lt.items,he,EV];simp only[and_assoc]
 ·show ao _ [A,aZ lb (m0||m2) deep,kA r 0 (rA 9 s lk ln bp lt la items.length lc aa args.length ac ta ab.length tc none 0 0 p)];exact bS
theorem Xk(A:List kC)(hE:nE A)(x:Nd)(vs:List Value)(h:jJ A x vs)(hw:x.w<=274877906944)(aP:∀y us,y∈x.kids->jJ A y us->zZ A y us)(hk:x.kind=3):eZ A x vs:=by
 intro lb q r m0 deep;cases h with
 |@mk k s lit args ab kids p lv av tv a c bk o us wf hl bJ bF ha hm hr ss=>
 simp only[Nd.kind]at hk;have fQ:=hl;cases fQ with
 |@mk lk ln bp lt items la lc Mq lo Mr NP NM NN NO=>
 have gP:=bJ;have gU:=bF;obtain⟨aa,ac,rfl,tq,ec⟩:=gP;obtain⟨ta,tc,rfl,sE,KH⟩:=gU;have bh:yD A kids a bk o us:=⟨ha,wf.many,hm,hr,fun i y e=>aP y (us i) (Zv e) (hr i y e)⟩;have AZ:=wf.name;have bz:=wf.many;simp only[Nd.w]at hw;obtain⟨RR,bW⟩:∃RR,RR=kN (.mk k s (.mk lk ln bp lt items) args ab kids p):=⟨_,rfl⟩;rw[<- bW];rw[show kN (.mk k s (.mk lk ln bp lt items) args ab kids p)=ju k s (.mk lk ln bp lt items) args ab kids (kids.map kN) by simp[kN,jq]]at bW;show VC _ _ _ _ [kA r 0 (rA k s lk ln bp lt la items.length lc aa args.length ac ta ab.length tc none 0 0 p),kA q 0 (rA k s lk ln bp lt la items.length lc aa args.length ac ta ab.length tc a kids.length c p),A,aZ lb m0 deep] _;subst hk;refine ae ?_;refine jB (out:=[.string s]) Zr Zr (fun q3=>?_);refine ae ?_;have uz:dG (kA q3 0 [.string s]) (.slice (some ⟨q3,0,none⟩) 1 1) [s]:=⟨_,_,rfl,Zs,fun i t e=>by
  cases i with
  |zero=>cases e;exact⟨q3,0,rfl,by simp[kA],AZ⟩
  |succ i=>simp at e⟩
 refine kL (fE (kA q3 0 [.string s]) _ [s] uz lb 1 m0 deep) Zr ZP (fun v Post hv=>?_) (fun ch Post hz=>?_);rotate_left
 ·obtain⟨hb,rfl,m2,rfl⟩:=hz;have uG:jO s=false:=by simpa using hb
  exact⟨[A,aZ lb m2 deep],ZI,by simp[bW,zL.ok,ju,kQ,wk,Lt.kind,Lt.n,Lt.bits,Lt.text,Lt.items,uG],rfl,m2,rfl⟩
 obtain⟨hb,rfl,rfl⟩:=hv;have uG:jO s=true:=by simpa using hb
 rw[show(m0||decide (1 < [s].length))=m0 by simp];simp only[aJ];refine ae ?_;by_cases um:kids.length=1;rotate_left
 ·have aH:RR=none:=by
   rw[bW];unfold ju;rw[if_neg Zd,if_neg Zd,if_pos rfl];unfold kQ;split
   ·match kids,um with
    |[],_=>rfl
    |_::_::_,_=>rfl
   ·rfl
  rw[show decide ((kids.length:Int)=1)=false from Zf Zo];exact Bz
 rw[show decide ((kids.length:Int)=1)=true from Zt Zo];obtain⟨y,EV⟩:∃y,kids=[y]:=Q1.1 um;have I9:kids[0]? =some y:=by rw[EV];rfl
 have cQ:=hm 0 Zo;rw[Qw,Qj]at cQ;have fT:=(hr 0 y I9).len;obtain rfl:=ha Zo;have hok0:=bh.ok 0 y I9;have x5:=fun m=>zz A y _ (hr 0 y I9) hok0 1 lb m deep
 refine ae ?_;refine kL (jC true) Zr ZP (fun v Post hv=>?_) HZ;obtain⟨_,rfl,rfl⟩:=hv;simp only[QS];refine ae ?_;refine kS Zr (fun z hz=>by simp only[Vd,QF];simp[cQ z hz]) fT ?_;refine ae ?_;refine kL (x5 m0) Zr ZP (fun v Post hv=>?_) (fun ch Post hz=>?_);rotate_left
 ·exact zD6
 obtain⟨d,m2,he,rfl,rfl⟩:=hv;simp only[aJ];refine ae ?_;refine⟨⟨d,m2,⟨#[]⟩,lk,ln,bp,lt,la,items.length,lc,aa,args.length,ac,ta,ab.length,tc⟩,?_,ZU,?_⟩
 ·simp[bW,zL.ok,ju,kQ,wk,Lt.kind,Lt.n,Lt.bits,Lt.text,Lt.items,he,EV,uG,show(⟨#[]⟩:ByteArray).size=0 from rfl];simp only[and_assoc]
 ·show ao _ [A,aZ lb (m0||m2) deep,kA r 0 [cv 3,.string ⟨#[]⟩,cv lk,vi ln,uv bp,.string lt,.slice la items.length lc,.slice aa args.length ac,.slice ta ab.length tc,Nz,vi p]];exact bS
theorem Xn(A:List kC)(hE:nE A)(x:Nd)(vs:List Value)(h:jJ A x vs)(hw:x.w<=274877906944)(aP:∀y us,y∈x.kids->jJ A y us->zZ A y us)(hk:x.kind=6):eZ A x vs:=by
 intro lb q r m0 deep;cases h with
 |@mk k s lit args ab kids p lv av tv a c bk o us wf hl bJ bF ha hm hr ss=>
 simp only[Nd.kind]at hk;have fQ:=hl;cases fQ with
 |@mk lk ln bp lt items la lc Mq lo Mr NP NM NN NO=>
 have gP:=bJ;have gU:=bF;obtain⟨aa,ac,rfl,tq,ec⟩:=gP;obtain⟨ta,tc,rfl,sE,KH⟩:=gU;have bh:yD A kids a bk o us:=⟨ha,wf.many,hm,hr,fun i y e=>aP y (us i) (Zv e) (hr i y e)⟩;have AZ:=wf.name;have bz:=wf.many;simp only[Nd.w]at hw;obtain⟨RR,bW⟩:∃RR,RR=kN (.mk k s (.mk lk ln bp lt items) args ab kids p):=⟨_,rfl⟩;rw[<- bW];rw[show kN (.mk k s (.mk lk ln bp lt items) args ab kids p)=ju k s (.mk lk ln bp lt items) args ab kids (kids.map kN) by simp[kN,jq]]at bW;show VC _ _ _ _ [kA r 0 (rA k s lk ln bp lt la items.length lc aa args.length ac ta ab.length tc none 0 0 p),kA q 0 (rA k s lk ln bp lt la items.length lc aa args.length ac ta ab.length tc a kids.length c p),A,aZ lb m0 deep] _;subst hk;refine ae ?_;refine kL (mi A kids a c bk o us bh s AZ lb m0 deep) Zr ZP (fun v Post hv=>?_) (fun ch Post hz=>?_);rotate_left
 ·exact zDA
 obtain⟨d,m2,he,rfl,rfl⟩:=hv;simp only[aJ];refine ae ?_;refine⟨⟨d,m2,⟨#[]⟩,lk,ln,bp,lt,la,items.length,lc,aa,args.length,ac,ta,ab.length,tc⟩,?_,ZU,?_⟩
 ·simp[bW,zL.ok,ju,kQ,wk,Lt.kind,Lt.n,Lt.bits,Lt.text,Lt.items,he,show(⟨#[]⟩:ByteArray).size=0 from rfl];simp only[and_assoc]
 ·show ao _ [A,aZ lb (m0||m2) deep,kA r 0 [cv 6,.string ⟨#[]⟩,cv lk,vi ln,uv bp,.string lt,.slice la items.length lc,.slice aa args.length ac,.slice ta ab.length tc,Nz,vi p]];exact bS
theorem Xh(A:List kC)(hE:nE A)(x:Nd)(vs:List Value)(h:jJ A x vs)(hw:x.w<=274877906944)(aP:∀y us,y∈x.kids->jJ A y us->zZ A y us)(hk:x.kind≠1/\x.kind≠2/\x.kind≠3/\x.kind≠4/\x.kind≠5/\x.kind≠6/\x.kind≠7/\x.kind≠8/\x.kind≠9):eZ A x vs:=by
 intro lb q r m0 deep;cases h with
 |@mk k s lit args ab kids p lv av tv a c bk o us wf hl bJ bF ha hm hr ss=>
 simp only[Nd.kind]at hk;have fQ:=hl;cases fQ with
 |@mk lk ln bp lt items la lc Mq lo Mr NP NM NN NO=>
 have gP:=bJ;have gU:=bF;obtain⟨aa,ac,rfl,tq,ec⟩:=gP;obtain⟨ta,tc,rfl,sE,KH⟩:=gU;have bh:yD A kids a bk o us:=⟨ha,wf.many,hm,hr,fun i y e=>aP y (us i) (Zv e) (hr i y e)⟩;have AZ:=wf.name;have bz:=wf.many;simp only[Nd.w]at hw;obtain⟨RR,bW⟩:∃RR,RR=kN (.mk k s (.mk lk ln bp lt items) args ab kids p):=⟨_,rfl⟩;rw[<- bW];rw[show kN (.mk k s (.mk lk ln bp lt items) args ab kids p)=ju k s (.mk lk ln bp lt items) args ab kids (kids.map kN) by simp[kN,jq]]at bW;show VC _ _ _ _ [kA r 0 (rA k s lk ln bp lt la items.length lc aa args.length ac ta ab.length tc none 0 0 p),kA q 0 (rA k s lk ln bp lt la items.length lc aa args.length ac ta ab.length tc a kids.length c p),A,aZ lb m0 deep] _;obtain⟨k1,k2,k3,k4,k5,k6,k7,k8,k9⟩:=hk;have aH:RR=none:=by simp[bW,ju,k1,k2,k3,k4,k5,k6,k7,k8,k9]
 refine ae ?_;rw[show decide ((k:Int)=1)=false from Zf Zo];refine ae ?_;rw[show decide ((k:Int)=2)=false from Zf Zo];refine ae ?_;rw[show decide ((k:Int)=3)=false from Zf Zo];refine ae ?_;rw[show decide ((k:Int)=4)=false from Zf Zo];refine ae ?_;rw[show decide ((k:Int)=6)=false from Zf Zo];refine ae ?_;rw[show decide ((k:Int)=5)=false from Zf Zo];refine ae ?_;rw[show decide ((k:Int)=7)=false from Zf Zo];refine ae ?_;rw[show decide ((k:Int)=8)=false from Zf Zo];refine ae ?_;rw[show decide ((k:Int)=9)=false from Zf Zo];exact Bz
theorem Xo(A:List kC)(hE:nE A)(x:Nd)(vs:List Value)(h:jJ A x vs)(hw:x.w<=274877906944)(aP:∀y us,y∈x.kids->jJ A y us->zZ A y us)(hk:x.kind=7):eZ A x vs:=by
 intro lb q r m0 deep;cases h with
 |@mk k s lit args ab kids p lv av tv a c bk o us wf hl bJ bF ha hm hr ss=>
 simp only[Nd.kind]at hk;have fQ:=hl;cases fQ with
 |@mk lk ln bp lt items la lc Mq lo Mr NP NM NN NO=>
 have gP:=bJ;have gU:=bF;obtain⟨aa,ac,rfl,tq,ec⟩:=gP;obtain⟨ta,tc,rfl,sE,KH⟩:=gU;have bh:yD A kids a bk o us:=⟨ha,wf.many,hm,hr,fun i y e=>aP y (us i) (Zv e) (hr i y e)⟩;have AZ:=wf.name;have bz:=wf.many;simp only[Nd.w]at hw;obtain⟨RR,bW⟩:∃RR,RR=kN (.mk k s (.mk lk ln bp lt items) args ab kids p):=⟨_,rfl⟩;rw[<- bW];rw[show kN (.mk k s (.mk lk ln bp lt items) args ab kids p)=ju k s (.mk lk ln bp lt items) args ab kids (kids.map kN) by simp[kN,jq]]at bW;show VC _ _ _ _ [kA r 0 (rA k s lk ln bp lt la items.length lc aa args.length ac ta ab.length tc none 0 0 p),kA q 0 (rA k s lk ln bp lt la items.length lc aa args.length ac ta ab.length tc a kids.length c p),A,aZ lb m0 deep] _;subst hk;refine ae ?_;refine kL (fE A _ args bJ lb 15 m0 deep) Zr ZP (fun v Post hv=>?_) (fun ch Post hz=>?_);rotate_left
 ·obtain⟨hb,rfl,m2,rfl⟩:=hz;exact⟨[A,aZ lb m2 deep],ZI,by simp[bW,ju,kQ,wy,hb],rfl,m2,rfl⟩
 obtain⟨H9,rfl,rfl⟩:=hv;obtain⟨m1,AJ⟩:∃m1,m1=(m0||decide (15 < args.length)):=⟨_,rfl⟩;rw[<- AJ];simp only[aJ];refine ae ?_;refine kL (fE A _ ab bF lb 63 m1 deep) Zr ZP (fun v Post hv=>?_) (fun ch Post hz=>?_);rotate_left
 ·obtain⟨hb,rfl,m2,rfl⟩:=hz;have aH:RR=none:=by
   simp only[bW,ju,wy,hb];simp[kQ,wo]
  exact⟨[A,aZ lb m2 deep],ZI,aH,rfl,m2,rfl⟩
 obtain⟨DF,rfl,rfl⟩:=hv;obtain⟨m2,p8⟩:∃m2,m2=(m1||decide (63 < ab.length)):=⟨_,rfl⟩;rw[<- p8];simp only[aJ];refine ae ?_;refine kL (lX A kids a c bk o us bh lb m2 deep) Zr ZP (fun v Post hv=>?_) (fun ch Post hz=>?_);rotate_left
 ·obtain⟨hb,rfl,m3,rfl⟩:=hz;have aH:RR=none:=by
   simp only[bW,ju,wy,hb,wi,wo];simp[kQ]
  exact⟨[A,aZ lb m3 deep],ZI,aH,rfl,m3,rfl⟩
 obtain⟨d,m3,he,rfl,rfl⟩:=hv;have hdb:d<=1099511627777:=gl (fun r hr d m e=>by
  obtain⟨j,hj⟩:=Vv hr;have xT:=(Vt.1 hj).1;rw[pF]at xT;have hy:=Zg xT;have aB:=pE kids j kids[j] hy;rw[aB]at hj;have hb:=(bh.ok j _ hy).2;split at hj
  ·cases hj;have:=hb d m e;omega
  ·cases hj;exact s6 hb e) he
 simp only[aJ];refine ae ?_;refine⟨⟨d+1,decide (15 < args.length)||(decide (63 < ab.length)||m3),s,lk,ln,bp,lt,la,items.length,lc,none,0,0,none,0,0⟩,?_,ZU,?_⟩
 ·simp only[bW,ju,wy,H9,DF,he,wi,wo];simp[zL.ok,kQ,wk,Lt.kind,Lt.n,Lt.bits,Lt.text,Lt.items]
 ·rw[show(m0||(decide (15 < args.length)||(decide (63 < ab.length)||m3)))=(m2||m3) by rw[p8,AJ];simp only[vP]];show ao _ [A,aZ lb (m2||m3) deep,kA r 0 (rA 7 s lk ln bp lt la items.length lc none 0 0 none 0 0 none 0 0 p)];exact bS
theorem Xp(A:List kC)(hE:nE A)(x:Nd)(vs:List Value)(h:jJ A x vs)(hw:x.w<=274877906944)(aP:∀y us,y∈x.kids->jJ A y us->zZ A y us)(hk:x.kind=8):eZ A x vs:=by
 intro lb q r m0 deep;cases h with
 |@mk k s lit args ab kids p lv av tv a c bk o us wf hl bJ bF ha hm hr ss=>
 simp only[Nd.kind]at hk;have fQ:=hl;cases fQ with
 |@mk lk ln bp lt items la lc Mq lo Mr NP NM NN NO=>
 have gP:=bJ;have gU:=bF;obtain⟨aa,ac,rfl,tq,ec⟩:=gP;obtain⟨ta,tc,rfl,sE,KH⟩:=gU;have bh:yD A kids a bk o us:=⟨ha,wf.many,hm,hr,fun i y e=>aP y (us i) (Zv e) (hr i y e)⟩;have AZ:=wf.name;have bz:=wf.many;simp only[Nd.w]at hw;obtain⟨RR,bW⟩:∃RR,RR=kN (.mk k s (.mk lk ln bp lt items) args ab kids p):=⟨_,rfl⟩;rw[<- bW];rw[show kN (.mk k s (.mk lk ln bp lt items) args ab kids p)=ju k s (.mk lk ln bp lt items) args ab kids (kids.map kN) by simp[kN,jq]]at bW;show VC _ _ _ _ [kA r 0 (rA k s lk ln bp lt la items.length lc aa args.length ac ta ab.length tc none 0 0 p),kA q 0 (rA k s lk ln bp lt la items.length lc aa args.length ac ta ab.length tc a kids.length c p),A,aZ lb m0 deep] _;subst hk;have hR8:RR=kQ (decide (s.size=0/\args.length=0/\ab.length=0)&&wk (.mk lk ln bp lt items)) (wi (wo (decide (255 < kids.length)) (jc (kids.map fun y=>ja y 1 (kN y))))):=by
  rw[bW,<- dY];rfl
 obtain⟨WX,Wn⟩:∃WX,WX=m0:=⟨_,rfl⟩;cases m0 with
 |true=>
  obtain⟨mB,KE⟩:∃b,b=(true||decide (255 < kids.length)):=⟨_,rfl⟩;have Gp:mB=true:=by rw[KE,Bool.true_or]
  exact zA6
 |false=>
  obtain⟨mB,KE⟩:∃b,b=(false||decide (255 < kids.length)):=⟨_,rfl⟩;have Gp:mB=decide ((kids.length:Int) > 255):=by
   rw[KE,vM];exact decide_eq_decide.2 Zo
  exact zA6
theorem sK {f:Nat}{args:List Value}{A:List kC}{lb:Nat}{m0 deep:Bool}{r:Rs}{d:Nat}{m:Bool}(h:AM f args A lb m0 deep r)(hr:r=some (d,m)):
 aw Tryz.prog f args [A,aZ lb m0 deep] (fun v Post=>v=vi d/\Post=[A,aZ lb (m0||m) deep]):=by
 refine ji.fun (ji.mono h (fun v Post ⟨d',m',e,h1,h2⟩=>?_) (fun ch Post hz=>?_))
 ·rw[hr]at e;cases e;exact⟨h1,h2⟩
 ·rw[hr]at hz;cases hz.1
theorem ye {f:Nat}{args:List Value}{A:List kC}{lb:Nat}{deep:Bool}{r:Rs}(h:∀m,AM f args A lb m deep r):
 ∃(d:Nat) (φ:Prop),(φ->r≠none)/\∀m,ji Tryz.prog f args [A,aZ lb m deep] (fun v Post=>v=vi d/\φ/\∃m',Post=[A,aZ lb m' deep]) (fun ch Post=>ch=wZ/\∃m',Post=[A,aZ lb m' deep]):=by
 cases r with
 |none=>exact⟨0,False,fun h=>h.elim,fun m=>ji.mono (h m) (fun v Post ⟨d',m',e,_⟩=>by cases e) (fun ch Post hz=>hz.2)⟩
 |some p=>
  obtain⟨d,m1⟩:=p;exact⟨d,True,fun _=>by simp,fun m=>ji.mono (h m) (fun v Post ⟨d',m',e,h1,h2⟩=>by cases e;exact⟨h1,trivial,_,h2⟩) (fun ch Post hz=>hz.2)⟩
theorem iS {p q:Rs}(h:p=none∨q=none):zr p q=none:=by
 rcases h with rfl|rfl
 ·rfl
 ·cases p <;> rfl
end Go.Proofs.YtijnokbblmbpkaaGreatDoor
namespace Go.V
open Go
structure Hd where
 cls:Nat
 fmt:Nat
 spare:Nat
 hash:Nat
 age:Nat
 slots:Nat
 marked:Bool
 yy:Bool
def b2n(b:Bool):Nat:=if b then 1 else 0
structure Hd.May (h:Hd):Prop where
 cls:h.cls<=4095
 hash:h.hash<=4194303
 age:h.age<=15
 slots:h.slots<=65536
 spare:h.spare<=7
 fmt:1<=h.fmt/\h.fmt<=6
 plain:h.fmt<=4->h.spare=0
 eph:h.fmt=3->0 < h.slots
 meth:h.fmt=6->0 < h.slots
 some:h.spare≠0->(if h.fmt=6 then 1 else 0) < h.slots
def pk(h:Hd):Nat:=h.cls+h.fmt*4096+h.spare*32768+h.hash*262144+h.age*1099511627776+b2n h.marked*17592186044416+b2n h.yy*35184372088832
structure Ob where
 at_:Nat
 hd:Hd
 body:List Nat
def Ob.stop(b:Ob):Nat:=b.at_+2+b.hd.slots
structure Ob.Ok (b:Ob):Prop where
 may:b.hd.May
 len:b.body.length=b.hd.slots
 small:∀x∈b.body,x < 18446744073709551616
 meth:b.hd.fmt=6->∃n r,b.body=(8*n+1)::r/\n<=r.length
structure Lay (ws st:List Nat)(Sb:List Ob):Prop where
 small:∀x∈ws,x < 18446744073709551616
 sts:∀x∈st,x < 18446744073709551616
 stl:st.length=ws.length / 64+1
 len:ws.length < 4194304
 ok:∀b∈Sb,b.Ok
 low:∀b∈Sb,2<=b.at_
 high:∀b∈Sb,b.stop<=ws.length
 head:∀b∈Sb,ws[b.at_]? =some (pk b.hd)/\ws[b.at_+1]? =some b.hd.slots
 body:∀b∈Sb,∀i < b.hd.slots,ws[b.at_+2+i]? =b.body[i]?
 sort:Sb.Pairwise fun a b=>a.stop<=b.at_
 bits:∀w,w < ws.length->(bitAt st w=true↔∃b∈Sb,b.at_=w)
def kU:Le Nat:=⟨.int,uv,fun a b=>by
 show some (decide (((a:Nat):Int)=((b:Nat):Int)))=some (decide (a=b))
 congr 1;rw[decide_eq_decide];omega⟩
structure AH where
 rm:List (Nat×Nat×Nat)
 Sb:List Ob
 sp:List Nat
 cl:List Nat
 stack:List Nat
 queue:List Nat
 yy:List Nat
 ahead:List (Nat×Nat)
 given:Nat
structure HW where
 a:AH
 ws:List Nat
 st:List Nat
 wb:Nat
 sb:Nat
 kv:Value
 qv:Value
 nv:Value
 ks:List Value
 qs:List Value
 ns:List Value
 mb:Nat
 es:Array MapEntry
 mc:Nat
def rmEnc(r:Nat×Nat×Nat):List Value:=[vi r.1,vi r.2.1,vi r.2.2]
def arrV(b:Nat)(l:List Nat):Value:=.slice (some ⟨b,0,none⟩) l.length l.length
def HMem(p:Nat)(x:HW):SH:=
 [kA p 0 [arrV x.wb x.ws,arrV x.sb x.st],kA p 4180 [x.kv,x.qv,x.nv,.map (some x.mb),vi x.a.given],kA p 2 (x.a.rm.flatMap rmEnc),kA p 20 (x.a.sp.map uv),kA p 84 (x.a.cl.map uv),
  kA x.wb 0 (x.ws.map uv),kA x.sb 0 (x.st.map uv),aj x.kv (x.a.stack.map uv) x.ks,aj x.qv (x.a.queue.map uv) x.qs,aj x.nv (x.a.yy.map uv) x.ns,[.obj x.mb (.map x.es x.mc)]]
def HA(p:Nat)(x:HW):List kC:=(HMem p x).flatten
structure RmOk (a:AH)(n:Nat):Prop where
 len:a.rm.length=6
 zero:a.rm[0]? =some (0,0,0)
 rng:∀(i:Nat) (r:Nat×Nat×Nat),a.rm[i]? =some r->r.1<=r.2.2/\r.2.2<=r.2.1/\r.2.1<=n
 low:∀(i:Nat) (r:Nat×Nat×Nat),1<=i->a.rm[i]? =some r->2<=r.1
 apart:∀(i j:Nat) (r s:Nat×Nat×Nat),i < j->a.rm[i]? =some r->a.rm[j]? =some s->1<=i->r.2.1<=s.1∨s.2.1<=r.1
 inn:∀b∈a.Sb,∃(i:Nat) (r:Nat×Nat×Nat),1<=i/\a.rm[i]? =some r/\r.1<=b.at_/\b.stop<=(if i=5 then r.2.1 else r.2.2)
structure HOk (x:HW):Prop where
 lay:Lay x.ws x.st x.a.Sb
 rm:RmOk x.a x.ws.length
 spl:x.a.sp.length=64
 cll:x.a.cl.length=4096
 sps:∀o∈x.a.sp,o < 18446744073709551616
 cls:∀o∈x.a.cl,o < 18446744073709551616
 stks:∀o∈x.a.stack,o < 18446744073709551616
 ques:∀o∈x.a.queue,o < 18446744073709551616
 nots:∀o∈x.a.yy,o < 18446744073709551616
 stk:jA 1 x.kv x.a.stack.length (x.a.stack.map uv) x.ks
 que:jA 1 x.qv x.a.queue.length (x.a.queue.map uv) x.qs
 note:jA 1 x.nv x.a.yy.length (x.a.yy.map uv) x.ns
 map:zu kU uv x.es x.mc x.a.ahead
 given:x.a.given<=4194303
 deep:x.a.stack.length<=4096
 few:x.a.queue.length<=1073741823/\x.a.yy.length<=1073741823
section
variable {P:Program} {n:Nat} {rs:List RO} {Γ:Env} {H:SH} {Z:List PanicEntry->Env->SH->Prop} {K:Env->SH->Prop}
end
structure Keep (f:Ob->Ob):Prop where
 at_:∀b,(f b).at_=b.at_
 slots:∀b,(f b).hd.slots=b.hd.slots
section
variable {ws st:List Nat} {Sb:List Ob}
end
section
variable {P:Program} {n:Nat} {rs:List RO} {Γ:Env} {H:SH} {Z:List PanicEntry->Env->SH->Prop} {K:Env->SH->Prop} {d:Option Nat}
end
section
variable {P:Program} {n:Nat} {rs:List RO} {Γ:Env} {H:SH} {Z:List PanicEntry->Env->SH->Prop} {K:Env->SH->Prop} {d:Option Nat}
theorem nA {size len cap l b o:Nat}{x lo:Operand}{kl:IntKind}{cl:Int}(hx:ev Γ x=some (.slice (some ⟨b,o,none⟩) len cap))(DK:ev Γ lo=some (.int kl cl))(el:cl=(l:Int))(hr:l<=len/\len<=cap)
 (k:VO P n rs (ap d (.slice (some ⟨b,if cap=l then o else o+l*size,none⟩) (len - l) (cap - l)) Γ) H Z K):
 VO P n (⟨d,none,.rj size x (some lo) none none⟩::rs) Γ H Z K:=by
 subst el;refine VO.pure rfl (fun ρ aO=>?_) k;have h1:bound (Value.int kl (l:Int)) len=some l:=by simp[bound];omega
 simp[kW,aO _ _ hx,aO _ _ DK,zj,h1,wP]
end
end Go.V
namespace Go.Proofs.YtijnokbblmbpkaaGreatDoor
open Go Go.V
set_option maxHeartbeats 3200000
set_option maxRecDepth 100000
theorem Xl(A:List kC)(hE:nE A)(x:Nd)(vs:List Value)(h:jJ A x vs)(hw:x.w<=274877906944)(aP:∀y us,y∈x.kids->jJ A y us->zZ A y us)(hk:x.kind=4):eZ A x vs:=by
 intro lb q r m0 deep;cases h with
 |@mk k s lit args ab kids p lv av tv a c bk o us wf hl bJ bF ha hm hr ss=>
 simp only[Nd.kind]at hk;have fQ:=hl;cases fQ with
 |@mk lk ln bp lt items la lc Mq lo Mr NP NM NN NO=>
 have gP:=bJ;have gU:=bF;obtain⟨aa,ac,rfl,tq,ec⟩:=gP;obtain⟨ta,tc,rfl,sE,KH⟩:=gU;have bh:yD A kids a bk o us:=⟨ha,wf.many,hm,hr,fun i y e=>aP y (us i) (Zv e) (hr i y e)⟩;have AZ:=wf.name;have bz:=wf.many;simp only[Nd.w]at hw;obtain⟨RR,bW⟩:∃RR,RR=kN (.mk k s (.mk lk ln bp lt items) args ab kids p):=⟨_,rfl⟩;rw[<- bW];rw[show kN (.mk k s (.mk lk ln bp lt items) args ab kids p)=ju k s (.mk lk ln bp lt items) args ab kids (kids.map kN) by simp[kN,jq]]at bW;show VC _ _ _ _ [kA r 0 (rA k s lk ln bp lt la items.length lc aa args.length ac ta ab.length tc none 0 0 p),kA q 0 (rA k s lk ln bp lt la items.length lc aa args.length ac ta ab.length tc a kids.length c p),A,aZ lb m0 deep] _;subst hk;refine ae ?_;by_cases Ct:0 < kids.length;rotate_left
 ·have aH:RR=none:=by
   obtain rfl:kids=[]:=vz Zo;rw[bW];unfold ju;rw[if_neg Zd,if_neg Zd,if_neg Zd,if_pos rfl];unfold kQ;split <;> rfl
  rw[show decide ((kids.length:Int) > 0)=false from Zf Zo];exact Bz
 rw[show decide ((kids.length:Int) > 0)=true from Zt Zo];refine ae ?_;refine kK (fh s AZ) Zr ?_;refine ae ?_;by_cases ec:0<=kR s;rotate_left
 ·have aH:RR=none:=by
   rw[bW];unfold ju;rw[if_neg Zd,if_neg Zd,if_neg Zd,if_pos rfl];rw[Zf ec,Bool.and_false];rfl
  rw[show decide (kR s ≥ 0)=false from Zf ec];exact Bz
 rw[show decide (kR s ≥ 0)=true from Zt ec];refine ae ?_;refine kL (jC true) Zr ZP (fun v Post hv=>?_) HZ;obtain⟨_,rfl,rfl⟩:=hv;simp only[QS];refine ae ?_;obtain⟨y,l,EV⟩:∃y l,kids=y::l:=by
  cases kids with
  |nil=>simp at Ct
  |cons y l=>exact⟨y,l,rfl⟩
 have I9:kids[0]? =some y:=by rw[EV];rfl
 have cQ:=hm 0 Zo;rw[Qw,Qj]at cQ;have fT:=(hr 0 y I9).len;obtain rfl:=ha Zo;have EY:l.length=kids.length - 1:=by rw[EV];rfl
 have KB:yD A l (some ⟨bk,if c=1 then o else o+1*11,none⟩) bk (if c=1 then o else o+1*11) (fun i=>us (i+1)):=by
  refine⟨fun _=>rfl,Zo,fun i hi z hz=>?_,fun i z e=>hr (i+1) z (by rw[EV];exact e),fun i z e=>bh.ok (i+1) z (by rw[EV];exact e)⟩;refine hm (i+1) Zo z ?_;rw[if_neg Zo]at hz
  rwa [show o+1*11+i*11=o+(i+1)*11 by omega]at hz
 have hF:=fun m=>xG A y _ (hr 0 y I9) (bh.ok 0 y I9) s AZ lb m deep
 have hA:=fun m=>mi A l _ (c - 1) bk _ _ KB s AZ lb m deep
 rw[EY]at hA;have hR4:RR=kQ (decide (args.length=0/\ab.length=0)&&wk (.mk lk ln bp lt items)&&decide (0<=kR s)) (zr (zV y s (kN y)) (ik s l (l.map kN))):=by
  rw[bW,EV];rfl
 by_cases dt:zV y s (kN y)=none∨ik s l (l.map kN)=none
 ·skip
  have aH:RR=none:=by
   rw[hR4,iS dt];unfold kQ;split <;> rfl
  obtain⟨dF,ZQ,hFφ,hFz⟩:=ye hF;obtain⟨dA,φA,hAφ,hAz⟩:=ye hA;refine VC.xC (fun ch H'=>ch=wZ/\∃m,ao H' [A,aZ lb m deep]) (fun H'=>∃m,ao H' [A,aZ lb m deep,kA q 0 (rA 4 s lk ln bp lt la items.length lc aa args.length ac ta ab.length tc (some ⟨bk,o,none⟩) kids.length c p)]) ⟨m0,ZI⟩ ?_ (fun ch H' hp=>?_)
  ·skip
   intro rs dK;rcases QH.1 dK with rfl|dK
   ·skip
    refine kI ?_;refine kI ?_;refine kI ?_;refine kI ?_;refine kI ?_;refine kI ?_;refine kI ?_;refine⟨rfl,vi dF,ZQ,fun Γ H bj hH=>?_,?_⟩
    ·exact zAE
    refine kI ?_;refine kI ?_;refine kI ?_;refine kI ?_;refine kI ?_;exact zA5
   rcases QH.1 dK with rfl|dK
   ·skip
    refine kI ?_;refine kI ?_;refine kI ?_;refine kI ?_;refine kI ?_;refine kI ?_;refine kI ?_;refine kI ?_;refine kI ?_;refine kI ?_;refine⟨rfl,vi dF,ZQ,fun Γ H bj hH=>?_,?_⟩
    ·exact zAE
    refine kI ?_;refine kI ?_;exact zA5
   rcases QH.1 dK with rfl|dK
   ·skip
    refine kI ?_;refine kI ?_;refine kI ?_;refine kI ?_;refine kI ?_;refine kI ?_;refine kI ?_;refine kI ?_;refine kI ?_;refine kI ?_;refine kI ?_;refine kI ?_;refine⟨rfl,vi dF,ZQ,fun Γ H bj hH=>?_,?_⟩
    ·exact zAE
    exact zA5
   rcases QH.1 dK with rfl|dK
   ·skip
    refine kI ?_;refine kI ?_;refine kI ?_;refine kI ?_;refine kI ?_;refine kI ?_;refine kI ?_;refine⟨rfl,vi dF,ZQ,fun Γ H bj hH=>?_,?_⟩
    ·exact zAE
    refine kI ?_;refine kI ?_;refine kI ?_;refine kI ?_;refine kI ?_;exact zA5
   rcases QH.1 dK with rfl|dK
   ·skip
    refine kI ?_;refine kI ?_;refine kI ?_;refine kI ?_;refine kI ?_;refine kI ?_;refine kI ?_;refine kI ?_;refine kI ?_;refine kI ?_;refine kI ?_;refine⟨rfl,vi dF,ZQ,fun Γ H bj hH=>?_,?_⟩
    ·exact zAE
    refine kI ?_;exact zA5
   rcases QH.1 dK with rfl|dK
   ·skip
    refine kI ?_;refine kI ?_;refine kI ?_;refine kI ?_;refine kI ?_;refine kI ?_;refine kI ?_;refine kI ?_;refine kI ?_;refine kI ?_;refine kI ?_;refine kI ?_;refine⟨rfl,vi dF,ZQ,fun Γ H bj hH=>?_,?_⟩
    ·exact zAE
    exact zA5
   ·cases dK
  ·obtain⟨rfl,m,hi⟩:=hp;exact⟨_,hi,aH,rfl,m,rfl⟩
 obtain⟨⟨dF,mF⟩,hf⟩:∃p,zV y s (kN y)=some p:=Option.ne_none_iff_exists'.1 fun h=>dt (.inl h)
 obtain⟨⟨dA,mA⟩,hal2⟩:∃p,ik s l (l.map kN)=some p:=Option.ne_none_iff_exists'.1 fun h=>dt (.inr h)
 have hFf:=sK (hF m0) hf;have hAf:=sK (hA (m0||mF)) hal2;refine VC.draws ⟨?_,?_,?_,?_,?_,?_,trivial⟩
 ·exact zA3
 ·exact zA3
 ·exact zA3
 ·exact zA3
 ·exact zA3
 ·exact zA3
theorem Xm(A:List kC)(hE:nE A)(x:Nd)(vs:List Value)(h:jJ A x vs)(hw:x.w<=274877906944)(aP:∀y us,y∈x.kids->jJ A y us->zZ A y us)(hk:x.kind=5):eZ A x vs:=by
 intro lb q r m0 deep;cases h with
 |@mk k s lit args ab kids p lv av tv a c bk o us wf hl bJ bF ha hm hr ss=>
 simp only[Nd.kind]at hk;have fQ:=hl;cases fQ with
 |@mk lk ln bp lt items la lc Mq lo Mr NP NM NN NO=>
 have gP:=bJ;have gU:=bF;obtain⟨aa,ac,rfl,tq,ec⟩:=gP;obtain⟨ta,tc,rfl,sE,KH⟩:=gU;have bh:yD A kids a bk o us:=⟨ha,wf.many,hm,hr,fun i y e=>aP y (us i) (Zv e) (hr i y e)⟩;have AZ:=wf.name;have bz:=wf.many;simp only[Nd.w]at hw;obtain⟨RR,bW⟩:∃RR,RR=kN (.mk k s (.mk lk ln bp lt items) args ab kids p):=⟨_,rfl⟩;rw[<- bW];rw[show kN (.mk k s (.mk lk ln bp lt items) args ab kids p)=ju k s (.mk lk ln bp lt items) args ab kids (kids.map kN) by simp[kN,jq]]at bW;show VC _ _ _ _ [kA r 0 (rA k s lk ln bp lt la items.length lc aa args.length ac ta ab.length tc none 0 0 p),kA q 0 (rA k s lk ln bp lt la items.length lc aa args.length ac ta ab.length tc a kids.length c p),A,aZ lb m0 deep] _;subst hk;refine ae ?_;by_cases Ct:2 < kids.length;rotate_left
 ·have aH:RR=none:=by
   rw[bW];unfold ju;rw[if_neg Zd,if_neg Zd,if_neg Zd,if_neg Zd,if_neg Zd,if_pos rfl];simp[kQ,Ct]
  rw[show decide ((kids.length:Int) > 2)=false from Zf Zo];exact Bz
 rw[show decide ((kids.length:Int) > 2)=true from Zt Zo];refine ae ?_;refine kL (jC true) Zr ZP (fun v Post hv=>?_) HZ;obtain⟨_,rfl,rfl⟩:=hv;simp only[QS];refine ae ?_;obtain⟨y,z,l,EV⟩:∃y z l,kids=y::z::l:=by
  match kids,Ct with
  |y::z::l,_=>exact⟨y,z,l,rfl⟩
  |[],h=>simp at h
  |[_],h=>simp at h
 have I9:kids[0]? =some y:=by rw[EV];rfl
 have hz0:kids[1]? =some z:=by rw[EV];rfl
 have cQ:=hm 0 Zo;rw[Qw,Qj]at cQ;have fT:=(hr 0 y I9).len;have hzn:z.name.size<=140737488355328/\kC.cell bk (o+12) (.string z.name)∈A:=by
  have Mh:=hr 1 z hz0;have Zc:=hm 1 Zo;obtain⟨c2,c3,c4,c5,c6,c7,c8,c9,rH,e,eC,ir⟩:=qM Mh;rw[e]at Zc;exact⟨eC,Zc _ (kJ.2 ⟨1,_,rfl,by rw[show o+1*11+1=o+12 by omega]⟩)⟩
 obtain⟨hzs,hzc⟩:=hzn;obtain rfl:=ha Zo;have EY:(z::l).length=kids.length - 1:=by rw[EV];rfl
 have hF:=fun m=>xG A y _ (hr 0 y I9) (bh.ok 0 y I9) z.name hzs lb m deep
 have hR5:RR=kQ (decide (s.size=0/\args.length=0/\ab.length=0/\2 < kids.length)&&wk (.mk lk ln bp lt items)) (wo (decide (256 < kids.length)) (zr (jc ((z::l).map fun y=>kQ (decide (y.kind=6)) (kN y))) (zV y z.name (kN y)))):=by
  rw[bW,EV,<- sO];rfl
 obtain⟨WX,Wn⟩:∃WX,WX=m0:=⟨_,rfl⟩;cases m0 with
 |true=>
  obtain⟨mB,KE⟩:∃b,b=(true||decide (256 < kids.length)):=⟨_,rfl⟩;have Gp:mB=true:=by rw[KE,Bool.true_or]
  exact zA1
 |false=>
  obtain⟨mB,KE⟩:∃b,b=(false||decide (256 < kids.length)):=⟨_,rfl⟩;have Gp:mB=decide ((kids.length:Int) > 256):=by
   rw[KE,vM];exact decide_eq_decide.2 Zo
  exact zA1
theorem Xs(A:List kC)(hE:nE A):∀(N:Nat) (x:Nd),x.w<=N->x.w<=274877906944->∀vs,jJ A x vs->zZ A x vs:=by
 intro N
 induction N with
 |zero=>intro x hx;have:=x.nC;omega
 |succ N ih=>
  intro x hx hb vs h;have aP:∀y us,y∈x.kids->jJ A y us->zZ A y us:=fun y us hy hr=>by
   have h1:y.w < x.w:=by
    cases x;have:=Nd.cy hy;simp only[Nd.kids]at this;simp only[Nd.w];omega
   exact ih y Zo Zo us hr
  refine⟨fun lb m0 deep=>Xr A x vs h ?_ lb m0 deep,fun d m e=>?_⟩
  ·by_cases k1:x.kind=1
   ·exact Xi A hE x vs h hb aP k1
   by_cases k2:x.kind=2
   ·exact Xj A hE x vs h hb aP k2
   by_cases k3:x.kind=3
   ·exact Xk A hE x vs h hb aP k3
   by_cases k4:x.kind=4
   ·exact Xl A hE x vs h hb aP k4
   by_cases k5:x.kind=5
   ·exact Xm A hE x vs h hb aP k5
   by_cases k6:x.kind=6
   ·exact Xn A hE x vs h hb aP k6
   by_cases k7:x.kind=7
   ·exact Xo A hE x vs h hb aP k7
   by_cases k8:x.kind=8
   ·exact Xp A hE x vs h hb aP k8
   by_cases k9:x.kind=9
   ·exact Xq A hE x vs h hb aP k9
   exact Xh A hE x vs h hb aP ⟨k1,k2,k3,k4,k5,k6,k7,k8,k9⟩
  ·have:=G4 _ x (Qn _) d m e;omega
theorem MD(A:List kC)(hE:nE A)(x:Nd)(hb:x.w<=274877906944)(vs:List Value)(h:jJ A x vs):zZ A x vs:=Xs A hE _ x (Qn _) hb vs h
def F160:RIR:=Cz (X:=⟨11,[],4,[qo 5 (.gD 262 (Value.agg #[.int .i64 0]) true (.tmp 4)),qm 3 5,qe 6 3 0,qe 7 3 1,
 qo 1 (.alloc 262 [.int .i64 0]),qs 1 1 6,qm 2 7],(qS [qm 8 2] [0,1,8] (qC 8 (.lU [qf 9 0 1,ql 10 9,qs 1 0 10] []) .skip))⟩)
theorem n160:F160.n=11:=rfl
theorem Rk:KP Tryz.prog (zK [(0,[0,1,2]),(1,[0,1,8]),(2,[])]) (zK []) 160=some F160:=by kernel_rfl
theorem Dv(e:Nat)(n:Int):ic Tryz.prog 160 [kF e] .returning .returning [kA e 0 [vi n]] (fun Post=>Post=[kA e 0 [vi n]]):=by
 refine ic.intro Rk (by simp[n160]) .none ?_;refine ae ?_;refine kO (fun q=>?_);refine ae ?_;refine oN.seq (oN.lU ?_);refine ae ?_;refine oN.cond (t:=false) Zr (fun h=>by cases h) (fun _=>oN.skip ?_);exact kG (Post:=[kA e 0 [vi n]]) (.inl rfl) .nil rfl ZI
theorem Dw(e:Nat)(n:Int):ic Tryz.prog 160 [kF e] (.panicking wZ) (.panicking [{v:=TT,recovered:=true}]) [kA e 0 [vi n]] (fun Post=>Post=[kA e 0 [vi 150]]):=by
 refine ic.intro Rk (by simp[n160]) .some ?_;refine ae ?_;refine kO (fun q=>?_);refine ae ?_;refine oN.seq (oN.lU ?_);refine ae ?_;refine oN.cond (t:=true) Zr (fun _=>oN.lU ?_) (fun h=>by cases h);refine ae ?_;exact kG (Post:=[kA e 0 [vi 150]]) (.inl rfl) .nil rfl ZI
theorem SY(L R:SH):eo (L++R) R L:=by
 simp only[V.eo,Vc];exact QW
theorem Mj(X Y:List kC)(L:SH):ao ([X,Y]++L) L:=⟨[X,Y],by
 simp only[V.eo,Vc];exact QW⟩
theorem Jd(X Y:List kC)(L:SH):ao ([X]++[Y,L.flatten]) L:=⟨[X,Y],by
 simp only[V.eo,Vc,Vd,Ve,vm];rw[<- vj];exact QW⟩
theorem oR(e lb:Nat)(n:Int)(m d:Bool)(aU:SH)(Q:Value->SH->Prop)(Γ:Env)(bj:V.look Γ 2=some (kF e))(hq:Q (vi n) aU){H:SH}(hH:eo H [kA e 0 [vi n]] [aZ lb m d,aU.flatten]):
 YR Tryz.prog 160 [kF e] [.bV 2] Q .ret Γ H:=by
 refine⟨.inr rfl,[kA e 0 [vi n]],[aZ lb m d,aU.flatten],_,Dv e n,hH,?_⟩
 rintro Post rfl
 exact⟨.inr rfl,[vi n],aU,.bV bj Ka .nil,Jd _ _ _,hq⟩
theorem Ft(fv:Value)(bm:SH)(QQ:Bool->Bool->SH->Prop)(ZZ:SH->Prop)
 (h:∀lb,E8 Tryz.prog fv [kF lb] (aZ lb false false::bm) (fun v Post=>∃m d aU,Post=aZ lb m d::aU/\QQ m d aU) (fun ch Post=>ch=wZ/\∃m d aU,Post=aZ lb m d::aU/\ZZ aU)):
 aw Tryz.prog 102 [fv] bm (fun v Post=>(∃m d,v=vi (if m then 151 else if d then 152 else 0)/\QQ m d Post)∨(v=vi 150/\ZZ Post)):=by
 refine aw.KK low102 (by simp[n102]) ?_;simp only[ZR,Cz,VDP];refine ae ?_;refine kO (fun e=>?_);refine ae ?_;refine kX Zr (fun lb=>?_);simp only[Value.cells];refine ae ?_;refine⟨[kF e],Zr,?_⟩;refine ae ?_;have hR:eo (kA lb 0 [.bool false,.bool false]::kA e 0 [vi 0]::bm) (aZ lb false false::bm) [kA e 0 [vi 0]]:=by
  simp only[V.eo,Vd,Ve,vr,vm,vj];exact zDX
 refine M7 Zr (h lb) Zr hR (fun v Post hv=>?_) (fun ch Post hz=>?_);rotate_left
 ·obtain⟨rfl,m,d,aU,rfl,hz⟩:=hz;refine⟨[kA e 0 [vi 0]],aZ lb m d::aU,_,_,Dw e 0,rfl,SY _ _,?_⟩
  rintro Post rfl
  exact⟨.inr rfl,[vi 150],aU,.bV Zr Ka .nil,Mj _ _ _,.inr ⟨rfl,hz⟩⟩
 obtain⟨m,d,aU,rfl,hq⟩:=hv;refine VO.imp (H':=[aZ lb m d,kA e 0 [vi 0],aU.flatten]) (ao.perm ?_) ?_
 ·simp only[Vd,Ve,vr,vm,Vc];exact zDX
 cases m with
 |true=>
  refine ae ?_;exact oR e lb 151 true d aU _ _ rfl (.inl ⟨true,d,rfl,hq⟩) ZP
 |false=>
  cases d with
  |true=>
   refine ae ?_;exact oR e lb 152 false true aU _ _ rfl (.inl ⟨false,true,rfl,hq⟩) ZP
  |false=>
   refine ae ?_;exact oR e lb 0 false false aU _ _ rfl (.inl ⟨false,false,rfl,hq⟩) ZP
structure Md where
 aE:ByteArray
 args:List ByteArray
 ab:List ByteArray
 ax:Int
 body:List Nd
structure Fe (A:List kC)(x:Md)(vs:List Value):Prop where
 form:∃aa ac ta tc a c bk o us,vs=[.string x.aE,.slice aa x.args.length ac,.slice ta x.ab.length tc,vi x.ax,.slice a x.body.length c]/\dG A (.slice aa x.args.length ac) x.args/\dG A (.slice ta x.ab.length tc) x.ab/\yD A x.body a bk o us
 aE:x.aE.size<=140737488355328
 ax:-9223372036854775808<=x.ax/\x.ax<=9223372036854775807
def dz(x:Md):Rs:=kQ (decide (kR x.aE=x.args.length/\0<=x.ax/\x.ax<=255)) (wy 15 x.args (wy 63 x.ab (jc (wp x.body (x.body.map kN)))))
def wO(x:Md):Nat:=OM (fun d=>decide (40 < d)) (dz x)
theorem Fu(A:List kC)(x:Md)(vs:List Value)(h:Fe A x vs)(q lb:Nat):
 ji Tryz.prog 103 [kF lb,kF q] [aZ lb false false,A,kA q 0 vs] (fun v Post=>∃m d aU,Post=aZ lb m d::aU/\(∃dd,dz x=some (dd,m)/\d=decide (40 < dd))/\aU=[A])
  (fun ch Post=>ch=wZ/\∃m d aU,Post=aZ lb m d::aU/\dz x=none/\aU=[A]):=by
 obtain⟨⟨aa,ac,ta,tc,a,c,bk,o,us,rfl,bJ,bF,bh⟩,bY,qg⟩:=h;obtain⟨aE,args,ab,ax,body⟩:=x;simp only at bJ bF bh bY qg|-;obtain⟨RR,bW⟩:∃RR,RR=dz ⟨aE,args,ab,ax,body⟩:=⟨_,rfl⟩;rw[<- bW];simp only[dz]at bW;refine ji.intro low103 (by simp[n103]) ?_;refine jF ?_;by_cases h1:kR aE=(args.length:Int);rotate_left
 ·have aH:RR=none:=by simp[bW,kQ,h1]
  have ep:decide (kR aE=(args.length:Int))=false:=Zf h1;refine VC.seq (VC.xC (fun ch H'=>ch=wZ/\ao H' [aZ lb false false,A,kA q 0 [.string aE,.slice aa args.length ac,.slice ta ab.length tc,vi ax,.slice a body.length c]]) (fun H'=>H'=[aZ lb false false,A,kA q 0 [.string aE,.slice aa args.length ac,.slice ta ab.length tc,vi ax,.slice a body.length c]]) rfl ?_ (fun ch H' hp=>?_))
  ·skip
   intro rs dK;rcases QH.1 dK with rfl|dK
   ·skip
    refine kI ?_;refine kI ?_;refine⟨rfl,vi (kR aE),True,fun Γ H bj hH=>?_,?_⟩
    ·exact zCK
    refine kI ?_;refine kI ?_;refine kI ?_;refine⟨rfl,.bool false,True,fun Γ H bj hH=>?_,?_⟩
    ·exact zAY
    refine kI ?_;refine kI ?_;refine kI ?_;refine kI ?_;refine kI ?_;refine kI ?_;refine kI ?_;refine kI ?_;refine kI ?_;exact zAC
   rcases QH.1 dK with rfl|dK
   ·skip
    refine kI ?_;refine kI ?_;refine kI ?_;refine kI ?_;refine⟨rfl,vi (kR aE),True,fun Γ H bj hH=>?_,?_⟩
    ·exact zCK
    refine kI ?_;refine⟨rfl,.bool false,True,fun Γ H bj hH=>?_,?_⟩
    ·exact zAY
    refine kI ?_;refine kI ?_;refine kI ?_;refine kI ?_;refine kI ?_;refine kI ?_;refine kI ?_;refine kI ?_;refine kI ?_;exact zAC
   ·cases dK
  ·exact zCJ
 have ep:decide (kR aE=(args.length:Int))=true:=Zt h1;by_cases h2:0<=ax;rotate_left
 ·have aH:RR=none:=by simp[bW,kQ,h2]
  have p7:decide (0<=ax)=false:=Zf h2;refine VC.seq (VC.xC (fun ch H'=>ch=wZ/\ao H' [aZ lb false false,A,kA q 0 [.string aE,.slice aa args.length ac,.slice ta ab.length tc,vi ax,.slice a body.length c]]) (fun H'=>H'=[aZ lb false false,A,kA q 0 [.string aE,.slice aa args.length ac,.slice ta ab.length tc,vi ax,.slice a body.length c]]) rfl ?_ (fun ch H' hp=>?_))
  ·skip
   intro rs dK;rcases QH.1 dK with rfl|dK
   ·skip
    refine kI ?_;refine kI ?_;refine⟨rfl,vi (kR aE),True,fun Γ H bj hH=>?_,?_⟩
    ·exact zCK
    refine kI ?_;refine kI ?_;refine kI ?_;refine⟨rfl,.bool true,True,fun Γ H bj hH=>?_,?_⟩
    ·exact zAY
    refine kI ?_;refine kI ?_;refine kI ?_;refine⟨rfl,.bool false,True,fun Γ H bj hH=>?_,?_⟩
    ·exact zBI
    refine kI ?_;refine kI ?_;refine kI ?_;refine kI ?_;refine kI ?_;exact zAC
   rcases QH.1 dK with rfl|dK
   ·skip
    refine kI ?_;refine kI ?_;refine kI ?_;refine kI ?_;refine⟨rfl,vi (kR aE),True,fun Γ H bj hH=>?_,?_⟩
    ·exact zCK
    refine kI ?_;refine⟨rfl,.bool true,True,fun Γ H bj hH=>?_,?_⟩
    ·exact zAY
    refine kI ?_;refine kI ?_;refine kI ?_;refine⟨rfl,.bool false,True,fun Γ H bj hH=>?_,?_⟩
    ·exact zBI
    refine kI ?_;refine kI ?_;refine kI ?_;refine kI ?_;refine kI ?_;exact zAC
   ·cases dK
  ·exact zCJ
 have p7:decide (0<=ax)=true:=Zt h2;by_cases h3:ax<=255;rotate_left
 ·have aH:RR=none:=by simp[bW,kQ,h3]
  have Nx:decide (ax<=255)=false:=Zf h3;refine VC.seq (VC.xC (fun ch H'=>ch=wZ/\ao H' [aZ lb false false,A,kA q 0 [.string aE,.slice aa args.length ac,.slice ta ab.length tc,vi ax,.slice a body.length c]]) (fun H'=>H'=[aZ lb false false,A,kA q 0 [.string aE,.slice aa args.length ac,.slice ta ab.length tc,vi ax,.slice a body.length c]]) rfl ?_ (fun ch H' hp=>?_))
  ·skip
   intro rs dK;rcases QH.1 dK with rfl|dK
   ·skip
    refine kI ?_;refine kI ?_;refine⟨rfl,vi (kR aE),True,fun Γ H bj hH=>?_,?_⟩
    ·exact zCK
    refine kI ?_;refine kI ?_;refine kI ?_;refine⟨rfl,.bool true,True,fun Γ H bj hH=>?_,?_⟩
    ·exact zAY
    refine kI ?_;refine kI ?_;refine kI ?_;refine⟨rfl,.bool true,True,fun Γ H bj hH=>?_,?_⟩
    ·exact zBI
    refine kI ?_;refine kI ?_;refine kI ?_;refine kI ?_;refine⟨rfl,.bool false,True,fun Γ H bj hH=>?_,?_⟩
    ·exact zE6
    exact zAC
   rcases QH.1 dK with rfl|dK
   ·skip
    refine kI ?_;refine kI ?_;refine kI ?_;refine kI ?_;refine⟨rfl,vi (kR aE),True,fun Γ H bj hH=>?_,?_⟩
    ·exact zCK
    refine kI ?_;refine⟨rfl,.bool true,True,fun Γ H bj hH=>?_,?_⟩
    ·exact zAY
    refine kI ?_;refine kI ?_;refine kI ?_;refine⟨rfl,.bool true,True,fun Γ H bj hH=>?_,?_⟩
    ·exact zBI
    refine kI ?_;refine kI ?_;refine kI ?_;refine kI ?_;refine⟨rfl,.bool false,True,fun Γ H bj hH=>?_,?_⟩
    ·exact zE6
    exact zAC
   ·cases dK
  ·exact zCJ
 have Nx:decide (ax<=255)=true:=Zt h3;have hm:RR=wy 15 args (wy 63 ab (jc (wp body (body.map kN)))):=by simp[bW,kQ,h1,h2,h3]
 refine VC.seq (VC.draws ⟨?_,?_,trivial⟩)
 ·exact zAA
 ·exact zAA
theorem Ij(A:List kC)(x:Md)(vs:List Value)(h:Fe A x vs):aw Tryz.prog 47 [.agg vs.toArray] [A] (fun v Post=>v=vi (wO x)/\Post=[A]):=by
 have h1:=Fu A x vs h;obtain⟨⟨aa,ac,ta,tc,a,c,bk,o,us,rfl,bJ,bF,bh⟩,bY,qg⟩:=h;refine aw.intro low47 (by simp[n47]) ?_;refine ae ?_;refine kX Zr (fun q=>?_);simp only[Value.cells];refine ae ?_;refine kH (Ft (.func (.func 103) #[] #[kF q]) [A,kA q 0 [.string x.aE,.slice aa x.args.length ac,.slice ta x.ab.length tc,vi x.ax,.slice a x.body.length c]]
  (fun m d aU=>(∃dd,dz x=some (dd,m)/\d=decide (40 < dd))/\aU=[A]) (fun aU=>dz x=none/\aU=[A]) (fun lb=>E8.ck (first:=#[]) (cap:=#[kF q]) (h1 q lb))) Zr ZP (fun v Post hv=>?_)
 have eB:v=vi (wO x)/\Post=[A]:=by
  rcases hv with⟨m,d,rfl,⟨dd,e,rfl⟩,rfl⟩|⟨rfl,e,rfl⟩
  ·refine⟨?_,rfl⟩;simp only[wO,OM,e];cases m <;> simp <;> split <;> rfl
  ·refine⟨?_,rfl⟩;simp only[wO,OM,e];rfl
 obtain⟨rfl,rfl⟩:=eB;simp only[aJ];exact zB4
end Go.Proofs.YtijnokbblmbpkaaGreatDoor

/-
  Looks: a literal.
-/
import Derived.Test.YtijnokbblmbpkaaGreatDoorN11
import Derived.Test.YtijnokbblmbpkaaGreatDoorN7
import Derived.Test.YtijnokbblmbpkaaGreatDoorN6
import Derived.Test.YtijnokbblmbpkaaGreatDoorN9
import Derived.Test.YtijnokbblmbpkaaGreatDoorN10
import Derived.KernelRfl
import Derived.Test.YtijnokbblmbpkaaGreatDoorProg
set_option linter.all false
namespace Go.Proofs.YtijnokbblmbpkaaGreatDoor
open Go Go.V
set_option maxHeartbeats 3200000
set_option maxRecDepth 100000
structure nL where
 d:Nat
 mm:Bool
 n:Int
 b:Nat
 t:ByteArray
 sv:Value
 l:Nat
def nL.ok(s:nL):Prop:=s.n=0/\s.b=0/\s.t.size=0/\s.l=0
instance(s:nL):Decidable s.ok:=by unfold nL.ok;infer_instance
theorem Px(A:List kB)(hE:rk A):∀(N:Nat) (x:Lt),x.size<=N->x.size<=1099511627776->∀vs,zN A x vs->∀(lb:Nat) (m0 deep inside:Bool),yV 202 [kE lb,.agg vs.toArray,.bool inside] A lb m0 deep (wE x inside):=by
 intro N
 induction N with
 |zero=>intro x hx;have:=x.size_pos;omega
 |succ N ih=>
  intro x hx hbd vs tK lb m0 deep inside;have hvs2:=tK;cases tK with
  |@mk k n b t items a c bk o us wf ha hm hr=>
  refine jb.intro low202 (by simp[n202]) ?_;refine jW ?_;refine kW Zr (fun q=>?_);simp only[Value.cells];refine jW ?_;refine kM (fun r=>?_);refine jW ?_;refine VC.join (α:=nL) (fun s=>[(7,vi s.d),(8,kE r)]) (fun s=>[A,aV lb (m0||s.mm) deep,kA r 0 [cv k,vi s.n,uv s.b,.string s.t,s.sv]])
   (fun s=>(∃a c,s.sv=.slice a s.l c)/\wE (.mk k n b t items) inside=if s.ok then some (s.d,s.mm)else none) ?_ ?_
  ·have hk256:=wf.kind;obtain⟨Nl,JY⟩:=wf.n;by_cases k1:k=1
   ·subst k1;exact zAN
   by_cases k2:k=2
   ·subst k2;exact zAN
   by_cases k3:k=3
   ·subst k3;exact zAN
   by_cases k4:k=4
   ·subst k4;refine ae ?_;by_cases h1:-1152921504606846976<=n;rotate_left
    ·have aA:wE (.mk 4 n b t items) inside=none:=by simp[wE,kP,h1]
     rw[Zf h1];exact AA
    rw[Zt h1];refine ae ?_;by_cases h2:n<=1152921504606846975;rotate_left
    ·have aA:wE (.mk 4 n b t items) inside=none:=by simp[wE,kP,h2]
     rw[Zf h2];exact AA
    exact zBR
   by_cases k5:k=5
   ·subst k5;refine ae ?_;refine kI (CV A hE t wf.text) Zr ZP (fun v Post hv=>?_);obtain⟨hq,rfl⟩:=hv;obtain⟨kk,nn,tt,ee,rfl,hlg⟩:=hq.large;simp only[aE];refine ae ?_;refine kM (fun q2=>?_);refine ae ?_;by_cases h1:ee=0;rotate_left
    ·have aA:wE (.mk 5 n b t items) inside=none:=by
      have:oR (kF t)=false:=vH.2 fun h=>h1 (hlg.2 h).1
      simp[wE,kP,this]
     rw[show decide ((ee:Int)=0)=false from Zf Zo];exact AA
    rw[show decide ((ee:Int)=0)=true from Zt Zo];refine ae ?_;by_cases h2:kk=5;rotate_left
    ·have aA:wE (.mk 5 n b t items) inside=none:=by
      have:oR (kF t)=false:=vH.2 fun h=>h2 (hlg.2 h).2.1
      simp[wE,kP,this]
     rw[show decide ((kk:Int)=5)=false from Zf Zo];exact AA
    rw[show decide ((kk:Int)=5)=true from Zt Zo];refine ae ?_;by_cases h3:tt=t;rotate_left
    ·have aA:wE (.mk 5 n b t items) inside=none:=by
      have:oR (kF t)=false:=vH.2 fun h=>h3 (hlg.2 h).2.2
      simp[wE,kP,this]
     rw[Zf h3];exact AA
    rw[Zt h3];refine ae ?_;refine kK (j9 true) Zr ZP (fun v Post hv=>?_) GJ;obtain⟨_,rfl,rfl⟩:=hv;simp only[QJ];refine ae ?_;have hl5:=hlg.1 ⟨h1,h2,h3⟩;refine⟨⟨0,false,n,b,⟨#[]⟩,_,_⟩,⟨⟨_,_,rfl⟩,?_⟩,ZU,by rw[vQ];exact bE⟩;simp[wE,kP,nL.ok,hl5,show(⟨#[]⟩:ByteArray).size=0 from rfl]
   by_cases k6:k=6
   ·subst k6;have hbits:=wf.bits;refine ae ?_;by_cases h1:b*2 % 18446744073709551616 / 9007199254740992=2047
    ·have aA:wE (.mk 6 n b t items) inside=none:=by simp[wE,kP,h1]
     rw[show decide (((b*2 % 18446744073709551616 / 9007199254740992:Nat):Int)=2047)=true from Zt Zo,Bool.not_true];exact AA
    rw[show decide (((b*2 % 18446744073709551616 / 9007199254740992:Nat):Int)=2047)=false from Zf Zo,vM];refine ae ?_;refine kK (j9 true) Zr ZP (fun v Post hv=>?_) GJ;obtain⟨_,rfl,rfl⟩:=hv;simp only[QJ];refine ae ?_;refine⟨⟨0,false,n,0,t,.slice a items.length c,items.length⟩,⟨⟨_,_,rfl⟩,?_⟩,ZU,by rw[vQ];show aj _ [A,aV lb m0 deep,kA r 0 [cv 6,vi n,.int .u64 0,.string t,.slice a items.length c]];exact bE⟩;simp[wE,kP,nL.ok,h1]
   by_cases k7:k=7
   ·subst k7;refine ae ?_;by_cases h1:0<=n;rotate_left
    ·have aA:wE (.mk 7 n b t items) inside=none:=by simp[wE,kP,h1]
     rw[Zf h1];exact AA
    rw[Zt h1];refine ae ?_;by_cases h2:n<=255;rotate_left
    ·have aA:wE (.mk 7 n b t items) inside=none:=by simp[wE,kP,h2]
     rw[Zf h2];exact AA
    exact zBR
   by_cases k8:k=8
   ·subst k8;exact zCL
   by_cases k9:k=9
   ·subst k9;exact zCL
   by_cases k11:k=11
   ·subst k11;have h0:(⟨#[]⟩:ByteArray).size=0:=rfl;cases m0 with
    |true=>
     refine ae ?_;refine⟨⟨0,decide (255 < t.size),n,b,⟨#[]⟩,_,_⟩,⟨⟨_,_,rfl⟩,?_⟩,ZU,by rw[Bool.true_or];exact bE⟩;simp[wE,kP,nL.ok,h0]
    |false=>
     refine ae ?_;by_cases h1:255 < t.size
     ·rw[show decide ((t.size:Int) > 255)=true from Zt Zo];refine ae ?_;refine⟨⟨0,true,n,b,⟨#[]⟩,_,_⟩,⟨⟨_,_,rfl⟩,?_⟩,ZU,by rw[Bool.or_true];exact bE⟩;simp[wE,kP,nL.ok,h0,h1]
     ·rw[show decide ((t.size:Int) > 255)=false from Zf Zo];refine ae ?_;refine⟨⟨0,false,n,b,⟨#[]⟩,_,_⟩,⟨⟨_,_,rfl⟩,?_⟩,ZU,by rw[vQ];exact bE⟩;simp[wE,kP,nL.ok,h0,h1]
   by_cases k10:k=10
   ·subst k10;cases m0 with
    |true=>
     have UI:∀mm,(true||(decide (255 < items.length)||mm))=(true||mm):=fun _=>by simp
     exact zA8
    |false=>
     refine ae ?_;by_cases Ep:255 < items.length
     ·have UI:∀mm,(false||(decide (255 < items.length)||mm))=(true||mm):=fun _=>by simp[Ep]
      rw[show decide ((items.length:Int) > 255)=true from Zt Zo];exact zA8
     ·have UI:∀mm,(false||(decide (255 < items.length)||mm))=(false||mm):=fun _=>by simp[Ep]
      rw[show decide ((items.length:Int) > 255)=false from Zf Zo];refine ae ?_;refine VC.loop (α:=Nat×Nat×Bool) (aW:=fun s=>[(0,kE lb),(7,vi s.2.1),(8,kE r),(114,.slice a items.length c),(115,vi items.length),(116,vi s.1)]) (Hf:=fun s=>[A,aV lb (false||s.2.2) deep,kA r 0 [cv 10,vi n,uv b,.string t,.slice a items.length c]])
       (I:=fun s=>s.1<=items.length/\wZ ((items.take s.1).map fun x=>wE x true)=some (s.2.1,s.2.2)) (μ:=fun s=>items.length - s.1) (0,0,false) ⟨Qs _,rfl⟩ ZU (by rw[vQ];exact bE) ?_
      rintro⟨j,d,mm⟩ ⟨i1,i2⟩
      simp only at i1 i2;dsimp only;have bL:=wf.many;simp only[Lt.size]at hbd;have hdb:d<=Lt.aq items:=fL (fun r hr d m e=>by
       obtain⟨y,hy,rfl⟩:=QE.1 hr;have h1:=Lt.aH (QF hy);have h2:=CX _ y (Qj _) true d m e;omega) i2
      refine ae ?_;by_cases hj:j < items.length;rotate_left
      ·rw[show decide ((j:Int) < (items.length:Int))=false from Zf Zo];have fK:items.take j=items:=Qc Zo;rw[fK,<- gQ]at i2;refine ae ?_;refine⟨⟨d+1,decide (255 < items.length)||mm,n,b,t,Nz,0⟩,⟨⟨_,_,rfl⟩,?_⟩,ZU,?_⟩
       ·simp[wE,i2,wy,wm,kP,nL.ok]
       ·rw[UI];exact bE
      obtain rfl:=ha Zo;rw[show decide ((j:Int) < (items.length:Int))=true from Zt Zo];obtain⟨y,hy⟩:∃y,items[j]? =some y:=⟨_,Zg hj⟩;have dD:=hr j y hy;have lh:=hm j hj;have Pc:y.size<=N:=by
       have h1:=Lt.aH (Zv hy);simp only[Lt.size]at hx;omega
      have Nq:=Lt.aH (Zv hy);have aU:=ih y Pc Zo _ dD lb (false||mm) deep true;generalize us j=uj at dD lh aU;have hyr2:=dD;cases hyr2 with
      |@mk k2 n2 b2 t2 H9 a2 c2 XR o2 DG Nw GL pC ez=>
      refine ae ?_;refine kS Zr NR rfl ?_;refine ae ?_;refine kM (fun q2=>?_);refine ae ?_;refine kK aU Zr ZP (fun v Post hv=>?_) (fun ch Post hz=>?_);rotate_left
      ·obtain⟨hb,rfl,m2,rfl⟩:=hz;have aA:wE (.mk 10 n b t items) inside=none:=by
        have h1:wZ (Be items)=none:=by
         rw[gQ];exact cK (QE.2 ⟨_,Zv hy,hb⟩)
        simp[wE,h1,wy,wm,kP]
       exact⟨[A,aV lb m2 deep],ZI,aA,rfl,m2,rfl⟩
      obtain⟨e,m2,he,rfl,rfl⟩:=hv;simp only[aE];have fK:items.take (j+1)=items.take j++[.mk k2 n2 b2 t2 H9]:=by rw[QY,hy];rfl
      refine ae ?_;rw[show(if(e:Int) > (d:Int)then(e:Int)else(d:Int))=((max d e:Nat):Int) by split <;> omega];refine⟨(j+1,max d e,mm||m2),⟨by simp only;omega,?_⟩,by simp only;omega,ZU,?_⟩
      ·simp only[fK,Q0,Q3,Q6,he];exact cL i2
      ·simp only[vN];exact bE
   refine ae ?_;rw[show decide ((k:Int)=1)=false from Zf Zo];refine ae ?_;rw[show decide ((k:Int)=2)=false from Zf Zo];refine ae ?_;rw[show decide ((k:Int)=3)=false from Zf Zo];refine ae ?_;rw[show decide ((k:Int)=4)=false from Zf Zo];refine ae ?_;rw[show decide ((k:Int)=5)=false from Zf Zo];refine ae ?_;rw[show decide ((k:Int)=6)=false from Zf Zo];refine ae ?_;rw[show decide ((k:Int)=7)=false from Zf Zo];refine ae ?_;rw[show decide ((k:Int)=11)=false from Zf Zo];refine ae ?_;rw[show decide ((k:Int)=8)=false from Zf Zo];refine ae ?_;rw[show decide ((k:Int)=9)=false from Zf Zo];refine ae ?_;rw[show decide ((k:Int)=10)=false from Zf Zo];refine ae ?_;have aA:wE (.mk k n b t items) inside=none:=by simp[wE,k1,k2,k3,k4,k5,k6,k7,k8,k9,k10,k11]
   refine kK (j9 false) Zr ZP Zai (fun ch Post hz=>?_);obtain⟨_,rfl,rfl⟩:=hz;exact⟨[A,aV lb m0 deep],ZI,aA,rfl,m0,rfl⟩
  ·rintro⟨d,mm,n',b',t',sv,l⟩ ⟨⟨a',c',gO⟩,hl⟩
   simp only at gO hl;subst gO;rw[hl];unfold nL.ok;simp only;refine jW ?_;by_cases h1:n'=0;rotate_left
   ·have bQ:¬(n'=0/\b'=0/\t'.size=0/\l=0):=fun h=>h1 h.1
    rw[Zf h1];exact Nx
   rw[Zt h1];refine jW ?_;by_cases h2:b'=0;rotate_left
   ·have bQ:¬(n'=0/\b'=0/\t'.size=0/\l=0):=fun h=>h2 h.2.1
    rw[show decide ((b':Int)=0)=false from Zf Zo];exact Nx
   rw[show decide ((b':Int)=0)=true from Zt Zo];refine jW ?_;by_cases h3:t'=⟨#[]⟩;rotate_left
   ·have bQ:¬(n'=0/\b'=0/\t'.size=0/\l=0):=fun h=>h3 (ByteArray.ext (v6 h.2.2.1))
    rw[Zf h3];exact Nx
   rw[Zt h3];refine jW ?_;by_cases h4:l=0;rotate_left
   ·have bQ:¬(n'=0/\b'=0/\t'.size=0/\l=0):=fun h=>h4 h.2.2.2
    rw[show decide ((l:Int)=0)=false from Zf Zo];exact Nx
   rw[show decide ((l:Int)=0)=true from Zt Zo];refine jW ?_;refine kK (j9 true) Zr ZP (fun v Post hv=>?_) GJ;obtain⟨_,rfl,rfl⟩:=hv;simp only[QJ];refine jW ?_;exact jJ (kG (Post:=[A,aV lb (m0||mm) deep]) (.inr rfl) (.tmp Zr .nil) ⟨d,mm,if_pos ⟨h1,h2,by rw[h3];rfl,h4⟩,rfl,rfl⟩ ZI)
theorem Wp(A:List kB)(hE:rk A)(x:Nd)(vs:List Value)(h:j7 A x vs)(hw:x.w<=274877906944)(aN:∀y us,y∈x.kids->j7 A y us->z9 A y us)(hk:x.kind=1):eN A x vs:=by
 intro lb q r m0 deep;cases h with
 |@mk k s lit args ab kids p lv av tv a c bk o us wf hl bB bu ha hm hr tX=>
 simp only[Nd.kind]at hk;have dz:=hl;cases dz with
 |@mk lk ln aX lt items la lc Ns lo Nu Tp Tj Tl Tm=>
 have dV:=bB;have dW:=bu;obtain⟨aa,ac,rfl,xn,iv⟩:=dV;obtain⟨ta,tc,rfl,tI,Np⟩:=dW;have bA:zh A kids a bk o us:=⟨ha,wf.many,hm,hr,fun i y e=>aN y (us i) (Zv e) (hr i y e)⟩;have Ab:=wf.name;have bL:=wf.many;simp only[Nd.w]at hw;obtain⟨RR,bU⟩:∃RR,RR=kN (.mk k s (.mk lk ln aX lt items) args ab kids p):=⟨_,rfl⟩;rw[<- bU];rw[show kN (.mk k s (.mk lk ln aX lt items) args ab kids p)=jU k s (.mk lk ln aX lt items) args ab kids (kids.map kN) by simp[kN,jZ]]at bU;show VC _ _ _ _ [kA r 0 (rA k s lk ln aX lt la items.length lc aa args.length ac ta ab.length tc none 0 0 p),kA q 0 (rA k s lk ln aX lt la items.length lc aa args.length ac ta ab.length tc a kids.length c p),A,aV lb m0 deep] _;subst hk;refine ae ?_;by_cases tZ:kids.length=0;rotate_left
 ·have aA:RR=none:=by simp[bU,wo.ok,jU,kP,dI,Lt.kind,Lt.n,Lt.bits,Lt.text,Lt.items,tZ]
  rw[show decide ((kids.length:Int)=0)=false from Zf Zo];exact AA
 rw[show decide ((kids.length:Int)=0)=true from Zt Zo];refine ae ?_;refine kK (j9 true) Zr ZP (fun v Post hv=>?_) GJ;obtain⟨_,rfl,rfl⟩:=hv;simp only[QJ];refine ae ?_;refine kK (Px A hE _ _ (Qj _) Zo _ hl lb m0 deep false) Zr ZP (fun v Post hv=>?_) (fun ch Post hz=>?_);rotate_left
 ·exact zD4
 obtain⟨d,m2,he,rfl,rfl⟩:=hv;simp only[aE];refine ae ?_;refine⟨⟨d,m2,s,0,0,0,⟨#[]⟩,none,0,0,aa,args.length,ac,ta,ab.length,tc⟩,?_,ZU,?_⟩
 ·simp[bU,wo.ok,jU,kP,dI,Lt.kind,Lt.n,Lt.bits,Lt.text,Lt.items,he,tZ,show(⟨#[]⟩:ByteArray).size=0 from rfl]
 ·show aj _ [A,aV lb (m0||m2) deep,kA r 0 [cv 1,.string s,.int .u8 0,.int .i64 0,.int .u64 0,.string ⟨#[]⟩,Nz,.slice aa args.length ac,.slice ta ab.length tc,Nz,vi p]];exact bE
theorem Wq(A:List kB)(hE:rk A)(x:Nd)(vs:List Value)(h:j7 A x vs)(hw:x.w<=274877906944)(aN:∀y us,y∈x.kids->j7 A y us->z9 A y us)(hk:x.kind=2):eN A x vs:=by
 intro lb q r m0 deep;cases h with
 |@mk k s lit args ab kids p lv av tv a c bk o us wf hl bB bu ha hm hr tX=>
 simp only[Nd.kind]at hk;have dz:=hl;cases dz with
 |@mk lk ln aX lt items la lc Ns lo Nu Tp Tj Tl Tm=>
 have dV:=bB;have dW:=bu;obtain⟨aa,ac,rfl,xn,iv⟩:=dV;obtain⟨ta,tc,rfl,tI,Np⟩:=dW;have bA:zh A kids a bk o us:=⟨ha,wf.many,hm,hr,fun i y e=>aN y (us i) (Zv e) (hr i y e)⟩;have Ab:=wf.name;have bL:=wf.many;simp only[Nd.w]at hw;obtain⟨RR,bU⟩:∃RR,RR=kN (.mk k s (.mk lk ln aX lt items) args ab kids p):=⟨_,rfl⟩;rw[<- bU];rw[show kN (.mk k s (.mk lk ln aX lt items) args ab kids p)=jU k s (.mk lk ln aX lt items) args ab kids (kids.map kN) by simp[kN,jZ]]at bU;show VC _ _ _ _ [kA r 0 (rA k s lk ln aX lt la items.length lc aa args.length ac ta ab.length tc none 0 0 p),kA q 0 (rA k s lk ln aX lt la items.length lc aa args.length ac ta ab.length tc a kids.length c p),A,aV lb m0 deep] _;subst hk;refine ae ?_;by_cases tZ:kids.length=0;rotate_left
 ·have aA:RR=none:=by simp[bU,wo.ok,jU,kP,dI,Lt.kind,Lt.n,Lt.bits,Lt.text,Lt.items,tZ]
  rw[show decide ((kids.length:Int)=0)=false from Zf Zo];exact AA
 rw[show decide ((kids.length:Int)=0)=true from Zt Zo];refine ae ?_;refine kQ (ng s Ab) Zr ?_;cases hn:oi s with
 |false=>
  have aA:RR=none:=by simp[bU,wo.ok,jU,kP,dI,Lt.kind,Lt.n,Lt.bits,Lt.text,Lt.items,hn]
  exact AA
 |true=>
  refine ae ?_;refine kK (j9 true) Zr ZP (fun v Post hv=>?_) GJ;obtain⟨_,rfl,rfl⟩:=hv;simp only[QJ];refine ae ?_;refine⟨⟨0,false,⟨#[]⟩,lk,ln,aX,lt,la,items.length,lc,aa,args.length,ac,ta,ab.length,tc⟩,?_,ZU,?_⟩
  ·simp[bU,wo.ok,jU,kP,dI,Lt.kind,Lt.n,Lt.bits,Lt.text,Lt.items,hn,tZ,show(⟨#[]⟩:ByteArray).size=0 from rfl];simp only[and_assoc]
  ·rw[vQ];show aj _ [A,aV lb m0 deep,kA r 0 [cv 2,.string ⟨#[]⟩,cv lk,vi ln,uv aX,.string lt,.slice la items.length lc,.slice aa args.length ac,.slice ta ab.length tc,Nz,vi p]];exact bE
theorem Wy(A:List kB)(hE:rk A)(x:Nd)(vs:List Value)(h:j7 A x vs)(hw:x.w<=274877906944)(aN:∀y us,y∈x.kids->j7 A y us->z9 A y us)(hk:x.kind=9):eN A x vs:=by
 intro lb q r m0 deep;cases h with
 |@mk k s lit args ab kids p lv av tv a c bk o us wf hl bB bu ha hm hr tX=>
 simp only[Nd.kind]at hk;have dz:=hl;cases dz with
 |@mk lk ln aX lt items la lc Ns lo Nu Tp Tj Tl Tm=>
 have dV:=bB;have dW:=bu;obtain⟨aa,ac,rfl,xn,iv⟩:=dV;obtain⟨ta,tc,rfl,tI,Np⟩:=dW;have bA:zh A kids a bk o us:=⟨ha,wf.many,hm,hr,fun i y e=>aN y (us i) (Zv e) (hr i y e)⟩;have Ab:=wf.name;have bL:=wf.many;simp only[Nd.w]at hw;obtain⟨RR,bU⟩:∃RR,RR=kN (.mk k s (.mk lk ln aX lt items) args ab kids p):=⟨_,rfl⟩;rw[<- bU];rw[show kN (.mk k s (.mk lk ln aX lt items) args ab kids p)=jU k s (.mk lk ln aX lt items) args ab kids (kids.map kN) by simp[kN,jZ]]at bU;show VC _ _ _ _ [kA r 0 (rA k s lk ln aX lt la items.length lc aa args.length ac ta ab.length tc none 0 0 p),kA q 0 (rA k s lk ln aX lt la items.length lc aa args.length ac ta ab.length tc a kids.length c p),A,aV lb m0 deep] _;subst hk;refine ae ?_;by_cases tD:kids.length=1;rotate_left
 ·have aA:RR=none:=by
   rw[bU];unfold jU;rw[if_neg Zd,if_neg Zd,if_neg Zd,if_neg Zd,if_neg Zd,if_neg Zd,if_neg Zd,if_neg Zd,if_pos rfl];unfold kP;split
   ·match kids,tD with
    |[],_=>rfl
    |_::_::_,_=>rfl
   ·rfl
  rw[show decide ((kids.length:Int)=1)=false from Zf Zo];exact AA
 rw[show decide ((kids.length:Int)=1)=true from Zt Zo];obtain⟨y,DA⟩:∃y,kids=[y]:=Vt.1 tD;have HV:kids[0]? =some y:=by rw[DA];rfl
 have lh:=hm 0 Zo;rw[Qt,Qh]at lh;have yR:=(hr 0 y HV).len;obtain rfl:=ha Zo;have ζ:=bA.ok 0 y HV;have ES:=fun m=>zb A y _ (hr 0 y HV) ζ 1 lb m deep
 refine ae ?_;refine kK (j9 true) Zr ZP (fun v Post hv=>?_) GJ;obtain⟨_,rfl,rfl⟩:=hv;simp only[QJ];refine ae ?_;refine kS Zr (fun z hz=>Q8 _ (Q8 _ (Zw _ (lh z hz)))) yR ?_;refine ae ?_;refine kK (ES m0) Zr ZP (fun v Post hv=>?_) (fun ch Post hz=>?_);rotate_left
 ·exact zD0
 obtain⟨d,m2,he,rfl,rfl⟩:=hv;simp only[aE];refine ae ?_;refine⟨⟨d,m2,s,lk,ln,aX,lt,la,items.length,lc,aa,args.length,ac,ta,ab.length,tc⟩,?_,ZU,?_⟩
 ·simp[bU,wo.ok,jU,kP,dI,Lt.kind,Lt.n,Lt.bits,Lt.text,Lt.items,he,DA];simp only[and_assoc]
 ·show aj _ [A,aV lb (m0||m2) deep,kA r 0 (rA 9 s lk ln aX lt la items.length lc aa args.length ac ta ab.length tc none 0 0 p)];exact bE
theorem Ws(A:List kB)(hE:rk A)(x:Nd)(vs:List Value)(h:j7 A x vs)(hw:x.w<=274877906944)(aN:∀y us,y∈x.kids->j7 A y us->z9 A y us)(hk:x.kind=3):eN A x vs:=by
 intro lb q r m0 deep;cases h with
 |@mk k s lit args ab kids p lv av tv a c bk o us wf hl bB bu ha hm hr tX=>
 simp only[Nd.kind]at hk;have dz:=hl;cases dz with
 |@mk lk ln aX lt items la lc Ns lo Nu Tp Tj Tl Tm=>
 have dV:=bB;have dW:=bu;obtain⟨aa,ac,rfl,xn,iv⟩:=dV;obtain⟨ta,tc,rfl,tI,Np⟩:=dW;have bA:zh A kids a bk o us:=⟨ha,wf.many,hm,hr,fun i y e=>aN y (us i) (Zv e) (hr i y e)⟩;have Ab:=wf.name;have bL:=wf.many;simp only[Nd.w]at hw;obtain⟨RR,bU⟩:∃RR,RR=kN (.mk k s (.mk lk ln aX lt items) args ab kids p):=⟨_,rfl⟩;rw[<- bU];rw[show kN (.mk k s (.mk lk ln aX lt items) args ab kids p)=jU k s (.mk lk ln aX lt items) args ab kids (kids.map kN) by simp[kN,jZ]]at bU;show VC _ _ _ _ [kA r 0 (rA k s lk ln aX lt la items.length lc aa args.length ac ta ab.length tc none 0 0 p),kA q 0 (rA k s lk ln aX lt la items.length lc aa args.length ac ta ab.length tc a kids.length c p),A,aV lb m0 deep] _;subst hk;refine ae ?_;refine kg (out:=[.string s]) Zr Zr (fun q3=>?_);refine ae ?_;have sO:du (kA q3 0 [.string s]) (.slice (some ⟨q3,0,none⟩) 1 1) [s]:=⟨_,_,rfl,Zs,fun i t e=>by
  cases i with
  |zero=>cases e;exact⟨q3,0,rfl,by simp[kA],Ab⟩
  |succ i=>simp at e⟩
 refine kK (fk (kA q3 0 [.string s]) _ [s] sO lb 1 m0 deep) Zr ZP (fun v Post hv=>?_) (fun ch Post hz=>?_);rotate_left
 ·obtain⟨hb,rfl,m2,rfl⟩:=hz;have AV:wK s=false:=by simpa using hb
  exact⟨[A,aV lb m2 deep],ZI,by simp[bU,wo.ok,jU,kP,dI,Lt.kind,Lt.n,Lt.bits,Lt.text,Lt.items,AV],rfl,m2,rfl⟩
 obtain⟨hb,rfl,rfl⟩:=hv;have AV:wK s=true:=by simpa using hb
 rw[show(m0||decide (1 < [s].length))=m0 by simp];simp only[aE];refine ae ?_;by_cases tD:kids.length=1;rotate_left
 ·have aA:RR=none:=by
   rw[bU];unfold jU;rw[if_neg Zd,if_neg Zd,if_pos rfl];unfold kP;split
   ·match kids,tD with
    |[],_=>rfl
    |_::_::_,_=>rfl
   ·rfl
  rw[show decide ((kids.length:Int)=1)=false from Zf Zo];exact AA
 rw[show decide ((kids.length:Int)=1)=true from Zt Zo];obtain⟨y,DA⟩:∃y,kids=[y]:=Vt.1 tD;have HV:kids[0]? =some y:=by rw[DA];rfl
 have lh:=hm 0 Zo;rw[Qt,Qh]at lh;have yR:=(hr 0 y HV).len;obtain rfl:=ha Zo;have ζ:=bA.ok 0 y HV;have ES:=fun m=>zb A y _ (hr 0 y HV) ζ 1 lb m deep
 refine ae ?_;refine kK (j9 true) Zr ZP (fun v Post hv=>?_) GJ;obtain⟨_,rfl,rfl⟩:=hv;simp only[QJ];refine ae ?_;refine kS Zr (fun z hz=>by simp only[V6,Q7];simp[lh z hz]) yR ?_;refine ae ?_;refine kK (ES m0) Zr ZP (fun v Post hv=>?_) (fun ch Post hz=>?_);rotate_left
 ·exact zD0
 obtain⟨d,m2,he,rfl,rfl⟩:=hv;simp only[aE];refine ae ?_;refine⟨⟨d,m2,⟨#[]⟩,lk,ln,aX,lt,la,items.length,lc,aa,args.length,ac,ta,ab.length,tc⟩,?_,ZU,?_⟩
 ·simp[bU,wo.ok,jU,kP,dI,Lt.kind,Lt.n,Lt.bits,Lt.text,Lt.items,he,DA,AV,show(⟨#[]⟩:ByteArray).size=0 from rfl];simp only[and_assoc]
 ·show aj _ [A,aV lb (m0||m2) deep,kA r 0 [cv 3,.string ⟨#[]⟩,cv lk,vi ln,uv aX,.string lt,.slice la items.length lc,.slice aa args.length ac,.slice ta ab.length tc,Nz,vi p]];exact bE
theorem Wv(A:List kB)(hE:rk A)(x:Nd)(vs:List Value)(h:j7 A x vs)(hw:x.w<=274877906944)(aN:∀y us,y∈x.kids->j7 A y us->z9 A y us)(hk:x.kind=6):eN A x vs:=by
 intro lb q r m0 deep;cases h with
 |@mk k s lit args ab kids p lv av tv a c bk o us wf hl bB bu ha hm hr tX=>
 simp only[Nd.kind]at hk;have dz:=hl;cases dz with
 |@mk lk ln aX lt items la lc Ns lo Nu Tp Tj Tl Tm=>
 have dV:=bB;have dW:=bu;obtain⟨aa,ac,rfl,xn,iv⟩:=dV;obtain⟨ta,tc,rfl,tI,Np⟩:=dW;have bA:zh A kids a bk o us:=⟨ha,wf.many,hm,hr,fun i y e=>aN y (us i) (Zv e) (hr i y e)⟩;have Ab:=wf.name;have bL:=wf.many;simp only[Nd.w]at hw;obtain⟨RR,bU⟩:∃RR,RR=kN (.mk k s (.mk lk ln aX lt items) args ab kids p):=⟨_,rfl⟩;rw[<- bU];rw[show kN (.mk k s (.mk lk ln aX lt items) args ab kids p)=jU k s (.mk lk ln aX lt items) args ab kids (kids.map kN) by simp[kN,jZ]]at bU;show VC _ _ _ _ [kA r 0 (rA k s lk ln aX lt la items.length lc aa args.length ac ta ab.length tc none 0 0 p),kA q 0 (rA k s lk ln aX lt la items.length lc aa args.length ac ta ab.length tc a kids.length c p),A,aV lb m0 deep] _;subst hk;refine ae ?_;refine kK (lI A kids a c bk o us bA s Ab lb m0 deep) Zr ZP (fun v Post hv=>?_) (fun ch Post hz=>?_);rotate_left
 ·exact zD4
 obtain⟨d,m2,he,rfl,rfl⟩:=hv;simp only[aE];refine ae ?_;refine⟨⟨d,m2,⟨#[]⟩,lk,ln,aX,lt,la,items.length,lc,aa,args.length,ac,ta,ab.length,tc⟩,?_,ZU,?_⟩
 ·simp[bU,wo.ok,jU,kP,dI,Lt.kind,Lt.n,Lt.bits,Lt.text,Lt.items,he,show(⟨#[]⟩:ByteArray).size=0 from rfl];simp only[and_assoc]
 ·show aj _ [A,aV lb (m0||m2) deep,kA r 0 [cv 6,.string ⟨#[]⟩,cv lk,vi ln,uv aX,.string lt,.slice la items.length lc,.slice aa args.length ac,.slice ta ab.length tc,Nz,vi p]];exact bE
theorem Wo(A:List kB)(hE:rk A)(x:Nd)(vs:List Value)(h:j7 A x vs)(hw:x.w<=274877906944)(aN:∀y us,y∈x.kids->j7 A y us->z9 A y us)(hk:x.kind≠1/\x.kind≠2/\x.kind≠3/\x.kind≠4/\x.kind≠5/\x.kind≠6/\x.kind≠7/\x.kind≠8/\x.kind≠9):eN A x vs:=by
 intro lb q r m0 deep;cases h with
 |@mk k s lit args ab kids p lv av tv a c bk o us wf hl bB bu ha hm hr tX=>
 simp only[Nd.kind]at hk;have dz:=hl;cases dz with
 |@mk lk ln aX lt items la lc Ns lo Nu Tp Tj Tl Tm=>
 have dV:=bB;have dW:=bu;obtain⟨aa,ac,rfl,xn,iv⟩:=dV;obtain⟨ta,tc,rfl,tI,Np⟩:=dW;have bA:zh A kids a bk o us:=⟨ha,wf.many,hm,hr,fun i y e=>aN y (us i) (Zv e) (hr i y e)⟩;have Ab:=wf.name;have bL:=wf.many;simp only[Nd.w]at hw;obtain⟨RR,bU⟩:∃RR,RR=kN (.mk k s (.mk lk ln aX lt items) args ab kids p):=⟨_,rfl⟩;rw[<- bU];rw[show kN (.mk k s (.mk lk ln aX lt items) args ab kids p)=jU k s (.mk lk ln aX lt items) args ab kids (kids.map kN) by simp[kN,jZ]]at bU;show VC _ _ _ _ [kA r 0 (rA k s lk ln aX lt la items.length lc aa args.length ac ta ab.length tc none 0 0 p),kA q 0 (rA k s lk ln aX lt la items.length lc aa args.length ac ta ab.length tc a kids.length c p),A,aV lb m0 deep] _;obtain⟨k1,k2,k3,k4,k5,k6,k7,k8,k9⟩:=hk;have aA:RR=none:=by simp[bU,jU,k1,k2,k3,k4,k5,k6,k7,k8,k9]
 refine ae ?_;rw[show decide ((k:Int)=1)=false from Zf Zo];refine ae ?_;rw[show decide ((k:Int)=2)=false from Zf Zo];refine ae ?_;rw[show decide ((k:Int)=3)=false from Zf Zo];refine ae ?_;rw[show decide ((k:Int)=4)=false from Zf Zo];refine ae ?_;rw[show decide ((k:Int)=6)=false from Zf Zo];refine ae ?_;rw[show decide ((k:Int)=5)=false from Zf Zo];refine ae ?_;rw[show decide ((k:Int)=7)=false from Zf Zo];refine ae ?_;rw[show decide ((k:Int)=8)=false from Zf Zo];refine ae ?_;rw[show decide ((k:Int)=9)=false from Zf Zo];exact AA
theorem Ww(A:List kB)(hE:rk A)(x:Nd)(vs:List Value)(h:j7 A x vs)(hw:x.w<=274877906944)(aN:∀y us,y∈x.kids->j7 A y us->z9 A y us)(hk:x.kind=7):eN A x vs:=by
 intro lb q r m0 deep;cases h with
 |@mk k s lit args ab kids p lv av tv a c bk o us wf hl bB bu ha hm hr tX=>
 simp only[Nd.kind]at hk;have dz:=hl;cases dz with
 |@mk lk ln aX lt items la lc Ns lo Nu Tp Tj Tl Tm=>
 have dV:=bB;have dW:=bu;obtain⟨aa,ac,rfl,xn,iv⟩:=dV;obtain⟨ta,tc,rfl,tI,Np⟩:=dW;have bA:zh A kids a bk o us:=⟨ha,wf.many,hm,hr,fun i y e=>aN y (us i) (Zv e) (hr i y e)⟩;have Ab:=wf.name;have bL:=wf.many;simp only[Nd.w]at hw;obtain⟨RR,bU⟩:∃RR,RR=kN (.mk k s (.mk lk ln aX lt items) args ab kids p):=⟨_,rfl⟩;rw[<- bU];rw[show kN (.mk k s (.mk lk ln aX lt items) args ab kids p)=jU k s (.mk lk ln aX lt items) args ab kids (kids.map kN) by simp[kN,jZ]]at bU;show VC _ _ _ _ [kA r 0 (rA k s lk ln aX lt la items.length lc aa args.length ac ta ab.length tc none 0 0 p),kA q 0 (rA k s lk ln aX lt la items.length lc aa args.length ac ta ab.length tc a kids.length c p),A,aV lb m0 deep] _;subst hk;refine ae ?_;refine kK (fk A _ args bB lb 15 m0 deep) Zr ZP (fun v Post hv=>?_) (fun ch Post hz=>?_);rotate_left
 ·obtain⟨hb,rfl,m2,rfl⟩:=hz;exact⟨[A,aV lb m2 deep],ZI,by simp[bU,jU,kP,wx,hb],rfl,m2,rfl⟩
 obtain⟨Li,rfl,rfl⟩:=hv;obtain⟨m1,re⟩:∃m1,m1=(m0||decide (15 < args.length)):=⟨_,rfl⟩;rw[<- re];simp only[aE];refine ae ?_;refine kK (fk A _ ab bu lb 63 m1 deep) Zr ZP (fun v Post hv=>?_) (fun ch Post hz=>?_);rotate_left
 ·obtain⟨hb,rfl,m2,rfl⟩:=hz;have aA:RR=none:=by
   simp only[bU,jU,wx,hb];simp[kP,wy]
  exact⟨[A,aV lb m2 deep],ZI,aA,rfl,m2,rfl⟩
 obtain⟨Cy,rfl,rfl⟩:=hv;obtain⟨m2,pC⟩:∃m2,m2=(m1||decide (63 < ab.length)):=⟨_,rfl⟩;rw[<- pC];simp only[aE];refine ae ?_;refine kK (lp A kids a c bk o us bA lb m2 deep) Zr ZP (fun v Post hv=>?_) (fun ch Post hz=>?_);rotate_left
 ·obtain⟨hb,rfl,m3,rfl⟩:=hz;have aA:RR=none:=by
   simp only[bU,jU,wx,hb,wm,wy];simp[kP]
  exact⟨[A,aV lb m3 deep],ZI,aA,rfl,m3,rfl⟩
 obtain⟨d,m3,he,rfl,rfl⟩:=hv;have hdb:d<=1099511627777:=fL (fun r hr d m e=>by
  obtain⟨j,hj⟩:=Vj hr;have tC:=(Vh.1 hj).1;rw[pu]at tC;have hy:=Zg tC;have aC:=po kids j kids[j] hy;rw[aC]at hj;have hb:=(bA.ok j _ hy).2;split at hj
  ·cases hj;have:=hb d m e;omega
  ·cases hj;exact sw hb e) he
 simp only[aE];refine ae ?_;refine⟨⟨d+1,decide (15 < args.length)||(decide (63 < ab.length)||m3),s,lk,ln,aX,lt,la,items.length,lc,none,0,0,none,0,0⟩,?_,ZU,?_⟩
 ·simp only[bU,jU,wx,Li,Cy,he,wm,wy];simp[wo.ok,kP,dI,Lt.kind,Lt.n,Lt.bits,Lt.text,Lt.items]
 ·rw[show(m0||(decide (15 < args.length)||(decide (63 < ab.length)||m3)))=(m2||m3) by rw[pC,re];simp only[vN]];show aj _ [A,aV lb (m2||m3) deep,kA r 0 (rA 7 s lk ln aX lt la items.length lc none 0 0 none 0 0 none 0 0 p)];exact bE
theorem Wx(A:List kB)(hE:rk A)(x:Nd)(vs:List Value)(h:j7 A x vs)(hw:x.w<=274877906944)(aN:∀y us,y∈x.kids->j7 A y us->z9 A y us)(hk:x.kind=8):eN A x vs:=by
 intro lb q r m0 deep;cases h with
 |@mk k s lit args ab kids p lv av tv a c bk o us wf hl bB bu ha hm hr tX=>
 simp only[Nd.kind]at hk;have dz:=hl;cases dz with
 |@mk lk ln aX lt items la lc Ns lo Nu Tp Tj Tl Tm=>
 have dV:=bB;have dW:=bu;obtain⟨aa,ac,rfl,xn,iv⟩:=dV;obtain⟨ta,tc,rfl,tI,Np⟩:=dW;have bA:zh A kids a bk o us:=⟨ha,wf.many,hm,hr,fun i y e=>aN y (us i) (Zv e) (hr i y e)⟩;have Ab:=wf.name;have bL:=wf.many;simp only[Nd.w]at hw;obtain⟨RR,bU⟩:∃RR,RR=kN (.mk k s (.mk lk ln aX lt items) args ab kids p):=⟨_,rfl⟩;rw[<- bU];rw[show kN (.mk k s (.mk lk ln aX lt items) args ab kids p)=jU k s (.mk lk ln aX lt items) args ab kids (kids.map kN) by simp[kN,jZ]]at bU;show VC _ _ _ _ [kA r 0 (rA k s lk ln aX lt la items.length lc aa args.length ac ta ab.length tc none 0 0 p),kA q 0 (rA k s lk ln aX lt la items.length lc aa args.length ac ta ab.length tc a kids.length c p),A,aV lb m0 deep] _;subst hk;have hR8:RR=kP (decide (s.size=0/\args.length=0/\ab.length=0)&&dI (.mk lk ln aX lt items)) (wm (wy (decide (255 < kids.length)) (wZ (kids.map fun y=>jm y 1 (kN y))))):=by
  rw[bU,<- mQ];rfl
 obtain⟨Wc,UG⟩:∃Wc,Wc=m0:=⟨_,rfl⟩;cases m0 with
 |true=>
  obtain⟨mB,JV⟩:∃b,b=(true||decide (255 < kids.length)):=⟨_,rfl⟩;have EJ:mB=true:=by rw[JV,Bool.true_or]
  exact zA6
 |false=>
  obtain⟨mB,JV⟩:∃b,b=(false||decide (255 < kids.length)):=⟨_,rfl⟩;have EJ:mB=decide ((kids.length:Int) > 255):=by
   rw[JV,vK];exact decide_eq_decide.2 Zo
  exact zA6
theorem rW {f:Nat}{args:List Value}{A:List kB}{lb:Nat}{m0 deep:Bool}{r:Rs}{d:Nat}{m:Bool}(h:yV f args A lb m0 deep r)(hr:r=some (d,m)):
 ao Tryz.prog f args [A,aV lb m0 deep] (fun v Post=>v=vi d/\Post=[A,aV lb (m0||m) deep]):=by
 refine jb.fun (jb.mono h (fun v Post ⟨d',m',e,h1,h2⟩=>?_) (fun ch Post hz=>?_))
 ·rw[hr]at e;cases e;exact⟨h1,h2⟩
 ·rw[hr]at hz;cases hz.1
theorem xJ {f:Nat}{args:List Value}{A:List kB}{lb:Nat}{deep:Bool}{r:Rs}(h:∀m,yV f args A lb m deep r):
 ∃(d:Nat) (φ:Prop),(φ->r≠none)/\∀m,jb Tryz.prog f args [A,aV lb m deep] (fun v Post=>v=vi d/\φ/\∃m',Post=[A,aV lb m' deep]) (fun ch Post=>ch=wG/\∃m',Post=[A,aV lb m' deep]):=by
 cases r with
 |none=>exact⟨0,False,fun h=>h.elim,fun m=>jb.mono (h m) (fun v Post ⟨d',m',e,_⟩=>by cases e) (fun ch Post hz=>hz.2)⟩
 |some p=>
  obtain⟨d,m1⟩:=p;exact⟨d,True,fun _=>by simp,fun m=>jb.mono (h m) (fun v Post ⟨d',m',e,h1,h2⟩=>by cases e;exact⟨h1,trivial,_,h2⟩) (fun ch Post hz=>hz.2)⟩
theorem io {p q:Rs}(h:p=none∨q=none):nZ p q=none:=by
 rcases h with rfl|rfl
 ·rfl
 ·cases p <;> rfl
end Go.Proofs.YtijnokbblmbpkaaGreatDoor
namespace Go.V
open Go
structure Hd where
 cls:Nat
 fmt:Nat
 spare:Nat
 hash:Nat
 age:Nat
 slots:Nat
 marked:Bool
 x8:Bool
def b2n(b:Bool):Nat:=if b then 1 else 0
structure Hd.May (h:Hd):Prop where
 cls:h.cls<=4095
 hash:h.hash<=4194303
 age:h.age<=15
 slots:h.slots<=65536
 spare:h.spare<=7
 fmt:1<=h.fmt/\h.fmt<=6
 plain:h.fmt<=4->h.spare=0
 eph:h.fmt=3->0 < h.slots
 meth:h.fmt=6->0 < h.slots
 some:h.spare≠0->(if h.fmt=6 then 1 else 0) < h.slots
def pk(h:Hd):Nat:=h.cls+h.fmt*4096+h.spare*32768+h.hash*262144+h.age*1099511627776+b2n h.marked*17592186044416+b2n h.x8*35184372088832
structure Ob where
 at_:Nat
 hd:Hd
 body:List Nat
def Ob.stop(b:Ob):Nat:=b.at_+2+b.hd.slots
structure Ob.Ok (b:Ob):Prop where
 may:b.hd.May
 len:b.body.length=b.hd.slots
 small:∀x∈b.body,x < 18446744073709551616
 meth:b.hd.fmt=6->∃n r,b.body=(8*n+1)::r/\n<=r.length
structure Lay (ws st:List Nat)(Rt:List Ob):Prop where
 small:∀x∈ws,x < 18446744073709551616
 sts:∀x∈st,x < 18446744073709551616
 stl:st.length=ws.length / 64+1
 len:ws.length < 4194304
 ok:∀b∈Rt,b.Ok
 low:∀b∈Rt,2<=b.at_
 high:∀b∈Rt,b.stop<=ws.length
 head:∀b∈Rt,ws[b.at_]? =some (pk b.hd)/\ws[b.at_+1]? =some b.hd.slots
 body:∀b∈Rt,∀i < b.hd.slots,ws[b.at_+2+i]? =b.body[i]?
 sort:Rt.Pairwise fun a b=>a.stop<=b.at_
 bits:∀w,w < ws.length->(bitAt st w=true↔∃b∈Rt,b.at_=w)
def kU:KE Nat:=⟨.int,uv,fun a b=>by
 show some (decide (((a:Nat):Int)=((b:Nat):Int)))=some (decide (a=b))
 congr 1;rw[decide_eq_decide];omega⟩
structure AH where
 rm:List (Nat×Nat×Nat)
 Rt:List Ob
 sp:List Nat
 cl:List Nat
 stack:List Nat
 queue:List Nat
 x8:List Nat
 ahead:List (Nat×Nat)
 given:Nat
structure HW where
 a:AH
 ws:List Nat
 st:List Nat
 wb:Nat
 sb:Nat
 kv:Value
 qv:Value
 nv:Value
 ks:List Value
 qs:List Value
 ns:List Value
 mb:Nat
 es:Array MapEntry
 mc:Nat
def rmEnc(r:Nat×Nat×Nat):List Value:=[vi r.1,vi r.2.1,vi r.2.2]
def arrV(b:Nat)(l:List Nat):Value:=.slice (some ⟨b,0,none⟩) l.length l.length
def HMem(p:Nat)(x:HW):SH:=
 [kA p 0 [arrV x.wb x.ws,arrV x.sb x.st],kA p 4180 [x.kv,x.qv,x.nv,.map (some x.mb),vi x.a.given],kA p 2 (x.a.rm.flatMap rmEnc),kA p 20 (x.a.sp.map uv),kA p 84 (x.a.cl.map uv),
  kA x.wb 0 (x.ws.map uv),kA x.sb 0 (x.st.map uv),ai x.kv (x.a.stack.map uv) x.ks,ai x.qv (x.a.queue.map uv) x.qs,ai x.nv (x.a.x8.map uv) x.ns,[.obj x.mb (.map x.es x.mc)]]
def HA(p:Nat)(x:HW):List kB:=(HMem p x).flatten
structure RmOk (a:AH)(n:Nat):Prop where
 len:a.rm.length=6
 zero:a.rm[0]? =some (0,0,0)
 rng:∀(i:Nat) (r:Nat×Nat×Nat),a.rm[i]? =some r->r.1<=r.2.2/\r.2.2<=r.2.1/\r.2.1<=n
 low:∀(i:Nat) (r:Nat×Nat×Nat),1<=i->a.rm[i]? =some r->2<=r.1
 apart:∀(i j:Nat) (r s:Nat×Nat×Nat),i < j->a.rm[i]? =some r->a.rm[j]? =some s->1<=i->r.2.1<=s.1∨s.2.1<=r.1
 inn:∀b∈a.Rt,∃(i:Nat) (r:Nat×Nat×Nat),1<=i/\a.rm[i]? =some r/\r.1<=b.at_/\b.stop<=(if i=5 then r.2.1 else r.2.2)
structure HOk (x:HW):Prop where
 lay:Lay x.ws x.st x.a.Rt
 rm:RmOk x.a x.ws.length
 spl:x.a.sp.length=64
 cll:x.a.cl.length=4096
 sps:∀o∈x.a.sp,o < 18446744073709551616
 cls:∀o∈x.a.cl,o < 18446744073709551616
 stks:∀o∈x.a.stack,o < 18446744073709551616
 ques:∀o∈x.a.queue,o < 18446744073709551616
 nots:∀o∈x.a.x8,o < 18446744073709551616
 stk:kY 1 x.kv x.a.stack.length (x.a.stack.map uv) x.ks
 que:kY 1 x.qv x.a.queue.length (x.a.queue.map uv) x.qs
 note:kY 1 x.nv x.a.x8.length (x.a.x8.map uv) x.ns
 map:zW kU uv x.es x.mc x.a.ahead
 given:x.a.given<=4194303
 deep:x.a.stack.length<=4096
 few:x.a.queue.length<=1073741823/\x.a.x8.length<=1073741823
section
variable {P:Program} {n:Nat} {rs:List RO} {Γ:Env} {H:SH} {Z:List PanicEntry->Env->SH->Prop} {K:Env->SH->Prop}
end
structure Keep (f:Ob->Ob):Prop where
 at_:∀b,(f b).at_=b.at_
 slots:∀b,(f b).hd.slots=b.hd.slots
section
variable {ws st:List Nat} {Rt:List Ob}
end
section
variable {P:Program} {n:Nat} {rs:List RO} {Γ:Env} {H:SH} {Z:List PanicEntry->Env->SH->Prop} {K:Env->SH->Prop} {d:Option Nat}
end
section
variable {P:Program} {n:Nat} {rs:List RO} {Γ:Env} {H:SH} {Z:List PanicEntry->Env->SH->Prop} {K:Env->SH->Prop} {d:Option Nat}
theorem mO {size len cap l b o:Nat}{x lo:Operand}{kl:IntKind}{cl:Int}(hx:ev Γ x=some (.slice (some ⟨b,o,none⟩) len cap))(GN:ev Γ lo=some (.int kl cl))(el:cl=(l:Int))(hr:l<=len/\len<=cap)
 (k:VO P n rs (ak d (.slice (some ⟨b,if cap=l then o else o+l*size,none⟩) (len - l) (cap - l)) Γ) H Z K):
 VO P n (⟨d,none,.nW size x (some lo) none none⟩::rs) Γ H Z K:=by
 subst el;refine VO.pure rfl (fun ρ aG=>?_) k;have h1:bound (Value.int kl (l:Int)) len=some l:=by simp[bound];omega
 simp[kR,aG _ _ hx,aG _ _ GN,z5,h1,jr]
end
end Go.V
namespace Go.Proofs.YtijnokbblmbpkaaGreatDoor
open Go Go.V
set_option maxHeartbeats 3200000
set_option maxRecDepth 100000
theorem Wt(A:List kB)(hE:rk A)(x:Nd)(vs:List Value)(h:j7 A x vs)(hw:x.w<=274877906944)(aN:∀y us,y∈x.kids->j7 A y us->z9 A y us)(hk:x.kind=4):eN A x vs:=by
 intro lb q r m0 deep;cases h with
 |@mk k s lit args ab kids p lv av tv a c bk o us wf hl bB bu ha hm hr tX=>
 simp only[Nd.kind]at hk;have dz:=hl;cases dz with
 |@mk lk ln aX lt items la lc Ns lo Nu Tp Tj Tl Tm=>
 have dV:=bB;have dW:=bu;obtain⟨aa,ac,rfl,xn,iv⟩:=dV;obtain⟨ta,tc,rfl,tI,Np⟩:=dW;have bA:zh A kids a bk o us:=⟨ha,wf.many,hm,hr,fun i y e=>aN y (us i) (Zv e) (hr i y e)⟩;have Ab:=wf.name;have bL:=wf.many;simp only[Nd.w]at hw;obtain⟨RR,bU⟩:∃RR,RR=kN (.mk k s (.mk lk ln aX lt items) args ab kids p):=⟨_,rfl⟩;rw[<- bU];rw[show kN (.mk k s (.mk lk ln aX lt items) args ab kids p)=jU k s (.mk lk ln aX lt items) args ab kids (kids.map kN) by simp[kN,jZ]]at bU;show VC _ _ _ _ [kA r 0 (rA k s lk ln aX lt la items.length lc aa args.length ac ta ab.length tc none 0 0 p),kA q 0 (rA k s lk ln aX lt la items.length lc aa args.length ac ta ab.length tc a kids.length c p),A,aV lb m0 deep] _;subst hk;refine ae ?_;by_cases tZ:0 < kids.length;rotate_left
 ·have aA:RR=none:=by
   obtain rfl:kids=[]:=vj Zo;rw[bU];unfold jU;rw[if_neg Zd,if_neg Zd,if_neg Zd,if_pos rfl];unfold kP;split <;> rfl
  rw[show decide ((kids.length:Int) > 0)=false from Zf Zo];exact AA
 rw[show decide ((kids.length:Int) > 0)=true from Zt Zo];refine ae ?_;refine kQ (eR s Ab) Zr ?_;refine ae ?_;by_cases iv:0<=jA s;rotate_left
 ·have aA:RR=none:=by
   rw[bU];unfold jU;rw[if_neg Zd,if_neg Zd,if_neg Zd,if_pos rfl];rw[Zf iv,Bool.and_false];rfl
  rw[show decide (jA s ≥ 0)=false from Zf iv];exact AA
 rw[show decide (jA s ≥ 0)=true from Zt iv];refine ae ?_;refine kK (j9 true) Zr ZP (fun v Post hv=>?_) GJ;obtain⟨_,rfl,rfl⟩:=hv;simp only[QJ];refine ae ?_;obtain⟨y,l,DA⟩:∃y l,kids=y::l:=by
  cases kids with
  |nil=>simp at tZ
  |cons y l=>exact⟨y,l,rfl⟩
 have HV:kids[0]? =some y:=by rw[DA];rfl
 have lh:=hm 0 Zo;rw[Qt,Qh]at lh;have yR:=(hr 0 y HV).len;obtain rfl:=ha Zo;have EI:l.length=kids.length - 1:=by rw[DA];rfl
 have HF:zh A l (some ⟨bk,if c=1 then o else o+1*11,none⟩) bk (if c=1 then o else o+1*11) (fun i=>us (i+1)):=by
  refine⟨fun _=>rfl,Zo,fun i hi z hz=>?_,fun i z e=>hr (i+1) z (by rw[DA];exact e),fun i z e=>bA.ok (i+1) z (by rw[DA];exact e)⟩;refine hm (i+1) Zo z ?_;rw[if_neg Zo]at hz
  rwa [show o+1*11+i*11=o+(i+1)*11 by omega]at hz
 have hF:=fun m=>xh A y _ (hr 0 y HV) (bA.ok 0 y HV) s Ab lb m deep
 have hA:=fun m=>lI A l _ (c - 1) bk _ _ HF s Ab lb m deep
 rw[EI]at hA;have hR4:RR=kP (decide (args.length=0/\ab.length=0)&&dI (.mk lk ln aX lt items)&&decide (0<=jA s)) (nZ (ze y s (kN y)) (gE s l (l.map kN))):=by
  rw[bU,DA];rfl
 by_cases bQ:ze y s (kN y)=none∨gE s l (l.map kN)=none
 ·skip
  have aA:RR=none:=by
   rw[hR4,io bQ];unfold kP;split <;> rfl
  obtain⟨dF,YP,ZB,hFz⟩:=xJ hF;obtain⟨dA,φA,hAφ,hAz⟩:=xJ hA;refine VC.u5 (fun ch H'=>ch=wG/\∃m,aj H' [A,aV lb m deep]) (fun H'=>∃m,aj H' [A,aV lb m deep,kA q 0 (rA 4 s lk ln aX lt la items.length lc aa args.length ac ta ab.length tc (some ⟨bk,o,none⟩) kids.length c p)]) ⟨m0,ZI⟩ ?_ (fun ch H' hp=>?_)
  ·skip
   intro rs dC;rcases Q9.1 dC with rfl|dC
   ·skip
    refine kJ ?_;refine kJ ?_;refine kJ ?_;refine kJ ?_;refine kJ ?_;refine kJ ?_;refine kJ ?_;refine⟨rfl,vi dF,YP,fun Γ H bp hH=>?_,?_⟩
    ·exact zAH
    refine kJ ?_;refine kJ ?_;refine kJ ?_;refine kJ ?_;refine kJ ?_;exact zA5
   rcases Q9.1 dC with rfl|dC
   ·skip
    refine kJ ?_;refine kJ ?_;refine kJ ?_;refine kJ ?_;refine kJ ?_;refine kJ ?_;refine kJ ?_;refine kJ ?_;refine kJ ?_;refine kJ ?_;refine⟨rfl,vi dF,YP,fun Γ H bp hH=>?_,?_⟩
    ·exact zAH
    refine kJ ?_;refine kJ ?_;exact zA5
   rcases Q9.1 dC with rfl|dC
   ·skip
    refine kJ ?_;refine kJ ?_;refine kJ ?_;refine kJ ?_;refine kJ ?_;refine kJ ?_;refine kJ ?_;refine kJ ?_;refine kJ ?_;refine kJ ?_;refine kJ ?_;refine kJ ?_;refine⟨rfl,vi dF,YP,fun Γ H bp hH=>?_,?_⟩
    ·exact zAH
    exact zA5
   rcases Q9.1 dC with rfl|dC
   ·skip
    refine kJ ?_;refine kJ ?_;refine kJ ?_;refine kJ ?_;refine kJ ?_;refine kJ ?_;refine kJ ?_;refine⟨rfl,vi dF,YP,fun Γ H bp hH=>?_,?_⟩
    ·exact zAH
    refine kJ ?_;refine kJ ?_;refine kJ ?_;refine kJ ?_;refine kJ ?_;exact zA5
   rcases Q9.1 dC with rfl|dC
   ·skip
    refine kJ ?_;refine kJ ?_;refine kJ ?_;refine kJ ?_;refine kJ ?_;refine kJ ?_;refine kJ ?_;refine kJ ?_;refine kJ ?_;refine kJ ?_;refine kJ ?_;refine⟨rfl,vi dF,YP,fun Γ H bp hH=>?_,?_⟩
    ·exact zAH
    refine kJ ?_;exact zA5
   rcases Q9.1 dC with rfl|dC
   ·skip
    refine kJ ?_;refine kJ ?_;refine kJ ?_;refine kJ ?_;refine kJ ?_;refine kJ ?_;refine kJ ?_;refine kJ ?_;refine kJ ?_;refine kJ ?_;refine kJ ?_;refine kJ ?_;refine⟨rfl,vi dF,YP,fun Γ H bp hH=>?_,?_⟩
    ·exact zAH
    exact zA5
   ·cases dC
  ·obtain⟨rfl,m,hi⟩:=hp;exact⟨_,hi,aA,rfl,m,rfl⟩
 obtain⟨⟨dF,mF⟩,hf⟩:∃p,ze y s (kN y)=some p:=Option.ne_none_iff_exists'.1 fun h=>bQ (.inl h)
 obtain⟨⟨dA,mA⟩,hal2⟩:∃p,gE s l (l.map kN)=some p:=Option.ne_none_iff_exists'.1 fun h=>bQ (.inr h)
 have hFf:=rW (hF m0) hf;have hAf:=rW (hA (m0||mF)) hal2;refine VC.draws ⟨?_,?_,?_,?_,?_,?_,trivial⟩
 ·exact zA3
 ·exact zA3
 ·exact zA3
 ·exact zA3
 ·exact zA3
 ·exact zA3
theorem Wu(A:List kB)(hE:rk A)(x:Nd)(vs:List Value)(h:j7 A x vs)(hw:x.w<=274877906944)(aN:∀y us,y∈x.kids->j7 A y us->z9 A y us)(hk:x.kind=5):eN A x vs:=by
 intro lb q r m0 deep;cases h with
 |@mk k s lit args ab kids p lv av tv a c bk o us wf hl bB bu ha hm hr tX=>
 simp only[Nd.kind]at hk;have dz:=hl;cases dz with
 |@mk lk ln aX lt items la lc Ns lo Nu Tp Tj Tl Tm=>
 have dV:=bB;have dW:=bu;obtain⟨aa,ac,rfl,xn,iv⟩:=dV;obtain⟨ta,tc,rfl,tI,Np⟩:=dW;have bA:zh A kids a bk o us:=⟨ha,wf.many,hm,hr,fun i y e=>aN y (us i) (Zv e) (hr i y e)⟩;have Ab:=wf.name;have bL:=wf.many;simp only[Nd.w]at hw;obtain⟨RR,bU⟩:∃RR,RR=kN (.mk k s (.mk lk ln aX lt items) args ab kids p):=⟨_,rfl⟩;rw[<- bU];rw[show kN (.mk k s (.mk lk ln aX lt items) args ab kids p)=jU k s (.mk lk ln aX lt items) args ab kids (kids.map kN) by simp[kN,jZ]]at bU;show VC _ _ _ _ [kA r 0 (rA k s lk ln aX lt la items.length lc aa args.length ac ta ab.length tc none 0 0 p),kA q 0 (rA k s lk ln aX lt la items.length lc aa args.length ac ta ab.length tc a kids.length c p),A,aV lb m0 deep] _;subst hk;refine ae ?_;by_cases tZ:2 < kids.length;rotate_left
 ·have aA:RR=none:=by
   rw[bU];unfold jU;rw[if_neg Zd,if_neg Zd,if_neg Zd,if_neg Zd,if_neg Zd,if_pos rfl];simp[kP,tZ]
  rw[show decide ((kids.length:Int) > 2)=false from Zf Zo];exact AA
 rw[show decide ((kids.length:Int) > 2)=true from Zt Zo];refine ae ?_;refine kK (j9 true) Zr ZP (fun v Post hv=>?_) GJ;obtain⟨_,rfl,rfl⟩:=hv;simp only[QJ];refine ae ?_;obtain⟨y,z,l,DA⟩:∃y z l,kids=y::z::l:=by
  match kids,tZ with
  |y::z::l,_=>exact⟨y,z,l,rfl⟩
  |[],h=>simp at h
  |[_],h=>simp at h
 have HV:kids[0]? =some y:=by rw[DA];rfl
 have hz0:kids[1]? =some z:=by rw[DA];rfl
 have lh:=hm 0 Zo;rw[Qt,Qh]at lh;have yR:=(hr 0 y HV).len;have hzn:z.name.size<=140737488355328/\kB.cell bk (o+12) (.string z.name)∈A:=by
  have GZ:=hr 1 z hz0;have Nr:=hm 1 Zo;obtain⟨c2,c3,c4,c5,c6,c7,c8,c9,D4,e,gh,iy⟩:=ui GZ;rw[e]at Nr;exact⟨gh,Nr _ (kH.2 ⟨1,_,rfl,by rw[show o+1*11+1=o+12 by omega]⟩)⟩
 obtain⟨hzs,hzc⟩:=hzn;obtain rfl:=ha Zo;have EI:(z::l).length=kids.length - 1:=by rw[DA];rfl
 have hF:=fun m=>xh A y _ (hr 0 y HV) (bA.ok 0 y HV) z.name hzs lb m deep
 have hR5:RR=kP (decide (s.size=0/\args.length=0/\ab.length=0/\2 < kids.length)&&dI (.mk lk ln aX lt items)) (wy (decide (256 < kids.length)) (nZ (wZ ((z::l).map fun y=>kP (decide (y.kind=6)) (kN y))) (ze y z.name (kN y)))):=by
  rw[bU,DA,<- Bi];rfl
 obtain⟨Wc,UG⟩:∃Wc,Wc=m0:=⟨_,rfl⟩;cases m0 with
 |true=>
  obtain⟨mB,JV⟩:∃b,b=(true||decide (256 < kids.length)):=⟨_,rfl⟩;have EJ:mB=true:=by rw[JV,Bool.true_or]
  exact zA1
 |false=>
  obtain⟨mB,JV⟩:∃b,b=(false||decide (256 < kids.length)):=⟨_,rfl⟩;have EJ:mB=decide ((kids.length:Int) > 256):=by
   rw[JV,vK];exact decide_eq_decide.2 Zo
  exact zA1
theorem WH(A:List kB)(hE:rk A):∀(N:Nat) (x:Nd),x.w<=N->x.w<=274877906944->∀vs,j7 A x vs->z9 A x vs:=by
 intro N
 induction N with
 |zero=>intro x hx;have:=x.fw;omega
 |succ N ih=>
  intro x hx hb vs h;have aN:∀y us,y∈x.kids->j7 A y us->z9 A y us:=fun y us hy hr=>by
   have h1:y.w < x.w:=by
    cases x;have:=Nd.bY hy;simp only[Nd.kids]at this;simp only[Nd.w];omega
   exact ih y Zo Zo us hr
  refine⟨fun lb m0 deep=>Wz A x vs h ?_ lb m0 deep,fun d m e=>?_⟩
  ·by_cases k1:x.kind=1
   ·exact Wp A hE x vs h hb aN k1
   by_cases k2:x.kind=2
   ·exact Wq A hE x vs h hb aN k2
   by_cases k3:x.kind=3
   ·exact Ws A hE x vs h hb aN k3
   by_cases k4:x.kind=4
   ·exact Wt A hE x vs h hb aN k4
   by_cases k5:x.kind=5
   ·exact Wu A hE x vs h hb aN k5
   by_cases k6:x.kind=6
   ·exact Wv A hE x vs h hb aN k6
   by_cases k7:x.kind=7
   ·exact Ww A hE x vs h hb aN k7
   by_cases k8:x.kind=8
   ·exact Wx A hE x vs h hb aN k8
   by_cases k9:x.kind=9
   ·exact Wy A hE x vs h hb aN k9
   exact Wo A hE x vs h hb aN ⟨k1,k2,k3,k4,k5,k6,k7,k8,k9⟩
  ·have:=Rc _ x (Qj _) d m e;omega
theorem LY(A:List kB)(hE:rk A)(x:Nd)(hb:x.w<=274877906944)(vs:List Value)(h:j7 A x vs):z9 A x vs:=WH A hE _ x (Qj _) hb vs h
def F160:RIR:=Ba (X:=⟨11,[],4,[qo 5 (.fS 262 (Value.agg #[.int .i64 0]) true (.tmp 4)),qm 3 5,qe 6 3 0,qe 7 3 1,
 qo 1 (.alloc 262 [.int .i64 0]),qs 1 1 6,qm 2 7],(qS [qm 8 2] [0,1,8] (qC 8 (.lE [qf 9 0 1,ql 10 9,qs 1 0 10] []) .skip))⟩)
theorem n160:F160.n=11:=rfl
theorem Pz:Kb Tryz.prog (assoc [(0,[0,1,2]),(1,[0,1,8]),(2,[])]) (assoc []) 160=some F160:=by kernel_rfl
theorem Cm(e:Nat)(n:Int):gz Tryz.prog 160 [kE e] .returning .returning [kA e 0 [vi n]] (fun Post=>Post=[kA e 0 [vi n]]):=by
 refine gz.intro Pz (by simp[n160]) .none ?_;refine ae ?_;refine kM (fun q=>?_);refine ae ?_;refine ox.seq (ox.lE ?_);refine ae ?_;refine ox.cond (t:=false) Zr (fun h=>by cases h) (fun _=>ox.skip ?_);exact kG (Post:=[kA e 0 [vi n]]) (.inl rfl) .nil rfl ZI
theorem Cn(e:Nat)(n:Int):gz Tryz.prog 160 [kE e] (.panicking wG) (.panicking [{v:=SX,recovered:=true}]) [kA e 0 [vi n]] (fun Post=>Post=[kA e 0 [vi 150]]):=by
 refine gz.intro Pz (by simp[n160]) .some ?_;refine ae ?_;refine kM (fun q=>?_);refine ae ?_;refine ox.seq (ox.lE ?_);refine ae ?_;refine ox.cond (t:=true) Zr (fun _=>ox.lE ?_) (fun h=>by cases h);refine ae ?_;exact kG (Post:=[kA e 0 [vi 150]]) (.inl rfl) .nil rfl ZI
theorem Sd(L R:SH):cz (L++R) R L:=by
 simp only[V.cz,V5];exact QN
theorem Lx(X Y:List kB)(L:SH):aj ([X,Y]++L) L:=⟨[X,Y],by
 simp only[V.cz,V5];exact QN⟩
theorem H4(X Y:List kB)(L:SH):aj ([X]++[Y,L.flatten]) L:=⟨[X,Y],by
 simp only[V.cz,V5,V6,V7,vd];rw[<- vZ];exact QN⟩
theorem oB(e lb:Nat)(n:Int)(m d:Bool)(aO:SH)(Q:Value->SH->Prop)(Γ:Env)(bp:V.look Γ 2=some (kE e))(hq:Q (vi n) aO){H:SH}(hH:cz H [kA e 0 [vi n]] [aV lb m d,aO.flatten]):
 X3 Tryz.prog 160 [kE e] [.bT 2] Q .ret Γ H:=by
 refine⟨.inr rfl,[kA e 0 [vi n]],[aV lb m d,aO.flatten],_,Cm e n,hH,?_⟩
 rintro Post rfl
 exact⟨.inr rfl,[vi n],aO,.bT bp Jo .nil,H4 _ _ _,hq⟩
theorem D6(fv:Value)(bq:SH)(QQ:Bool->Bool->SH->Prop)(ZZ:SH->Prop)
 (h:∀lb,DI Tryz.prog fv [kE lb] (aV lb false false::bq) (fun v Post=>∃m d aO,Post=aV lb m d::aO/\QQ m d aO) (fun ch Post=>ch=wG/\∃m d aO,Post=aV lb m d::aO/\ZZ aO)):
 ao Tryz.prog 102 [fv] bq (fun v Post=>(∃m d,v=vi (if m then 151 else if d then 152 else 0)/\QQ m d Post)∨(v=vi 150/\ZZ Post)):=by
 refine ao.J7 low102 (by simp[n102]) ?_;simp only[YU,Ba,VDP];refine ae ?_;refine kM (fun e=>?_);refine ae ?_;refine kW Zr (fun lb=>?_);simp only[Value.cells];refine ae ?_;refine⟨[kE e],Zr,?_⟩;refine ae ?_;have hR:cz (kA lb 0 [.bool false,.bool false]::kA e 0 [vi 0]::bq) (aV lb false false::bq) [kA e 0 [vi 0]]:=by
  simp only[V.cz,V6,V7,vf,vd,vZ];exact zDQ
 refine MW Zr (h lb) Zr hR (fun v Post hv=>?_) (fun ch Post hz=>?_);rotate_left
 ·obtain⟨rfl,m,d,aO,rfl,hz⟩:=hz;refine⟨[kA e 0 [vi 0]],aV lb m d::aO,_,_,Cn e 0,rfl,Sd _ _,?_⟩
  rintro Post rfl
  exact⟨.inr rfl,[vi 150],aO,.bT Zr Jo .nil,Lx _ _ _,.inr ⟨rfl,hz⟩⟩
 obtain⟨m,d,aO,rfl,hq⟩:=hv;refine VO.imp (H':=[aV lb m d,kA e 0 [vi 0],aO.flatten]) (aj.perm ?_) ?_
 ·simp only[V6,V7,vf,vd,V5];exact zDQ
 cases m with
 |true=>
  refine ae ?_;exact oB e lb 151 true d aO _ _ rfl (.inl ⟨true,d,rfl,hq⟩) ZP
 |false=>
  cases d with
  |true=>
   refine ae ?_;exact oB e lb 152 false true aO _ _ rfl (.inl ⟨false,true,rfl,hq⟩) ZP
  |false=>
   refine ae ?_;exact oB e lb 0 false false aO _ _ rfl (.inl ⟨false,false,rfl,hq⟩) ZP
structure Md where
 aQ:ByteArray
 args:List ByteArray
 ab:List ByteArray
 aL:Int
 body:List Nd
structure DN (A:List kB)(x:Md)(vs:List Value):Prop where
 form:∃aa ac ta tc a c bk o us,vs=[.string x.aQ,.slice aa x.args.length ac,.slice ta x.ab.length tc,vi x.aL,.slice a x.body.length c]/\du A (.slice aa x.args.length ac) x.args/\du A (.slice ta x.ab.length tc) x.ab/\zh A x.body a bk o us
 aQ:x.aQ.size<=140737488355328
 aL:-9223372036854775808<=x.aL/\x.aL<=9223372036854775807
def eB(x:Md):Rs:=kP (decide (jA x.aQ=x.args.length/\0<=x.aL/\x.aL<=255)) (wx 15 x.args (wx 63 x.ab (wZ (wP x.body (x.body.map kN)))))
def zM(x:Md):Nat:=Ub (fun d=>decide (40 < d)) (eB x)
theorem D7(A:List kB)(x:Md)(vs:List Value)(h:DN A x vs)(q lb:Nat):
 jb Tryz.prog 103 [kE lb,kE q] [aV lb false false,A,kA q 0 vs] (fun v Post=>∃m d aO,Post=aV lb m d::aO/\(∃dd,eB x=some (dd,m)/\d=decide (40 < dd))/\aO=[A])
  (fun ch Post=>ch=wG/\∃m d aO,Post=aV lb m d::aO/\eB x=none/\aO=[A]):=by
 obtain⟨⟨aa,ac,ta,tc,a,c,bk,o,us,rfl,bB,bu,bA⟩,bK,J1⟩:=h;obtain⟨aQ,args,ab,aL,body⟩:=x;simp only at bB bu bA bK J1|-;obtain⟨RR,bU⟩:∃RR,RR=eB ⟨aQ,args,ab,aL,body⟩:=⟨_,rfl⟩;rw[<- bU];simp only[eB]at bU;refine jb.intro low103 (by simp[n103]) ?_;refine jW ?_;by_cases h1:jA aQ=(args.length:Int);rotate_left
 ·have aA:RR=none:=by simp[bU,kP,h1]
  have eg:decide (jA aQ=(args.length:Int))=false:=Zf h1;refine VC.seq (VC.u5 (fun ch H'=>ch=wG/\aj H' [aV lb false false,A,kA q 0 [.string aQ,.slice aa args.length ac,.slice ta ab.length tc,vi aL,.slice a body.length c]]) (fun H'=>H'=[aV lb false false,A,kA q 0 [.string aQ,.slice aa args.length ac,.slice ta ab.length tc,vi aL,.slice a body.length c]]) rfl ?_ (fun ch H' hp=>?_))
  ·skip
   intro rs dC;rcases Q9.1 dC with rfl|dC
   ·skip
    refine kJ ?_;refine kJ ?_;refine⟨rfl,vi (jA aQ),True,fun Γ H bp hH=>?_,?_⟩
    ·exact zCF
    refine kJ ?_;refine kJ ?_;refine kJ ?_;refine⟨rfl,.bool false,True,fun Γ H bp hH=>?_,?_⟩
    ·exact zB0
    refine kJ ?_;refine kJ ?_;refine kJ ?_;refine kJ ?_;refine kJ ?_;refine kJ ?_;refine kJ ?_;refine kJ ?_;refine kJ ?_;exact zAD
   rcases Q9.1 dC with rfl|dC
   ·skip
    refine kJ ?_;refine kJ ?_;refine kJ ?_;refine kJ ?_;refine⟨rfl,vi (jA aQ),True,fun Γ H bp hH=>?_,?_⟩
    ·exact zCF
    refine kJ ?_;refine⟨rfl,.bool false,True,fun Γ H bp hH=>?_,?_⟩
    ·exact zB0
    refine kJ ?_;refine kJ ?_;refine kJ ?_;refine kJ ?_;refine kJ ?_;refine kJ ?_;refine kJ ?_;refine kJ ?_;refine kJ ?_;exact zAD
   ·cases dC
  ·exact zCE
 have eg:decide (jA aQ=(args.length:Int))=true:=Zt h1;by_cases h2:0<=aL;rotate_left
 ·have aA:RR=none:=by simp[bU,kP,h2]
  have sK:decide (0<=aL)=false:=Zf h2;refine VC.seq (VC.u5 (fun ch H'=>ch=wG/\aj H' [aV lb false false,A,kA q 0 [.string aQ,.slice aa args.length ac,.slice ta ab.length tc,vi aL,.slice a body.length c]]) (fun H'=>H'=[aV lb false false,A,kA q 0 [.string aQ,.slice aa args.length ac,.slice ta ab.length tc,vi aL,.slice a body.length c]]) rfl ?_ (fun ch H' hp=>?_))
  ·skip
   intro rs dC;rcases Q9.1 dC with rfl|dC
   ·skip
    refine kJ ?_;refine kJ ?_;refine⟨rfl,vi (jA aQ),True,fun Γ H bp hH=>?_,?_⟩
    ·exact zCF
    refine kJ ?_;refine kJ ?_;refine kJ ?_;refine⟨rfl,.bool true,True,fun Γ H bp hH=>?_,?_⟩
    ·exact zB0
    refine kJ ?_;refine kJ ?_;refine kJ ?_;refine⟨rfl,.bool false,True,fun Γ H bp hH=>?_,?_⟩
    ·exact zBH
    refine kJ ?_;refine kJ ?_;refine kJ ?_;refine kJ ?_;refine kJ ?_;exact zAD
   rcases Q9.1 dC with rfl|dC
   ·skip
    refine kJ ?_;refine kJ ?_;refine kJ ?_;refine kJ ?_;refine⟨rfl,vi (jA aQ),True,fun Γ H bp hH=>?_,?_⟩
    ·exact zCF
    refine kJ ?_;refine⟨rfl,.bool true,True,fun Γ H bp hH=>?_,?_⟩
    ·exact zB0
    refine kJ ?_;refine kJ ?_;refine kJ ?_;refine⟨rfl,.bool false,True,fun Γ H bp hH=>?_,?_⟩
    ·exact zBH
    refine kJ ?_;refine kJ ?_;refine kJ ?_;refine kJ ?_;refine kJ ?_;exact zAD
   ·cases dC
  ·exact zCE
 have sK:decide (0<=aL)=true:=Zt h2;by_cases h3:aL<=255;rotate_left
 ·have aA:RR=none:=by simp[bU,kP,h3]
  have Oz:decide (aL<=255)=false:=Zf h3;refine VC.seq (VC.u5 (fun ch H'=>ch=wG/\aj H' [aV lb false false,A,kA q 0 [.string aQ,.slice aa args.length ac,.slice ta ab.length tc,vi aL,.slice a body.length c]]) (fun H'=>H'=[aV lb false false,A,kA q 0 [.string aQ,.slice aa args.length ac,.slice ta ab.length tc,vi aL,.slice a body.length c]]) rfl ?_ (fun ch H' hp=>?_))
  ·skip
   intro rs dC;rcases Q9.1 dC with rfl|dC
   ·skip
    refine kJ ?_;refine kJ ?_;refine⟨rfl,vi (jA aQ),True,fun Γ H bp hH=>?_,?_⟩
    ·exact zCF
    refine kJ ?_;refine kJ ?_;refine kJ ?_;refine⟨rfl,.bool true,True,fun Γ H bp hH=>?_,?_⟩
    ·exact zB0
    refine kJ ?_;refine kJ ?_;refine kJ ?_;refine⟨rfl,.bool true,True,fun Γ H bp hH=>?_,?_⟩
    ·exact zBH
    refine kJ ?_;refine kJ ?_;refine kJ ?_;refine kJ ?_;refine⟨rfl,.bool false,True,fun Γ H bp hH=>?_,?_⟩
    ·exact zE0
    exact zAD
   rcases Q9.1 dC with rfl|dC
   ·skip
    refine kJ ?_;refine kJ ?_;refine kJ ?_;refine kJ ?_;refine⟨rfl,vi (jA aQ),True,fun Γ H bp hH=>?_,?_⟩
    ·exact zCF
    refine kJ ?_;refine⟨rfl,.bool true,True,fun Γ H bp hH=>?_,?_⟩
    ·exact zB0
    refine kJ ?_;refine kJ ?_;refine kJ ?_;refine⟨rfl,.bool true,True,fun Γ H bp hH=>?_,?_⟩
    ·exact zBH
    refine kJ ?_;refine kJ ?_;refine kJ ?_;refine kJ ?_;refine⟨rfl,.bool false,True,fun Γ H bp hH=>?_,?_⟩
    ·exact zE0
    exact zAD
   ·cases dC
  ·exact zCE
 have Oz:decide (aL<=255)=true:=Zt h3;have hm:RR=wx 15 args (wx 63 ab (wZ (wP body (body.map kN)))):=by simp[bU,kP,h1,h2,h3]
 refine VC.seq (VC.draws ⟨?_,?_,trivial⟩)
 ·exact zAA
 ·exact zAA
theorem G2(A:List kB)(x:Md)(vs:List Value)(h:DN A x vs):ao Tryz.prog 47 [.agg vs.toArray] [A] (fun v Post=>v=vi (zM x)/\Post=[A]):=by
 have h1:=D7 A x vs h;obtain⟨⟨aa,ac,ta,tc,a,c,bk,o,us,rfl,bB,bu,bA⟩,bK,J1⟩:=h;refine ao.intro low47 (by simp[n47]) ?_;refine ae ?_;refine kW Zr (fun q=>?_);simp only[Value.cells];refine ae ?_;refine kI (D6 (.func (.func 103) #[] #[kE q]) [A,kA q 0 [.string x.aQ,.slice aa x.args.length ac,.slice ta x.ab.length tc,vi x.aL,.slice a x.body.length c]]
  (fun m d aO=>(∃dd,eB x=some (dd,m)/\d=decide (40 < dd))/\aO=[A]) (fun aO=>eB x=none/\aO=[A]) (fun lb=>DI.bX (first:=#[]) (cap:=#[kE q]) (h1 q lb))) Zr ZP (fun v Post hv=>?_)
 have oL:v=vi (zM x)/\Post=[A]:=by
  rcases hv with⟨m,d,rfl,⟨dd,e,rfl⟩,rfl⟩|⟨rfl,e,rfl⟩
  ·refine⟨?_,rfl⟩;simp only[zM,Ub,e];cases m <;> simp <;> split <;> rfl
  ·refine⟨?_,rfl⟩;simp only[zM,Ub,e];rfl
 obtain⟨rfl,rfl⟩:=oL;simp only[aE];exact zB4
end Go.Proofs.YtijnokbblmbpkaaGreatDoor

/-
  Looks: a literal.
-/
import Derived.Test.YtijnokbblmbpkaaGreatDoorS11
import Derived.Test.YtijnokbblmbpkaaGreatDoorS6
import Derived.Test.YtijnokbblmbpkaaGreatDoorS9
import Derived.Test.YtijnokbblmbpkaaGreatDoorS10
import Derived.KernelRfl
import Derived.Test.YtijnokbblmbpkaaGreatDoorProg
set_option linter.all false
namespace Go.Proofs.YtijnokbblmbpkaaGreatDoor
open Go Go.V
set_option maxHeartbeats 3200000
set_option maxRecDepth 100000
structure nM where
 d:Nat
 mm:Bool
 n:Int
 b:Nat
 t:ByteArray
 sv:Value
 l:Nat
def nM.ok(s:nM):Prop:=s.n=0/\s.b=0/\s.t.size=0/\s.l=0
instance(s:nM):Decidable s.ok:=by unfold nM.ok;infer_instance
theorem Ox(A:List kC)(hE:mQ A):∀(N:Nat) (x:Lt),x.size<=N->x.size<=1099511627776->∀vs,zw A x vs->∀(lb:Nat) (m0 deep inside:Bool),yX 202 [kF lb,.agg vs.toArray,.bool inside] A lb m0 deep (jL x inside):=by
 intro N
 induction N with
 |zero=>intro x hx;have:=x.size_pos;omega
 |succ N ih=>
  intro x hx hbd vs lJ lb m0 deep inside;have hvs2:=lJ;cases lJ with
  |@mk k n b t items a c bk o us wf ha hm hr=>
  refine jf.intro aa5 (by simp[n202]) ?_;refine jD ?_;refine kY Zr (fun q=>?_);simp only[Value.cells];refine jD ?_;refine kN (fun r=>?_);refine jD ?_;refine VC.join (α:=nM) (fun s=>[(7,vi s.d),(8,kF r)]) (fun s=>[A,aW lb (m0||s.mm) deep,kA r 0 [cv k,vi s.n,uv s.b,.string s.t,s.sv]])
   (fun s=>(∃a c,s.sv=.slice a s.l c)/\jL (.mk k n b t items) inside=if s.ok then some (s.d,s.mm)else none) ?_ ?_
  ·have lp:=wf.kind;obtain⟨K4,CY⟩:=wf.n;by_cases k1:k=1
   ·subst k1;exact zAK
   by_cases k2:k=2
   ·subst k2;exact zAK
   by_cases k3:k=3
   ·subst k3;exact zAK
   by_cases k4:k=4
   ·subst k4;refine ae ?_;by_cases h1:-1152921504606846976<=n;rotate_left
    ·have aC:jL (.mk 4 n b t items) inside=none:=by simp[jL,kP,h1]
     rw[Zf h1];exact AK
    rw[Zt h1];refine ae ?_;by_cases h2:n<=1152921504606846975;rotate_left
    ·have aC:jL (.mk 4 n b t items) inside=none:=by simp[jL,kP,h2]
     rw[Zf h2];exact AK
    exact zBP
   by_cases k5:k=5
   ·subst k5;refine ae ?_;refine kJ (Da A hE t wf.text) Zr ZP (fun v Post hv=>?_);obtain⟨hq,rfl⟩:=hv;obtain⟨kk,nn,tt,ee,rfl,Tw⟩:=hq.large;simp only[aH];refine ae ?_;refine kN (fun q2=>?_);refine ae ?_;by_cases h1:ee=0;rotate_left
    ·have aC:jL (.mk 5 n b t items) inside=none:=by
      have:mg (kB t)=false:=vH.2 fun h=>h1 (Tw.2 h).1
      simp[jL,kP,this]
     rw[show decide ((ee:Int)=0)=false from Zf Zo];exact AK
    rw[show decide ((ee:Int)=0)=true from Zt Zo];refine ae ?_;by_cases h2:kk=5;rotate_left
    ·have aC:jL (.mk 5 n b t items) inside=none:=by
      have:mg (kB t)=false:=vH.2 fun h=>h2 (Tw.2 h).2.1
      simp[jL,kP,this]
     rw[show decide ((kk:Int)=5)=false from Zf Zo];exact AK
    rw[show decide ((kk:Int)=5)=true from Zt Zo];refine ae ?_;by_cases h3:tt=t;rotate_left
    ·have aC:jL (.mk 5 n b t items) inside=none:=by
      have:mg (kB t)=false:=vH.2 fun h=>h3 (Tw.2 h).2.2
      simp[jL,kP,this]
     rw[Zf h3];exact AK
    rw[Zt h3];refine ae ?_;refine kL (j8 true) Zr ZP (fun v Post hv=>?_) GW;obtain⟨_,rfl,rfl⟩:=hv;simp only[QL];refine ae ?_;have hl5:=Tw.1 ⟨h1,h2,h3⟩;refine⟨⟨0,false,n,b,⟨#[]⟩,_,_⟩,⟨⟨_,_,rfl⟩,?_⟩,ZU,by rw[vR];exact bQ⟩;simp[jL,kP,nM.ok,hl5,show(⟨#[]⟩:ByteArray).size=0 from rfl]
   by_cases k6:k=6
   ·subst k6;have hbits:=wf.bits;refine ae ?_;by_cases h1:b*2 % 18446744073709551616 / 9007199254740992=2047
    ·have aC:jL (.mk 6 n b t items) inside=none:=by simp[jL,kP,h1]
     rw[show decide (((b*2 % 18446744073709551616 / 9007199254740992:Nat):Int)=2047)=true from Zt Zo,Bool.not_true];exact AK
    rw[show decide (((b*2 % 18446744073709551616 / 9007199254740992:Nat):Int)=2047)=false from Zf Zo,vN];refine ae ?_;refine kL (j8 true) Zr ZP (fun v Post hv=>?_) GW;obtain⟨_,rfl,rfl⟩:=hv;simp only[QL];refine ae ?_;refine⟨⟨0,false,n,0,t,.slice a items.length c,items.length⟩,⟨⟨_,_,rfl⟩,?_⟩,ZU,by rw[vR];show ao _ [A,aW lb m0 deep,kA r 0 [cv 6,vi n,.int .u64 0,.string t,.slice a items.length c]];exact bQ⟩;simp[jL,kP,nM.ok,h1]
   by_cases k7:k=7
   ·subst k7;refine ae ?_;by_cases h1:0<=n;rotate_left
    ·have aC:jL (.mk 7 n b t items) inside=none:=by simp[jL,kP,h1]
     rw[Zf h1];exact AK
    rw[Zt h1];refine ae ?_;by_cases h2:n<=255;rotate_left
    ·have aC:jL (.mk 7 n b t items) inside=none:=by simp[jL,kP,h2]
     rw[Zf h2];exact AK
    exact zBP
   by_cases k8:k=8
   ·subst k8;exact zCL
   by_cases k9:k=9
   ·subst k9;exact zCL
   by_cases k11:k=11
   ·subst k11;have h0:(⟨#[]⟩:ByteArray).size=0:=rfl;cases m0 with
    |true=>
     refine ae ?_;refine⟨⟨0,decide (255 < t.size),n,b,⟨#[]⟩,_,_⟩,⟨⟨_,_,rfl⟩,?_⟩,ZU,by rw[Bool.true_or];exact bQ⟩;simp[jL,kP,nM.ok,h0]
    |false=>
     refine ae ?_;by_cases h1:255 < t.size
     ·rw[show decide ((t.size:Int) > 255)=true from Zt Zo];refine ae ?_;refine⟨⟨0,true,n,b,⟨#[]⟩,_,_⟩,⟨⟨_,_,rfl⟩,?_⟩,ZU,by rw[Bool.or_true];exact bQ⟩;simp[jL,kP,nM.ok,h0,h1]
     ·rw[show decide ((t.size:Int) > 255)=false from Zf Zo];refine ae ?_;refine⟨⟨0,false,n,b,⟨#[]⟩,_,_⟩,⟨⟨_,_,rfl⟩,?_⟩,ZU,by rw[vR];exact bQ⟩;simp[jL,kP,nM.ok,h0,h1]
   by_cases k10:k=10
   ·subst k10;cases m0 with
    |true=>
     have TT:∀mm,(true||(decide (255 < items.length)||mm))=(true||mm):=fun _=>by simp
     exact zA8
    |false=>
     refine ae ?_;by_cases tK:255 < items.length
     ·have TT:∀mm,(false||(decide (255 < items.length)||mm))=(true||mm):=fun _=>by simp[tK]
      rw[show decide ((items.length:Int) > 255)=true from Zt Zo];exact zA8
     ·have TT:∀mm,(false||(decide (255 < items.length)||mm))=(false||mm):=fun _=>by simp[tK]
      rw[show decide ((items.length:Int) > 255)=false from Zf Zo];refine ae ?_;refine VC.loop (α:=Nat×Nat×Bool) (bn:=fun s=>[(0,kF lb),(7,vi s.2.1),(8,kF r),(114,.slice a items.length c),(115,vi items.length),(116,vi s.1)]) (Hf:=fun s=>[A,aW lb (false||s.2.2) deep,kA r 0 [cv 10,vi n,uv b,.string t,.slice a items.length c]])
       (I:=fun s=>s.1<=items.length/\jb ((items.take s.1).map fun x=>jL x true)=some (s.2.1,s.2.2)) (μ:=fun s=>items.length - s.1) (0,0,false) ⟨Qp _,rfl⟩ ZU (by rw[vR];exact bQ) ?_
      rintro⟨j,d,mm⟩ ⟨i1,i2⟩
      simp only at i1 i2;dsimp only;have bA:=wf.many;simp only[Lt.size]at hbd;have hdb:d<=Lt.aw items:=fQ (fun r hr d m e=>by
       obtain⟨y,hy,rfl⟩:=QH.1 hr;have h1:=Lt.aD (QI hy);have h2:=Dd _ y (Qh _) true d m e;omega) i2
      refine ae ?_;by_cases hj:j < items.length;rotate_left
      ·rw[show decide ((j:Int) < (items.length:Int))=false from Zf Zo];have cy:items.take j=items:=QZ Zo;rw[cy,<- cJ]at i2;refine ae ?_;refine⟨⟨d+1,decide (255 < items.length)||mm,n,b,t,Nz,0⟩,⟨⟨_,_,rfl⟩,?_⟩,ZU,?_⟩
       ·simp[jL,i2,wd,wV,kP,nM.ok]
       ·rw[TT];exact bQ
      obtain rfl:=ha Zo;rw[show decide ((j:Int) < (items.length:Int))=true from Zt Zo];obtain⟨y,hy⟩:∃y,items[j]? =some y:=⟨_,Zg hj⟩;have bL:=hr j y hy;have cH:=hm j hj;have Oa:y.size<=N:=by
       have h1:=Lt.aD (Zv hy);simp only[Lt.size]at hx;omega
      have SA:=Lt.aD (Zv hy);have aE:=ih y Oa Zo _ bL lb (false||mm) deep true;generalize us j=uj at bL cH aE;have θ:=bL;cases θ with
      |@mk k2 n2 b2 t2 Ih a2 c2 Yx o2 GJ R5 HP rV dS=>
      refine ae ?_;refine kX Zr Cv rfl ?_;refine ae ?_;refine kN (fun q2=>?_);refine ae ?_;refine kL aE Zr ZP (fun v Post hv=>?_) (fun ch Post hz=>?_);rotate_left
      ·obtain⟨hb,rfl,m2,rfl⟩:=hz;have aC:jL (.mk 10 n b t items) inside=none:=by
        have h1:jb (sX items)=none:=by
         rw[cJ];exact cL (QH.2 ⟨_,Zv hy,hb⟩)
        simp[jL,h1,wd,wV,kP]
       exact⟨[A,aW lb m2 deep],ZI,aC,rfl,m2,rfl⟩
      obtain⟨e,m2,he,rfl,rfl⟩:=hv;simp only[aH];have cy:items.take (j+1)=items.take j++[.mk k2 n2 b2 t2 Ih]:=by rw[QX,hy];rfl
      refine ae ?_;rw[show(if(e:Int) > (d:Int)then(e:Int)else(d:Int))=((max d e:Nat):Int) by split <;> omega];refine⟨(j+1,max d e,mm||m2),⟨by simp only;omega,?_⟩,by simp only;omega,ZU,?_⟩
      ·simp only[cy,Q5,Q7,Q9,he];exact cM i2
      ·simp only[vO];exact bQ
   refine ae ?_;rw[show decide ((k:Int)=1)=false from Zf Zo];refine ae ?_;rw[show decide ((k:Int)=2)=false from Zf Zo];refine ae ?_;rw[show decide ((k:Int)=3)=false from Zf Zo];refine ae ?_;rw[show decide ((k:Int)=4)=false from Zf Zo];refine ae ?_;rw[show decide ((k:Int)=5)=false from Zf Zo];refine ae ?_;rw[show decide ((k:Int)=6)=false from Zf Zo];refine ae ?_;rw[show decide ((k:Int)=7)=false from Zf Zo];refine ae ?_;rw[show decide ((k:Int)=11)=false from Zf Zo];refine ae ?_;rw[show decide ((k:Int)=8)=false from Zf Zo];refine ae ?_;rw[show decide ((k:Int)=9)=false from Zf Zo];refine ae ?_;rw[show decide ((k:Int)=10)=false from Zf Zo];refine ae ?_;have aC:jL (.mk k n b t items) inside=none:=by simp[jL,k1,k2,k3,k4,k5,k6,k7,k8,k9,k10,k11]
   refine kL (j8 false) Zr ZP Zai (fun ch Post hz=>?_);obtain⟨_,rfl,rfl⟩:=hz;exact⟨[A,aW lb m0 deep],ZI,aC,rfl,m0,rfl⟩
  ·rintro⟨d,mm,n',b',t',sv,l⟩ ⟨⟨a',c',gq⟩,hl⟩
   simp only at gq hl;subst gq;rw[hl];unfold nM.ok;simp only;refine jD ?_;by_cases h1:n'=0;rotate_left
   ·have dR:¬(n'=0/\b'=0/\t'.size=0/\l=0):=fun h=>h1 h.1
    rw[Zf h1];exact MG
   rw[Zt h1];refine jD ?_;by_cases h2:b'=0;rotate_left
   ·have dR:¬(n'=0/\b'=0/\t'.size=0/\l=0):=fun h=>h2 h.2.1
    rw[show decide ((b':Int)=0)=false from Zf Zo];exact MG
   rw[show decide ((b':Int)=0)=true from Zt Zo];refine jD ?_;by_cases h3:t'=⟨#[]⟩;rotate_left
   ·have dR:¬(n'=0/\b'=0/\t'.size=0/\l=0):=fun h=>h3 (ByteArray.ext (v6 h.2.2.1))
    rw[Zf h3];exact MG
   rw[Zt h3];refine jD ?_;by_cases h4:l=0;rotate_left
   ·have dR:¬(n'=0/\b'=0/\t'.size=0/\l=0):=fun h=>h4 h.2.2.2
    rw[show decide ((l:Int)=0)=false from Zf Zo];exact MG
   rw[show decide ((l:Int)=0)=true from Zt Zo];refine jD ?_;refine kL (j8 true) Zr ZP (fun v Post hv=>?_) GW;obtain⟨_,rfl,rfl⟩:=hv;simp only[QL];refine jD ?_;exact jM (kG (Post:=[A,aW lb (m0||mm) deep]) (.inr rfl) (.tmp Zr .nil) ⟨d,mm,if_pos ⟨h1,h2,by rw[h3];rfl,h4⟩,rfl,rfl⟩ ZI)
theorem UF(A:List kC)(hE:mQ A)(x:Nd)(vs:List Value)(h:jJ A x vs)(hw:x.w<=274877906944)(aM:∀y us,y∈x.kids->jJ A y us->zO A y us)(hk:x.kind=1):eM A x vs:=by
 intro lb q r m0 deep;cases h with
 |@mk k s lit args ab kids p lv av tv a c bk o us wf hl bK bG ha hm hr rU=>
 simp only[Nd.kind]at hk;have fE:=hl;cases fE with
 |@mk lk ln bq lt items la lc Lj lo Lk MD MA MB MC=>
 have gl:=bK;have gu:=bG;obtain⟨aa,ac,rfl,sQ,dQ⟩:=gl;obtain⟨ta,tc,rfl,ue,JL⟩:=gu;have bh:zx A kids a bk o us:=⟨ha,wf.many,hm,hr,fun i y e=>aM y (us i) (Zv e) (hr i y e)⟩;have Ae:=wf.name;have bA:=wf.many;simp only[Nd.w]at hw;obtain⟨RR,bU⟩:∃RR,RR=kO (.mk k s (.mk lk ln bq lt items) args ab kids p):=⟨_,rfl⟩;rw[<- bU];rw[show kO (.mk k s (.mk lk ln bq lt items) args ab kids p)=jr k s (.mk lk ln bq lt items) args ab kids (kids.map kO) by simp[kO,jn]]at bU;show VC _ _ _ _ [kA r 0 (rA k s lk ln bq lt la items.length lc aa args.length ac ta ab.length tc none 0 0 p),kA q 0 (rA k s lk ln bq lt la items.length lc aa args.length ac ta ab.length tc a kids.length c p),A,aW lb m0 deep] _;subst hk;refine ae ?_;by_cases Bd:kids.length=0;rotate_left
 ·have aC:RR=none:=by simp[bU,zB.ok,jr,kP,wY,Lt.kind,Lt.n,Lt.bits,Lt.text,Lt.items,Bd]
  rw[show decide ((kids.length:Int)=0)=false from Zf Zo];exact AK
 rw[show decide ((kids.length:Int)=0)=true from Zt Zo];refine ae ?_;refine kL (j8 true) Zr ZP (fun v Post hv=>?_) GW;obtain⟨_,rfl,rfl⟩:=hv;simp only[QL];refine ae ?_;refine kL (Ox A hE _ _ (Qh _) Zo _ hl lb m0 deep false) Zr ZP (fun v Post hv=>?_) (fun ch Post hz=>?_);rotate_left
 ·exact zD3
 obtain⟨d,m2,he,rfl,rfl⟩:=hv;simp only[aH];refine ae ?_;refine⟨⟨d,m2,s,0,0,0,⟨#[]⟩,none,0,0,aa,args.length,ac,ta,ab.length,tc⟩,?_,ZU,?_⟩
 ·simp[bU,zB.ok,jr,kP,wY,Lt.kind,Lt.n,Lt.bits,Lt.text,Lt.items,he,Bd,show(⟨#[]⟩:ByteArray).size=0 from rfl]
 ·show ao _ [A,aW lb (m0||m2) deep,kA r 0 [cv 1,.string s,.int .u8 0,.int .i64 0,.int .u64 0,.string ⟨#[]⟩,Nz,.slice aa args.length ac,.slice ta ab.length tc,Nz,vi p]];exact bQ
theorem UG(A:List kC)(hE:mQ A)(x:Nd)(vs:List Value)(h:jJ A x vs)(hw:x.w<=274877906944)(aM:∀y us,y∈x.kids->jJ A y us->zO A y us)(hk:x.kind=2):eM A x vs:=by
 intro lb q r m0 deep;cases h with
 |@mk k s lit args ab kids p lv av tv a c bk o us wf hl bK bG ha hm hr rU=>
 simp only[Nd.kind]at hk;have fE:=hl;cases fE with
 |@mk lk ln bq lt items la lc Lj lo Lk MD MA MB MC=>
 have gl:=bK;have gu:=bG;obtain⟨aa,ac,rfl,sQ,dQ⟩:=gl;obtain⟨ta,tc,rfl,ue,JL⟩:=gu;have bh:zx A kids a bk o us:=⟨ha,wf.many,hm,hr,fun i y e=>aM y (us i) (Zv e) (hr i y e)⟩;have Ae:=wf.name;have bA:=wf.many;simp only[Nd.w]at hw;obtain⟨RR,bU⟩:∃RR,RR=kO (.mk k s (.mk lk ln bq lt items) args ab kids p):=⟨_,rfl⟩;rw[<- bU];rw[show kO (.mk k s (.mk lk ln bq lt items) args ab kids p)=jr k s (.mk lk ln bq lt items) args ab kids (kids.map kO) by simp[kO,jn]]at bU;show VC _ _ _ _ [kA r 0 (rA k s lk ln bq lt la items.length lc aa args.length ac ta ab.length tc none 0 0 p),kA q 0 (rA k s lk ln bq lt la items.length lc aa args.length ac ta ab.length tc a kids.length c p),A,aW lb m0 deep] _;subst hk;refine ae ?_;by_cases Bd:kids.length=0;rotate_left
 ·have aC:RR=none:=by simp[bU,zB.ok,jr,kP,wY,Lt.kind,Lt.n,Lt.bits,Lt.text,Lt.items,Bd]
  rw[show decide ((kids.length:Int)=0)=false from Zf Zo];exact AK
 rw[show decide ((kids.length:Int)=0)=true from Zt Zo];refine ae ?_;refine kK (mZ s Ae) Zr ?_;cases hn:zz s with
 |false=>
  have aC:RR=none:=by simp[bU,zB.ok,jr,kP,wY,Lt.kind,Lt.n,Lt.bits,Lt.text,Lt.items,hn]
  exact AK
 |true=>
  refine ae ?_;refine kL (j8 true) Zr ZP (fun v Post hv=>?_) GW;obtain⟨_,rfl,rfl⟩:=hv;simp only[QL];refine ae ?_;refine⟨⟨0,false,⟨#[]⟩,lk,ln,bq,lt,la,items.length,lc,aa,args.length,ac,ta,ab.length,tc⟩,?_,ZU,?_⟩
  ·simp[bU,zB.ok,jr,kP,wY,Lt.kind,Lt.n,Lt.bits,Lt.text,Lt.items,hn,Bd,show(⟨#[]⟩:ByteArray).size=0 from rfl];simp only[and_assoc]
  ·rw[vR];show ao _ [A,aW lb m0 deep,kA r 0 [cv 2,.string ⟨#[]⟩,cv lk,vi ln,uv bq,.string lt,.slice la items.length lc,.slice aa args.length ac,.slice ta ab.length tc,Nz,vi p]];exact bQ
theorem UN(A:List kC)(hE:mQ A)(x:Nd)(vs:List Value)(h:jJ A x vs)(hw:x.w<=274877906944)(aM:∀y us,y∈x.kids->jJ A y us->zO A y us)(hk:x.kind=9):eM A x vs:=by
 intro lb q r m0 deep;cases h with
 |@mk k s lit args ab kids p lv av tv a c bk o us wf hl bK bG ha hm hr rU=>
 simp only[Nd.kind]at hk;have fE:=hl;cases fE with
 |@mk lk ln bq lt items la lc Lj lo Lk MD MA MB MC=>
 have gl:=bK;have gu:=bG;obtain⟨aa,ac,rfl,sQ,dQ⟩:=gl;obtain⟨ta,tc,rfl,ue,JL⟩:=gu;have bh:zx A kids a bk o us:=⟨ha,wf.many,hm,hr,fun i y e=>aM y (us i) (Zv e) (hr i y e)⟩;have Ae:=wf.name;have bA:=wf.many;simp only[Nd.w]at hw;obtain⟨RR,bU⟩:∃RR,RR=kO (.mk k s (.mk lk ln bq lt items) args ab kids p):=⟨_,rfl⟩;rw[<- bU];rw[show kO (.mk k s (.mk lk ln bq lt items) args ab kids p)=jr k s (.mk lk ln bq lt items) args ab kids (kids.map kO) by simp[kO,jn]]at bU;show VC _ _ _ _ [kA r 0 (rA k s lk ln bq lt la items.length lc aa args.length ac ta ab.length tc none 0 0 p),kA q 0 (rA k s lk ln bq lt la items.length lc aa args.length ac ta ab.length tc a kids.length c p),A,aW lb m0 deep] _;subst hk;refine ae ?_;by_cases tL:kids.length=1;rotate_left
 ·have aC:RR=none:=by
   rw[bU];unfold jr;rw[if_neg Zd,if_neg Zd,if_neg Zd,if_neg Zd,if_neg Zd,if_neg Zd,if_neg Zd,if_neg Zd,if_pos rfl];unfold kP;split
   ·match kids,tL with
    |[],_=>rfl
    |_::_::_,_=>rfl
   ·rfl
  rw[show decide ((kids.length:Int)=1)=false from Zf Zo];exact AK
 rw[show decide ((kids.length:Int)=1)=true from Zt Zo];obtain⟨y,DX⟩:∃y,kids=[y]:=Vw.1 tL;have H6:kids[0]? =some y:=by rw[DX];rfl
 have cH:=hm 0 Zo;rw[Qq,Qd]at cH;have fH:=(hr 0 y H6).len;obtain rfl:=ha Zo;have ZG:=bh.ok 0 y H6;have Ai:=fun m=>zq A y _ (hr 0 y H6) ZG 1 lb m deep
 refine ae ?_;refine kL (j8 true) Zr ZP (fun v Post hv=>?_) GW;obtain⟨_,rfl,rfl⟩:=hv;simp only[QL];refine ae ?_;refine kX Zr (fun z hz=>QB _ (QB _ (Zw _ (cH z hz)))) fH ?_;refine ae ?_;refine kL (Ai m0) Zr ZP (fun v Post hv=>?_) (fun ch Post hz=>?_);rotate_left
 ·exact zCZ
 obtain⟨d,m2,he,rfl,rfl⟩:=hv;simp only[aH];refine ae ?_;refine⟨⟨d,m2,s,lk,ln,bq,lt,la,items.length,lc,aa,args.length,ac,ta,ab.length,tc⟩,?_,ZU,?_⟩
 ·simp[bU,zB.ok,jr,kP,wY,Lt.kind,Lt.n,Lt.bits,Lt.text,Lt.items,he,DX];simp only[and_assoc]
 ·show ao _ [A,aW lb (m0||m2) deep,kA r 0 (rA 9 s lk ln bq lt la items.length lc aa args.length ac ta ab.length tc none 0 0 p)];exact bQ
theorem UH(A:List kC)(hE:mQ A)(x:Nd)(vs:List Value)(h:jJ A x vs)(hw:x.w<=274877906944)(aM:∀y us,y∈x.kids->jJ A y us->zO A y us)(hk:x.kind=3):eM A x vs:=by
 intro lb q r m0 deep;cases h with
 |@mk k s lit args ab kids p lv av tv a c bk o us wf hl bK bG ha hm hr rU=>
 simp only[Nd.kind]at hk;have fE:=hl;cases fE with
 |@mk lk ln bq lt items la lc Lj lo Lk MD MA MB MC=>
 have gl:=bK;have gu:=bG;obtain⟨aa,ac,rfl,sQ,dQ⟩:=gl;obtain⟨ta,tc,rfl,ue,JL⟩:=gu;have bh:zx A kids a bk o us:=⟨ha,wf.many,hm,hr,fun i y e=>aM y (us i) (Zv e) (hr i y e)⟩;have Ae:=wf.name;have bA:=wf.many;simp only[Nd.w]at hw;obtain⟨RR,bU⟩:∃RR,RR=kO (.mk k s (.mk lk ln bq lt items) args ab kids p):=⟨_,rfl⟩;rw[<- bU];rw[show kO (.mk k s (.mk lk ln bq lt items) args ab kids p)=jr k s (.mk lk ln bq lt items) args ab kids (kids.map kO) by simp[kO,jn]]at bU;show VC _ _ _ _ [kA r 0 (rA k s lk ln bq lt la items.length lc aa args.length ac ta ab.length tc none 0 0 p),kA q 0 (rA k s lk ln bq lt la items.length lc aa args.length ac ta ab.length tc a kids.length c p),A,aW lb m0 deep] _;subst hk;refine ae ?_;refine jE (out:=[.string s]) Zr Zr (fun q3=>?_);refine ae ?_;have tZ:eg (kA q3 0 [.string s]) (.slice (some ⟨q3,0,none⟩) 1 1) [s]:=⟨_,_,rfl,Zs,fun i t e=>by
  cases i with
  |zero=>cases e;exact⟨q3,0,rfl,by simp[kA],Ae⟩
  |succ i=>simp at e⟩
 refine kL (fj (kA q3 0 [.string s]) _ [s] tZ lb 1 m0 deep) Zr ZP (fun v Post hv=>?_) (fun ch Post hz=>?_);rotate_left
 ·obtain⟨hb,rfl,m2,rfl⟩:=hz;have xx:jO s=false:=by simpa using hb
  exact⟨[A,aW lb m2 deep],ZI,by simp[bU,zB.ok,jr,kP,wY,Lt.kind,Lt.n,Lt.bits,Lt.text,Lt.items,xx],rfl,m2,rfl⟩
 obtain⟨hb,rfl,rfl⟩:=hv;have xx:jO s=true:=by simpa using hb
 rw[show(m0||decide (1 < [s].length))=m0 by simp];simp only[aH];refine ae ?_;by_cases tL:kids.length=1;rotate_left
 ·have aC:RR=none:=by
   rw[bU];unfold jr;rw[if_neg Zd,if_neg Zd,if_pos rfl];unfold kP;split
   ·match kids,tL with
    |[],_=>rfl
    |_::_::_,_=>rfl
   ·rfl
  rw[show decide ((kids.length:Int)=1)=false from Zf Zo];exact AK
 rw[show decide ((kids.length:Int)=1)=true from Zt Zo];obtain⟨y,DX⟩:∃y,kids=[y]:=Vw.1 tL;have H6:kids[0]? =some y:=by rw[DX];rfl
 have cH:=hm 0 Zo;rw[Qq,Qd]at cH;have fH:=(hr 0 y H6).len;obtain rfl:=ha Zo;have ZG:=bh.ok 0 y H6;have Ai:=fun m=>zq A y _ (hr 0 y H6) ZG 1 lb m deep
 refine ae ?_;refine kL (j8 true) Zr ZP (fun v Post hv=>?_) GW;obtain⟨_,rfl,rfl⟩:=hv;simp only[QL];refine ae ?_;refine kX Zr (fun z hz=>by simp only[V9,QA];simp[cH z hz]) fH ?_;refine ae ?_;refine kL (Ai m0) Zr ZP (fun v Post hv=>?_) (fun ch Post hz=>?_);rotate_left
 ·exact zCZ
 obtain⟨d,m2,he,rfl,rfl⟩:=hv;simp only[aH];refine ae ?_;refine⟨⟨d,m2,⟨#[]⟩,lk,ln,bq,lt,la,items.length,lc,aa,args.length,ac,ta,ab.length,tc⟩,?_,ZU,?_⟩
 ·simp[bU,zB.ok,jr,kP,wY,Lt.kind,Lt.n,Lt.bits,Lt.text,Lt.items,he,DX,xx,show(⟨#[]⟩:ByteArray).size=0 from rfl];simp only[and_assoc]
 ·show ao _ [A,aW lb (m0||m2) deep,kA r 0 [cv 3,.string ⟨#[]⟩,cv lk,vi ln,uv bq,.string lt,.slice la items.length lc,.slice aa args.length ac,.slice ta ab.length tc,Nz,vi p]];exact bQ
theorem UK(A:List kC)(hE:mQ A)(x:Nd)(vs:List Value)(h:jJ A x vs)(hw:x.w<=274877906944)(aM:∀y us,y∈x.kids->jJ A y us->zO A y us)(hk:x.kind=6):eM A x vs:=by
 intro lb q r m0 deep;cases h with
 |@mk k s lit args ab kids p lv av tv a c bk o us wf hl bK bG ha hm hr rU=>
 simp only[Nd.kind]at hk;have fE:=hl;cases fE with
 |@mk lk ln bq lt items la lc Lj lo Lk MD MA MB MC=>
 have gl:=bK;have gu:=bG;obtain⟨aa,ac,rfl,sQ,dQ⟩:=gl;obtain⟨ta,tc,rfl,ue,JL⟩:=gu;have bh:zx A kids a bk o us:=⟨ha,wf.many,hm,hr,fun i y e=>aM y (us i) (Zv e) (hr i y e)⟩;have Ae:=wf.name;have bA:=wf.many;simp only[Nd.w]at hw;obtain⟨RR,bU⟩:∃RR,RR=kO (.mk k s (.mk lk ln bq lt items) args ab kids p):=⟨_,rfl⟩;rw[<- bU];rw[show kO (.mk k s (.mk lk ln bq lt items) args ab kids p)=jr k s (.mk lk ln bq lt items) args ab kids (kids.map kO) by simp[kO,jn]]at bU;show VC _ _ _ _ [kA r 0 (rA k s lk ln bq lt la items.length lc aa args.length ac ta ab.length tc none 0 0 p),kA q 0 (rA k s lk ln bq lt la items.length lc aa args.length ac ta ab.length tc a kids.length c p),A,aW lb m0 deep] _;subst hk;refine ae ?_;refine kL (lM A kids a c bk o us bh s Ae lb m0 deep) Zr ZP (fun v Post hv=>?_) (fun ch Post hz=>?_);rotate_left
 ·exact zD3
 obtain⟨d,m2,he,rfl,rfl⟩:=hv;simp only[aH];refine ae ?_;refine⟨⟨d,m2,⟨#[]⟩,lk,ln,bq,lt,la,items.length,lc,aa,args.length,ac,ta,ab.length,tc⟩,?_,ZU,?_⟩
 ·simp[bU,zB.ok,jr,kP,wY,Lt.kind,Lt.n,Lt.bits,Lt.text,Lt.items,he,show(⟨#[]⟩:ByteArray).size=0 from rfl];simp only[and_assoc]
 ·show ao _ [A,aW lb (m0||m2) deep,kA r 0 [cv 6,.string ⟨#[]⟩,cv lk,vi ln,uv bq,.string lt,.slice la items.length lc,.slice aa args.length ac,.slice ta ab.length tc,Nz,vi p]];exact bQ
theorem UE(A:List kC)(hE:mQ A)(x:Nd)(vs:List Value)(h:jJ A x vs)(hw:x.w<=274877906944)(aM:∀y us,y∈x.kids->jJ A y us->zO A y us)(hk:x.kind≠1/\x.kind≠2/\x.kind≠3/\x.kind≠4/\x.kind≠5/\x.kind≠6/\x.kind≠7/\x.kind≠8/\x.kind≠9):eM A x vs:=by
 intro lb q r m0 deep;cases h with
 |@mk k s lit args ab kids p lv av tv a c bk o us wf hl bK bG ha hm hr rU=>
 simp only[Nd.kind]at hk;have fE:=hl;cases fE with
 |@mk lk ln bq lt items la lc Lj lo Lk MD MA MB MC=>
 have gl:=bK;have gu:=bG;obtain⟨aa,ac,rfl,sQ,dQ⟩:=gl;obtain⟨ta,tc,rfl,ue,JL⟩:=gu;have bh:zx A kids a bk o us:=⟨ha,wf.many,hm,hr,fun i y e=>aM y (us i) (Zv e) (hr i y e)⟩;have Ae:=wf.name;have bA:=wf.many;simp only[Nd.w]at hw;obtain⟨RR,bU⟩:∃RR,RR=kO (.mk k s (.mk lk ln bq lt items) args ab kids p):=⟨_,rfl⟩;rw[<- bU];rw[show kO (.mk k s (.mk lk ln bq lt items) args ab kids p)=jr k s (.mk lk ln bq lt items) args ab kids (kids.map kO) by simp[kO,jn]]at bU;show VC _ _ _ _ [kA r 0 (rA k s lk ln bq lt la items.length lc aa args.length ac ta ab.length tc none 0 0 p),kA q 0 (rA k s lk ln bq lt la items.length lc aa args.length ac ta ab.length tc a kids.length c p),A,aW lb m0 deep] _;obtain⟨k1,k2,k3,k4,k5,k6,k7,k8,k9⟩:=hk;have aC:RR=none:=by simp[bU,jr,k1,k2,k3,k4,k5,k6,k7,k8,k9]
 refine ae ?_;rw[show decide ((k:Int)=1)=false from Zf Zo];refine ae ?_;rw[show decide ((k:Int)=2)=false from Zf Zo];refine ae ?_;rw[show decide ((k:Int)=3)=false from Zf Zo];refine ae ?_;rw[show decide ((k:Int)=4)=false from Zf Zo];refine ae ?_;rw[show decide ((k:Int)=6)=false from Zf Zo];refine ae ?_;rw[show decide ((k:Int)=5)=false from Zf Zo];refine ae ?_;rw[show decide ((k:Int)=7)=false from Zf Zo];refine ae ?_;rw[show decide ((k:Int)=8)=false from Zf Zo];refine ae ?_;rw[show decide ((k:Int)=9)=false from Zf Zo];exact AK
theorem UL(A:List kC)(hE:mQ A)(x:Nd)(vs:List Value)(h:jJ A x vs)(hw:x.w<=274877906944)(aM:∀y us,y∈x.kids->jJ A y us->zO A y us)(hk:x.kind=7):eM A x vs:=by
 intro lb q r m0 deep;cases h with
 |@mk k s lit args ab kids p lv av tv a c bk o us wf hl bK bG ha hm hr rU=>
 simp only[Nd.kind]at hk;have fE:=hl;cases fE with
 |@mk lk ln bq lt items la lc Lj lo Lk MD MA MB MC=>
 have gl:=bK;have gu:=bG;obtain⟨aa,ac,rfl,sQ,dQ⟩:=gl;obtain⟨ta,tc,rfl,ue,JL⟩:=gu;have bh:zx A kids a bk o us:=⟨ha,wf.many,hm,hr,fun i y e=>aM y (us i) (Zv e) (hr i y e)⟩;have Ae:=wf.name;have bA:=wf.many;simp only[Nd.w]at hw;obtain⟨RR,bU⟩:∃RR,RR=kO (.mk k s (.mk lk ln bq lt items) args ab kids p):=⟨_,rfl⟩;rw[<- bU];rw[show kO (.mk k s (.mk lk ln bq lt items) args ab kids p)=jr k s (.mk lk ln bq lt items) args ab kids (kids.map kO) by simp[kO,jn]]at bU;show VC _ _ _ _ [kA r 0 (rA k s lk ln bq lt la items.length lc aa args.length ac ta ab.length tc none 0 0 p),kA q 0 (rA k s lk ln bq lt la items.length lc aa args.length ac ta ab.length tc a kids.length c p),A,aW lb m0 deep] _;subst hk;refine ae ?_;refine kL (fj A _ args bK lb 15 m0 deep) Zr ZP (fun v Post hv=>?_) (fun ch Post hz=>?_);rotate_left
 ·obtain⟨hb,rfl,m2,rfl⟩:=hz;exact⟨[A,aW lb m2 deep],ZI,by simp[bU,jr,kP,wk,hb],rfl,m2,rfl⟩
 obtain⟨G2,rfl,rfl⟩:=hv;obtain⟨m1,yV⟩:∃m1,m1=(m0||decide (15 < args.length)):=⟨_,rfl⟩;rw[<- yV];simp only[aH];refine ae ?_;refine kL (fj A _ ab bG lb 63 m1 deep) Zr ZP (fun v Post hv=>?_) (fun ch Post hz=>?_);rotate_left
 ·obtain⟨hb,rfl,m2,rfl⟩:=hz;have aC:RR=none:=by
   simp only[bU,jr,wk,hb];simp[kP,wd]
  exact⟨[A,aW lb m2 deep],ZI,aC,rfl,m2,rfl⟩
 obtain⟨CT,rfl,rfl⟩:=hv;obtain⟨m2,rV⟩:∃m2,m2=(m1||decide (63 < ab.length)):=⟨_,rfl⟩;rw[<- rV];simp only[aH];refine ae ?_;refine kL (lC A kids a c bk o us bh lb m2 deep) Zr ZP (fun v Post hv=>?_) (fun ch Post hz=>?_);rotate_left
 ·obtain⟨hb,rfl,m3,rfl⟩:=hz;have aC:RR=none:=by
   simp only[bU,jr,wk,hb,wV,wd];simp[kP]
  exact⟨[A,aW lb m3 deep],ZI,aC,rfl,m3,rfl⟩
 obtain⟨d,m3,he,rfl,rfl⟩:=hv;have hdb:d<=1099511627777:=fQ (fun r hr d m e=>by
  obtain⟨j,hj⟩:=Vo hr;have Ba:=(Vm.1 hj).1;rw[o8]at Ba;have hy:=Zg Ba;have aA:=o7 kids j kids[j] hy;rw[aA]at hj;have hb:=(bh.ok j _ hy).2;split at hj
  ·cases hj;have:=hb d m e;omega
  ·cases hj;exact sG hb e) he
 simp only[aH];refine ae ?_;refine⟨⟨d+1,decide (15 < args.length)||(decide (63 < ab.length)||m3),s,lk,ln,bq,lt,la,items.length,lc,none,0,0,none,0,0⟩,?_,ZU,?_⟩
 ·simp only[bU,jr,wk,G2,CT,he,wV,wd];simp[zB.ok,kP,wY,Lt.kind,Lt.n,Lt.bits,Lt.text,Lt.items]
 ·rw[show(m0||(decide (15 < args.length)||(decide (63 < ab.length)||m3)))=(m2||m3) by rw[rV,yV];simp only[vO]];show ao _ [A,aW lb (m2||m3) deep,kA r 0 (rA 7 s lk ln bq lt la items.length lc none 0 0 none 0 0 none 0 0 p)];exact bQ
theorem UM(A:List kC)(hE:mQ A)(x:Nd)(vs:List Value)(h:jJ A x vs)(hw:x.w<=274877906944)(aM:∀y us,y∈x.kids->jJ A y us->zO A y us)(hk:x.kind=8):eM A x vs:=by
 intro lb q r m0 deep;cases h with
 |@mk k s lit args ab kids p lv av tv a c bk o us wf hl bK bG ha hm hr rU=>
 simp only[Nd.kind]at hk;have fE:=hl;cases fE with
 |@mk lk ln bq lt items la lc Lj lo Lk MD MA MB MC=>
 have gl:=bK;have gu:=bG;obtain⟨aa,ac,rfl,sQ,dQ⟩:=gl;obtain⟨ta,tc,rfl,ue,JL⟩:=gu;have bh:zx A kids a bk o us:=⟨ha,wf.many,hm,hr,fun i y e=>aM y (us i) (Zv e) (hr i y e)⟩;have Ae:=wf.name;have bA:=wf.many;simp only[Nd.w]at hw;obtain⟨RR,bU⟩:∃RR,RR=kO (.mk k s (.mk lk ln bq lt items) args ab kids p):=⟨_,rfl⟩;rw[<- bU];rw[show kO (.mk k s (.mk lk ln bq lt items) args ab kids p)=jr k s (.mk lk ln bq lt items) args ab kids (kids.map kO) by simp[kO,jn]]at bU;show VC _ _ _ _ [kA r 0 (rA k s lk ln bq lt la items.length lc aa args.length ac ta ab.length tc none 0 0 p),kA q 0 (rA k s lk ln bq lt la items.length lc aa args.length ac ta ab.length tc a kids.length c p),A,aW lb m0 deep] _;subst hk;have hR8:RR=kP (decide (s.size=0/\args.length=0/\ab.length=0)&&wY (.mk lk ln bq lt items)) (wV (wd (decide (255 < kids.length)) (jb (kids.map fun y=>jY y 1 (kO y))))):=by
  rw[bU,<- dP];rfl
 obtain⟨Us,Tz⟩:∃Us,Us=m0:=⟨_,rfl⟩;cases m0 with
 |true=>
  obtain⟨mB,JH⟩:∃b,b=(true||decide (255 < kids.length)):=⟨_,rfl⟩;have E1:mB=true:=by rw[JH,Bool.true_or]
  exact zA6
 |false=>
  obtain⟨mB,JH⟩:∃b,b=(false||decide (255 < kids.length)):=⟨_,rfl⟩;have E1:mB=decide ((kids.length:Int) > 255):=by
   rw[JH,vL];exact decide_eq_decide.2 Zo
  exact zA6
theorem sd {f:Nat}{args:List Value}{A:List kC}{lb:Nat}{m0 deep:Bool}{r:Rs}{d:Nat}{m:Bool}(h:yX f args A lb m0 deep r)(hr:r=some (d,m)):
 aq Tryz.prog f args [A,aW lb m0 deep] (fun v Post=>v=vi d/\Post=[A,aW lb (m0||m) deep]):=by
 refine jf.fun (jf.mono h (fun v Post ⟨d',m',e,h1,h2⟩=>?_) (fun ch Post hz=>?_))
 ·rw[hr]at e;cases e;exact⟨h1,h2⟩
 ·rw[hr]at hz;cases hz.1
theorem xP {f:Nat}{args:List Value}{A:List kC}{lb:Nat}{deep:Bool}{r:Rs}(h:∀m,yX f args A lb m deep r):
 ∃(d:Nat) (φ:Prop),(φ->r≠none)/\∀m,jf Tryz.prog f args [A,aW lb m deep] (fun v Post=>v=vi d/\φ/\∃m',Post=[A,aW lb m' deep]) (fun ch Post=>ch=wR/\∃m',Post=[A,aW lb m' deep]):=by
 cases r with
 |none=>exact⟨0,False,fun h=>h.elim,fun m=>jf.mono (h m) (fun v Post ⟨d',m',e,_⟩=>by cases e) (fun ch Post hz=>hz.2)⟩
 |some p=>
  obtain⟨d,m1⟩:=p;exact⟨d,True,fun _=>by simp,fun m=>jf.mono (h m) (fun v Post ⟨d',m',e,h1,h2⟩=>by cases e;exact⟨h1,trivial,_,h2⟩) (fun ch Post hz=>hz.2)⟩
theorem iv {p q:Rs}(h:p=none∨q=none):zh p q=none:=by
 rcases h with rfl|rfl
 ·rfl
 ·cases p <;> rfl
end Go.Proofs.YtijnokbblmbpkaaGreatDoor
namespace Go.V
open Go
structure Hd where
 cls:Nat
 fmt:Nat
 spare:Nat
 hash:Nat
 age:Nat
 slots:Nat
 marked:Bool
 ya:Bool
def b2n(b:Bool):Nat:=if b then 1 else 0
structure Hd.May (h:Hd):Prop where
 cls:h.cls<=4095
 hash:h.hash<=4194303
 age:h.age<=15
 slots:h.slots<=65536
 spare:h.spare<=7
 fmt:1<=h.fmt/\h.fmt<=6
 plain:h.fmt<=4->h.spare=0
 eph:h.fmt=3->0 < h.slots
 meth:h.fmt=6->0 < h.slots
 some:h.spare≠0->(if h.fmt=6 then 1 else 0) < h.slots
def pk(h:Hd):Nat:=h.cls+h.fmt*4096+h.spare*32768+h.hash*262144+h.age*1099511627776+b2n h.marked*17592186044416+b2n h.ya*35184372088832
structure Ob where
 at_:Nat
 hd:Hd
 body:List Nat
def Ob.stop(b:Ob):Nat:=b.at_+2+b.hd.slots
structure Ob.Ok (b:Ob):Prop where
 may:b.hd.May
 len:b.body.length=b.hd.slots
 small:∀x∈b.body,x < 18446744073709551616
 meth:b.hd.fmt=6->∃n r,b.body=(8*n+1)::r/\n<=r.length
structure Lay (ws st:List Nat)(O5:List Ob):Prop where
 small:∀x∈ws,x < 18446744073709551616
 sts:∀x∈st,x < 18446744073709551616
 stl:st.length=ws.length / 64+1
 len:ws.length < 4194304
 ok:∀b∈O5,b.Ok
 low:∀b∈O5,2<=b.at_
 high:∀b∈O5,b.stop<=ws.length
 head:∀b∈O5,ws[b.at_]? =some (pk b.hd)/\ws[b.at_+1]? =some b.hd.slots
 body:∀b∈O5,∀i < b.hd.slots,ws[b.at_+2+i]? =b.body[i]?
 sort:O5.Pairwise fun a b=>a.stop<=b.at_
 bits:∀w,w < ws.length->(bitAt st w=true↔∃b∈O5,b.at_=w)
def kU:Kg Nat:=⟨.int,uv,fun a b=>by
 show some (decide (((a:Nat):Int)=((b:Nat):Int)))=some (decide (a=b))
 congr 1;rw[decide_eq_decide];omega⟩
structure AH where
 rm:List (Nat×Nat×Nat)
 O5:List Ob
 sp:List Nat
 cl:List Nat
 stack:List Nat
 queue:List Nat
 ya:List Nat
 ahead:List (Nat×Nat)
 given:Nat
structure HW where
 a:AH
 ws:List Nat
 st:List Nat
 wb:Nat
 sb:Nat
 kv:Value
 qv:Value
 nv:Value
 ks:List Value
 qs:List Value
 ns:List Value
 mb:Nat
 es:Array MapEntry
 mc:Nat
def rmEnc(r:Nat×Nat×Nat):List Value:=[vi r.1,vi r.2.1,vi r.2.2]
def arrV(b:Nat)(l:List Nat):Value:=.slice (some ⟨b,0,none⟩) l.length l.length
def HMem(p:Nat)(x:HW):SH:=
 [kA p 0 [arrV x.wb x.ws,arrV x.sb x.st],kA p 4180 [x.kv,x.qv,x.nv,.map (some x.mb),vi x.a.given],kA p 2 (x.a.rm.flatMap rmEnc),kA p 20 (x.a.sp.map uv),kA p 84 (x.a.cl.map uv),
  kA x.wb 0 (x.ws.map uv),kA x.sb 0 (x.st.map uv),ai x.kv (x.a.stack.map uv) x.ks,ai x.qv (x.a.queue.map uv) x.qs,ai x.nv (x.a.ya.map uv) x.ns,[.obj x.mb (.map x.es x.mc)]]
def HA(p:Nat)(x:HW):List kC:=(HMem p x).flatten
structure RmOk (a:AH)(n:Nat):Prop where
 len:a.rm.length=6
 zero:a.rm[0]? =some (0,0,0)
 rng:∀(i:Nat) (r:Nat×Nat×Nat),a.rm[i]? =some r->r.1<=r.2.2/\r.2.2<=r.2.1/\r.2.1<=n
 low:∀(i:Nat) (r:Nat×Nat×Nat),1<=i->a.rm[i]? =some r->2<=r.1
 apart:∀(i j:Nat) (r s:Nat×Nat×Nat),i < j->a.rm[i]? =some r->a.rm[j]? =some s->1<=i->r.2.1<=s.1∨s.2.1<=r.1
 inn:∀b∈a.O5,∃(i:Nat) (r:Nat×Nat×Nat),1<=i/\a.rm[i]? =some r/\r.1<=b.at_/\b.stop<=(if i=5 then r.2.1 else r.2.2)
structure HOk (x:HW):Prop where
 lay:Lay x.ws x.st x.a.O5
 rm:RmOk x.a x.ws.length
 spl:x.a.sp.length=64
 cll:x.a.cl.length=4096
 sps:∀o∈x.a.sp,o < 18446744073709551616
 cls:∀o∈x.a.cl,o < 18446744073709551616
 stks:∀o∈x.a.stack,o < 18446744073709551616
 ques:∀o∈x.a.queue,o < 18446744073709551616
 nots:∀o∈x.a.ya,o < 18446744073709551616
 stk:jG 1 x.kv x.a.stack.length (x.a.stack.map uv) x.ks
 que:jG 1 x.qv x.a.queue.length (x.a.queue.map uv) x.qs
 note:jG 1 x.nv x.a.ya.length (x.a.ya.map uv) x.ns
 map:zk kU uv x.es x.mc x.a.ahead
 given:x.a.given<=4194303
 deep:x.a.stack.length<=4096
 few:x.a.queue.length<=1073741823/\x.a.ya.length<=1073741823
section
variable {P:Program} {n:Nat} {rs:List RO} {Γ:Env} {H:SH} {Z:List PanicEntry->Env->SH->Prop} {K:Env->SH->Prop}
end
structure Keep (f:Ob->Ob):Prop where
 at_:∀b,(f b).at_=b.at_
 slots:∀b,(f b).hd.slots=b.hd.slots
section
variable {ws st:List Nat} {O5:List Ob}
end
section
variable {P:Program} {n:Nat} {rs:List RO} {Γ:Env} {H:SH} {Z:List PanicEntry->Env->SH->Prop} {K:Env->SH->Prop} {d:Option Nat}
end
section
variable {P:Program} {n:Nat} {rs:List RO} {Γ:Env} {H:SH} {Z:List PanicEntry->Env->SH->Prop} {K:Env->SH->Prop} {d:Option Nat}
theorem mL {size len cap l b o:Nat}{x lo:Operand}{kl:IntKind}{cl:Int}(hx:ev Γ x=some (.slice (some ⟨b,o,none⟩) len cap))(CW:ev Γ lo=some (.int kl cl))(el:cl=(l:Int))(hr:l<=len/\len<=cap)
 (k:VO P n rs (ap d (.slice (some ⟨b,if cap=l then o else o+l*size,none⟩) (len - l) (cap - l)) Γ) H Z K):
 VO P n (⟨d,none,.qI size x (some lo) none none⟩::rs) Γ H Z K:=by
 subst el;refine VO.pure rfl (fun ρ aK=>?_) k;have h1:bound (Value.int kl (l:Int)) len=some l:=by simp[bound];omega
 simp[kT,aK _ _ hx,aK _ _ CW,za,h1,wH]
end
end Go.V
namespace Go.Proofs.YtijnokbblmbpkaaGreatDoor
open Go Go.V
set_option maxHeartbeats 3200000
set_option maxRecDepth 100000
theorem UI(A:List kC)(hE:mQ A)(x:Nd)(vs:List Value)(h:jJ A x vs)(hw:x.w<=274877906944)(aM:∀y us,y∈x.kids->jJ A y us->zO A y us)(hk:x.kind=4):eM A x vs:=by
 intro lb q r m0 deep;cases h with
 |@mk k s lit args ab kids p lv av tv a c bk o us wf hl bK bG ha hm hr rU=>
 simp only[Nd.kind]at hk;have fE:=hl;cases fE with
 |@mk lk ln bq lt items la lc Lj lo Lk MD MA MB MC=>
 have gl:=bK;have gu:=bG;obtain⟨aa,ac,rfl,sQ,dQ⟩:=gl;obtain⟨ta,tc,rfl,ue,JL⟩:=gu;have bh:zx A kids a bk o us:=⟨ha,wf.many,hm,hr,fun i y e=>aM y (us i) (Zv e) (hr i y e)⟩;have Ae:=wf.name;have bA:=wf.many;simp only[Nd.w]at hw;obtain⟨RR,bU⟩:∃RR,RR=kO (.mk k s (.mk lk ln bq lt items) args ab kids p):=⟨_,rfl⟩;rw[<- bU];rw[show kO (.mk k s (.mk lk ln bq lt items) args ab kids p)=jr k s (.mk lk ln bq lt items) args ab kids (kids.map kO) by simp[kO,jn]]at bU;show VC _ _ _ _ [kA r 0 (rA k s lk ln bq lt la items.length lc aa args.length ac ta ab.length tc none 0 0 p),kA q 0 (rA k s lk ln bq lt la items.length lc aa args.length ac ta ab.length tc a kids.length c p),A,aW lb m0 deep] _;subst hk;refine ae ?_;by_cases Bd:0 < kids.length;rotate_left
 ·have aC:RR=none:=by
   obtain rfl:kids=[]:=vt Zo;rw[bU];unfold jr;rw[if_neg Zd,if_neg Zd,if_neg Zd,if_pos rfl];unfold kP;split <;> rfl
  rw[show decide ((kids.length:Int) > 0)=false from Zf Zo];exact AK
 rw[show decide ((kids.length:Int) > 0)=true from Zt Zo];refine ae ?_;refine kK (eP s Ae) Zr ?_;refine ae ?_;by_cases dQ:0<=kR s;rotate_left
 ·have aC:RR=none:=by
   rw[bU];unfold jr;rw[if_neg Zd,if_neg Zd,if_neg Zd,if_pos rfl];rw[Zf dQ,Bool.and_false];rfl
  rw[show decide (kR s ≥ 0)=false from Zf dQ];exact AK
 rw[show decide (kR s ≥ 0)=true from Zt dQ];refine ae ?_;refine kL (j8 true) Zr ZP (fun v Post hv=>?_) GW;obtain⟨_,rfl,rfl⟩:=hv;simp only[QL];refine ae ?_;obtain⟨y,l,DX⟩:∃y l,kids=y::l:=by
  cases kids with
  |nil=>simp at Bd
  |cons y l=>exact⟨y,l,rfl⟩
 have H6:kids[0]? =some y:=by rw[DX];rfl
 have cH:=hm 0 Zo;rw[Qq,Qd]at cH;have fH:=(hr 0 y H6).len;obtain rfl:=ha Zo;have DZ:l.length=kids.length - 1:=by rw[DX];rfl
 have Mu:zx A l (some ⟨bk,if c=1 then o else o+1*11,none⟩) bk (if c=1 then o else o+1*11) (fun i=>us (i+1)):=by
  refine⟨fun _=>rfl,Zo,fun i hi z hz=>?_,fun i z e=>hr (i+1) z (by rw[DX];exact e),fun i z e=>bh.ok (i+1) z (by rw[DX];exact e)⟩;refine hm (i+1) Zo z ?_;rw[if_neg Zo]at hz
  rwa [show o+1*11+i*11=o+(i+1)*11 by omega]at hz
 have hF:=fun m=>xh A y _ (hr 0 y H6) (bh.ok 0 y H6) s Ae lb m deep
 have hA:=fun m=>lM A l _ (c - 1) bk _ _ Mu s Ae lb m deep
 rw[DZ]at hA;have hR4:RR=kP (decide (args.length=0/\ab.length=0)&&wY (.mk lk ln bq lt items)&&decide (0<=kR s)) (zh (zL y s (kO y)) (gN s l (l.map kO))):=by
  rw[bU,DX];rfl
 by_cases dR:zL y s (kO y)=none∨gN s l (l.map kO)=none
 ·skip
  have aC:RR=none:=by
   rw[hR4,iv dR];unfold kP;split <;> rfl
  obtain⟨dF,X6,YY,hFz⟩:=xP hF;obtain⟨dA,φA,hAφ,hAz⟩:=xP hA;refine VC.xe (fun ch H'=>ch=wR/\∃m,ao H' [A,aW lb m deep]) (fun H'=>∃m,ao H' [A,aW lb m deep,kA q 0 (rA 4 s lk ln bq lt la items.length lc aa args.length ac ta ab.length tc (some ⟨bk,o,none⟩) kids.length c p)]) ⟨m0,ZI⟩ ?_ (fun ch H' hp=>?_)
  ·skip
   intro rs dw;rcases QC.1 dw with rfl|dw
   ·skip
    refine kH ?_;refine kH ?_;refine kH ?_;refine kH ?_;refine kH ?_;refine kH ?_;refine kH ?_;refine⟨rfl,vi dF,X6,fun Γ H bj hH=>?_,?_⟩
    ·exact zAE
    refine kH ?_;refine kH ?_;refine kH ?_;refine kH ?_;refine kH ?_;exact zA5
   rcases QC.1 dw with rfl|dw
   ·skip
    refine kH ?_;refine kH ?_;refine kH ?_;refine kH ?_;refine kH ?_;refine kH ?_;refine kH ?_;refine kH ?_;refine kH ?_;refine kH ?_;refine⟨rfl,vi dF,X6,fun Γ H bj hH=>?_,?_⟩
    ·exact zAE
    refine kH ?_;refine kH ?_;exact zA5
   rcases QC.1 dw with rfl|dw
   ·skip
    refine kH ?_;refine kH ?_;refine kH ?_;refine kH ?_;refine kH ?_;refine kH ?_;refine kH ?_;refine kH ?_;refine kH ?_;refine kH ?_;refine kH ?_;refine kH ?_;refine⟨rfl,vi dF,X6,fun Γ H bj hH=>?_,?_⟩
    ·exact zAE
    exact zA5
   rcases QC.1 dw with rfl|dw
   ·skip
    refine kH ?_;refine kH ?_;refine kH ?_;refine kH ?_;refine kH ?_;refine kH ?_;refine kH ?_;refine⟨rfl,vi dF,X6,fun Γ H bj hH=>?_,?_⟩
    ·exact zAE
    refine kH ?_;refine kH ?_;refine kH ?_;refine kH ?_;refine kH ?_;exact zA5
   rcases QC.1 dw with rfl|dw
   ·skip
    refine kH ?_;refine kH ?_;refine kH ?_;refine kH ?_;refine kH ?_;refine kH ?_;refine kH ?_;refine kH ?_;refine kH ?_;refine kH ?_;refine kH ?_;refine⟨rfl,vi dF,X6,fun Γ H bj hH=>?_,?_⟩
    ·exact zAE
    refine kH ?_;exact zA5
   rcases QC.1 dw with rfl|dw
   ·skip
    refine kH ?_;refine kH ?_;refine kH ?_;refine kH ?_;refine kH ?_;refine kH ?_;refine kH ?_;refine kH ?_;refine kH ?_;refine kH ?_;refine kH ?_;refine kH ?_;refine⟨rfl,vi dF,X6,fun Γ H bj hH=>?_,?_⟩
    ·exact zAE
    exact zA5
   ·cases dw
  ·obtain⟨rfl,m,hi⟩:=hp;exact⟨_,hi,aC,rfl,m,rfl⟩
 obtain⟨⟨dF,mF⟩,hf⟩:∃p,zL y s (kO y)=some p:=Option.ne_none_iff_exists'.1 fun h=>dR (.inl h)
 obtain⟨⟨dA,mA⟩,hal2⟩:∃p,gN s l (l.map kO)=some p:=Option.ne_none_iff_exists'.1 fun h=>dR (.inr h)
 have hFf:=sd (hF m0) hf;have hAf:=sd (hA (m0||mF)) hal2;refine VC.draws ⟨?_,?_,?_,?_,?_,?_,trivial⟩
 ·exact zA3
 ·exact zA3
 ·exact zA3
 ·exact zA3
 ·exact zA3
 ·exact zA3
theorem UJ(A:List kC)(hE:mQ A)(x:Nd)(vs:List Value)(h:jJ A x vs)(hw:x.w<=274877906944)(aM:∀y us,y∈x.kids->jJ A y us->zO A y us)(hk:x.kind=5):eM A x vs:=by
 intro lb q r m0 deep;cases h with
 |@mk k s lit args ab kids p lv av tv a c bk o us wf hl bK bG ha hm hr rU=>
 simp only[Nd.kind]at hk;have fE:=hl;cases fE with
 |@mk lk ln bq lt items la lc Lj lo Lk MD MA MB MC=>
 have gl:=bK;have gu:=bG;obtain⟨aa,ac,rfl,sQ,dQ⟩:=gl;obtain⟨ta,tc,rfl,ue,JL⟩:=gu;have bh:zx A kids a bk o us:=⟨ha,wf.many,hm,hr,fun i y e=>aM y (us i) (Zv e) (hr i y e)⟩;have Ae:=wf.name;have bA:=wf.many;simp only[Nd.w]at hw;obtain⟨RR,bU⟩:∃RR,RR=kO (.mk k s (.mk lk ln bq lt items) args ab kids p):=⟨_,rfl⟩;rw[<- bU];rw[show kO (.mk k s (.mk lk ln bq lt items) args ab kids p)=jr k s (.mk lk ln bq lt items) args ab kids (kids.map kO) by simp[kO,jn]]at bU;show VC _ _ _ _ [kA r 0 (rA k s lk ln bq lt la items.length lc aa args.length ac ta ab.length tc none 0 0 p),kA q 0 (rA k s lk ln bq lt la items.length lc aa args.length ac ta ab.length tc a kids.length c p),A,aW lb m0 deep] _;subst hk;refine ae ?_;by_cases Bd:2 < kids.length;rotate_left
 ·have aC:RR=none:=by
   rw[bU];unfold jr;rw[if_neg Zd,if_neg Zd,if_neg Zd,if_neg Zd,if_neg Zd,if_pos rfl];simp[kP,Bd]
  rw[show decide ((kids.length:Int) > 2)=false from Zf Zo];exact AK
 rw[show decide ((kids.length:Int) > 2)=true from Zt Zo];refine ae ?_;refine kL (j8 true) Zr ZP (fun v Post hv=>?_) GW;obtain⟨_,rfl,rfl⟩:=hv;simp only[QL];refine ae ?_;obtain⟨y,z,l,DX⟩:∃y z l,kids=y::z::l:=by
  match kids,Bd with
  |y::z::l,_=>exact⟨y,z,l,rfl⟩
  |[],h=>simp at h
  |[_],h=>simp at h
 have H6:kids[0]? =some y:=by rw[DX];rfl
 have hz0:kids[1]? =some z:=by rw[DX];rfl
 have cH:=hm 0 Zo;rw[Qq,Qd]at cH;have fH:=(hr 0 y H6).len;have hzn:z.name.size<=140737488355328/\kC.cell bk (o+12) (.string z.name)∈A:=by
  have La:=hr 1 z hz0;have XH:=hm 1 Zo;obtain⟨c2,c3,c4,c5,c6,c7,c8,c9,re,e,eu,mT⟩:=p8 La;rw[e]at XH;exact⟨eu,XH _ (kI.2 ⟨1,_,rfl,by rw[show o+1*11+1=o+12 by omega]⟩)⟩
 obtain⟨hzs,hzc⟩:=hzn;obtain rfl:=ha Zo;have DZ:(z::l).length=kids.length - 1:=by rw[DX];rfl
 have hF:=fun m=>xh A y _ (hr 0 y H6) (bh.ok 0 y H6) z.name hzs lb m deep
 have hR5:RR=kP (decide (s.size=0/\args.length=0/\ab.length=0/\2 < kids.length)&&wY (.mk lk ln bq lt items)) (wd (decide (256 < kids.length)) (zh (jb ((z::l).map fun y=>kP (decide (y.kind=6)) (kO y))) (zL y z.name (kO y)))):=by
  rw[bU,DX,<- sh];rfl
 obtain⟨Us,Tz⟩:∃Us,Us=m0:=⟨_,rfl⟩;cases m0 with
 |true=>
  obtain⟨mB,JH⟩:∃b,b=(true||decide (256 < kids.length)):=⟨_,rfl⟩;have E1:mB=true:=by rw[JH,Bool.true_or]
  exact zA1
 |false=>
  obtain⟨mB,JH⟩:∃b,b=(false||decide (256 < kids.length)):=⟨_,rfl⟩;have E1:mB=decide ((kids.length:Int) > 256):=by
   rw[JH,vL];exact decide_eq_decide.2 Zo
  exact zA1
theorem UP(A:List kC)(hE:mQ A):∀(N:Nat) (x:Nd),x.w<=N->x.w<=274877906944->∀vs,jJ A x vs->zO A x vs:=by
 intro N
 induction N with
 |zero=>intro x hx;have:=x.mN;omega
 |succ N ih=>
  intro x hx hb vs h;have aM:∀y us,y∈x.kids->jJ A y us->zO A y us:=fun y us hy hr=>by
   have h1:y.w < x.w:=by
    cases x;have:=Nd.cq hy;simp only[Nd.kids]at this;simp only[Nd.w];omega
   exact ih y Zo Zo us hr
  refine⟨fun lb m0 deep=>UO A x vs h ?_ lb m0 deep,fun d m e=>?_⟩
  ·by_cases k1:x.kind=1
   ·exact UF A hE x vs h hb aM k1
   by_cases k2:x.kind=2
   ·exact UG A hE x vs h hb aM k2
   by_cases k3:x.kind=3
   ·exact UH A hE x vs h hb aM k3
   by_cases k4:x.kind=4
   ·exact UI A hE x vs h hb aM k4
   by_cases k5:x.kind=5
   ·exact UJ A hE x vs h hb aM k5
   by_cases k6:x.kind=6
   ·exact UK A hE x vs h hb aM k6
   by_cases k7:x.kind=7
   ·exact UL A hE x vs h hb aM k7
   by_cases k8:x.kind=8
   ·exact UM A hE x vs h hb aM k8
   by_cases k9:x.kind=9
   ·exact UN A hE x vs h hb aM k9
   exact UE A hE x vs h hb aM ⟨k1,k2,k3,k4,k5,k6,k7,k8,k9⟩
  ·have:=Fw _ x (Qh _) d m e;omega
theorem Lw(A:List kC)(hE:mQ A)(x:Nd)(hb:x.w<=274877906944)(vs:List Value)(h:jJ A x vs):zO A x vs:=UP A hE _ x (Qh _) hb vs h
def F160:RIR:=Bi (X:=⟨11,[],4,[qo 5 (.fX 262 (Value.agg #[.int .i64 0]) true (.tmp 4)),qm 3 5,qe 6 3 0,qe 7 3 1,
 qo 1 (.alloc 262 [.int .i64 0]),qs 1 1 6,qm 2 7],(qS [qm 8 2] [0,1,8] (qC 8 (.ly [qf 9 0 1,ql 10 9,qs 1 0 10] []) .skip))⟩)
theorem n160:F160.n=11:=rfl
theorem Oz:JS Tryz.prog (zA [(0,[0,1,2]),(1,[0,1,8]),(2,[])]) (zA []) 160=some F160:=by kernel_rfl
theorem Cz(e:Nat)(n:Int):gI Tryz.prog 160 [kF e] .returning .returning [kA e 0 [vi n]] (fun Post=>Post=[kA e 0 [vi n]]):=by
 refine gI.intro Oz (by simp[n160]) .none ?_;refine ae ?_;refine kN (fun q=>?_);refine ae ?_;refine ow.seq (ow.ly ?_);refine ae ?_;refine ow.cond (t:=false) Zr (fun h=>by cases h) (fun _=>ow.skip ?_);exact kG (Post:=[kA e 0 [vi n]]) (.inl rfl) .nil rfl ZI
theorem CI(e:Nat)(n:Int):gI Tryz.prog 160 [kF e] (.panicking wR) (.panicking [{v:=Sc,recovered:=true}]) [kA e 0 [vi n]] (fun Post=>Post=[kA e 0 [vi 150]]):=by
 refine gI.intro Oz (by simp[n160]) .some ?_;refine ae ?_;refine kN (fun q=>?_);refine ae ?_;refine ow.seq (ow.ly ?_);refine ae ?_;refine ow.cond (t:=true) Zr (fun _=>ow.ly ?_) (fun h=>by cases h);refine ae ?_;exact kG (Post:=[kA e 0 [vi 150]]) (.inl rfl) .nil rfl ZI
theorem Rx(L R:SH):dX (L++R) R L:=by
 simp only[V.dX,V8];exact QP
theorem Lc(X Y:List kC)(L:SH):ao ([X,Y]++L) L:=⟨[X,Y],by
 simp only[V.dX,V8];exact QP⟩
theorem Ia(X Y:List kC)(L:SH):ao ([X]++[Y,L.flatten]) L:=⟨[X,Y],by
 simp only[V.dX,V8,V9,VV,vg];rw[<- vf];exact QP⟩
theorem oB(e lb:Nat)(n:Int)(m d:Bool)(aS:SH)(Q:Value->SH->Prop)(Γ:Env)(bj:V.look Γ 2=some (kF e))(hq:Q (vi n) aS){H:SH}(hH:dX H [kA e 0 [vi n]] [aW lb m d,aS.flatten]):
 Xl Tryz.prog 160 [kF e] [.bT 2] Q .ret Γ H:=by
 refine⟨.inr rfl,[kA e 0 [vi n]],[aW lb m d,aS.flatten],_,Cz e n,hH,?_⟩
 rintro Post rfl
 exact⟨.inr rfl,[vi n],aS,.bT bj Ji .nil,Ia _ _ _,hq⟩
theorem Ep(fv:Value)(bm:SH)(QQ:Bool->Bool->SH->Prop)(ZZ:SH->Prop)
 (h:∀lb,D8 Tryz.prog fv [kF lb] (aW lb false false::bm) (fun v Post=>∃m d aS,Post=aW lb m d::aS/\QQ m d aS) (fun ch Post=>ch=wR/\∃m d aS,Post=aW lb m d::aS/\ZZ aS)):
 aq Tryz.prog 102 [fv] bm (fun v Post=>(∃m d,v=vi (if m then 151 else if d then 152 else 0)/\QQ m d Post)∨(v=vi 150/\ZZ Post)):=by
 refine aq.JO ω (by simp[n102]) ?_;simp only[X8,Bi,VDP];refine ae ?_;refine kN (fun e=>?_);refine ae ?_;refine kY Zr (fun lb=>?_);simp only[Value.cells];refine ae ?_;refine⟨[kF e],Zr,?_⟩;refine ae ?_;have hR:dX (kA lb 0 [.bool false,.bool false]::kA e 0 [vi 0]::bm) (aW lb false false::bm) [kA e 0 [vi 0]]:=by
  simp only[V.dX,V9,VV,vj,vg,vf];exact zDR
 refine L5 Zr (h lb) Zr hR (fun v Post hv=>?_) (fun ch Post hz=>?_);rotate_left
 ·obtain⟨rfl,m,d,aS,rfl,hz⟩:=hz;refine⟨[kA e 0 [vi 0]],aW lb m d::aS,_,_,CI e 0,rfl,Rx _ _,?_⟩
  rintro Post rfl
  exact⟨.inr rfl,[vi 150],aS,.bT Zr Ji .nil,Lc _ _ _,.inr ⟨rfl,hz⟩⟩
 obtain⟨m,d,aS,rfl,hq⟩:=hv;refine VO.imp (H':=[aW lb m d,kA e 0 [vi 0],aS.flatten]) (ao.perm ?_) ?_
 ·simp only[V9,VV,vj,vg,V8];exact zDR
 cases m with
 |true=>
  refine ae ?_;exact oB e lb 151 true d aS _ _ rfl (.inl ⟨true,d,rfl,hq⟩) ZP
 |false=>
  cases d with
  |true=>
   refine ae ?_;exact oB e lb 152 false true aS _ _ rfl (.inl ⟨false,true,rfl,hq⟩) ZP
  |false=>
   refine ae ?_;exact oB e lb 0 false false aS _ _ rfl (.inl ⟨false,false,rfl,hq⟩) ZP
structure Md where
 aP:ByteArray
 args:List ByteArray
 ab:List ByteArray
 az:Int
 body:List Nd
structure Ec (A:List kC)(x:Md)(vs:List Value):Prop where
 form:∃aa ac ta tc a c bk o us,vs=[.string x.aP,.slice aa x.args.length ac,.slice ta x.ab.length tc,vi x.az,.slice a x.body.length c]/\eg A (.slice aa x.args.length ac) x.args/\eg A (.slice ta x.ab.length tc) x.ab/\zx A x.body a bk o us
 aP:x.aP.size<=140737488355328
 az:-9223372036854775808<=x.az/\x.az<=9223372036854775807
def dc(x:Md):Rs:=kP (decide (kR x.aP=x.args.length/\0<=x.az/\x.az<=255)) (wk 15 x.args (wk 63 x.ab (jb (we x.body (x.body.map kO)))))
def wK(x:Md):Nat:=Nj (fun d=>decide (40 < d)) (dc x)
theorem Er(A:List kC)(x:Md)(vs:List Value)(h:Ec A x vs)(q lb:Nat):
 jf Tryz.prog 103 [kF lb,kF q] [aW lb false false,A,kA q 0 vs] (fun v Post=>∃m d aS,Post=aW lb m d::aS/\(∃dd,dc x=some (dd,m)/\d=decide (40 < dd))/\aS=[A])
  (fun ch Post=>ch=wR/\∃m d aS,Post=aW lb m d::aS/\dc x=none/\aS=[A]):=by
 obtain⟨⟨aa,ac,ta,tc,a,c,bk,o,us,rfl,bK,bG,bh⟩,bW,pL⟩:=h;obtain⟨aP,args,ab,az,body⟩:=x;simp only at bK bG bh bW pL|-;obtain⟨RR,bU⟩:∃RR,RR=dc ⟨aP,args,ab,az,body⟩:=⟨_,rfl⟩;rw[<- bU];simp only[dc]at bU;refine jf.intro Θ (by simp[n103]) ?_;refine jD ?_;by_cases h1:kR aP=(args.length:Int);rotate_left
 ·have aC:RR=none:=by simp[bU,kP,h1]
  have eC:decide (kR aP=(args.length:Int))=false:=Zf h1;refine VC.seq (VC.xe (fun ch H'=>ch=wR/\ao H' [aW lb false false,A,kA q 0 [.string aP,.slice aa args.length ac,.slice ta ab.length tc,vi az,.slice a body.length c]]) (fun H'=>H'=[aW lb false false,A,kA q 0 [.string aP,.slice aa args.length ac,.slice ta ab.length tc,vi az,.slice a body.length c]]) rfl ?_ (fun ch H' hp=>?_))
  ·skip
   intro rs dw;rcases QC.1 dw with rfl|dw
   ·skip
    refine kH ?_;refine kH ?_;refine⟨rfl,vi (kR aP),True,fun Γ H bj hH=>?_,?_⟩
    ·exact zCG
    refine kH ?_;refine kH ?_;refine kH ?_;refine⟨rfl,.bool false,True,fun Γ H bj hH=>?_,?_⟩
    ·exact zAX
    refine kH ?_;refine kH ?_;refine kH ?_;refine kH ?_;refine kH ?_;refine kH ?_;refine kH ?_;refine kH ?_;refine kH ?_;exact zAC
   rcases QC.1 dw with rfl|dw
   ·skip
    refine kH ?_;refine kH ?_;refine kH ?_;refine kH ?_;refine⟨rfl,vi (kR aP),True,fun Γ H bj hH=>?_,?_⟩
    ·exact zCG
    refine kH ?_;refine⟨rfl,.bool false,True,fun Γ H bj hH=>?_,?_⟩
    ·exact zAX
    refine kH ?_;refine kH ?_;refine kH ?_;refine kH ?_;refine kH ?_;refine kH ?_;refine kH ?_;refine kH ?_;refine kH ?_;exact zAC
   ·cases dw
  ·exact zCF
 have eC:decide (kR aP=(args.length:Int))=true:=Zt h1;by_cases h2:0<=az;rotate_left
 ·have aC:RR=none:=by simp[bU,kP,h2]
  have sR:decide (0<=az)=false:=Zf h2;refine VC.seq (VC.xe (fun ch H'=>ch=wR/\ao H' [aW lb false false,A,kA q 0 [.string aP,.slice aa args.length ac,.slice ta ab.length tc,vi az,.slice a body.length c]]) (fun H'=>H'=[aW lb false false,A,kA q 0 [.string aP,.slice aa args.length ac,.slice ta ab.length tc,vi az,.slice a body.length c]]) rfl ?_ (fun ch H' hp=>?_))
  ·skip
   intro rs dw;rcases QC.1 dw with rfl|dw
   ·skip
    refine kH ?_;refine kH ?_;refine⟨rfl,vi (kR aP),True,fun Γ H bj hH=>?_,?_⟩
    ·exact zCG
    refine kH ?_;refine kH ?_;refine kH ?_;refine⟨rfl,.bool true,True,fun Γ H bj hH=>?_,?_⟩
    ·exact zAX
    refine kH ?_;refine kH ?_;refine kH ?_;refine⟨rfl,.bool false,True,fun Γ H bj hH=>?_,?_⟩
    ·exact zBF
    refine kH ?_;refine kH ?_;refine kH ?_;refine kH ?_;refine kH ?_;exact zAC
   rcases QC.1 dw with rfl|dw
   ·skip
    refine kH ?_;refine kH ?_;refine kH ?_;refine kH ?_;refine⟨rfl,vi (kR aP),True,fun Γ H bj hH=>?_,?_⟩
    ·exact zCG
    refine kH ?_;refine⟨rfl,.bool true,True,fun Γ H bj hH=>?_,?_⟩
    ·exact zAX
    refine kH ?_;refine kH ?_;refine kH ?_;refine⟨rfl,.bool false,True,fun Γ H bj hH=>?_,?_⟩
    ·exact zBF
    refine kH ?_;refine kH ?_;refine kH ?_;refine kH ?_;refine kH ?_;exact zAC
   ·cases dw
  ·exact zCF
 have sR:decide (0<=az)=true:=Zt h2;by_cases h3:az<=255;rotate_left
 ·have aC:RR=none:=by simp[bU,kP,h3]
  have Ms:decide (az<=255)=false:=Zf h3;refine VC.seq (VC.xe (fun ch H'=>ch=wR/\ao H' [aW lb false false,A,kA q 0 [.string aP,.slice aa args.length ac,.slice ta ab.length tc,vi az,.slice a body.length c]]) (fun H'=>H'=[aW lb false false,A,kA q 0 [.string aP,.slice aa args.length ac,.slice ta ab.length tc,vi az,.slice a body.length c]]) rfl ?_ (fun ch H' hp=>?_))
  ·skip
   intro rs dw;rcases QC.1 dw with rfl|dw
   ·skip
    refine kH ?_;refine kH ?_;refine⟨rfl,vi (kR aP),True,fun Γ H bj hH=>?_,?_⟩
    ·exact zCG
    refine kH ?_;refine kH ?_;refine kH ?_;refine⟨rfl,.bool true,True,fun Γ H bj hH=>?_,?_⟩
    ·exact zAX
    refine kH ?_;refine kH ?_;refine kH ?_;refine⟨rfl,.bool true,True,fun Γ H bj hH=>?_,?_⟩
    ·exact zBF
    refine kH ?_;refine kH ?_;refine kH ?_;refine kH ?_;refine⟨rfl,.bool false,True,fun Γ H bj hH=>?_,?_⟩
    ·exact zDZ
    exact zAC
   rcases QC.1 dw with rfl|dw
   ·skip
    refine kH ?_;refine kH ?_;refine kH ?_;refine kH ?_;refine⟨rfl,vi (kR aP),True,fun Γ H bj hH=>?_,?_⟩
    ·exact zCG
    refine kH ?_;refine⟨rfl,.bool true,True,fun Γ H bj hH=>?_,?_⟩
    ·exact zAX
    refine kH ?_;refine kH ?_;refine kH ?_;refine⟨rfl,.bool true,True,fun Γ H bj hH=>?_,?_⟩
    ·exact zBF
    refine kH ?_;refine kH ?_;refine kH ?_;refine kH ?_;refine⟨rfl,.bool false,True,fun Γ H bj hH=>?_,?_⟩
    ·exact zDZ
    exact zAC
   ·cases dw
  ·exact zCF
 have Ms:decide (az<=255)=true:=Zt h3;have hm:RR=wk 15 args (wk 63 ab (jb (we body (body.map kO)))):=by simp[bU,kP,h1,h2,h3]
 refine VC.seq (VC.draws ⟨?_,?_,trivial⟩)
 ·exact zAA
 ·exact zAA
theorem Hh(A:List kC)(x:Md)(vs:List Value)(h:Ec A x vs):aq Tryz.prog 47 [.agg vs.toArray] [A] (fun v Post=>v=vi (wK x)/\Post=[A]):=by
 have h1:=Er A x vs h;obtain⟨⟨aa,ac,ta,tc,a,c,bk,o,us,rfl,bK,bG,bh⟩,bW,pL⟩:=h;refine aq.intro low47 (by simp[n47]) ?_;refine ae ?_;refine kY Zr (fun q=>?_);simp only[Value.cells];refine ae ?_;refine kJ (Ep (.func (.func 103) #[] #[kF q]) [A,kA q 0 [.string x.aP,.slice aa x.args.length ac,.slice ta x.ab.length tc,vi x.az,.slice a x.body.length c]]
  (fun m d aS=>(∃dd,dc x=some (dd,m)/\d=decide (40 < dd))/\aS=[A]) (fun aS=>dc x=none/\aS=[A]) (fun lb=>D8.bY (first:=#[]) (cap:=#[kF q]) (h1 q lb))) Zr ZP (fun v Post hv=>?_)
 have ep:v=vi (wK x)/\Post=[A]:=by
  rcases hv with⟨m,d,rfl,⟨dd,e,rfl⟩,rfl⟩|⟨rfl,e,rfl⟩
  ·refine⟨?_,rfl⟩;simp only[wK,Nj,e];cases m <;> simp <;> split <;> rfl
  ·refine⟨?_,rfl⟩;simp only[wK,Nj,e];rfl
 obtain⟨rfl,rfl⟩:=ep;simp only[aH];exact zBO
end Go.Proofs.YtijnokbblmbpkaaGreatDoor

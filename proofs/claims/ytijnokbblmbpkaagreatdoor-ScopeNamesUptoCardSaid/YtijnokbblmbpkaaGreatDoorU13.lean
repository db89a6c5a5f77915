/-
  A part of the proof.
-/
import Derived.Test.YtijnokbblmbpkaaGreatDoorU12
import Derived.Test.YtijnokbblmbpkaaGreatDoorU6
import Derived.Test.YtijnokbblmbpkaaGreatDoorU3
import Derived.KernelRfl
import Derived.Test.YtijnokbblmbpkaaGreatDoorProg
import Derived.Test.YtijnokbblmbpkaaGreatDoorU8
import Derived.Test.YtijnokbblmbpkaaGreatDoorU7
set_option linter.all false
set_option maxHeartbeats 25600000
set_option maxRecDepth 100000
namespace Go.Proofs.YtijnokbblmbpkaaGreatDoor
open Go Go.V
theorem Pm:∀(N:Nat) (l:List Nat),l.length<=N->l≠[]->∀n:Nat,0<=zg (j9 l) n->l.getLast? =some 58:=by
 intro N
 induction N with
 |zero=>intro l s g;exact absurd (Q4.1 Zo) g
 |succ N ih=>
  intro l s g n h;rw[Eg g]at h;split at h
  .rename_i j;have m:z5 l < l.length:=by
    rcases Nat.lt_or_ge (z5 l) l.length with h1|h1
    .exact h1
    .have:=j.2;rw[Vh,Vp h1]at this;cases this
   have q:l[z5 l]? =some 58:=by
    have:=j.2;rw[Vh,Zg m]at this;rw[Zg m];simpa using this
   by_cases hr:l.drop (z5 l+1)=[]
   .have:l.length<=z5 l+1:=by simpa using hr
    rw[List.getLast?_eq_getElem?,show l.length - 1=z5 l by omega,q]
   .have d:=ih (l.drop (z5 l+1)) (by rw[Q0];omega) hr (n+1) h;rw[List.getLast?_drop]at d;split at d
    .cases d
    .exact d
  .omega
theorem KB {s:ByteArray}(h:1 < kS s):(kB s).getLast? =some 58:=by
 unfold kS at h;generalize kB s=l at h|-;cases l with
 |nil=>exact absurd h Zd
 |cons c r=>
  unfold p7 at h;dsimp only at h;split at h
  .omega
  .split at h
   .split at h <;> omega
   .exact Pm _ _ (Qt _) Zs 0 Zo
theorem Ak(s:ByteArray)(C:s.size<=140737488355328)(g:0<=kS s):au Tryz.prog 219 [.string s] [] (λv Post=>v=vi (zw s)/\Post=[]):=by
 refine au.intro low219 Zn9 ?_;have d:=kV s;have m:=@KB s;have hb:zw s=if kS s=0 then 5 else if kS s=1/\(kB s).getLast?≠some 58 then 4 else 3:=rfl;have cI:0 < s.size:=by
  rcases Qr s.size with h2|h2
  .have:kB s=[]:=Q4.1 Zo;unfold kS at g;rw[this]at g;exact absurd g Zd
  .exact h2
 refine ae ?_;refine kL (ib s C) Zr ?_;obtain⟨z,D⟩:∃z,kS s=z:=⟨_,rfl⟩;rw[D]at hb g m|-;refine ae ?_;by_cases h0:z=0
 .rw[Zt h0];rw[if_pos h0]at hb;exact zAW
 rw[Zf h0];rw[if_neg h0]at hb;obtain⟨c,B,E⟩:=wG (s:=s) (i:=s.size - 1) Zo;have q:(kB s).getLast? =some c.toNat:=by rw[List.getLast?_eq_getElem?,d];exact E
 rw[q]at hb m;refine ae ?_;refine wO Zr Zr (j:=s.size - 1) Zo B ?_;refine ae ?_;by_cases tN:c.toNat=58
 .rw[show decide ((c.toNat:Int)=58)=true from Zt Zo];rw[if_neg (by simp[tN])]at hb;exact zAW
 rw[show decide ((c.toNat:Int)=58)=false from Zf Zo];have A:z=1:=by
  rcases Int.lt_or_le 1 z with h|h
  .exact absurd (XC (m h)) tN
  .omega
 rw[if_pos ⟨A,by simp[tN]⟩]at hb;exact zAW
theorem IQ(k:Nat)(s:ByteArray)(D:s.size<=140737488355328)(C:k=4->0<=kS s)(d c3 g j m A B c9 E:Value):au Tryz.prog 186 [.agg #[cv k,.string s,d,c3,g,j,m,A,B,c9,E]] [] (λv Post=>v=vi (fO k s)/\Post=[]):=by
 refine au.intro low186 Zn9 ?_;refine ae ?_;refine kX Zr (λq=>?_);simp only[Value.cells];refine ae ?_;by_cases h3:k=3
 .subst h3;exact zCG
 rw[show decide ((k:Int)=3)=false from Zf Zo];refine ae ?_;by_cases h5:k=5
 .subst h5;exact zCG
 rw[show decide ((k:Int)=5)=false from Zf Zo];refine ae ?_;by_cases h4:k=4
 .subst h4;refine ae ?_;refine kL (Ak s D (C rfl)) Zr ?_;exact zCG
 exact zDE
theorem Gd(A:List kC):∀(N:Nat) (x:Lt),x.size<=N->∀vs,zl A x vs->au Tryz.prog 151 [.agg vs.toArray] [A] (λv Post=>v=.bool (l7 x)/\Post=[A]):=by
 intro N
 induction N with
 |zero=>intro x B;have:=x.size_pos;omega
 |succ N ih=>
  intro x B vs G;cases G with
  |@mk k n b t items a c bk o us wf ha hm hr=>
  simp only[Lt.size]at B;have bH:=wf.many;have E:=wf.text;have mT:=wf.kind;have C:l7 (.mk k n b t items)=(decide (255 < items.length)||(decide (k=11)&&decide (255 < t.size))||items.any l7):=by simp only[l7,IT]
  rw[C];refine au.intro low151 Zn9 ?_;refine jH ?_;refine kX Zr (λq=>?_);simp only[Value.cells];refine jH ?_;refine VC.join (α:=Unit) (λ_=>[(1,kE q)]) (λ_=>[A,kA q 0 [cv k,vi n,uv b,.string t,.slice a items.length c]]) (λ_=>(decide (255 < items.length)||(decide (k=11)&&decide (255 < t.size)))=false) ?_ ?_
  .refine ae ?_;by_cases h1:255 < items.length
   .rw[show decide ((items.length:Int) > 255)=true from Zt Zo];exact zCY
   rw[show decide ((items.length:Int) > 255)=false from Zf Zo];refine ae ?_;by_cases h2:k=11;rotate_left
   .rw[show decide ((k:Int)=11)=false from Zf Zo];refine ae ?_;exact⟨(),by simp[h1,h2],ZU,ZI⟩
   rw[show decide ((k:Int)=11)=true from Zt Zo];refine ae ?_;by_cases h3:255 < t.size
   .rw[show decide ((t.size:Int) > 255)=true from Zt Zo];refine ae ?_;exact kG (Post:=[A]) (.inr rfl) (.tmp Zr .nil) ⟨by simp[bN,h2,h3],rfl⟩ ZI
   rw[show decide ((t.size:Int) > 255)=false from Zf Zo];refine ae ?_;exact⟨(),by simp[h1,h3],ZU,ZI⟩
  rintro⟨⟩ h1
  rw[h1,vN];refine ae ?_;refine VC.loop (α:=Nat) (bg:=λj=>[(1,kE q),(3,vi j)]) (Hf:=λ_=>[A,kA q 0 [cv k,vi n,uv b,.string t,.slice a items.length c]])
   (I:=λj=>j<=items.length/\(items.take j).any l7=false) (μ:=λj=>items.length - j) 0 ⟨X3 _,rfl⟩ ZU ZI ?_
  rintro j ⟨i1,i2⟩
  refine ae ?_;by_cases hj:j < items.length;rotate_left
  .rw[show decide ((j:Int) < (items.length:Int))=false from Zf Zo];rw[Ql Zo]at i2;exact zC5
  rw[show decide ((j:Int) < (items.length:Int))=true from Zt Zo];obtain rfl:=ha Zo;obtain⟨y,d⟩:∃y,items[j]? =some y:=⟨_,Zg hj⟩;have g:=hr j y d;have cG:=hm j hj;have Ze:=Lt.aD (Zv d);have m:=ih y Zo _ g;have s:=g.len;generalize us j=uj at g cG m s;have D:items.take (j+1)=items.take j++[y]:=by rw[Qi,d];rfl
  refine ae ?_;refine kR Zr CS s ?_;refine ae ?_;refine kH m Zr ZP (λv Post F=>?_);obtain⟨rfl,rfl⟩:=F;simp only[aE];cases hmy:l7 y with
  |true=>
   have:items.any l7=true:=vj.2 ⟨y,Zv d,hmy⟩;refine ae ?_;exact kG (Post:=[A]) (.inr rfl) (.tmp Zr .nil) ⟨by rw[this];rfl,rfl⟩ ZI
  |false=>
   refine ae ?_;exact⟨j+1,⟨Zo,by rw[D];simp[i2,hmy]⟩,Zo,ZU,ZI⟩
theorem Py {α:Type}(f:α->Nat)(l r:List α):mx f (l++r)=max (mx f l) (mx f r):=by
 induction l with
 |nil=>simp[mx]
 |cons x l ih=>simp only[vr,mx,ih];omega
theorem IS:∀(N:Nat) (x:Lt),x.size<=N->zV x<=x.size:=by
 intro N
 induction N with
 |zero=>intro x d;have:=x.size_pos;omega
 |succ N ih=>
  intro x d;cases x with
  |mk k n b t items=>
  simp only[Lt.size]at d|-;simp only[zV,tW];split
  .have:=mx_le (f:=zV) (K:=Lt.ap items) (l:=items) λy g=>by
    have h1:=Lt.aD g;have h2:=ih y Zo;omega
   omega
  .omega
theorem Di(A:List kC):∀(N:Nat) (x:Lt),x.size<=N->x.size<=1099511627776->∀vs,zl A x vs->au Tryz.prog 152 [.agg vs.toArray] [A] (λv Post=>v=vi (zV x)/\Post=[A]):=by
 intro N
 induction N with
 |zero=>intro x F;have:=x.size_pos;omega
 |succ N ih=>
  intro x F G vs J;cases J with
  |@mk k n b t items a c bk o us wf ha hm hr=>
  simp only[Lt.size]at F G;have bH:=wf.many;have mT:=wf.kind;refine au.intro low152 Zn9 ?_;simp only[zV,tW];refine ae ?_;refine kX Zr (λq=>?_);simp only[Value.cells];refine ae ?_;by_cases AJ:k=10;rotate_left
  .rw[if_neg AJ,show decide ((k:Int)=10)=false from Zf Zo];exact zBD
  rw[if_pos AJ,show decide ((k:Int)=10)=true from Zt Zo];refine ae ?_;refine VC.loop (α:=Nat) (bg:=λj=>[(1,kE q),(3,vi (mx zV (items.take j))),(4,vi j)]) (Hf:=λ_=>[A,kA q 0 [cv k,vi n,uv b,.string t,.slice a items.length c]])
   (I:=λj=>j<=items.length) (μ:=λj=>items.length - j) 0 (X3 _) ZU ZI ?_
  rintro j i1
  have g:=mx_le (f:=zV) (K:=Lt.ap items) (l:=items.take j) λy s=>by
   have h1:=Lt.aD (QP s);have h2:=IS _ y (Qt _);omega
  by_cases hj:j < items.length;rotate_left
  .rw[Ql Zo]at g|-;generalize mx zV items=M at g|-;refine ae ?_;rw[show decide ((j:Int) < (items.length:Int))=false from Zf Zo];exact zBD
  obtain rfl:=ha Zo;obtain⟨y,s⟩:∃y,items[j]? =some y:=⟨_,Zg hj⟩;have B:=hr j y s;have cG:=hm j hj;have Ze:=Lt.aD (Zv s);have D:=ih y Zo Zo _ B;have E:=B.len;generalize us j=uj at B cG D E;have m:mx zV (items.take (j+1))=max (mx zV (items.take j)) (zV y):=by rw[Qi,s,Py];simp[mx]
  generalize mx zV (items.take j)=M at g m|-;have C:=IS _ y (Qt _);refine ae ?_;rw[show decide ((j:Int) < (items.length:Int))=true from Zt Zo];refine ae ?_;refine kR Zr CS E ?_;refine ae ?_;refine kH D Zr ZP (λv Post H=>?_);obtain⟨rfl,rfl⟩:=H;simp only[aE];generalize zV y=d at m C|-;refine ae ?_;by_cases hd:M < d
  .rw[show decide ((d:Int) > (M:Int))=true from Zt Zo];rw[show max M d=d by omega]at m;refine ae ?_;refine⟨j+1,Zo,Zo,by rw[m];exact C0,ZI⟩
  .rw[show decide ((d:Int) > (M:Int))=false from Zf Zo];rw[show max M d=M by omega]at m;refine ae ?_;refine⟨j+1,Zo,Zo,by rw[m];exact C0,ZI⟩
theorem ZS(k:Nat)(s:ByteArray)(d:s.size<=140737488355328):-1<=yI k s/\yI k s<=140737488355330:=by
 have:=tu s d;unfold yI
 repeat' split
 all_goals omega
theorem Hr(A:List kC)(hE:oD A):∀(N:Nat) (x:Nd),x.w<=N->x.w<=274877906944->∀vs,jN A x vs->au Tryz.prog 149 [.agg vs.toArray] [A] (λv Post=>v=.bool (jd x)/\Post=[A]):=by
 intro N
 induction N with
 |zero=>intro x hx;have:=x.iy;omega
 |succ N ih=>
  intro x hx hb vs h;have B:=Xf A hE x hb vs h;obtain⟨e1,e2,e3,e4,e5,e6,e7,e8,e9,xD,xE,xF,xG,a,Z,bk,o,us,nu,bH,ha,hm,hr⟩:=WX h;have hwx:Nd.ws x.kids+1<=x.w:=by cases x;simp only[Nd.w,Nd.kids];omega
  have fq:x.name.size<=140737488355328:=by cases h with|mk wf=>exact wf.name
  have mT:x.kind < 256:=by cases h with|mk wf=>exact wf.kind
  have s:jd x=(wp x.kind x.name x.lit x.args x.ab x.kids.length&&!(decide (0<=yI x.kind x.name)&&decide (yI x.kind x.name≠x.kids.length))&&kq x.kind x.kids.length 0 x.kids):=by cases x;simp only[jd,Nd.kind,Nd.name,Nd.lit,Nd.args,Nd.ab,Nd.kids];rfl
  rw[s];have pA:=ZS x.kind x.name fq;generalize hOne:wp x.kind x.name x.lit x.args x.ab x.kids.length=on at B|-;generalize hCnt:yI x.kind x.name=d at B pA|-;rw[nu]at B|-;generalize x.kind=k at B mT|-;refine au.intro low149 Zn9 ?_;refine jH ?_;refine kX Zr (λq=>?_);simp only[Value.cells];refine jH ?_;refine kH B Zr ZP (λv Post W=>?_);obtain⟨rfl,rfl⟩:=W;simp only[aE];refine jH ?_;refine VC.join (α:=Unit) (λ_=>[(1,kE q)]) (λ_=>[A,kA q 0 (rA k x.name e1 e2 e3 e4 e5 e6 e7 e8 e9 xD xE xF xG a x.kids.length Z x.at_)]) (λ_=>(on&&!(decide (0<=d)&&decide (d≠x.kids.length)))=true) ?_ ?_
  .refine ae ?_;cases on with
   |false=>
    exact YT
   |true=>
    refine ae ?_;by_cases h1:0<=d;rotate_left
    .skip
     rw[show decide (d ≥ 0)=false from Zf Zo];refine ae ?_;exact⟨(),by simp[h1],ZU,ZI⟩
    rw[show decide (d ≥ 0)=true from Zt Zo];refine ae ?_;by_cases h2:d=x.kids.length
    .skip
     rw[show decide (d=(x.kids.length:Int))=true from Zt Zo];refine ae ?_;exact⟨(),by simp[h2],ZU,ZI⟩
    .skip
     rw[show decide (d=(x.kids.length:Int))=false from Zf Zo];refine ae ?_;exact kG (Post:=[A]) (.inr rfl) (.tmp Zr .nil) ⟨by simp[bN,h1,h2],rfl⟩ ZI
  rintro⟨⟩ aN
  rw[aN,vW];refine ae ?_;refine VC.loop (α:=Nat) (bg:=λj=>[(1,kE q),(5,vi j)]) (Hf:=λ_=>[A,kA q 0 (rA k x.name e1 e2 e3 e4 e5 e6 e7 e8 e9 xD xE xF xG a x.kids.length Z x.at_)])
   (I:=λj=>j<=x.kids.length/\kq k x.kids.length 0 x.kids=kq k x.kids.length j (x.kids.drop j)) (μ:=λj=>x.kids.length - j) 0 ⟨X3 _,rfl⟩ ZU ZI ?_
  rintro j ⟨i1,i2⟩
  refine ae ?_;by_cases hj:j < x.kids.length;rotate_left
  .rw[show decide ((j:Int) < (x.kids.length:Int))=false from Zf Zo];rw[vx Zo]at i2;exact zC5
  rw[show decide ((j:Int) < (x.kids.length:Int))=true from Zt Zo];obtain rfl:=ha Zo;obtain⟨y,hy⟩:∃y,x.kids[j]? =some y:=⟨_,Zg hj⟩;have H:=hr j y hy;have cG:=hm j hj;have eO:=H.len;have hzw:y.w<=Nd.ws x.kids:=Nd.cj (Zv hy);have Y:=ih y Zo Zo _ H;have Ir:x.kids.drop j=y::x.kids.drop (j+1):=by
   exact zDC
  rw[Ir]at i2;simp only[kq]at i2;generalize us j=uj at H cG Y eO;have IE:jR y=zU y.kind y.name:=rfl;obtain⟨f1,f2,f3,f4,f5,f6,f7,f8,f9,J,K,L,M,O,Q,S,T,rfl,mW,hyk⟩:=yF H;refine ae ?_;refine kR Zr CS rfl ?_;refine ae ?_;refine kK (λq6=>?_);refine ae ?_;refine kH Y Zr ZP (λv Post W=>?_);obtain⟨rfl,rfl⟩:=W;simp only[aE];generalize jd y=U at i2|-;refine ae ?_;refine VO.bool 53 (decide (j=0)&&(decide (k=4)||decide (k=5))) Zr ?_ ?_
  .by_cases j0:j=0;rotate_left
   .skip
    rw[show decide ((j:Int)=0)=false from Zf Zo];refine ae ?_;exact⟨by simp[j0],ZU,ZI⟩
   rw[show decide ((j:Int)=0)=true from Zt Zo];refine ae ?_;by_cases k4:k=4
   .skip
    rw[show decide ((k:Int)=4)=true from Zt Zo];refine ae ?_;exact⟨by simp[j0,k4],ZU,ZI⟩
   rw[show decide ((k:Int)=4)=false from Zf Zo];refine ae ?_;by_cases k5:k=5
   .skip
    rw[show decide ((k:Int)=5)=true from Zt Zo];refine ae ?_;exact⟨by simp[j0,k4,k5],ZU,ZI⟩
   rw[show decide ((k:Int)=5)=false from Zf Zo];refine ae ?_;exact⟨by simp[j0,k4,k5],ZU,ZI⟩
  generalize AP:(decide (j=0)&&(decide (k=4)||decide (k=5)))=m;refine ae ?_;refine VO.bool 64 (decide (j+1=x.kids.length)&&decide (k=7)) Zr ?_ ?_
  .by_cases j0:j+1=x.kids.length;rotate_left
   .skip
    rw[show decide ((j:Int)=(x.kids.length:Int) - 1)=false from Zf Zo];refine ae ?_;exact⟨by simp[j0],ZU,ZI⟩
   rw[show decide ((j:Int)=(x.kids.length:Int) - 1)=true from Zt Zo];refine ae ?_;by_cases k7:k=7
   .skip
    rw[show decide ((k:Int)=7)=true from Zt Zo];refine ae ?_;exact⟨by simp[j0,k7],ZU,ZI⟩
   rw[show decide ((k:Int)=7)=false from Zf Zo];refine ae ?_;exact⟨by simp[j0,k7],ZU,ZI⟩
  generalize E:(decide (j+1=x.kids.length)&&decide (k=7))=lst;refine ae ?_;refine VO.bool 71 (decide (k=5)&&decide (0 < j)) Zr ?_ ?_
  .by_cases k5:k=5;rotate_left
   .skip
    rw[show decide ((k:Int)=5)=false from Zf Zo];refine ae ?_;exact⟨by simp[k5],ZU,ZI⟩
   rw[show decide ((k:Int)=5)=true from Zt Zo];refine ae ?_;by_cases j0:0 < j
   .skip
    rw[show decide ((j:Int) > 0)=true from Zt Zo];refine ae ?_;exact⟨by simp[k5,j0],ZU,ZI⟩
   rw[show decide ((j:Int) > 0)=false from Zf Zo];refine ae ?_;exact⟨by simp[k5,j0],ZU,ZI⟩
  generalize F:(decide (k=5)&&decide (0 < j))=G;have D:iI k x.kids.length j y=(!(zU y.kind y.name&&!m)&&!(decide (y.kind=9)&&!lst)&&(decide (y.kind=6)==G)):=by
   unfold iI;rw[AP,E,F,IE]
  have g:=xm y.kind y.name (cv f1) (vi f2) (uv f3) (.string f4) (.slice f5 f6 f7) (.slice f8 f9 J) (.slice K L M) (.slice O Q S) (vi T);generalize zU y.kind y.name=X at g D;refine ae ?_;refine VO.bool 97 (!(U&&iI k x.kids.length j y)) Zr ?_ ?_
  .rw[D];cases U with
   |false=>
    refine ae ?_;exact⟨Zs,ZU,ZI⟩
   |true=>
    refine ae ?_;refine kL g Zr ?_;refine VO.bool 81 (X&&!m) Zr ?_ ?_
    .cases X with
     |false=>
      refine ae ?_;exact⟨Zs,ZU,ZI⟩
     |true=>
      refine ae ?_;exact⟨Zs,ZU,ZI⟩
    generalize (X&&!m)=b1;cases b1 with
    |true=>
     refine ae ?_;exact⟨Zs,ZU,ZI⟩
    |false=>
     refine ae ?_;refine VO.bool 90 (decide (y.kind=9)&&!lst) Zr ?_ ?_
     .by_cases k9:y.kind=9
      .skip
       rw[show decide ((y.kind:Int)=9)=true from Zt Zo];refine ae ?_;exact⟨by simp[k9],ZU,ZI⟩
      .skip
       exact zET
     generalize (decide (y.kind=9)&&!lst)=b2;cases b2 with
     |true=>
      refine ae ?_;exact⟨Zs,ZU,ZI⟩
     |false=>
      refine ae ?_;refine⟨?_,ZU,ZI⟩;rw[show decide ((y.kind:Int)=6)=decide (y.kind=6)from decide_eq_decide.2 ⟨λh=>by omega,λh=>by omega⟩];cases decide (y.kind=6) <;> cases G <;> rfl
  generalize (U&&iI k x.kids.length j y)=C at i2|-;cases C with
  |true=>
   refine ae ?_;exact⟨j+1,⟨Zo,by rw[i2];simp⟩,Zo,ZU,ZI⟩
  |false=>
   refine ae ?_;exact kG (Post:=[A]) (.inr rfl) (.tmp Zr .nil) ⟨by rw[i2];simp[bN],rfl⟩ ZI
theorem N3(A:List kC):∀(N:Nat) (x:Nd),x.w<=N->∀vs,jN A x vs->au Tryz.prog 88 [.agg vs.toArray] [A] (λv Post=>v=.bool (js x)/\Post=[A]):=by
 intro N
 induction N with
 |zero=>intro x J;have:=x.iy;omega
 |succ N ih=>
  intro x J vs h;cases h with
  |@mk k s lit args ab kids p lv av tv a c bk o us wf hl bD bB ha hm hr rV=>
  simp only[Nd.w]at J;have L:=Gd A _ lit (Qt _) lv hl;have bH:=wf.many;have mT:=wf.kind;cases hl with
  |@mk lk ln lb lt items la lc CV lo IY LJ Ly LB LC=>
  obtain⟨g,m,rfl,s5,dD⟩:=bD;obtain⟨D,E,rfl,rZ,IG⟩:=bB;have M:js (.mk k s (.mk lk ln lb lt items) args ab kids p)=(((l7 (.mk lk ln lb lt items)||decide (15 < args.length))||decide (63 < ab.length))||(((decide (k=4)&&decide (16 < kids.length))||(decide (k=6)&&decide (15 < kids.length)))||(decide (k=5)&&decide (256 < kids.length)))||(decide (k=8)&&decide (255 < kids.length))||kids.any js):=by
   simp only[js,En,vR]
  rw[M];generalize l7 (.mk lk ln lb lt items)=K at L|-;refine au.intro low88 Zn9 ?_;simp only[aE];refine jH ?_;refine kX Zr (λq=>?_);simp only[Value.cells];refine jH ?_;refine kH L Zr ZP (λv Post C=>?_);obtain⟨rfl,rfl⟩:=C;simp only[aE];refine jH ?_;refine VC.join (α:=Unit) (λ_=>[(1,kE q)]) (λ_=>[A,kA q 0 (rA k s lk ln lb lt la items.length lc g args.length m D ab.length E a kids.length c p)]) (λ_=>((K||decide (15 < args.length))||decide (63 < ab.length))=false) ?_ ?_
  .refine ae ?_;cases K with
   |true=>
    exact YT
   |false=>
    refine ae ?_;by_cases h1:15 < args.length
    .skip
     rw[show decide ((args.length:Int) > 15)=true from Zt Zo];exact zCY
    rw[show decide ((args.length:Int) > 15)=false from Zf Zo];refine ae ?_;by_cases h2:63 < ab.length
    .skip
     rw[show decide ((ab.length:Int) > 63)=true from Zt Zo];refine ae ?_;exact kG (Post:=[A]) (.inr rfl) (.tmp Zr .nil) ⟨by simp[bN,h2],rfl⟩ ZI
    rw[show decide ((ab.length:Int) > 63)=false from Zf Zo];refine ae ?_;exact⟨(),by simp[h1,h2],ZU,ZI⟩
  rintro⟨⟩ S
  rw[S,vN];refine ae ?_;refine VO.bool 42 ((decide (k=4)&&decide (16 < kids.length))||(decide (k=6)&&decide (15 < kids.length))) Zr ?_ ?_
  .by_cases k4:k=4
   .skip
    rw[show decide ((k:Int)=4)=true from Zt Zo];refine ae ?_;by_cases h1:16 < kids.length
    .skip
     rw[show decide ((kids.length:Int) > 16)=true from Zt Zo];refine ae ?_;exact⟨by simp[k4,h1],ZU,ZI⟩
    rw[show decide ((kids.length:Int) > 16)=false from Zf Zo];refine ae ?_;rw[show decide ((k:Int)=6)=false from Zf Zo];refine ae ?_;exact⟨by simp[k4,h1],ZU,ZI⟩
   rw[show decide ((k:Int)=4)=false from Zf Zo];refine ae ?_;by_cases k6:k=6
   .skip
    rw[show decide ((k:Int)=6)=true from Zt Zo];refine ae ?_;by_cases h1:15 < kids.length
    .skip
     rw[show decide ((kids.length:Int) > 15)=true from Zt Zo];refine ae ?_;exact⟨by simp[k6,h1],ZU,ZI⟩
    rw[show decide ((kids.length:Int) > 15)=false from Zf Zo];refine ae ?_;exact⟨by simp[k6,h1],ZU,ZI⟩
   rw[show decide ((k:Int)=6)=false from Zf Zo];refine ae ?_;exact⟨by simp[k4,k6],ZU,ZI⟩
  generalize ((decide (k=4)&&decide (16 < kids.length))||(decide (k=6)&&decide (15 < kids.length)))=G;refine jH ?_;refine VC.join (α:=Unit) (λ_=>[(1,kE q)]) (λ_=>[A,kA q 0 (rA k s lk ln lb lt la items.length lc g args.length m D ab.length E a kids.length c p)]) (λ_=>((G||(decide (k=5)&&decide (256 < kids.length)))||(decide (k=8)&&decide (255 < kids.length)))=false) ?_ ?_
  .refine ae ?_;cases G with
   |true=>
    exact YT
   |false=>
    refine ae ?_;refine VO.bool 54 (decide (k=5)&&decide (256 < kids.length)) Zr ?_ ?_
    .by_cases k5:k=5
     .skip
      rw[show decide ((k:Int)=5)=true from Zt Zo];refine ae ?_;by_cases h1:256 < kids.length
      .skip
       rw[show decide ((kids.length:Int) > 256)=true from Zt Zo];refine ae ?_;exact⟨by simp[k5,h1],ZU,ZI⟩
      rw[show decide ((kids.length:Int) > 256)=false from Zf Zo];refine ae ?_;exact⟨by simp[k5,h1],ZU,ZI⟩
     rw[show decide ((k:Int)=5)=false from Zf Zo];refine ae ?_;exact⟨by simp[k5],ZU,ZI⟩
    generalize (decide (k=5)&&decide (256 < kids.length))=O;cases O with
    |true=>
     exact YT
    |false=>
     refine ae ?_;by_cases k8:k=8
     .skip
      rw[show decide ((k:Int)=8)=true from Zt Zo];refine ae ?_;by_cases h1:255 < kids.length
      .skip
       rw[show decide ((kids.length:Int) > 255)=true from Zt Zo];refine ae ?_;exact kG (Post:=[A]) (.inr rfl) (.tmp Zr .nil) ⟨by simp[bN,k8,h1],rfl⟩ ZI
      rw[show decide ((kids.length:Int) > 255)=false from Zf Zo];refine ae ?_;exact⟨(),by simp[h1],ZU,ZI⟩
     rw[show decide ((k:Int)=8)=false from Zf Zo];refine ae ?_;exact⟨(),by simp[k8],ZU,ZI⟩
  rintro⟨⟩ U
  rw[U,vN];refine ae ?_;refine VC.loop (α:=Nat) (bg:=λj=>[(1,kE q),(5,vi j)]) (Hf:=λ_=>[A,kA q 0 (rA k s lk ln lb lt la items.length lc g args.length m D ab.length E a kids.length c p)])
   (I:=λj=>j<=kids.length/\(kids.take j).any js=false) (μ:=λj=>kids.length - j) 0 ⟨X3 _,rfl⟩ ZU ZI ?_
  rintro j ⟨i1,i2⟩
  refine ae ?_;by_cases hj:j < kids.length;rotate_left
  .rw[Ql Zo]at i2;rw[show decide ((j:Int) < (kids.length:Int))=false from Zf Zo];exact zC5
  rw[show decide ((j:Int) < (kids.length:Int))=true from Zt Zo];obtain rfl:=ha Zo;obtain⟨y,d⟩:∃y,kids[j]? =some y:=⟨_,Zg hj⟩;have B:=hr j y d;have cG:=hm j hj;have H:=B.len;have T:y.w<=Nd.ws kids:=Nd.cj (Zv d);have F:=ih y Zo _ B;have Q:kids.take (j+1)=kids.take j++[y]:=by rw[Qi,d];rfl
  generalize us j=uj at B cG F H;refine ae ?_;refine kR Zr CS H ?_;refine ae ?_;refine kH F Zr ZP (λv Post C=>?_);obtain⟨rfl,rfl⟩:=C;simp only[aE];cases hmy:js y with
  |true=>
   have:kids.any js=true:=vj.2 ⟨y,Zv d,hmy⟩;refine ae ?_;exact kG (Post:=[A]) (.inr rfl) (.tmp Zr .nil) ⟨by rw[this];rfl,rfl⟩ ZI
  |false=>
   refine ae ?_;exact⟨j+1,⟨Zo,by rw[Q];simp[i2,hmy]⟩,Zo,ZU,ZI⟩
theorem OP {k m:Nat}:∀{l:List Nd} {i:Nat},kq k m i l=true->∀j y,l[j]? =some y->jd y=true/\iI k m (i+j) y=true:=by
 intro l
 induction l with
 |nil=>intro i _ j y h;simp at h
 |cons z r ih=>
  intro i h j y d;simp only[kq,vG]at h;cases j with
  |zero=>cases d;exact h.1
  |succ j=>
   have:=ih h.2 j y (by simpa using d)
   rwa [show i+1+j=i+(j+1) by omega]at this
theorem tK {x:Nd}(h:jd x=true):∀j y,x.kids[j]? =some y->jd y=true/\iI x.kind x.kids.length j y=true:=by
 cases x with
 |mk k s lit args ab kids p=>
 simp only[jd,vG]at h;intro j y d;have:=OP h.2 j y d
 rwa [X2]at this
theorem qG {x:Nd}(h:jd x=true)(g:x.kind=4∨x.kind=6):0<=kS x.name:=by
 cases x with
 |mk k s lit args ab kids p=>
 simp only[jd,vG]at h;have d:=h.1.1;simp only[Nd.kind,Nd.name]at g|-;rcases g with rfl|rfl
 .simp[wp]at d;exact d.1.1
 .simp[wp]at d;exact d.1.1
theorem OO {x:Nd}(h:jd x=true)(q:x.kind=5):∃y,x.kids[1]? =some y/\y.kind=6/\0<=kS y.name/\rM x.kind x.name x.kids=y.name:=by
 have g:=tK h;cases x with
 |mk k s lit args ab kids p=>
 simp only[jd,vG]at h;have d:=h.1.1;simp only[Nd.kind,Nd.name,Nd.kids]at q g|-;subst q;simp[wp]at d;rcases kids with _|⟨y,_|⟨z,r⟩⟩
 .simp at d
 .simp at d
 .obtain⟨A,j⟩:=g 1 z rfl;have m:z.kind=6:=by simp[iI]at j;exact j.2
  exact⟨z,rfl,m,qG A (.inr m),rfl⟩
theorem N9(A:List kC)(x:Nd)(vs:List Value)(h:jN A x vs)(J:jd x=true)(i:Nat):au Tryz.prog 187 [.agg vs.toArray,vi i] [A] (λv Post=>v=vi (ic x.kind (rM x.kind x.name x.kids) i)/\Post=[A]):=by
 obtain⟨Q,T,U,W,X,Y,Z,e8,e9,xD,xE,xF,xG,a,N,bk,o,us,nu,bH,ha,hm,hr⟩:=WX h;have fq:x.name.size<=140737488355328:=by cases h with|mk wf=>exact wf.name
 have mT:x.kind < 256:=by cases h with|mk wf=>exact wf.kind
 have O:=@qG x J;have j:=@OO x J;have F:¬x.kind=5->rM x.kind x.name x.kids=x.name:=λe=>if_neg e
 rw[nu];generalize hS:rM x.kind x.name x.kids=S at j F|-;generalize x.kind=k at*;generalize x.name=s at*;refine au.intro low187 Zn9 ?_;refine jH ?_;refine kX Zr (λq=>?_);simp only[Value.cells];refine jH ?_;refine VO.bool 16 (decide (i=0)&&decide (k=4)) Zr ?_ ?_
 .by_cases i0:i=0
  .skip
   rw[show decide ((i:Int)=0)=true from Zt Zo];refine ae ?_;exact⟨by simp only[XD,Value.bool.injEq,i0,decide_true,vW];exact decide_eq_decide.2 ⟨λh=>by omega,λh=>by omega⟩,ZU,ZI⟩
  .skip
   rw[show decide ((i:Int)=0)=false from Zf Zo];refine ae ?_;exact⟨by simp[i0],ZU,ZI⟩
 refine jH ?_;refine VC.join (α:=Unit) (λ_=>[(1,vi i),(2,kE q),(5,.string S),(6,.bool (decide (i=0)&&(decide (k=4)||decide (k=5))))]) (λ_=>[A,kA q 0 (rA k s Q T U W X Y Z e8 e9 xD xE xF xG a x.kids.length N x.at_)]) (λ_=>S.size<=140737488355328) ?_ ?_
 .refine ae ?_;by_cases k5:k=5
  .obtain⟨z,K,hz6,D,g⟩:=j k5;have hl:=(Vt.1 K).1;obtain rfl:=ha Zo;have H:=hr 1 z K;have E:=hm 1 hl;generalize us 1=uj at H E;obtain⟨f1,f2,f3,f4,f5,f6,f7,f8,f9,f10,f11,f12,f13,f14,f15,f16,f17,rfl,mW,hyk⟩:=yF H;have fD:kC.cell bk (o+1*11+1) (.string z.name)∈A:=E _ (kJ.2 ⟨1,_,rfl,rfl⟩);rw[Nat.one_mul]at fD;subst k5;refine ae ?_;rw[g];refine⟨(),mW,?_,ZI⟩;rw[show decide ((i:Int)=0)=(decide (i=0)&&(decide ((5:Nat)=4)||decide ((5:Nat)=5))) by simp];exact C0
  .skip
   rw[show decide ((k:Int)=5)=false from Zf Zo];refine ae ?_;rw[F k5]at*;refine⟨(),fq,?_,ZI⟩;rw[Zf k5,vV];exact C0
 rintro⟨⟩ G
 have d:=λh=>Ak S G h
 refine ae ?_;refine VO.bool 38 ((decide (k=4)&&decide (0 < i))||decide (k=6)) Zr ?_ ?_
 .by_cases k4:k=4
  .skip
   rw[show decide ((k:Int)=4)=true from Zt Zo];refine ae ?_;by_cases i0:0 < i
   .skip
    rw[show decide ((i:Int) > 0)=true from Zt Zo];refine ae ?_;exact⟨by simp[k4,i0],ZU,ZI⟩
   rw[show decide ((i:Int) > 0)=false from Zf Zo];refine ae ?_;rw[show decide ((k:Int)=6)=false from Zf Zo];refine ae ?_;exact⟨by simp[k4,i0],ZU,ZI⟩
  rw[show decide ((k:Int)=4)=false from Zf Zo];refine ae ?_;exact⟨by simp only[XD,Value.bool.injEq,k4,decide_false,vL,vN];exact decide_eq_decide.2 ⟨λh=>by omega,λh=>by omega⟩,ZU,ZI⟩
 have B:k=4∨k=5∨k=6->0<=kS S:=λh=>by
  by_cases k5:k=5
  .obtain⟨z,_,_,D,g⟩:=j k5;rw[g];exact D
  .rw[F k5];exact O Zo
 have hd:ic k S i=if(decide (i=0)&&(decide (k=4)||decide (k=5)))=true then(if zw S=5 then 5 else 4)else if((decide (k=4)&&decide (0 < i))||decide (k=6))=true then(if zw S=4 then 5 else 4)else 1:=by
  unfold ic;simp
 have C:(decide (i=0)&&(decide (k=4)||decide (k=5)))=true->0<=kS S:=λh=>by
  simp only[vG,vT,decide_eq_true_eq]at h;exact B Zo
 have I:((decide (k=4)&&decide (0 < i))||decide (k=6))=true->0<=kS S:=λh=>by
  simp only[vG,vT,decide_eq_true_eq]at h;exact B Zo
 rw[hd];generalize (decide (i=0)&&(decide (k=4)||decide (k=5)))=L at C|-;generalize ((decide (k=4)&&decide (0 < i))||decide (k=6))=M at I|-;cases L with
 |true=>
  have d:=d (C rfl);generalize zw S=m at d|-;refine ae ?_;refine kL d Zr ?_;by_cases h5:m=5
  .subst h5;exact YT
  .refine ae ?_;rw[show decide ((m:Int)=5)=false from Zf Zo];refine ae ?_;exact kG (Post:=[A]) (.inr rfl) (.tmp Zr .nil) ⟨by simp[bN,h5],rfl⟩ ZI
 |false=>
  cases M with
  |true=>
   have d:=d (I rfl);generalize zw S=m at d|-;refine ae ?_;refine kL d Zr ?_;by_cases h5:m=4
   .subst h5;exact YT
   .refine ae ?_;rw[show decide ((m:Int)=4)=false from Zf Zo];refine ae ?_;exact kG (Post:=[A]) (.inr rfl) (.tmp Zr .nil) ⟨by simp[bN,h5],rfl⟩ ZI
  |false=>
   exact YT
theorem Ao(A:List kC)(x:Nd)(vs:List Value)(h:jN A x vs)(Z:jd x=true)(i:Nat)(y:Nd)(J:x.kids[i]? =some y):au Tryz.prog 153 [.agg vs.toArray,vi i] [A] (λv Post=>v=.bool (xz x.kind (rM x.kind x.name x.kids) i y)/\Post=[A]):=by
 obtain⟨e1,e2,e3,e4,e5,e6,e7,e8,e9,xD,xE,xF,xG,a,cc,bk,o,us,nu,bH,ha,hm,hr⟩:=WX h;have hl:=(Vt.1 J).1;obtain rfl:=ha Zo;have L:=hr i y J;have M:=hm i hl;obtain⟨K,_⟩:=tK Z i y J;have dD:=λe=>@qG y K (.inl e)
 generalize us i=uj at L M;obtain⟨N,O,Q,S,T,U,W,X,Y,d,g,j,m,s,B,C,D,rfl,mW,hyk⟩:=yF L;have H:=IQ y.kind y.name mW dD (cv N) (vi O) (uv Q) (.string S) (.slice T U W) (.slice X Y d) (.slice g j m) (.slice s B C) (vi D);have Kl:fO y.kind y.name=wE y:=rfl;rw[Kl]at H;have G:=N9 A x vs h Z i;unfold xz;rw[nu]at G|-;generalize ic x.kind (rM x.kind x.name x.kids) i=I at G|-;generalize wE y=lv at H|-;refine au.intro low153 Zn9 ?_;refine jH ?_;refine kX Zr (λq=>?_);simp only[Value.cells];refine jH ?_;refine kR Zr (λz hz=>QH _ (Zw _ (M z hz))) rfl ?_;refine jH ?_;refine kK (λq6=>?_);refine jH ?_;refine VC.join (α:=Unit) (λ_=>[(1,vi i),(2,kE q),(5,kE q6)]) (λ_=>[A,kA q 0 (rA x.kind x.name e1 e2 e3 e4 e5 e6 e7 e8 e9 xD xE xF xG (some ⟨bk,o,none⟩) x.kids.length cc x.at_),kA q6 0 (rA y.kind y.name N O Q S T U W X Y d g j m s B C D)]) (λ_=>y.kind≠6/\y.kind≠9) ?_ ?_
 .refine ae ?_;by_cases E:y.kind=6
  .skip
   rw[show decide ((y.kind:Int)=6)=true from Zt Zo];refine ae ?_;exact kG (Post:=[A]) (.inr rfl) (.tmp Zr .nil) ⟨by simp[bN,E],rfl⟩ ZI
  rw[show decide ((y.kind:Int)=6)=false from Zf Zo];refine ae ?_;by_cases F:y.kind=9
  .skip
   rw[show decide ((y.kind:Int)=9)=true from Zt Zo];refine ae ?_;exact kG (Post:=[A]) (.inr rfl) (.tmp Zr .nil) ⟨by simp[bN,F],rfl⟩ ZI
  rw[show decide ((y.kind:Int)=9)=false from Zf Zo];refine ae ?_;exact⟨(),⟨E,F⟩,ZU,ZI⟩
 rintro⟨⟩ ⟨E,F⟩
 refine ae ?_;refine VC.oZ (α:=Unit) (λ_=>[(4,.bool (decide (lv < I)))]) (λ_=>[A]) (λ_=>True) ⟨?_,?_,trivial⟩ ?_;rotate_left 2
 .rintro⟨⟩ _
  refine ae ?_;exact kG (Post:=[A]) (.inr rfl) (.tmp Zr .nil) ⟨by simp[bN,E,F],rfl⟩ ZI
 all_goals
  refine ae ?_;refine kL H Zr ?_;refine ae ?_;refine kH G Zr ZP (λv Post hv=>?_);obtain⟨rfl,rfl⟩:=hv;simp only[aE];refine ae ?_;refine⟨(),trivial,?_,ZI⟩;rw[show decide ((lv:Int) < (I:Int))=decide (lv < I)from decide_eq_decide.2 ⟨λh=>by omega,λh=>by omega⟩];exact C0
theorem Au {x:Nd}(h:jd x=true):w9 x<=2*x.w:=by
 have d:=Et _ x (Qt _);rw[h]at d;exact Jc _ x (Qt _) (w9 x) (js x) d
theorem NY(A:List kC):∀(N:Nat) (x:Nd),x.w<=N->x.w<=274877906944->jd x=true->∀vs,jN A x vs->au Tryz.prog 89 [.agg vs.toArray] [A] (λv Post=>v=vi (w9 x)/\Post=[A]):=by
 intro N
 induction N with
 |zero=>intro x W;have:=x.iy;omega
 |succ N ih=>
  intro x W hb H vs h;have m:=Au H;have E:=λi y hy=>Ao A x vs h H i y hy
  have O:=tK H;cases h with
  |@mk k s lit args ab kids p lv av tv a c bk o us wf hl bD bB ha hm hr rV=>
  simp only[Nd.kind,Nd.name,Nd.kids]at E O;simp only[w9]at m|-;simp only[Nd.w]at W hb m;have bH:=wf.many;have mT:=wf.kind;have Y:=Di A _ lit (Qt _) Zo lv hl;cases hl with
  |@mk lk ln lb lt items la lc CV lo IY LJ Ly LB LC=>
  obtain⟨K,L,rfl,s5,dD⟩:=bD;obtain⟨Z,tc,rfl,rZ,IG⟩:=bB;generalize hS:rM k s kids=S at E m|-;generalize zV (.mk lk ln lb lt items)=X at Y m|-;generalize hT:max X (wF k S 0 kids)=T at m|-;have U:(if k=7∨k=8 then 1 else 0)<=1:=by split <;> omega
  simp only[aE]at E|-;refine au.intro low89 Zn9 ?_;refine jH ?_;refine kX Zr (λq=>?_);simp only[Value.cells];refine jH ?_;refine kH Y Zr ZP (λv Post C=>?_);obtain⟨rfl,rfl⟩:=C;simp only[aE];refine jH ?_;refine VC.join (α:=Unit) (λ_=>[(1,kE q),(3,vi T)]) (λ_=>[A,kA q 0 (rA k s lk ln lb lt la items.length lc K args.length L Z ab.length tc a kids.length c p)]) (λ_=>True) ?_ ?_
  .refine ae ?_;refine VC.loop (α:=Nat×Nat) (bg:=λz=>[(1,kE q),(3,vi z.2),(4,vi z.1)]) (Hf:=λ_=>[A,kA q 0 (rA k s lk ln lb lt la items.length lc K args.length L Z ab.length tc a kids.length c p)])
    (I:=λz=>z.1<=kids.length/\max z.2 (wF k S z.1 (kids.drop z.1))=T) (μ:=λz=>kids.length - z.1) (0,X) ⟨X3 _,hT⟩ ZU ZI ?_
   rintro⟨j,M⟩ ⟨i1,g⟩
   simp only at i1 g;dsimp only;refine ae ?_;by_cases hj:j < kids.length;rotate_left
   .rw[vx Zo]at g;simp only[wF,Nat.max_zero]at g;subst g;rw[show decide ((j:Int) < (kids.length:Int))=false from Zf Zo];exact Sk
   rw[show decide ((j:Int) < (kids.length:Int))=true from Zt Zo];obtain rfl:=ha Zo;obtain⟨y,hy⟩:∃y,kids[j]? =some y:=⟨_,Zg hj⟩;have G:=hr j y hy;have cG:=hm j hj;have Q:=G.len;have hzw:y.w<=Nd.ws kids:=Nd.cj (Zv hy);have D:=(O j y hy).1;have F:=ih y Zo Zo D _ G;have B:=E j y hy;have J:=Au D;have Ir:kids.drop j=y::kids.drop (j+1):=by
    exact zDC
   rw[Ir]at g;simp only[wF]at g;generalize us j=uj at G cG F Q;generalize w9 y=d at F J g;generalize xz k S j y=br at B g;refine ae ?_;refine kR Zr CS Q ?_;refine ae ?_;refine kH F Zr ZP (λv Post C=>?_);obtain⟨rfl,rfl⟩:=C;simp only[aE];refine ae ?_;refine kH B Zr ZP (λv Post C=>?_);obtain⟨rfl,rfl⟩:=C;simp only[aE];cases br with
   |true=>
    simp only[if_true]at g;refine ae ?_;by_cases hd:M < d+1
    .skip
     rw[show decide ((d:Int)+1 > (M:Int))=true from Zt Zo];refine ae ?_;exact⟨(j+1,d+1),⟨by simp only;omega,by simp only;omega⟩,by simp only;omega,ZU,ZI⟩
    .skip
     rw[show decide ((d:Int)+1 > (M:Int))=false from Zf Zo];exact zEE
   |false=>
    simp only[vM,if_false]at g;refine ae ?_;by_cases hd:M < d
    .skip
     rw[show decide ((d:Int) > (M:Int))=true from Zt Zo];refine ae ?_;exact⟨(j+1,d),⟨by simp only;omega,by simp only;omega⟩,by simp only;omega,ZU,ZI⟩
    .skip
     rw[show decide ((d:Int) > (M:Int))=false from Zf Zo];exact zEE
  rintro⟨⟩ _
  refine ae ?_;by_cases k7:k=7
  .skip
   rw[show decide ((k:Int)=7)=true from Zt Zo];refine ae ?_;exact kG (Post:=[A]) (.inr rfl) (.tmp Zr .nil) ⟨by simp[bN,k7],rfl⟩ ZI
  rw[show decide ((k:Int)=7)=false from Zf Zo];refine ae ?_;by_cases k8:k=8
  .skip
   rw[show decide ((k:Int)=8)=true from Zt Zo];refine ae ?_;exact kG (Post:=[A]) (.inr rfl) (.tmp Zr .nil) ⟨by simp[bN,k8],rfl⟩ ZI
  rw[show decide ((k:Int)=8)=false from Zf Zo];refine ae ?_;exact kG (Post:=[A]) (.inr rfl) (.tmp Zr .nil) ⟨by simp[bN,k7,k8],rfl⟩ ZI
theorem xH(k:Nat)(s:ByteArray)(mT:k < 256)(g c3 j m A B C c9 D:Value):au Tryz.prog 150 [.agg #[cv k,.string s,g,c3,j,m,A,B,C,c9,D]] [] (λv Post=>v=.bool (!zU k s&&decide (k≠9/\k≠6))/\Post=[]):=by
 refine au.intro low150 Zn9 ?_;have d:=xm k s g c3 j m A B C c9 D;generalize zU k s=su at d|-;refine ae ?_;refine kX Zr (λq=>?_);simp only[Value.cells];refine ae ?_;by_cases k6:k=6
 .skip
  rw[show decide ((k:Int)=6)=true from Zt Zo];refine ae ?_;exact kG (Post:=[]) (.inr rfl) (.tmp Zr .nil) ⟨by simp[bN,k6],rfl⟩ ZI
 rw[show decide ((k:Int)=6)=false from Zf Zo];refine ae ?_;by_cases k9:k=9
 .skip
  rw[show decide ((k:Int)=9)=true from Zt Zo];refine ae ?_;exact kG (Post:=[]) (.inr rfl) (.tmp Zr .nil) ⟨by simp[bN,k9],rfl⟩ ZI
 rw[show decide ((k:Int)=9)=false from Zf Zo];refine ae ?_;refine kL d Zr ?_;refine ae ?_;exact kG (Post:=[]) (.inr rfl) (.tmp Zr .nil) ⟨by simp[bN,k6,k9],rfl⟩ ZI
noncomputable section
def F87:aO:=aZ (o:=gF pq Tryz.f87 [])
theorem low87:Zo9 87 [] F87:=Zx9
def F34:aO:=aZ (o:=gF pq Tryz.f34 [])
theorem low34:Zo9 34 [] F34:=Zx9
end
theorem kidB7(m i:Nat)(y:Nd):iI 7 m i y=((decide (y.kind=9)&&decide (i+1=m))||yT y):=by
 unfold iI yT;by_cases a:y.kind=9
 .have:jR y=false:=by rw[vJ];intro h;have:=gX h;omega
  by_cases b:i+1=m <;> simp[a,b,this]
 .by_cases b:y.kind=6 <;> cases jR y <;> simp[a,b]
theorem Od(A:List kC)(K:oD A)(l:List Nd)(hw:Nd.ws l<=274877906944)(a:Option Addr)(c bk o:Nat)(us:Nat->List Value)(M:pT A l a bk o us):au Tryz.prog 87 [.slice a l.length c] [A] (λv Post=>v=.bool (kq 7 l.length 0 l)/\Post=[A]):=by
 obtain⟨L,bH,O,Q⟩:=M;refine au.intro low87 Zn9 ?_;refine ae ?_;refine VC.loop (α:=Nat) (bg:=λj=>[(0,.slice a l.length c),(3,vi j)]) (Hf:=λ_=>[A]) (I:=λj=>j<=l.length/\kq 7 l.length 0 l=kq 7 l.length j (l.drop j)) (μ:=λj=>l.length - j) 0 ⟨X3 _,rfl⟩ ZU ZI ?_
 rintro j ⟨i1,i2⟩
 refine ae ?_;by_cases hj:j < l.length;rotate_left
 .rw[vx Zo]at i2;rw[show decide ((j:Int) < (l.length:Int))=false from Zf Zo];exact zC5
 rw[show decide ((j:Int) < (l.length:Int))=true from Zt Zo];obtain rfl:=L Zo;obtain⟨y,hy⟩:∃y,l[j]? =some y:=⟨_,Zg hj⟩;have m:=Q j y hy;have cG:=O j hj;have s:=m.len;have T:y.w<=Nd.ws l:=Nd.cj (Zv hy);have q:=Hr A K _ y (Qt _) Zo _ m;have C:l.drop j=y::l.drop (j+1):=by
  exact zDC
 rw[C]at i2;simp only[kq,kidB7]at i2;generalize us j=uj at m cG q s;obtain⟨D,c3,E,F,G,H,J,c9,X,rfl,fq,U⟩:=sq m;have d:=xH y.kind y.name U D c3 E F G H J c9 X;have W:(!zU y.kind y.name&&decide (y.kind≠9/\y.kind≠6))=yT y:=rfl;rw[W]at d;have N:kC.cell bk (o+j*11) (cv y.kind)∈A:=cG _ (kJ.2 ⟨0,_,rfl,rfl⟩);generalize yT y=kp at d i2;generalize jd y=f at q i2;have B:(f&&((decide (y.kind=9)&&decide (j+1=l.length))||kp))=true->(j+1<=l.length/\kq 7 l.length 0 l=kq 7 l.length (j+1) (l.drop (j+1))):=λh=>⟨Zo,by rw[i2,h,vW]⟩
 have g:(f&&((decide (y.kind=9)&&decide (j+1=l.length))||kp))=false->kq 7 l.length 0 l=false:=λh=>by rw[i2,h];rfl
 clear i2;refine ae ?_;refine kR Zr CS s ?_;refine ae ?_;refine kH q Zr ZP (λv Post S=>?_);obtain⟨rfl,rfl⟩:=S;simp only[aE];refine ae ?_;refine VO.bool 29 (decide (y.kind=9)&&decide (j+1=l.length)) Zr ?_ ?_
 .by_cases k9:y.kind=9
  .skip
   rw[show decide ((y.kind:Int)=9)=true from Zt Zo];refine ae ?_;refine⟨?_,ZU,ZI⟩;rw[show decide ((j:Int)=(l.length:Int) - 1)=decide (j+1=l.length)from decide_eq_decide.2 ⟨λh=>by omega,λh=>by omega⟩];simp[k9]
  .skip
   exact zET
 generalize (decide (y.kind=9)&&decide (j+1=l.length))=ret at B g|-;cases f with
 |false=>
  refine ae ?_;exact kG (Post:=[A]) (.inr rfl) (.tmp Zr .nil) ⟨by rw[g rfl];rfl,rfl⟩ ZI
 |true=>
  cases ret with
  |true=>
   refine ae ?_;exact⟨j+1,B Zs,Zo,ZU,ZI⟩
  |false=>
   refine ae ?_;refine kR Zr CS s ?_;refine ae ?_;refine kL d Zr ?_;cases kp with
   |true=>
    refine ae ?_;exact⟨j+1,B Zs,Zo,ZU,ZI⟩
   |false=>
    refine ae ?_;exact kG (Post:=[A]) (.inr rfl) (.tmp Zr .nil) ⟨by rw[g Zs];rfl,rfl⟩ ZI
theorem KI(x:Md):jt x=if(decide (kS x.aQ=x.args.length/\0<=x.aA/\x.aA<=255)&&(x.args.all jF&&(x.ab.all jF&&kq 7 x.body.length 0 x.body)))=false then 150 else if(decide (15 < x.args.length)||(decide (63 < x.ab.length)||x.body.any js))=true then 151 else if(x.body.any λy=>decide (40 < w9 y))=true then 152 else 0:=by
 unfold jt zC wa;rw[RY,fP,jx,fP,jx,jx,<- mx_any];generalize (decide (kS x.aQ=x.args.length/\0<=x.aA/\x.aA<=255)&&(x.args.all jF&&(x.ab.all jF&&kq 7 x.body.length 0 x.body)))=b1;generalize (decide (15 < x.args.length)||(decide (63 < x.ab.length)||x.body.any js))=d;cases b1 with
 |false=>rfl
 |true=>
  simp only[cR,if_true,Tt];cases d <;> simp
theorem Ih {k m:Nat}:∀{l:List Nd} {i:Nat},kq k m i l=true->∀y∈l,jd y=true:=λ{l i} h y d=>KV h y d
theorem Hq(A:List kC)(hE:oD A)(x:Md)(hw:Nd.ws x.body<=274877906944)(vs:List Value)(h:MH A x vs):au Tryz.prog 34 [.agg vs.toArray] [A] (λv Post=>v=vi (jt x)/\Post=[A]):=by
 rw[KI];obtain⟨⟨aa,ac,ta,tc,a,c,bk,o,us,rfl,bD,bB,hk⟩,bZ,pN⟩:=h;have dD:=ib x.aQ bZ;have s5:=tu x.aQ bZ;have Z:=lZ A _ x.args bD;have G:=lZ A _ x.ab bB;have Y:=Od A hE x.body hw a c bk o us hk;have K:=@Ih 7 x.body.length x.body 0;have hla:x.args.length<=1099511627776:=by obtain⟨_,_,_,h,_⟩:=bD;exact h
 have aJ:x.ab.length<=1099511627776:=by obtain⟨_,_,_,h,_⟩:=bB;exact h
 obtain⟨ha,bH,hm,hr⟩:=hk;obtain⟨d,W⟩:∃p,x.aA=p:=⟨_,rfl⟩;rw[W]at pN|-;generalize kS x.aQ=g at dD s5|-;generalize x.args.all jF=M at Z|-;generalize x.ab.all jF=T at G|-;generalize kq 7 x.body.length 0 x.body=F at Y K|-;refine au.intro low34 Zn9 ?_;refine jH ?_;refine kX Zr (λq=>?_);simp only[Value.cells];refine jH ?_;refine kL dD Zr ?_;refine jH ?_;refine kH Z Zr ZP (λv Post m=>?_);obtain⟨rfl,rfl⟩:=m;simp only[aE];refine VO.bool 19 (M&&T) Zr ?_ ?_
 .cases M with
  |false=>
   refine ae ?_;exact⟨Zs,ZU,ZI⟩
  |true=>
   refine ae ?_;refine kH G Zr ZP (λv Post m=>?_);obtain⟨rfl,rfl⟩:=m;simp only[aE];refine ae ?_;exact⟨Zs,ZU,ZI⟩
 refine jH ?_;refine kH Y Zr ZP (λv Post m=>?_);obtain⟨rfl,rfl⟩:=m;simp only[aE];refine jH ?_;generalize E:(M&&T)=nm;have B:(decide (g=x.args.length/\0<=d/\d<=255)&&(M&&(T&&F)))=(decide (g=x.args.length/\0<=d/\d<=255)&&(nm&&F)):=by rw[<- E,Bool.and_assoc]
 rw[B];refine VC.join (α:=Unit) (λ_=>[(1,kE q)]) (λ_=>[A,kA q 0 [.string x.aQ,.slice aa x.args.length ac,.slice ta x.ab.length tc,vi d,.slice a x.body.length c]]) (λ_=>(decide (g=x.args.length/\0<=d/\d<=255)&&(nm&&F))=true) ?_ ?_
 .refine ae ?_;have stop:∀b:Bool,b=false->(if b=false then 150 else if(decide (15 < x.args.length)||(decide (63 < x.ab.length)||x.body.any js))=true then 151 else if(x.body.any λy=>decide (40 < w9 y))=true then 152 else 0)=150:=λb h=>if_pos h
  by_cases h1:g < 0
  .skip
   rw[show decide (g < 0)=true from Zt Zo];exact zBK
  rw[show decide (g < 0)=false from Zf Zo];refine ae ?_;by_cases h2:g=x.args.length;rotate_left
  .skip
   rw[show decide (g=(x.args.length:Int))=false from Zf Zo];exact zBK
  rw[show decide (g=(x.args.length:Int))=true from Zt Zo];refine ae ?_;cases nm with
  |false=>
   exact zES
  |true=>
   refine ae ?_;by_cases h3:d < 0
   .skip
    rw[show decide (d < 0)=true from Zt Zo];exact zBK
   rw[show decide (d < 0)=false from Zf Zo];refine ae ?_;by_cases h4:d > 255
   .skip
    rw[show decide (d > 255)=true from Zt Zo];exact zBK
   rw[show decide (d > 255)=false from Zf Zo];refine ae ?_;cases F with
   |false=>
    exact zES
   |true=>
    refine ae ?_;exact⟨(),by rw[Zt Zo];rfl,ZU,ZI⟩
 rintro⟨⟩ O
 rw[O];have U:F=true:=by
  simp only[vG]at O;exact O.2.2
 have K:=K U;rw[if_neg Zs];refine ae ?_;refine VO.bool 59 (decide (15 < x.args.length)||decide (63 < x.ab.length)) Zr ?_ ?_
 .by_cases h1:15 < x.args.length
  .skip
   rw[show decide ((x.args.length:Int) > 15)=true from Zt Zo];refine ae ?_;exact⟨by simp[h1],ZU,ZI⟩
  .skip
   rw[show decide ((x.args.length:Int) > 15)=false from Zf Zo];refine ae ?_;refine⟨?_,ZU,ZI⟩;rw[show decide ((x.ab.length:Int) > 63)=decide (63 < x.ab.length)from decide_eq_decide.2 ⟨λh=>by omega,λh=>by omega⟩];simp[h1]
 rw[<- vR];generalize (decide (15 < x.args.length)||decide (63 < x.ab.length))=D;refine jH ?_;refine VC.join (α:=Unit) (λ_=>[(6,.bool (D||x.body.any js)),(7,.bool (x.body.any λy=>decide (40 < w9 y)))]) (λ_=>[A]) (λ_=>True) ?_ ?_
 .refine ae ?_;refine VC.loop (α:=Nat) (bg:=λj=>[(1,kE q),(6,.bool (D||(x.body.take j).any js)),(7,.bool ((x.body.take j).any λy=>decide (40 < w9 y))),(8,vi j)]) (Hf:=λ_=>[A,kA q 0 [.string x.aQ,.slice aa x.args.length ac,.slice ta x.ab.length tc,vi d,.slice a x.body.length c]]) (I:=λj=>j<=x.body.length) (μ:=λj=>x.body.length - j) 0 (X3 _) (by simp only[Qm,List.any_nil,vV];exact C0) ZI ?_
  rintro j i1
  by_cases hj:j < x.body.length;rotate_left
  .rw[Ql Zo];generalize (x.body.any λy=>decide (40 < w9 y))=d1;generalize (D||x.body.any js)=m1;refine ae ?_;rw[show decide ((j:Int) < (x.body.length:Int))=false from Zf Zo];exact Sk
  obtain rfl:=ha Zo;obtain⟨y,H⟩:∃y,x.body[j]? =some y:=⟨_,Zg hj⟩;have L:=hr j y H;have cG:=hm j hj;have S:=L.len;have hzw:y.w<=Nd.ws x.body:=Nd.cj (Zv H);have s:=N3 A _ y (Qt _) _ L;have J:=K y (Zv H);have N:=NY A _ y (Qt _) Zo J _ L;have K3:=Au J;have X:(x.body.take (j+1)).any js=((x.body.take j).any js||js y):=by rw[Qi,H];simp
  have C:((x.body.take (j+1)).any λy=>decide (40 < w9 y))=((x.body.take j).any (λy=>decide (40 < w9 y))||decide (40 < w9 y)):=by rw[Qi,H];simp
  generalize us j=uj at L cG s N S;have E:(D||(x.body.take (j+1)).any js)=((D||(x.body.take j).any js)||js y):=by rw[X,vR]
  generalize (D||(x.body.take j).any js)=mj at E|-;generalize ((x.body.take j).any λy=>decide (40 < w9 y))=dj at C|-;generalize js y=my at s E;generalize w9 y=Q at N K3 C;refine ae ?_;rw[show decide ((j:Int) < (x.body.length:Int))=true from Zt Zo];refine ae ?_;refine VO.bool 75 (mj||my) Zr ?_ ?_
  .cases mj with
   |true=>
    refine ae ?_;exact⟨Zs,ZU,ZI⟩
   |false=>
    refine ae ?_;refine kR Zr CS S ?_;refine ae ?_;refine kH s Zr ZP (λv Post m=>?_);obtain⟨rfl,rfl⟩:=m;simp only[aE];refine ae ?_;exact⟨Zs,ZU,ZI⟩
  refine ae ?_;refine VO.bool 85 (dj||decide (40 < Q)) Zr ?_ ?_
  .cases dj with
   |true=>
    refine ae ?_;exact⟨Zs,ZU,ZI⟩
   |false=>
    refine ae ?_;refine kR Zr CS S ?_;refine ae ?_;refine kH N Zr ZP (λv Post m=>?_);obtain⟨rfl,rfl⟩:=m;simp only[aE];refine ae ?_;refine⟨?_,ZU,ZI⟩;rw[show decide ((Q:Int) > 40)=decide (40 < Q)from decide_eq_decide.2 ⟨λh=>by omega,λh=>by omega⟩];simp
  refine ae ?_;refine⟨j+1,Zo,Zo,?_,ZI⟩;rw[E,C];exact C0
 rintro⟨⟩ _
 generalize (x.body.any λy=>decide (40 < w9 y))=d1;generalize (D||x.body.any js)=m1;cases m1 with
 |true=>
  exact YT
 |false=>
  cases d1 with
  |true=>
   exact YT
  |false=>
   exact YT
theorem blk_rd {A:List kC}{x:Md}{g:Option Addr}{j:Nat}{m:Option Addr}{q:Nat}{a:Option Addr}{c bk o:Nat}{us:Nat->List Value}(B:cO A (.slice g x.args.length j) x.args)(s:cO A (.slice m x.ab.length q) x.ab)(d:pT A x.body a bk o us)(C:x.body.length<=c):
 jN A (.mk 7 e0 Go.V.eV x.args x.ab x.body 0) [.int .u8 7,.string ⟨#[]⟩,.int .u8 0,.int .i64 0,.int .u64 0,.string ⟨#[]⟩,Nz,.slice g x.args.length j,.slice m x.ab.length q,.slice a x.body.length c,.int .i64 0]:=
 .mk (lv:=[cv 0,vi 0,uv 0,.string e0,Nz]) ⟨Zd,Zd,d.many,Zd,Zd⟩ (eV A) B s d.at_ d.mem d.rd C
theorem Ge(T:List kC):∀(N:Nat) (x:Lt),x.size<=N->∀vs ws,zl T x vs->zl T x ws->au Tryz.prog 92 [.agg vs.toArray,.agg ws.toArray] [T] (λv Post=>v=.bool true/\Post=[T]):=by
 intro N
 induction N with
 |zero=>intro x s;have:=x.size_pos;omega
 |succ N ih=>
  intro x s vs ws h C;cases h with
  |@mk k n b t items a c bk o us wf ha hm hr=>
  cases C with
  |@mk _ _ _ _ _ a' c' bk' o' Sy wf' Kg hm' s7=>
  have bH:=wf.many;refine au.intro low92 Zn9 ?_;refine ae ?_;refine kX Zr (λq=>?_);refine kX Zr (λA=>?_);simp only[Value.cells];refine ae ?_;rw[show decide ((k:Int)=(k:Int))=true from Zt rfl];refine ae ?_;rw[show decide (n=n)=true from Zt rfl];refine ae ?_;rw[show decide ((b:Int)=(b:Int))=true from Zt rfl];refine ae ?_;rw[show decide (t=t)=true from Zt rfl];refine ae ?_;refine VC.loop (α:=Nat) (bg:=λj=>[(2,kE q),(3,kE A),(5,vi j)]) (Hf:=λ_=>[T,kA q 0 [cv k,vi n,uv b,.string t,.slice a items.length c],kA A 0 [cv k,vi n,uv b,.string t,.slice a' items.length c']])
   (I:=λj=>j<=items.length) (μ:=λj=>items.length - j) 0 (X3 _) ZU ZI ?_
  intro j i1;refine ae ?_;by_cases hj:j < items.length;rotate_left
  .rw[show decide ((j:Int) < ((items.length:Nat):Int))=false from Zf Zo];exact zDJ
  rw[show decide ((j:Int) < ((items.length:Nat):Int))=true from Zt Zo];obtain rfl:=ha Zo;obtain rfl:=Kg Zo;obtain⟨x,d⟩:∃x,items[j]? =some x:=⟨_,Zg hj⟩;have D:=hm j hj;have E:=hm' j hj;have B:=(hr j x d).len;have g:=(s7 j x d).len;have az:=ih x (by have:=Lt.aD (Zv d);simp only[Lt.size]at s;omega) _ _ (hr j x d) (s7 j x d);refine ae ?_;refine kR Zr (λz m=>Zw _ (D z m)) B ?_;refine ae ?_;refine kR Zr (λz m=>Zw _ (E z m)) g ?_;exact zDP
theorem Du(T:List kC)(rs:List jZ)(hn:rs.length<=1099511627776)(v w:Value)(C:wA T v rs)(D:wA T w rs):au Tryz.prog 93 [v,w] [T] (λv Post=>v=.bool true/\Post=[T]):=by
 obtain⟨a,c,rfl,B⟩:=C;obtain⟨m,q,rfl,s⟩:=D;refine au.intro low93 Zn9 ?_;refine ae ?_;refine VC.loop (α:=Nat) (bg:=λj=>[(0,.slice a rs.length c),(1,.slice m rs.length q),(5,vi j)]) (Hf:=λ_=>[T]) (I:=λj=>j<=rs.length) (μ:=λj=>rs.length - j) 0 (X3 _) ZU ZI ?_;intro j i1;refine ae ?_;by_cases hj:j < rs.length;rotate_left
 .rw[show decide ((j:Int) < ((rs.length:Nat):Int))=false from Zf Zo];exact zDJ
 rw[show decide ((j:Int) < ((rs.length:Nat):Int))=true from Zt Zo];obtain⟨r,d⟩:∃r,rs[j]? =some r:=⟨_,Zg hj⟩;obtain⟨b,o,rfl,A⟩:=B j r d;obtain⟨b2,o2,rfl,E⟩:=s j r d;refine ae ?_;refine kR (us:=kf r) Zr (λz g=>Zw _ (A z g)) rfl ?_;refine ae ?_;refine kR (us:=kf r) Zr (λz g=>Zw _ (E z g)) rfl ?_;unfold kf;refine ae ?_;exact⟨j+1,Zo,Zo,ZU,ZI⟩
theorem Dr(T:List kC):∀(N:Nat) (x:PN),PN.w x<=N->∀vs ws,DJ T x vs->DJ T x ws->PN.w x<=1099511627776->au Tryz.prog 37 [.agg vs.toArray,.agg ws.toArray] [T] (λv Post=>v=.bool true/\Post=[T]):=by
 intro N
 induction N with
 |zero=>intro x m;cases x;simp only[PN.w]at m;omega
 |succ N ih=>
  intro x m vs ws h J L;cases h with
  |@mk k nm lit refs un cf kids lv rv a c bk o us hl hr ha hm hs=>
  cases J with
  |@mk _ _ _ _ _ _ _ lv' rv' a' c' bk' o' Sy s6 s7 Kg hm' AX=>
  simp only[PN.w]at m L;have Q:=Ge T _ lit (Qt _) _ _ hl s6;have H:=Du T refs Zo _ _ hr s7;obtain⟨S,U,rfl,_⟩:=hr;obtain⟨C,D,rfl,_⟩:=s7;obtain⟨M,O,rfl⟩:=ed hl;obtain⟨A,B,rfl⟩:=ed s6;refine au.intro low37 Zn9 ?_;simp only[aE];refine ae ?_;refine kX Zr (λq=>?_);refine kX Zr (λE=>?_);simp only[Value.cells];refine ae ?_;refine kH Q Zr ZP (λv Post hv=>?_);obtain⟨rfl,rfl⟩:=hv;simp only[aE];refine ae ?_;refine kH H Zr ZP (λv Post hv=>?_);obtain⟨rfl,rfl⟩:=hv;simp only[aE];refine ae ?_;rw[show decide ((k:Int)=(k:Int))=true from Zt rfl];refine ae ?_;rw[show decide (nm=nm)=true from Zt rfl];refine ae ?_;rw[show decide (un=un)=true from Zt rfl];refine ae ?_;rw[show(if true=true then !cf==cf else cf==cf)=false by cases cf <;> rfl];refine ae ?_;refine VC.loop (α:=Nat) (bg:=λj=>[(2,kE q),(3,kE E),(7,vi j)]) (Hf:=λ_=>[T,kA q 0 (rB k nm lit.kind lit.n lit.bits lit.text M lit.items.length O S refs.length U un cf a kids.length c),kA E 0 (rB k nm lit.kind lit.n lit.bits lit.text A lit.items.length B C refs.length D un cf a' kids.length c')])
   (I:=λj=>j<=kids.length) (μ:=λj=>kids.length - j) 0 (X3 _) ZU ZI ?_
  have Fq:=x4 kids;intro j i1;refine ae ?_;by_cases hj:j < kids.length;rotate_left
  .rw[show decide ((j:Int) < ((kids.length:Nat):Int))=false from Zf Zo];exact zDJ
  rw[show decide ((j:Int) < ((kids.length:Nat):Int))=true from Zt Zo];obtain rfl:=ha Zo;obtain rfl:=Kg Zo;obtain⟨x,d⟩:∃x,kids[j]? =some x:=⟨_,Zg hj⟩;have K:=hm j hj;have G:=hm' j hj;have F:=(hs j x d).len;have g:=(AX j x d).len;have Fz:=PN.E1 (Zv d);have az:=ih x Zo _ _ (hs j x d) (AX j x d) Zo;refine ae ?_;refine kR Zr (λz s=>Zw _ (K z s)) F ?_;refine ae ?_;refine kR Zr (λz s=>Zw _ (G z s)) g ?_;exact zDP
def DG(S:List kC)(err:Value)(e:Nat)(p:Int):Prop:=(err=.nilIface/\e=0/\p=0)∨∃q,err=flP q/\kC.cell q 1 (.int .i64 p)∈S/\kC.cell q 2 (.iface 44 (.int .i64 e))∈S
theorem DG.more {S T:List kC}{d:Value}{e:Nat}{p:Int}(h:DG S d e p)(g:∀y∈S,y∈T):DG T d e p:=by
 rcases h with h|⟨q,j,m,s⟩
 .exact .inl h
 .exact .inr ⟨q,j,g _ m,g _ s⟩
theorem E4(S:List kC)(g:EtA∈S){d:Value}{e:Nat}{p:Int}(h:DG S d e p):au Tryz.prog 16 [d] [S] (λv Post=>v=.tuple #[.int .i64 e,.int .i64 p]/\Post=[S]):=by
 rcases h with⟨rfl,rfl,rfl⟩|⟨q,rfl,h2,h3⟩
 .exact N4 S
 .exact Hz S g q p e h2 h3
def ResF(S:List kC)(aQ:ByteArray)(aA:Int)(a:List jp×Nat×Int)(v:Value)(B:List kC):Prop:=∃yv err,v=.tuple #[.agg #[.string (if a.2.1=0 then aQ else e0),.int .i64 (if a.2.1=0 then aA else 0),yv],err]/\th B yv a.1/\DG B err a.2.1 a.2.2
theorem Jw {S:List kC}{F G:List ByteArray}{x:Md}{v:Value}{Post:SH}(h:ResR S F G x v Post):∃B,ResF S x.aQ x.aA (hK F G x) v B/\Post=[S,B]:=by
 rcases h with⟨l,yv,B,e1,rfl,xV,rfl⟩|⟨e,p,q,e1,cI,rfl,rfl⟩
 .rw[e1];exact⟨B,⟨yv,.nilIface,rfl,xV,.inl ⟨rfl,rfl,rfl⟩⟩,rfl⟩
 .rw[e1];refine⟨_,⟨_,_,?_,th.nil _,.inr ⟨q,rfl,kJ.2 ⟨1,_,rfl,Zs⟩,kJ.2 ⟨2,_,rfl,Zs⟩⟩⟩,rfl⟩;simp only[if_neg cI];rfl
mutual
theorem MO:∀x:PN,PN.w (PN.pH x)=PN.w x
 |.mk k s l rs u b kids=>by rw[PN.pH,PN.w,PN.w,HL kids,Q6]
theorem HL:∀l:List PN,PN.ws (PN.dh l)=PN.ws l
 |[]=>rfl
 |x::r=>by rw[PN.dh,PN.ws,PN.ws,MO x,HL r]
end
mutual
theorem XI:∀x:PN,PN.w x.aW=PN.w x
 |.mk k s l rs u b kids=>by rw[PN.aW,PN.w,PN.w,NE kids,Q6]
theorem NE:∀l:List PN,PN.ws (PN.bY l)=PN.ws l
 |[]=>rfl
 |x::r=>by rw[PN.bY,PN.ws,PN.ws,XI x,NE r]
end
mutual
theorem EO(B:Nat):∀x:PN,PN.lits B x->PN.lits B x.aW
 |.mk k s l rs u b kids,h=>by
  rw[PN.lits]at h;rw[PN.aW,PN.lits];exact⟨h.1,Cj B kids h.2⟩
theorem Cj(B:Nat):∀l:List PN,PN.bj B l->PN.bj B (PN.bY l)
 |[],h=>by rw[PN.bY];exact h
 |x::r,h=>by
  rw[PN.bj]at h;rw[PN.bY,PN.bj];exact⟨EO B x h.1,Cj B r h.2⟩
end
theorem NG:∀(l:List PN) (k:Nat),(PN.bY l)[k]? =(l[k]?).map PN.aW
 |[],k=>by rw[PN.bY];simp
 |x::r,0=>by rw[PN.bY];rfl
 |x::r,k+1=>by rw[PN.bY,Vm,Vm];exact NG r k
theorem Ju:∀l:List PN,(PN.bY l).length=l.length
 |[]=>rfl
 |x::r=>by rw[PN.bY,Vz,Vz,Ju r]
theorem Ky {S:List kC}{F G:List ByteArray}{x:Md}{v:Value}{Post:SH}(h:ResR S F G x v Post)(ο:iX x.args x.ab x.body<=1048576):(hK F G x).1.length<=1099511627776/\∀y∈(hK F G x).1,y.copied.length<=1099511627776/\PN.ws y.body<=2097152:=by
 rcases h with⟨l,yv,B,e1,_⟩|⟨e,p,q,e1,_⟩
 .have j:=N6 e1;rw[e1];refine⟨by have:=j.many;simp only;omega,λy g=>?_⟩;obtain⟨i,s⟩:=List.mem_iff_getElem?.1 g;obtain⟨d,A,UO,C⟩:=j.unit i y s;have m:=d.args;have CT:=d.locals;have:y.frame=y.args+y.copied.length+y.locals+(if 0 < y.ay then 1 else 0):=rfl;split at this <;> omega
 .rw[e1];exact⟨Zs,λy g=>by cases g⟩
theorem xu(A:List kC)(hE:oD A)(hT:EtA∈A)(x:Md)(vs:List Value)(h:MH A x vs)(rV:∀a c,vs[4]? =some (.slice a x.body.length c)->x.body.length<=c)(F G:List ByteArray)(fv gv:Value)(hF:cO A fv F)(hG:cO A gv G)(hFs:∀t∈F,t.size < 140737488355328)(hGs:∀t∈G,t.size < 140737488355328):au Tryz.prog 7 [.agg vs.toArray,fv,gv] [A] (λv Post=>v=.bool true/\Post=[A]):=by
 have hfar:=Ty A x vs h F G fv gv hF hG;have ξ:=λhw=>Hq A hE x hw vs h
 have hres:=λhw=>fI A x vs (h.ok hE hw) F G fv gv hF hG
 have hnF:=io A F fv hF hFs;have hnG:=io A G gv hG hGs;have fq:=Cq x.body;have hmd:=h;have cE:x.args.length<=1099511627776:=by
  obtain⟨⟨aa,ac,ta,tc,a,c,bk,o,us,_,bD,_⟩,_⟩:=h;obtain⟨_,_,_,g,_⟩:=bD;exact g
 obtain⟨⟨aa,ac,ta,tc,a,c,bk,o,us,rfl,bD,bB,hk⟩,bZ,pN⟩:=h;have hblk:=blk_rd bD bB hk (rV a c rfl);obtain⟨fa,fc,rfl,fS,AO⟩:=hF;obtain⟨ga,gc,rfl,hgl,He⟩:=hG;refine au.intro low7 Zn9 ?_;refine ae ?_;refine kX Zr (λq3=>?_);simp only[Value.cells];refine ae ?_;refine kH (KD A hE hT) Zr ZP (λv Post d=>?_);obtain⟨rfl,rfl⟩:=d;simp only[aE];refine ae ?_;refine kH hfar Zr ZP (λv Post d=>?_);obtain⟨b,rfl,hb,rfl⟩:=d;simp only[aE];cases b with
 |true=>
  exact zBD
 |false=>
 obtain⟨fC,rG,Sp,hb4⟩:=hb rfl;refine ae ?_;refine kH (ξ Zo) Zr ZP (λv Post d=>?_);obtain⟨rfl,rfl⟩:=d;simp only[aE];refine ae ?_;by_cases hc:jt x=0;rotate_left
 .rw[show decide (((jt x:Nat):Int)=0)=false from Zf Zo];exact zBD
 rw[show decide (((jt x:Nat):Int)=0)=true from Zt Zo];refine ae ?_;have Za:(ot x).w<=274877906944:=by
  have e1:e0.size=0:=rfl;have e2:Go.V.eV.size=1:=by decide
  have e3:iX x.args x.ab x.body=1+x.args.length+x.ab.length+jM x.body:=rfl;unfold ot;rw[Nd.w];omega
 refine kH (HS A _ (ot x) (Qt _) Za (x6 hc) _ hblk) Zr ZP (λv Post d=>?_);obtain⟨ws,O,rfl,C9,rfl⟩:=d;simp only[aE];obtain⟨g1,g2,g3,g4,g5,g6,g7,h1,h2,h3,h4,h5,h6,bk9,o9,us9,hwe,_,hav9,htv9,_,ha9,hm9,hr9,_⟩:=eW C9.rd;have Iw:(jV (ot x)).args.length=x.args.length/\(jV (ot x)).ab.length=x.ab.length/\(jV (ot x)).kids.length=x.body.length:=⟨Q6 ..,Q6 ..,zG _⟩;rw[Iw.1,Iw.2.1,Iw.2.2]at hwe;subst hwe;refine ae ?_;refine kK (λq9=>?_);refine ae ?_;by_cases UH:zP (ot x)=true;rotate_left
 .rw[Bool.not_eq_true]at UH;rw[UH];exact zBD
 rw[UH];refine ae ?_;refine kK (λLY=>?_);refine ae ?_;refine kH (hres Zo Zo Zo fC Zo Zo) Zr ZP (λv Post d=>?_);obtain⟨nU,tQ⟩:=Ky d fC;obtain⟨Q,⟨yv,err,rfl,xV,herr⟩,rfl⟩:=Jw d;simp only[aE];obtain⟨ua,E,ubk,uo,uws,hu0,_⟩:=id xV;have hav9':cO O (.slice h1 x.args.length h2) (x.args.map bL):=by rw[Iw.1]at hav9;exact hav9
 have htv9':cO O (.slice h3 x.ab.length h4) (x.ab.map bL):=by rw[Iw.2.1]at htv9;exact htv9
 have hmdB:MH O (xN x) [.string x.aQ,.slice h1 x.args.length h2,.slice h3 x.ab.length h4,vi x.aA,.slice h5 x.body.length h6]:=
  ⟨⟨h1,h2,h3,h4,h5,h6,bk9,o9,us9,by unfold xN;simp only[Q6,zG],by unfold xN;rw[Q6];exact hav9',by unfold xN;rw[Q6];exact htv9',⟨ha9,by show(kZ x.body).length<=_;rw[zG];exact hk.many,hm9,hr9⟩⟩,bZ,pN⟩
 have Fj:=ZG F G hc UH;have Y:∀(S:List kC) (fv gv:Value),(∀y∈A,y∈S)->(∀y∈O,y∈S)->cO S fv (F.map bL)->cO S gv (G.map bL)->au Tryz.prog 15 [.agg #[.string x.aQ,.slice h1 x.args.length h2,.slice h3 x.ab.length h4,vi x.aA,.slice h5 x.body.length h6],fv,gv] [S] (λv Post=>∃B,ResF S x.aQ x.aA ((hK F G x).1.map jp.aW,(hK F G x).2) v B/\Post=[S,B]):=λS fv gv KX Hb k1 k2=>
  (fI S (xN x) _ ((hmdB.more Hb).ok (hE.more KX) (by have:=xT x.body;show Nd.ws (kZ x.body)<=_;omega)) _ _ fv gv k1 k2 (by rw[Q6];omega) (by rw[Q6];omega) (by rw[Ti];exact fC) (by show Nd.ap (kZ x.body)<=_;rw[qd];omega) (by have:=xT x.body;show Nd.ws (kZ x.body)<=_;omega)).mono λv Post d=>by
    rw[<- Fj];exact Jw d
 have hlits:=S6 F G x Zo;generalize hK F G x=J at*;obtain⟨W,hn0⟩:∃W,W=J.1.length:=⟨_,rfl⟩;rw[<- hn0]at hu0;subst hu0;obtain⟨q,bn⟩:∃q,q=(if J.2.1=0 then x.aQ else e0):=⟨_,rfl⟩;obtain⟨m,hpr⟩:∃m,m=(if J.2.1=0 then x.aA else 0):=⟨_,rfl⟩;rw[<- bn,<- hpr];refine ae ?_;refine kK (λC=>?_);refine jH ?_;refine VC.imp (H':=[kA C 0 [.string q,.int .i64 m,.slice ua W E],kA LY 0 [.string x.aQ,.slice h1 x.args.length h2,.slice h3 x.ab.length h4,vi x.aA,.slice h5 x.body.length h6],A,O,Q]) ZI ?_;clear hfar ξ hres;refine VC.oZ (α:=Nat×Value×Value×List kC) (λr=>[(12,kE C),(13,err),(14,kE r.1),(15,r.2.2.1)]) (λr=>[kA r.1 0 [.string q,.int .i64 m,r.2.1],r.2.2.2,kA C 0 [.string q,.int .i64 m,.slice ua W E],A,Q])
  (λr=>th r.2.2.2 r.2.1 (J.1.map jp.aW)/\DG r.2.2.2 r.2.2.1 J.2.1 J.2.2) ⟨?_,?_,?_,?_,?_,?_,?_,?_,?_,?_,?_,?_,?_,?_,?_,trivial⟩ ?_
 rotate_left 15
 .rintro⟨s,usv2,err2,B3⟩ ⟨Dd,It⟩
  dsimp only at Dd It|-;obtain⟨T,K⟩:∃T,T=A++(Q++B3):=⟨_,rfl⟩;have hTA:∀y∈A,y∈T:=λy D=>by rw[K];exact Zw _ D
  have hT2:∀y∈Q,y∈T:=λy D=>by rw[K];exact QH _ (Zw _ D)
  have hT3:∀y∈B3,y∈T:=λy D=>by rw[K];exact QH _ (QH _ D)
  have Hn:=E4 T (hTA _ hT) (herr.more hT2);have UT:=E4 T (hTA _ hT) (It.more hT3);have xV:=xV.more hT2;have Dd:=Dd.more hT3;refine VC.imp (H':=[T,kA C 0 [.string q,.int .i64 m,.slice ua W E],kA s 0 [.string q,.int .i64 m,usv2]]) (ai.cut (M:=[A,Q,B3,kA C 0 [.string q,.int .i64 m,.slice ua W E],kA s 0 [.string q,.int .i64 m,usv2]]) ZI (ai.perm (by simp[K]))) ?_;have hret:∀H:SH,ai H [T]->ai H [A]:=λH hH=>ai.cut hH (ai.cut (M:=[A,Q++B3]) (ai.perm (by simp[K])) ZI)
  clear K hmdB Y hnF hnG Fj herr It;generalize J.1=l at*;subst hn0;obtain⟨la,lc,CV,lo,lws,e1,k1,k2,k3⟩:=xV;obtain⟨ra,rc,rbk,ro,rws,e2,m1,m2,m3⟩:=Dd;rw[Q6]at e2 m1 m2;injection e1 with e1a e1b e1c
  subst e1a;subst e1c;subst e2;refine ae ?_;refine kH Hn Zr ZP (λv Post d=>?_);obtain⟨rfl,rfl⟩:=d;simp only[aE];refine ae ?_;refine kH UT Zr ZP (λv Post d=>?_);obtain⟨rfl,rfl⟩:=d;simp only[aE];refine ae ?_;rw[show decide ((J.2.1:Int)=(J.2.1:Int))=true from Zt rfl];refine ae ?_;rw[show decide (J.2.2=J.2.2)=true from Zt rfl];refine ae ?_;refine VC.loop (α:=Nat) (bg:=λj=>[(12,kE C),(14,kE s),(20,vi j)]) (Hf:=λ_=>[T,kA C 0 [.string q,.int .i64 m,.slice ua l.length E],kA s 0 [.string q,.int .i64 m,.slice ra l.length rc]]) (I:=λj=>j<=l.length) (μ:=λj=>l.length - j) 0 (X3 _) ZU ZI ?_;intro i hi;refine ae ?_;by_cases aJ:i < l.length;rotate_left
  .rw[show decide ((i:Int) < (l.length:Int))=false from Zf Zo];refine ae ?_;exact kG (Post:=[A]) (.inr rfl) (.tmp Zr .nil) ⟨rfl,rfl⟩ (hret _ ZI)
  rw[show decide ((i:Int) < (l.length:Int))=true from Zt Zo];obtain⟨y,D⟩:∃y,l[i]? =some y:=⟨_,Zg aJ⟩;have Sv:(l.map jp.aW)[i]? =some y.aW:=by rw[Vu,D];rfl
  have hur:=k3 i y D;have hum:=k2 i aJ;have hur2:=m3 i y.aW Sv;have hum2:=m2 i aJ;obtain⟨pA,hbw⟩:=tQ y (Zv D);have Hc:=hlits y (Zv D);have IH:=hur.len;have hul2:=hur2.len;obtain rfl:=k1 Zo;obtain rfl:=m1 Zo;obtain⟨cv,bv,IJ,⟨ca,cc,rfl,_⟩,⟨ba,bc,bbk,bo,bus,rfl,hba,hbm,hbs⟩⟩:=hur;obtain⟨cv2,bv2,Z,⟨ca2,cc2,ecv,_⟩,⟨ba2,bc2,X,bo2,bus2,ebv,ζ,hbm2,hbs2⟩⟩:=hur2;have hrl:y.aW.body.length=y.body.length:=Ju _;rw[hrl]at ebv ζ hbm2;rw[show y.aW.copied.length=y.copied.length from rfl]at ecv;subst ecv;subst ebv;unfold NT at IJ Z;rw[show y.aW.outer=y.outer from rfl,show y.aW.args=y.args from rfl,show y.aW.locals=y.locals from rfl,show y.aW.ay=y.ay from rfl]at Z;generalize lws i=lw at*;generalize rws i=rw9 at*;refine ae ?_;refine kR (us:=lw) Zr (λu hu=>QN.2 ⟨T,Zs,hum u hu⟩) IH ?_;rw[IJ];refine ae ?_;refine kK (λL=>?_);refine ae ?_;refine kR (us:=rw9) Zr (λu hu=>QN.2 ⟨T,Zs,hum2 u hu⟩) hul2 ?_;rw[Z];refine ae ?_;refine kK (λN=>?_);refine ae ?_;rw[show decide ((y.body.length:Int)=(y.body.length:Int))=true from Zt rfl];refine ae ?_;rw[show decide (y.args=y.args)=true from Zt rfl];refine ae ?_;rw[show decide (y.locals=y.locals)=true from Zt rfl];refine ae ?_;rw[show decide (y.ay=y.ay)=true from Zt rfl];refine ae ?_;have hblen:=PN.Lr y.body;refine VC.loop (α:=Nat) (bg:=λk=>[(12,kE C),(14,kE s),(20,vi i),(21,kE L),(22,kE N),(23,vi k)]) (Hf:=λ_=>[T,kA C 0 [.string q,.int .i64 m,.slice (some ⟨CV,lo,none⟩) l.length E],kA s 0 [.string q,.int .i64 m,.slice (some ⟨rbk,ro,none⟩) l.length rc],kA L 0 [.int .i64 y.outer,.int .i64 y.args,.slice ca y.copied.length cc,.int .i64 y.locals,.int .i64 y.ay,.slice ba y.body.length bc],kA N 0 [.int .i64 y.outer,.int .i64 y.args,.slice ca2 y.copied.length cc2,.int .i64 y.locals,.int .i64 y.ay,.slice ba2 y.body.length bc2]]) (I:=λk=>k<=y.body.length) (μ:=λk=>y.body.length - k) 0 (X3 _) ZU ZI ?_;intro k hk9;refine ae ?_;by_cases Fq:k < y.body.length;rotate_left
  .rw[show decide ((k:Int) < (y.body.length:Int))=false from Zf Zo];refine ae ?_;exact⟨i+1,Zo,Zo,ZU,ZI⟩
  rw[show decide ((k:Int) < (y.body.length:Int))=true from Zt Zo];obtain⟨p,hp⟩:∃p,y.body[k]? =some p:=⟨_,Zg Fq⟩;have rX:y.aW.body[k]? =some p.aW:=by show(PN.bY y.body)[k]? =_;rw[NG,hp];rfl
  obtain rfl:=hba Zo;obtain rfl:=ζ Zo;have Fz:=PN.E1 (Zv hp);have nQ:=PN.oL Hc (Zv hp);have hpw2:=XI p;have hb1':=DL T _ p (Qt _) Zo nQ (bus k) (hbs k p hp);have hb2':=DL T _ p.aW (Qt _) Zo (EO _ p nQ) (bus2 k) (hbs2 k p.aW rX);have UG:=fun(U:List kC) (v w:List Value) h1 h2=>Dr U _ (PN.pH p) (Qt _) v w h1 h2 (by rw[MO];omega)
  rw[HN]at hb2';have hbk:=hbm k Fq;have hbk2:=hbm2 k Fq;have Up:=(hbs k p hp).len;have dE:=(hbs2 k p.aW rX).len;generalize bus k=bu at*;generalize bus2 k=bu2 at*;refine jH ?_;refine VC.oZ (α:=Unit) (λ_=>[(12,kE C),(14,kE s),(20,vi i),(21,kE L),(22,kE N),(23,vi k),(24,.bool true)]) (λ_=>[T,kA C 0 [.string q,.int .i64 m,.slice (some ⟨CV,lo,none⟩) l.length E],kA s 0 [.string q,.int .i64 m,.slice (some ⟨rbk,ro,none⟩) l.length rc],kA L 0 [.int .i64 y.outer,.int .i64 y.args,.slice ca y.copied.length cc,.int .i64 y.locals,.int .i64 y.ay,.slice (some ⟨bbk,bo,none⟩) y.body.length bc],kA N 0 [.int .i64 y.outer,.int .i64 y.args,.slice ca2 y.copied.length cc2,.int .i64 y.locals,.int .i64 y.ay,.slice (some ⟨X,bo2,none⟩) y.body.length bc2]]) (λ_=>True) ⟨?_,?_,?_,trivial⟩ ?_;rotate_left 3
  .rintro⟨⟩ -
   refine ae ?_;exact⟨k+1,Zo,Zo,ZU,ZI⟩
  all_goals
   refine ae ?_;refine kR (us:=bu) Zr (λu hu=>QN.2 ⟨T,Zs,hbk u hu⟩) Up ?_;refine ae ?_
   try (refine kR (us:=bu2) Zr (λu hu=>QN.2 ⟨T,Zs,hbk2 u hu⟩) dE ?_;refine ae ?_)
   refine kH hb1' Zr ZP (λv Post d=>?_);obtain⟨w1,B4,rfl,hr4,rfl⟩:=d;simp only[aE];refine ae ?_
   try (refine kR (us:=bu2) Zr (λu hu=>QN.2 ⟨T,Zs,hbk2 u hu⟩) dE ?_;refine ae ?_)
   refine kH hb2' Zr ZP (λv Post d=>?_);obtain⟨w2,B5,rfl,hr5,rfl⟩:=d;simp only[aE];refine ae ?_;refine VO.imp (H':=(B4++B5)::[T,kA C 0 [.string q,.int .i64 m,.slice (some ⟨CV,lo,none⟩) l.length E],kA s 0 [.string q,.int .i64 m,.slice (some ⟨rbk,ro,none⟩) l.length rc],kA L 0 [.int .i64 y.outer,.int .i64 y.args,.slice ca y.copied.length cc,.int .i64 y.locals,.int .i64 y.ay,.slice (some ⟨bbk,bo,none⟩) y.body.length bc],kA N 0 [.int .i64 y.outer,.int .i64 y.args,.slice ca2 y.copied.length cc2,.int .i64 y.locals,.int .i64 y.ay,.slice (some ⟨X,bo2,none⟩) y.body.length bc2]]) (ai.cut (M:=B4::B5::[T,kA C 0 [.string q,.int .i64 m,.slice (some ⟨CV,lo,none⟩) l.length E],kA s 0 [.string q,.int .i64 m,.slice (some ⟨rbk,ro,none⟩) l.length rc],kA L 0 [.int .i64 y.outer,.int .i64 y.args,.slice ca y.copied.length cc,.int .i64 y.locals,.int .i64 y.ay,.slice (some ⟨bbk,bo,none⟩) y.body.length bc],kA N 0 [.int .i64 y.outer,.int .i64 y.args,.slice ca2 y.copied.length cc2,.int .i64 y.locals,.int .i64 y.ay,.slice (some ⟨X,bo2,none⟩) y.body.length bc2]]) ZI (ai.perm Zs)) ?_;refine kH (UG (B4++B5) w1 w2 (hr4.more λz hz=>Zw _ hz) (hr5.more λz hz=>QH _ hz)) Zr ZP (λv Post d=>?_);obtain⟨rfl,rfl⟩:=d;simp only[aE];exact Sk
 all_goals
  refine ae ?_
  try (refine kK (λs=>?_);refine ae ?_)
  refine kH hnF Zr ZP (λv Post d=>?_);obtain⟨BF,htF,rfl⟩:=d;simp only[aE];obtain⟨fa2,fc2,eF,_,_⟩:=id htF.rd;rw[Q6]at eF;subst eF;refine ae ?_
  try (refine kK (λs=>?_);refine ae ?_)
  refine kH hnG Zr ZP (λv Post d=>?_);obtain⟨BG,htG,rfl⟩:=d;simp only[aE];obtain⟨ga2,gc2,eG,_,_⟩:=id htG.rd;rw[Q6]at eG;subst eG;refine ae ?_
  try (refine kK (λs=>?_);refine ae ?_)
  first
   |refine VO.imp (H':=(A++(O++(BF++BG)))::[kA s 0 [.string ⟨#[]⟩,.int .i64 0,Nz],kA C 0 [.string q,.int .i64 m,.slice ua W E],Q]) (ai.cut (M:=[A,O,BF,BG,kA s 0 [.string ⟨#[]⟩,.int .i64 0,Nz],kA C 0 [.string q,.int .i64 m,.slice ua W E],Q]) ZI (ai.perm Zs)) ?_
   |refine VO.imp (H':=(A++(O++(BF++BG)))::[kA C 0 [.string q,.int .i64 m,.slice ua W E],Q]) (ai.cut (M:=[A,O,BF,BG,kA C 0 [.string q,.int .i64 m,.slice ua W E],Q]) ZI (ai.perm Zs)) ?_
  refine kH (Y (A++(O++(BF++BG))) _ _ (λy D=>by simp[D]) (λy D=>by simp[D]) (htF.rd.more λy D=>by simp[D]) (htG.rd.more λy D=>by simp[D])) Zr ZP (λv Post d=>?_);obtain⟨B3,⟨usv2,err2,rfl,Dd,It⟩,rfl⟩:=d;simp only[vr,QV,<- bn,<- hpr];obtain⟨ua2,uc2,_,_,_,UO,_⟩:=id Dd;subst UO;refine ae ?_
  try (refine kK (λs=>?_);refine ae ?_)
  exact⟨(s,_,err2,B3),⟨Dd,It⟩,ZU,ai.cut (M:=[A,O++(BF++BG),kA s 0 [.string q,.int .i64 m,.slice ua2 (J.1.map jp.aW).length uc2],B3,kA C 0 [.string q,.int .i64 m,.slice ua W E],Q]) (ai.cut (M:=[A++(O++(BF++BG)),kA s 0 [.string q,.int .i64 m,.slice ua2 (J.1.map jp.aW).length uc2],B3,kA C 0 [.string q,.int .i64 m,.slice ua W E],Q]) ZI (ai.perm Zs)) ZI⟩
open Go Go.V Go.ChangeShapes Go.WideShapes Go.Deep
section
variable {H:Type} {enc:TypeId×Value->H}
theorem xn {W:World}{base:Nat}{v:Value}{d:DataW H}{p:List MemPlace}(X:Value.okWide Tryz.prog W .any base 22 v)(h:DataW.Trod enc Tryz.prog W 0 (λ_=>true) true 22 v d p)(L:Rows.uptoBulk d<=1048576)(N:W.noneFrozen p){A:List kC}(J:∀a:kC,a.holds W->a∈A):∃l:List ByteArray,cO A v l/\∀t∈l,t.size < 140737488355328:=by
 obtain⟨n,T⟩:=h;have rG:Rows.uptoBulk (d,p).1<=1048576:=L;have g:v.cells=#[v]:=by
  cases v <;> simp only[Value.okWide,u22,Cell.okWide,Cell.ok]at X <;> rfl
 have B:DataW.trod enc Tryz.prog W 0 (λ_=>true) true n 22 [v]=some (d,p):=by simpa[g]using T
 obtain⟨a,k,c,bk,o,us,D,Pl,m,rfl,⟨hk,_⟩,K,O⟩:=sB uK u22 c9 Zd B N J;obtain⟨l,S,j⟩:=eL (α:=ByteArray) (Q:=λi t=>kC.cell bk (o+i) (.string t)∈A/\t.size<=1048576) (n:=k) (λi q=>by
  obtain⟨F,h2,G,I,h5⟩:=O i q;obtain⟨s,g,M,_⟩:=DataW.trod_string u9 I;refine⟨s,G _ (kJ.2 ⟨0,.string s,by rw[g];rfl,by rw[Nat.mul_one];rfl⟩),?_⟩;have E:D i=.lit (.string s.data.toList):=congrArg Prod.fst M;have:=uK.str (H:=H) s.data.toList;rw[E]at F;have e2:s.data.toList.length=s.size:=by simp
  omega)
 refine⟨l,⟨a,c,by rw[S],Zo,λi t h=>?_⟩,λt U=>?_⟩
 .have q:i < k:=by have:=(Vt.1 h).1;omega
  exact⟨bk,o,K Zo,(j i t h).1,by have:=(j i t h).2;omega⟩
 .obtain⟨i,C⟩:=Vv U;have:=(j i t C).2;omega
end
end Go.Proofs.YtijnokbblmbpkaaGreatDoor

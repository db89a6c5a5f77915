/-
  A part of the proof.
-/
import Derived.Test.YtijnokbblmbpkaaGreatDoorU11
import Derived.Test.YtijnokbblmbpkaaGreatDoorU6
import Derived.KernelRfl
import Derived.Test.YtijnokbblmbpkaaGreatDoorProg
import Derived.Test.YtijnokbblmbpkaaGreatDoorU3
import Derived.Test.YtijnokbblmbpkaaGreatDoorU4
import Derived.Test.YtijnokbblmbpkaaGreatDoorCards
import Derived.Test.YtijnokbblmbpkaaGreatDoorTie
import Derived.OpenShut
import Derived.Deep.DeepHandedRow
import Derived.Deep.DeepWitnessRowRef
import Derived.Lib.LaidTab
import Derived.JoinedCond
import Derived.Lay
import Derived.LaidSub
import Derived.LaidHandle
import Derived.Stop.LaidErr
import Derived.Test.YtijnokbblmbpkaaGreatDoorU7
import Derived.Test.YtijnokbblmbpkaaGreatDoorU5
set_option linter.all false
set_option maxHeartbeats 12800000
set_option maxRecDepth 100000
namespace Go.Proofs.YtijnokbblmbpkaaGreatDoor
open Go Go.V
theorem oD.more {A B:List kC}(h:oD A)(j:∀x∈A,x∈B):oD B:=by
 obtain⟨ev,d,g⟩:=h;exact⟨ev,j _ d,g⟩
theorem KD(A:List kC)(hE:oD A)(hT:EtA∈A):au Tryz.prog 11 [] [A] (λv Post=>v=.bool true/\Post=[A]):=by
 refine au.intro low11 Zn9 ?_;refine ae ?_;refine kH (m1_spec A) Zr ZP (λv Post m=>?_);obtain⟨vs1,F,rfl,CU,rfl⟩:=m;simp only[aE];refine VO.imp (H':=[A++F]) (ai.perm Zs) ?_;have s:Hy (A++F) m1 vs1:=(CU.more λz d=>QH _ d).ok (hE.more λz d=>Zw _ d) w_m1;have G:=CU.more (B:=A++F) λz d=>QH _ d
 have Z7:oD (A++F):=hE.more λz d=>Zw _ d
 have K:EtA∈A++F:=Zw _ hT;have I:∃R,A++F=A++R:=⟨F,rfl⟩;generalize A++F=g at s G Z7 K I|-;clear CU;obtain⟨⟨T,U,ta,tc,a,c,bk,o,us,rfl,bD,bB,D⟩,bZ,pN⟩:=G;refine ae ?_;refine kK (λZ=>?_);refine ae ?_;refine kK (λq2=>?_);refine ae ?_;refine kH (Res1 g _ s) Zr ZP (λv Post m=>?_);obtain⟨aQ,aA,yv,B,rfl,xV,rfl⟩:=m;obtain⟨ub,uo,uc,rb1,ro1,rc1,rb2,ro2,rc2,rfl,W,X,Y,O,Q⟩:=Yo xV;simp only[aE];refine VO.imp (H':=[g++B,kA Z 0 [.string m1.aQ,.slice T m1.args.length U,.slice ta m1.ab.length tc,vi m1.aA,.slice a m1.body.length c]]) (ai.cut (M:=[g,B,kA Z 0 [.string m1.aQ,.slice T m1.args.length U,.slice ta m1.ab.length tc,vi m1.aA,.slice a m1.body.length c]]) ZI (ai.perm Zs)) ?_
 replace W:kC.cell ub (uo+4) (.int .i64 2)∈g++B:=QH _ W
 replace X:=QH g X
 replace Y:=QH g Y
 replace O:∀y∈kA rb1 ro1 [.int .u8 5,.int .i64 1,.int .i64 0,.string ⟨#[]⟩],y∈g++B:=λy C=>QH g (O y C)
 replace Q:∀y∈kA rb2 (ro2+4) [.int .u8 5,.int .i64 0,.int .i64 0,.string ⟨#[]⟩],y∈g++B:=λy C=>QH g (Q y C)
 have pL:∃bk o us,pT (g++B) m1.body a bk o us:=⟨bk,o,us,D.at_,D.many,λi hi y C=>Zw _ (D.mem i hi y C),λi x e=>(D.rd i x e).more λz d=>Zw _ d⟩;have Z8:oD (g++B):=Z7.more λz d=>Zw _ d
 have L:EtA∈g++B:=Zw _ K;have J:∃R,g++B=A++R:=by
  obtain⟨R,rfl⟩:=I;exact⟨R++B,vm _ _ _⟩
 clear D s bD bB xV;generalize g++B=j at W X Y O Q pL Z8 L J|-;clear Z7 K I;refine ae ?_;refine kK (λq3=>?_);refine ae ?_;refine kH (m2_spec j) Zr ZP (λv Post m=>?_);obtain⟨vs2,q,rfl,qK,rfl⟩:=m;simp only[aE];refine VO.imp (H':=[j++q,kA Z 0 [.string m1.aQ,.slice T m1.args.length U,.slice ta m1.ab.length tc,vi m1.aA,.slice a m1.body.length c],kA q3 0 [.string aQ,.int .i64 aA,.slice (some ⟨ub,uo,none⟩) 3 uc]]) (ai.cut (M:=[j,q,kA Z 0 [.string m1.aQ,.slice T m1.args.length U,.slice ta m1.ab.length tc,vi m1.aA,.slice a m1.body.length c],kA q3 0 [.string aQ,.int .i64 aA,.slice (some ⟨ub,uo,none⟩) 3 uc]]) ZI (ai.perm Zs)) ?_;have s:Hy (j++q) m2 vs2:=(qK.more λz d=>QH _ d).ok (Z8.more λz d=>Zw _ d) w_m2;obtain⟨⟨aa2,ac2,ta2,tc2,a2,c2,_,_,_,rfl,_,_,_⟩,_,_⟩:=qK;refine ae ?_;refine kK (λq4=>?_);refine ae ?_;refine kK (λq5=>?_);refine ae ?_;refine kH (Res2 (j++q) _ s) Zr ZP (λv Post m=>?_);obtain⟨qf,rfl,rfl⟩:=m;simp only[aE];refine VO.imp (H':=[(j++q)++jU qf 181 4,kA Z 0 [.string m1.aQ,.slice T m1.args.length U,.slice ta m1.ab.length tc,vi m1.aA,.slice a m1.body.length c],kA q3 0 [.string aQ,.int .i64 aA,.slice (some ⟨ub,uo,none⟩) 3 uc]]) (ai.cut (M:=[j++q,jU qf 181 4,kA Z 0 [.string m1.aQ,.slice T m1.args.length U,.slice ta m1.ab.length tc,vi m1.aA,.slice a m1.body.length c],kA q3 0 [.string aQ,.int .i64 aA,.slice (some ⟨ub,uo,none⟩) 3 uc]]) ZI (ai.perm Zs)) ?_;have fS:∀y∈jU qf 181 4,y∈j++q++jU qf 181 4:=λy C=>QH _ C
 have f1:kC.cell qf 1 (.int .i64 4)∈j++q++jU qf 181 4:=fS _ (kJ.2 ⟨1,_,rfl,Zs⟩);have f2:kC.cell qf 2 (.iface 44 (.int .i64 181))∈j++q++jU qf 181 4:=fS _ (kJ.2 ⟨2,_,rfl,Zs⟩);clear fS s;have E:∀z∈j,z∈j++q++jU qf 181 4:=λz d=>Zw _ (Zw _ d)
 replace W:=E _ W
 replace X:=E _ X
 replace Y:=E _ Y
 replace O:=λy C=>E y (O y C)
 replace Q:=λy C=>E y (Q y C)
 have hT3:=E _ L;obtain⟨bk,o,us,D⟩:=pL;have H:pT (j++q++jU qf 181 4) m1.body a bk o us:=⟨D.at_,D.many,λi hi y C=>E _ (D.mem i hi y C),λi x e=>(D.rd i x e).more E⟩;have hA3:∃R,j++q++jU qf 181 4=A++R:=by
  obtain⟨R,rfl⟩:=J;exact⟨R++(q++jU qf 181 4),Zs⟩
 clear E D Z8 L J;generalize j++q++jU qf 181 4=S at W X Y O Q f1 f2 hT3 H hA3|-;refine ae ?_;refine kK (λq6=>?_);refine ae ?_;refine kH (Hz S hT3 qf 4 181 f1 f2) Zr ZP (λv Post m=>?_);obtain⟨rfl,rfl⟩:=m;simp only[aE];obtain rfl:=H.at_ Zd;refine ae ?_;obtain⟨n1,e1,O5⟩:=X9.1 fr_b1;obtain⟨n0,e0',hn0⟩:=X9.1 inl_b0;have Hn:n1.w<=274877906944:=Qv (Nd.cj (Zv e1)) w_m1;refine kR (us:=us 1) Zr (λu N=>by simp only[Vd,QG];exact .inl (H.mem 1 Zd u N)) (jN.len (H.rd 1 n1 e1)) ?_;refine ae ?_;refine kH (NZ S n1 (us 1) (H.rd 1 n1 e1) Hn) Zr ZP (λv Post m=>?_);obtain⟨B3,hto,rfl⟩:=m;have Ed:=hto.rd;rw[O5]at Ed;obtain⟨fa,fc,rfl,_,hr⟩:=Ed;obtain⟨fb,fo,rfl,k6,_⟩:=hr 0 _ rfl;rw[Qp]at k6;clear hto hr;simp only[aE];refine ae ?_;refine j8 (out:=z11) Zr Zr (λqb=>?_);refine ae ?_;refine kH (r9 (kA qb 0 z11) wh0 _ (wh0_rd qb 1 (Qt _))) Zr ZP (λv Post m=>?_);obtain⟨rfl,rfl⟩:=m;rw[inl_wh];simp only[aE];refine ae ?_;refine kR (us:=us 0) Zr (λu N=>by simp only[Vd,QG];have:=H.mem 0 Zd u N;simp[this]) (jN.len (H.rd 0 n0 e0')) ?_;refine ae ?_;refine kH (r9 S n0 (us 0) (H.rd 0 n0 e0')) Zr ZP (λv Post m=>?_);obtain⟨rfl,rfl⟩:=m;rw[hn0];simp only[aE];refine ae ?_;refine kR (us:=[.int .u8 5,.int .i64 1,.int .i64 0,.string ⟨#[]⟩]) Zr (λu N=>by have:=O u N;simp only[Vd,QG];simp[this]) rfl ?_;refine ae ?_;refine kR (us:=[.int .u8 5,.int .i64 0,.int .i64 0,.string ⟨#[]⟩]) Zr (λu N=>by have:=Q u N;simp only[Vd,QG];simp[this]) rfl ?_;refine ae ?_;obtain⟨R,rfl⟩:=hA3;exact kG (Post:=[A]) (.inr rfl) (.tmp (v:=.bool true) Zr .nil) ⟨rfl,rfl⟩ (ai.cut (M:=[A++R]) ZI ⟨[R],by simp[V.fJ]⟩)
noncomputable section
def F24:aO:=aZ (o:=gF pq Tryz.f24 [])
theorem low24:Zo9 24 [] F24:=Zx9
def F67:aO:=aZ (o:=gF pq Tryz.f67 [])
theorem low67:Zo9 67 [] F67:=Zx9
def F68:aO:=aZ (o:=gF pq Tryz.f68 [])
theorem low68:Zo9 68 [] F68:=Zx9
def F42:aO:=aZ (o:=gF pq Tryz.f42 [])
theorem low42:Zo9 42 [] F42:=Zx9
def F12:aO:=aZ (o:=gF pq Tryz.f12 [])
theorem low12:Zo9 12 [] F12:=Zx9
end
theorem ed {A:List kC}{x:Lt}{vs:List Value}(h:zl A x vs):∃(e:Option Addr) (c:Nat),vs=[cv x.kind,vi x.n,uv x.bits,.string x.text,.slice e x.items.length c]:=by
 cases h with
 |mk wf ha hm hr=>exact⟨_,_,rfl⟩
def wB(s:Int):Int:=max s 262144+140737488355329
theorem yL(A:List kC)(d:Value)(l:List ByteArray)(h:cO A d l)(s:Int)(m:0<=s/\s<=2305843009213693952):au Tryz.prog 68 [d,vi s] [A] (λv Post=>∃r,v=vi r/\0<=r/\r<=wB s/\(r<=262144->s+l.length<=r)/\Post=[A]):=by
 obtain⟨a,c,rfl,hl,g⟩:=h;refine au.intro low68 Zn9 ?_;refine ae ?_;refine VC.loop (α:=Nat×Int) (bg:=λz=>[(0,.slice a l.length c),(1,vi z.2),(5,vi z.1)]) (Hf:=λ_=>[A])
  (I:=λz=>z.1<=l.length/\0<=z.2/\z.2<=wB s/\s+z.1<=z.2) (μ:=λz=>l.length - z.1) (0,s) ⟨X3 _,m.1,by unfold wB;omega,by simp only;omega⟩ ZU ZI ?_
 rintro⟨j,r⟩ ⟨B,i2,i3,C⟩
 simp only at B i2 i3 C;dsimp only;unfold wB at i3;refine ae ?_;by_cases hj:j < l.length;rotate_left
 .rw[show decide ((j:Int) < (l.length:Int))=false from Zf Zo];exact zDY
 rw[show decide ((j:Int) < (l.length:Int))=true from Zt Zo];refine ae ?_;by_cases cP:r<=262144;rotate_left
 .rw[Zf cP];exact zDY
 rw[Zt cP];obtain⟨x,q⟩:∃x,l[j]? =some x:=⟨_,Zg hj⟩;obtain⟨b1,o1,rfl,Y3,nU⟩:=g j x q;refine ae ?_;refine⟨(j+1,r+1+x.size),⟨by simp only;omega,by simp only;omega,by simp only;unfold wB;omega,by simp only;omega⟩,by simp only;omega,ZU,ZI⟩
theorem DD(A:List kC):∀(N:Nat) (x:Lt),x.size<=N->∀vs,zl A x vs->∀(s d:Int),0<=s->s<=2305843009213693952->0<=d->d<=60001->au Tryz.prog 67 [.agg vs.toArray,vi s,vi d] [A] (λv Post=>∃r,v=vi r/\0<=r/\r<=wB s/\(r<=262144->s+x.size<=r)/\Post=[A]):=by
 intro N
 induction N with
 |zero=>intro x E;have:=x.size_pos;omega
 |succ N ih=>
  intro x E vs h s d nU tQ L C7;cases h with
  |@mk k n b t items a c bk o us wf ha hm hr=>
  have bH:=wf.many;have M:=wf.text;refine au.intro low67 Zn9 ?_;refine ae ?_;refine kX Zr (λq=>?_);simp only[Value.cells];refine ae ?_;by_cases hd:d > 60000
  .rw[Zt hd];refine ae ?_;exact kG (Post:=[A]) (.inr rfl) (.tmp Zr .nil) ⟨262145,rfl,Zo,by unfold wB;omega,λg=>absurd g Zd,rfl⟩ ZI
  rw[Zf hd];refine ae ?_;refine VC.loop (α:=Nat×Int) (bg:=λz=>[(1,vi z.2),(2,vi d),(3,kE q),(7,vi z.1)]) (Hf:=λ_=>[A,kA q 0 [cv k,vi n,uv b,.string t,.slice a items.length c]])
   (I:=λz=>z.1<=items.length/\0<=z.2/\z.2<=wB s/\(z.2<=262144->s+1+Lt.ap (items.take z.1)<=z.2)) (μ:=λz=>items.length - z.1) (0,s+1+t.size) ⟨X3 _,by simp only;omega,by simp only;unfold wB;omega,λ_=>by simp only[Qm,Lt.ap];omega⟩ ZU ZI ?_
  rintro⟨j,r⟩ ⟨Q,m,i3,C⟩
  simp only at Q m i3 C;dsimp only;unfold wB at i3;refine ae ?_;by_cases hj:j < items.length;rotate_left
  .rw[show decide ((j:Int) < (items.length:Int))=false from Zf Zo];refine ae ?_;exact kG (Post:=[A]) (.inr rfl) (.tmp Zr .nil) ⟨r,rfl,m,by unfold wB;omega,λg=>(by have:=C g;rw[Ql Zo]at this;simp only[Lt.size];omega),rfl⟩ ZI
  rw[show decide ((j:Int) < (items.length:Int))=true from Zt Zo];refine ae ?_;by_cases cP:r<=262144;rotate_left
  .rw[Zf cP];refine ae ?_;exact kG (Post:=[A]) (.inr rfl) (.tmp Zr .nil) ⟨r,rfl,m,by unfold wB;omega,λg=>absurd g cP,rfl⟩ ZI
  rw[Zt cP];obtain rfl:=ha Zo;obtain⟨y,B⟩:∃y,items[j]? =some y:=⟨_,Zg hj⟩;have cG:=hm j hj;have D:=hr j y B;have H:=D.len;have h1:=Lt.aD (Zv B);simp only[Lt.size]at E;have F:=ih y Zo _ D r (d+1) m Zo Zo Zo;refine ae ?_;refine kR Zr CS H ?_;refine ae ?_;refine kH F Zr ZP (λv Post O=>?_);obtain⟨S,rfl,h2,J,K,rfl⟩:=O;have i5:=C cP;have G:=lt_take B;unfold wB at J;simp only[aE];refine ae ?_;refine⟨(j+1,S),⟨by simp only;omega,by simp only;omega,by simp only;unfold wB;omega,λg=>by simp only at g|-;have:=K g;rw[G];omega⟩,by simp only;omega,ZU,ZI⟩
def wN(s:Int):Int:=max s 262144+562949953421316
theorem CJ(A:List kC):∀(N:Nat) (x:Nd),x.w<=N->∀vs,jN A x vs->∀(s d:Int),0<=s->s<=1152921504606846976->0<=d->d<=60001->au Tryz.prog 24 [.agg vs.toArray,vi s,vi d] [A] (λv Post=>∃r,v=vi r/\0<=r/\r<=wN s/\(r<=262144->s+x.w<=r)/\Post=[A]):=by
 intro N
 induction N with
 |zero=>intro x M;have:=x.iy;omega
 |succ N ih=>
  intro x M vs h s d O Q hd1 C7;cases h with
  |@mk k nm lit args ab kids p lv av tv a c bk o us wf hl bD bB ha hm hr rV=>
  have bH:=wf.many;have O6:=wf.name;have nM:=λs O Q=>DD A _ lit (Qt _) lv hl s 0 O Q Zo Zo
  have W:=λs D=>yL A av args bD s D
  have E:=λs D=>yL A tv ab bB s D
  obtain⟨X,Y,rfl,_,_⟩:=bD;obtain⟨ta,tc,rfl,_,_⟩:=bB;obtain⟨la,lc,rfl⟩:=ed hl;refine au.intro low24 Zn9 ?_;simp only[aE];refine ae ?_;refine kX Zr (λq=>?_);simp only[Value.cells];refine ae ?_;refine kH (nM (s+1+nm.size) Zo Zo) Zr ZP (λv Post g=>?_);obtain⟨r1,rfl,h1,C,S,rfl⟩:=g;unfold wB at C;simp only[aE];refine ae ?_;refine kH (W r1 Zo) Zr ZP (λv Post g=>?_);obtain⟨r2,rfl,J,K,T,rfl⟩:=g;unfold wB at K;simp only[aE];refine ae ?_;refine kH (E r2 Zo) Zr ZP (λv Post g=>?_);obtain⟨B,rfl,h5,L,U,rfl⟩:=g;unfold wB at L;simp only[aE];have w4:B<=262144->s+1+nm.size+lit.size+args.length+ab.length<=B:=λhh=>by
   have a3:=U hh;have a2:=T Zo;have a1:=S Zo;omega
  clear S T U;have h7:B<=wN s:=by unfold wN;omega
  clear C K L;refine ae ?_;by_cases hd:d > 60000
  .rw[Zt hd];refine ae ?_;exact kG (Post:=[A]) (.inr rfl) (.tmp Zr .nil) ⟨262145,rfl,Zo,by unfold wN;omega,λhh=>absurd hh Zd,rfl⟩ ZI
  rw[Zf hd];refine ae ?_;refine VC.loop (α:=Nat×Int) (bg:=λz=>[(1,vi z.2),(2,vi d),(3,kE q),(7,vi z.1)]) (Hf:=λ_=>[A,kA q 0 (rA k nm lit.kind lit.n lit.bits lit.text la lit.items.length lc X args.length Y ta ab.length tc a kids.length c p)])
   (I:=λz=>z.1<=kids.length/\0<=z.2/\z.2<=wN s/\(z.2<=262144->s+1+nm.size+lit.size+args.length+ab.length+Nd.ws (kids.take z.1)<=z.2)) (μ:=λz=>kids.length - z.1) (0,B) ⟨X3 _,h5,h7,λhh=>by simp only at hh|-;have:=w4 hh;simp only[Qm,Nd.ws];omega⟩ ZU ZI ?_
  rintro⟨j,r⟩ ⟨i1,m,i3,G⟩
  simp only at i1 m i3 G;dsimp only;unfold wN at i3;refine ae ?_;by_cases hj:j < kids.length;rotate_left
  .rw[show decide ((j:Int) < (kids.length:Int))=false from Zf Zo];refine ae ?_;exact kG (Post:=[A]) (.inr rfl) (.tmp Zr .nil) ⟨r,rfl,m,by unfold wN;omega,λhh=>(by have:=G hh;rw[Ql Zo]at this;simp only[Nd.w];omega),rfl⟩ ZI
  rw[show decide ((j:Int) < (kids.length:Int))=true from Zt Zo];refine ae ?_;by_cases cP:r<=262144;rotate_left
  .rw[Zf cP];refine ae ?_;exact kG (Post:=[A]) (.inr rfl) (.tmp Zr .nil) ⟨r,rfl,m,by unfold wN;omega,λhh=>absurd hh cP,rfl⟩ ZI
  rw[Zt cP];obtain rfl:=ha Zo;obtain⟨y,F⟩:∃y,kids[j]? =some y:=⟨_,Zg hj⟩;have cG:=hm j hj;have H:=hr j y F;have eO:=H.len;have h1:=Nd.cj (Zv F);simp only[Nd.w]at M;have Z:=ih y Zo _ H r (d+1) m Zo Zo Zo;refine ae ?_;refine kR Zr CS eO ?_;refine ae ?_;refine kH Z Zr ZP (λv Post g=>?_);obtain⟨r',rfl,C,J,h9,rfl⟩:=g;have i5:=G cP;have cA:=Ns F;unfold wN at J;exact zCH
theorem uG(A:List kC)(x:Md)(vs:List Value)(h:MH A x vs):au Tryz.prog 42 [.agg vs.toArray] [A] (λv Post=>∃r,v=vi r/\(r<=262144->x.args.length+x.ab.length+Nd.ws x.body<=r)/\Post=[A]):=by
 obtain⟨⟨M,N,Z,tc,a,c,bk,o,us,rfl,S,Q,d⟩,bZ,pN⟩:=h;have L:=λs D=>yL A _ x.args S s D
 have E:=λs D=>yL A _ x.ab Q s D
 obtain⟨s,args,ab,p,body⟩:=x;simp only at*;have bH:=d.many;refine au.intro low42 Zn9 ?_;refine ae ?_;refine kX Zr (λq=>?_);simp only[Value.cells];refine ae ?_;refine kH (L s.size Zo) Zr ZP (λv Post g=>?_);obtain⟨Y,rfl,h1,C,J,rfl⟩:=g;unfold wB at C;simp only[aE];refine ae ?_;refine kH (E Y Zo) Zr ZP (λv Post g=>?_);obtain⟨B,rfl,U,m,K,rfl⟩:=g;have w4:B<=262144->args.length+ab.length<=B:=λhh=>by
  have a2:=K hh;have a1:=J Zo;omega
 clear J K;unfold wB at m;simp only[aE];have W:B<=wN 0+1000000000000000:=by unfold wN;omega
 clear C m;refine ae ?_;refine VC.loop (α:=Nat×Int) (bg:=λz=>[(1,kE q),(3,vi z.2),(4,vi z.1)]) (Hf:=λ_=>[A,kA q 0 [.string s,.slice M args.length N,.slice Z ab.length tc,vi p,.slice a body.length c]])
  (I:=λz=>z.1<=body.length/\0<=z.2/\z.2<=wN 0+1000000000000000/\(z.2<=262144->args.length+ab.length+Nd.ws (body.take z.1)<=z.2)) (μ:=λz=>body.length - z.1) (0,B) ⟨X3 _,U,W,λhh=>by simp only at hh|-;have:=w4 hh;simp only[Qm,Nd.ws];omega⟩ ZU ZI ?_
 rintro⟨j,r⟩ ⟨X,H,i3,G⟩
 simp only at X H i3 G;dsimp only;unfold wN at i3;refine ae ?_;by_cases hj:j < body.length;rotate_left
 .rw[show decide ((j:Int) < (body.length:Int))=false from Zf Zo];refine ae ?_;exact kG (Post:=[A]) (.inr rfl) (.tmp Zr .nil) ⟨r,rfl,λhh=>(by have:=G hh;rw[Ql Zo]at this;omega),rfl⟩ ZI
 rw[show decide ((j:Int) < (body.length:Int))=true from Zt Zo];refine ae ?_;by_cases cP:r<=262144;rotate_left
 .rw[Zf cP];refine ae ?_;exact kG (Post:=[A]) (.inr rfl) (.tmp Zr .nil) ⟨r,rfl,λhh=>absurd hh cP,rfl⟩ ZI
 rw[Zt cP];obtain rfl:=d.at_ Zo;obtain⟨y,F⟩:∃y,body[j]? =some y:=⟨_,Zg hj⟩;have cG:=d.mem j hj;have T:=(d.rd j y F).len;have O:=CJ A _ y (Qt _) _ (d.rd j y F) r 0 H Zo Zo Zo;refine ae ?_;refine kR Zr CS T ?_;refine ae ?_;refine kH O Zr ZP (λv Post g=>?_);obtain⟨r',rfl,C,m,h9,rfl⟩:=g;have i5:=G cP;have cA:=Ns F;unfold wN at m;exact zCH
theorem Ty(A:List kC)(x:Md)(vs:List Value)(h:MH A x vs)(F G:List ByteArray)(d g:Value)(m:cO A d F)(s:cO A g G):au Tryz.prog 12 [.agg vs.toArray,d,g] [A] (λv Post=>∃b,v=.bool b/\(b=false->iX x.args x.ab x.body<=1048576/\Nd.ws x.body<=65536/\F.length<=65536/\G.length<=65536)/\Post=[A]):=by
 have E:=uG A x vs h;have B:=Ap x.body;obtain⟨⟨aa,ac,ta,tc,a,c,bk,o,us,rfl,bD,bB,hk⟩,bZ,pN⟩:=h;obtain⟨fa,fc,rfl,fS,_⟩:=m;obtain⟨ga,gc,rfl,C,_⟩:=s;refine au.intro low12 Zn9 ?_;refine ae ?_;refine kX Zr (λq=>?_);simp only[Value.cells];refine ae ?_;refine kH E Zr ZP (λv Post D=>?_);obtain⟨r,rfl,j,rfl⟩:=D;simp only[aE];refine ae ?_;by_cases h1:65536 < r
 .rw[Zt h1];exact zEB
 rw[Zf h1];refine ae ?_;by_cases h2:65536 < (F.length:Int)
 .rw[Zt h2];exact zEB
 rw[Zf h2];refine ae ?_;have j:=j Zo;exact kG (Post:=[A]) (.inr rfl) (.tmp Zr .nil) ⟨_,rfl,λhh=>⟨by unfold iX gu;omega,Zo,Zo,by simp at hh;omega⟩,rfl⟩ ZI
theorem x4:∀(l:List PN),l.length<=PN.ws l
 |[]=>Qt _
 |x::r=>by
  have:=x4 r;have:0 < PN.w x:=by cases x;simp only[PN.w];omega
  rw[Vz];simp only[PN.ws];omega
theorem N6 {F G:List ByteArray}{x:Md}{l:List jp}(h:hK F G x=(l,0,0)):SU l x.args.length (iX x.args x.ab x.body):=by
 unfold hK at h;split at h
 case isFalse d=>exact absurd (congrArg (λt=>t.2.1) h) d
 rename_i d;have j:=lL d;refine L6 F G x.args x.ab x.body j ?_ h;cases hf:(zu F G x.args x.ab x.body).f with
 |none=>rfl
 |some e=>
  obtain⟨e,p⟩:=e;have g:=HI hf;rw[h]at g;have m:=(EQ F G x.args x.ab x.body j).err e p hf;have h3:(0:Nat)=e:=congrArg (λt=>t.2.1) g;unfold errW at m;omega
open Go Go.V Go.ChangeShapes Go.WideShapes Go.Deep
section
variable {H:Type} {enc:TypeId×Value->H}
theorem u3:Tryz.prog.underlying 3=some (.int .i64):=by kernel_rfl
theorem u4:Tryz.prog.underlying 4=some .bool:=by kernel_rfl
theorem u9:Tryz.prog.underlying 9=some .string:=by kernel_rfl
theorem u22:Tryz.prog.underlying 22=some (.slice 9):=by kernel_rfl
theorem u23:Tryz.prog.underlying 23=some (.slice 72):=by kernel_rfl
theorem u68:Tryz.prog.underlying 68=some (.slice 70):=by kernel_rfl
noncomputable def fs70:Array Field:=match Tryz.prog.underlying 70 with|some (.struct fs)=>fs|_=>#[]
theorem u70:Tryz.prog.underlying 70=some (.struct fs70):=by kernel_rfl
noncomputable def fs72:Array Field:=match Tryz.prog.underlying 72 with|some (.struct fs)=>fs|_=>#[]
theorem u72:Tryz.prog.underlying 72=some (.struct fs72):=by kernel_rfl
theorem litT:LitT Tryz.prog 70 68:=⟨⟨fs70,u70,by kernel_rfl,66,2,67,9,by kernel_rfl,by kernel_rfl,by kernel_rfl,by kernel_rfl,by kernel_rfl,by kernel_rfl,by kernel_rfl,by kernel_rfl,by kernel_rfl,by kernel_rfl⟩,by kernel_rfl,u68⟩
theorem nodT:NodT Tryz.prog 72 70 23 22:=⟨⟨fs72,u72,by kernel_rfl,65,9,3,by kernel_rfl,by kernel_rfl,by kernel_rfl,by kernel_rfl,by kernel_rfl,by kernel_rfl,by kernel_rfl,u22⟩,by kernel_rfl,by kernel_rfl,by kernel_rfl,by kernel_rfl,u23⟩
noncomputable def ms50:Array (String×TypeId):=match Tryz.prog.underlying 50 with|some (.interface ms)=>ms|_=>#[]
theorem u50:Tryz.prog.underlying 50=some (.interface ms50):=by kernel_rfl
theorem ZR:MQ Tryz.prog [2,3,4,9,22,23,25,65,66,67,68,70,72]=true:=by kernel_rfl
theorem ZQ:s9 Tryz.prog (·∈[2,3,4,9,22,23,25,65,66,67,68,70,72]):=Og ZR
theorem own:ownKnob Tryz.prog.godebug=none:=by kernel_rfl
theorem Te(d:DataW H):1<=Rows.uptoBulk d:=by
 cases d with
 |lit l=>cases l <;> simp[Rows.uptoBulk]
 |_=>simp[Rows.uptoBulk]
theorem Td(l:List (DataW H)):l.length<=Rows.uptoBulkAll l:=by
 induction l with
 |nil=>simp
 |cons d r ih=>
  have:=Te d;simp only[Rows.uptoBulkAll,Vz];omega
theorem HQ {d:DataW H}{l:List (DataW H)}(h:d∈l):Rows.uptoBulk d<=Rows.uptoBulkAll l:=by
 induction l with
 |nil=>cases h
 |cons y r ih=>
  simp only[Rows.uptoBulkAll];exact zCB
theorem HR(l:List (DataW H)):(l.map Rows.uptoBulk).sum=Rows.uptoBulkAll l:=by
 induction l with
 |nil=>rfl
 |cons d r ih=>simp only[QD,List.sum_cons,ih,Rows.uptoBulkAll]
theorem uK:SE (Rows.uptoBulk (H:=H)) where
 agg l d h:=by have:=HQ h;simp only[Rows.uptoBulk];omega
 sl es sp d h:=by have:=HQ h;simp only[Rows.uptoBulk];omega
 len es sp:=by have:=Td es;simp only[Rows.uptoBulk];omega
 str bs:=by simp only[Rows.uptoBulk];omega
 sls es sp:=by rw[HR];simp only[Rows.uptoBulk];omega
 aggs l:=by rw[HR];simp only[Rows.uptoBulk];omega
theorem gEr : Tryz.prog.globalNamed "strconv.ErrRange" = some 5 := by kernel_rfl
theorem gErT:(Tryz.prog.globals[5]?).map (·.type)=some 50:=by kernel_rfl
theorem gRen:Tryz.sl174_ren.g 16=5:=by kernel_rfl
theorem Xw {W : World} {d : DataW Unit} {r : List (String × DataW Unit)} (h : laidMet Tryz.prog (("strconv.ErrRange", d) :: r) W) (H : ∃ nm e, d = .iface nm e) {A : List kC} (F : ∀ a : kC, a.holds W → a ∈ A) : oD A := by
 obtain⟨nm,e,rfl⟩:=H;obtain⟨ps,⟨g0,t0,j,f0,p0,q0,q,s,B,m,_,e0⟩,_,D⟩:=h;obtain rfl:=XC (gEr.symm.trans q);obtain rfl:=XC (gErT.symm.trans s);subst e0;have C:∃g pe,j=#[.iface g pe]:=by
  obtain⟨_,g,pe,I,_,_⟩:=iface_of_trod u50 m;exact⟨g,pe,by rw[<- I]⟩
 obtain⟨g,pe,rfl⟩:=C;obtain⟨⟨c,t,G⟩,_⟩:=D 5 0 (by simp[MemPlace.row]);refine⟨.iface g pe,?_,.inr ⟨g,pe,rfl⟩⟩;rw[gRen];have E:W.cell? ⟨5,0,none⟩=some (.iface g pe):=by simpa using World.var?_cell gEr B 0
 refine F _ (Go.V.cz E ?_);unfold World.frozen?;rw[G];simp
noncomputable def Z4:Array Field:=match Tryz.prog.underlying 25 with|some (.struct fs)=>fs|_=>#[]
theorem u25:Tryz.prog.underlying 25=some (.struct Z4):=by kernel_rfl
theorem fs25s:Z4.size=5:=by kernel_rfl
theorem Ij:(Z4.toList.map λf=>(f.type,f.offset))=[(9,0),(22,1),(22,2),(3,3),(23,4)]:=by kernel_rfl
theorem c9:Tryz.prog.cellsOf 9=1:=by kernel_rfl
theorem c22:Tryz.prog.cellsOf 22=1:=by kernel_rfl
theorem c3:Tryz.prog.cellsOf 3=1:=by kernel_rfl
theorem c23:Tryz.prog.cellsOf 23=1:=by kernel_rfl
theorem c25:Tryz.prog.cellsOf 25=5:=by kernel_rfl
theorem c72:Tryz.prog.cellsOf 72=11:=by kernel_rfl
theorem md_form {W:World}{base:Nat}{v:Value}(d:Value.okWide Tryz.prog W .any base 25 v):∃cs:List Value,v=.agg cs.toArray:=by
 simp only[Value.okWide,u25]at d;obtain⟨cs,rfl,_⟩:=d;exact⟨cs.toList,Zs⟩
theorem rd_md {W:World}{A:List kC}(C:∀a:kC,a.holds W->a∈A)(n:Nat)(cs:List Value)(x:DataW H×List MemPlace)(Y:Rows.uptoBulk x.1<=1048576)(h:DataW.trod enc Tryz.prog W 0 (λ_=>true) true n 25 cs=some x)(hf:W.noneFrozen x.2):∃m:Md,MH A m cs/\(∀a c,cs[4]? =some (.slice a m.body.length c)->m.body.length<=c)/\(Nd.ws m.body<=Rows.uptoBulk x.1/\m.args.length<=Rows.uptoBulk x.1/\m.ab.length<=Rows.uptoBulk x.1):=by
 obtain⟨ys,k,_,rfl,hlen,eO,hfld⟩:=DataW.trod_struct u25 h;rw[c25]at hlen
 replace Y:Rows.uptoBulk (.agg (ys.map (·.1)))<=1048576:=Y
 have q:∀(i:Nat) (F off:Nat),(Z4.toList.map λf=>(f.type,f.offset))[i]? =some (F,off)->DataW.trod enc Tryz.prog W 0 (λ_=>true) true k F ((cs.drop off).take (Tryz.prog.cellsOf F))=ys[i]?:=λi F off hi=>by
  exact zC0
 have hyl5:ys.length=5:=by rw[eO];exact fs25s
 have j:∀i,i < 5->ys[i]? =some (ys.getD i (.nil,[])):=λi hi=>by
  rw[Vh,Zg Zo];rfl
 have U:=(q 0 9 0 (by rw[Ij];rfl)).trans (j 0 Zo);have I:=(q 1 22 1 (by rw[Ij];rfl)).trans (j 1 Zo);have J:=(q 2 22 2 (by rw[Ij];rfl)).trans (j 2 Zo);have X:=(q 3 3 3 (by rw[Ij];rfl)).trans (j 3 Zo);have K:=(q 4 23 4 (by rw[Ij];rfl)).trans (j 4 Zo);rw[c9]at U;rw[c22]at I J;rw[c3]at X;rw[c23]at K;obtain⟨s,e0,d0,_⟩:=DataW.trod_string u9 U;obtain⟨z3,e3,_,w3⟩:=DataW.trod_int u3 X;have B:∀i,i < 5->Rows.uptoBulk (ys.getD i (.nil,[])).1 < Rows.uptoBulk (.agg (ys.map (·.1))):=λi hi=>uK.agg _ _ (QO.2 ⟨_,Zv (j i hi),rfl⟩)
 have G:∀i,i < 5->W.noneFrozen (ys.getD i (.nil,[])).2:=λi hi b o η=>hf b o (AB (j i hi) η)
 obtain⟨v1,e1⟩:∃v,(cs.drop 1).take 1=[v]:=Q1.1 tj;obtain⟨v2,e2⟩:∃v,(cs.drop 2).take 1=[v]:=Q1.1 tj;obtain⟨v4,e4⟩:∃v,(cs.drop 4).take 1=[v]:=Q1.1 tj;rw[e1]at I;rw[e2]at J;rw[e4]at K;have l1:=B 1 Zo;have l2:=B 2 Zo;have l4:=B 4 Zo;obtain⟨args,S,L⟩:=sC uK u22 u9 c9 I (G 1 Zo) C Zo;obtain⟨ab,N,E⟩:=sC uK u22 u9 c9 J (G 2 Zo) C Zo;obtain⟨a,kk,c,bk,o,us,D,Pl,m,rfl,⟨hk,AR,hkc⟩,ha,hi⟩:=sB uK u23 c72 Zd K (G 4 Zo) C;obtain⟨l,hl,Z⟩:=eL (α:=Nd) (Q:=λi y=>jN A y (us i)/\y.w<=Rows.uptoBulk (D i)) (n:=kk) (λi O3=>by
  obtain⟨q1,_,_,q4,q5⟩:=hi i O3;exact rd_node uK nodT litT C (Rows.uptoBulk (D i)) m (us i) (D i,Pl i) (Qt _) Zo q4 q5)
 have b3:=wf_i64 w3;have Zb:s.size<=1048576:=by
  have h3:=B 0 Zo;have e:(ys.getD 0 (.nil,[])).1=.lit (.string s.data.toList):=congrArg Prod.fst d0;rw[e]at h3;have h5:=uK.str (H:=H) s.data.toList;have e2:s.data.toList.length=s.size:=by simp
  omega
 have hsz4:Nd.ws l<=Rows.uptoBulk (ys.getD 4 (.nil,[])).1:=by
  refine Qv (Nd.ws_le (f:=λi=>Rows.uptoBulk (D i)) (o:=0) (λi x M=>?_)) ?_
  .rw[X2];exact(Z i x M).2
  .rw[hl];exact AR
 have O:cs=[.string s,v1,v2,vi z3,.slice a l.length c]:=by
  exact zB9
 have g:=S;have d:=N;obtain⟨aa,ac,rfl,_,_⟩:=g;obtain⟨ta,tc,rfl,_,_⟩:=d;refine⟨⟨s,args,ab,z3,l⟩,⟨⟨aa,ac,ta,tc,a,c,bk,o,us,O,S,N,⟨λhp=>ha (by simp only at hp;omega),by simp only;omega,λi bU=>(hi i (by simp only at bU;omega)).2.2.1,λi x M=>(Z i x M).1⟩⟩,by simp only;omega,b3⟩,λa' c' T=>?_,?_⟩
 .rw[O]at T;simp only[Vm,Vn,XD,Value.slice.injEq]at T;simp only;omega
 show Nd.ws l<=Rows.uptoBulk (.agg (ys.map (·.1)))/\args.length<=Rows.uptoBulk (.agg (ys.map (·.1)))/\ab.length<=Rows.uptoBulk (.agg (ys.map (·.1)));omega
theorem witZ {C:Checked}{A:Os}{f:FuncId}{fn:Func}{s:OpenSpec}{j:List PathCond}{g:Bool}{laid:List (String×DataW Unit)}(w0:World)(args:Array Value)(m:w0.os=A)
 (B:(w0.forCall (λ_ _=>0) ⟨#[],args,[]⟩).Shaped C.prog) (q:Input.okWideB C.prog (w0.forCall (λ_ _=>0) ⟨#[],args,[]⟩) f ⟨#[],args,[]⟩=true)
 (D:s.preRow enc C.prog fn j g laid (w0.forCall (λ_ _=>0) ⟨#[],args,[]⟩).memory args):
 ∃(w:World) (d:Tape) (i:Input),w.os=A/\(w.forCall d i).Shaped C.prog/\i.vars=[]/\Input.okWide C.prog (w.forCall d i) .any w.heap.size f i/\
  s.preRow enc C.prog fn j g laid (w.forCall d i).memory i.args/\({modest:=false}:Assume).holds C.prog (lone (Frame.enter C.prog f i.args .normal) [] (w.forCall d i)):=
 ⟨w0,λ_ _=>0,⟨#[],args,[]⟩,m,B,(Input.okWide_of_okWideB (base:=0) q).1,(Input.okWide_of_okWideB q).2,D,by
   simp only[Assume.holds];exact⟨Zs,Zs,λ_=>Modest.zero,Zs,Zs⟩⟩
theorem gErr : Tryz.prog.globalNamed "errors.errorType" = some 0 := by kernel_rfl
theorem hRt : (Tryz.prog.cutTypes.find? (·.1 == "internal/reflectlite.rtype")).map (·.2) = some 242 := by kernel_rfl
theorem hOne:((List.range Tryz.prog.types.size).filter λt=>Tryz.prog.rowNamed t [101,114,114,111,114])=[50]:=by kernel_rfl
theorem hZero:(((begin Tryz.prog (λ_ _=>0) default).world.heap[0]?).bind Obj.row?).isSome=true:=by kernel_rfl
theorem hGlob:0 < Tryz.prog.globals.size:=by decide+kernel
theorem hIn : ("errors.errorType", Rows.laid_errors_errorType) ∈ Rows.scopeSoundUptoRow.laid :=
 QJ _ <|QJ _ <|QJ _ <|QJ _ <|QK ..
theorem Tw {W:World}(h:laidMetH Tryz.prog Rows.scopeSoundUptoRow.laid W):W.cell? ⟨0,0,none⟩=some (.iface 242 (.agg #[.pointer (some ⟨9,50,none⟩)])):=by
 obtain ⟨_, B⟩ := laidMetH_iff.1 h;obtain ⟨name, u, D, j, m, q, s, d⟩ := B ("errors.errorType", Rows.laid_errors_errorType) (QL.2 ⟨hIn, rfl⟩);have A : name = [101, 114, 114, 111, 114] := (XC j).symm;subst A;obtain rfl := XC (hRt.symm.trans m);have g : D ∈ (List.range Tryz.prog.types.size).filter λt => Tryz.prog.rowNamed t [101, 114, 114, 111, 114] := QL.2 ⟨QS.2 q, s⟩
 rw[hOne]at g;obtain rfl:=QU.1 g;have C:typeHandle Tryz.prog 50=.pointer (some ⟨9,50,none⟩):=by kernel_rfl
 rw[C]at d;simpa using World.var?_cell gErr d 0
theorem err_in {W:World}(h:laidMetH Tryz.prog Rows.scopeSoundUptoRow.laid W)(B:W.ShapedOpen Tryz.prog){A:List kC}(s:∀a:kC,a.holds W->a∈A):EtA∈A:=by
 obtain⟨⟨z,j⟩,d⟩:=X8.1 hZero;obtain⟨cs,g,hz,_⟩:=B.1 0 z j hGlob d;have m:=Tw h;have q:cs[0]? =some (.iface 242 (.agg #[.pointer (some ⟨9,50,none⟩)])):=by simpa[World.cell?,g]using m
 exact s _ ⟨cs,j,0,0,g,q,Zo⟩
noncomputable def Bl:List (String×DataW Unit):=Rows.scopeSoundUptoRow.laid.filter λx=>x.2.handleName?.isNone
noncomputable def w00(os:Os):World:=
 let w:=World.holding Tryz.prog os ⟨#[],#[],[]⟩
 {w with heap:=w.heap.modify 0 fun
    |.cells _ t frozen=>.cells #[.iface 242 (.agg #[.pointer (some ⟨9,50,none⟩)])] t frozen
    |o=>o}
noncomputable def wW(os:Os):World:=(w00 os).layVars Tryz.prog Bl
theorem wW_os(d:Os):(wW d).os=d:=World.layVars_os _ _ _
theorem wW_fits(d:Os):(w00 d).layFits Tryz.prog Bl []=true:=by kernel_rfl
theorem Sd(d:Os):(w00 d).layIfaces Tryz.prog Bl (wW d)=true:=by kernel_rfl
theorem wW_laid(d:Os)(args:Array Value):laidMet Tryz.prog Bl ((wW d).forCall (λ_ _=>0) ⟨#[],args,[]⟩).memory:=by
 have g:(Bl.filter λx=>(Bl.map (·.1)).contains x.1)=Bl:=V8.2 λx j=>vt.2 (QO.2 ⟨x,j,rfl⟩)
 have m:(Bl.filter λx=>!(Bl.map (·.1)).contains x.1)=[]:=V7.2 λx j=>by rw[vt.2 (QO.2 ⟨x,j,rfl⟩)];simp
 have h:laidMet Tryz.prog Bl (wW d):=laidMet_layVars (w0:=w00 d) (Bl.map (·.1)) [] (by rw[g];rfl) (by rw[g];exact wW_fits d) (by rw[g];exact Sd d) (by rw[m];exact LaidIn.none);exact h.of_heap (by simp[World.memory,World.forCall,Input.heap])
theorem lib_in {W:World}(h:laidMetH Tryz.prog Rows.scopeSoundUptoRow.laid W){A:List kC}(j:∀a:kC,a.holds W->a∈A):oD A:=by
 obtain ⟨d, _⟩ := laidMetH_iff.1 h;have g : laidMet Tryz.prog [("math/bits.deBruijn32tab", Rows.laid_math_bits_deBruijn32tab), ("math/bits.deBruijn64tab", Rows.laid_math_bits_deBruijn64tab), ("internal/strconv.uint64pow10", Rows.laid_internal_strconv_uint64pow10), ("unicode/utf8.acceptRanges", Rows.laid_unicode_utf8_acceptRanges), ("strconv.ErrRange", Rows.laid_strconv_ErrRange), ("strconv.ErrSyntax", Rows.laid_strconv_ErrSyntax), ("unicode/utf8.first", Rows.laid_unicode_utf8_first)] W := d;exact Xw (laidMet.tail (laidMet.tail (laidMet.tail (laidMet.tail g)))) ⟨_, _, rfl⟩ j
end
def F132:aO:=laid (X:=⟨21,[.tmp 2],(qS [qz 2 false] [0] (qS [qm 3 0,qo 4 (.bin .eql (.tmp 3) (.const (.string ⟨#[115,101,108,102]⟩))),qm 5 4,qu 5 (qm 6 0),
 qu 5 (qo 7 (.bin .eql (.tmp 6) (.const (.string ⟨#[115,117,112,101,114]⟩)))),qr 8 5 7,qm 9 8,qu 9 (qm 10 0),
 qu 9 (qo 11 (.bin .eql (.tmp 10) (.const (.string ⟨#[110,105,108]⟩)))),qr 12 9 11,qm 13 12,qu 13 (qm 14 0),
 qu 13 (qo 15 (.bin .eql (.tmp 14) (.const (.string ⟨#[116,114,117,101]⟩)))),qr 16 13 15,qm 17 16,qu 17 (qm 18 0),
 qu 17 (qo 19 (.bin .eql (.tmp 18) (.const (.string ⟨#[102,97,108,115,101]⟩)))),qr 20 17 19,qm 2 20] [2] .ret))⟩)
theorem Wo:pC Tryz.prog (kpO F132) (zW []) 132=some F132:=by kernel_rfl
def F145:aO:=laid (X:=⟨16,[.tmp 2],(qS [qz 2 false] [0] (qS [qo 3 (.mv (.const (.string ⟨#[43,45,42,47,92,126,60,62,61,64,37,38,63,44,33]⟩)))] [0,3] (.seq (qS [qk 4 0] [0,3,4] (.block 0 (.loop (.seq (qS [qm 5 4,qm 6 3,qo 7 (.Ga (.tmp 6)),qb 8 .lss 5 7] [0,3,4,8] (qC 8 .skip (.exit 0))) (.seq (.block 1 (qS [qm 11 3,qm 12 4,qo 13 (.xM (.tmp 11) (.tmp 12)),qm 14 0,qb 15 .eql 13 14] [0,3,4,15] (qC 15 (qS [qz 2 true] [2] .ret) .skip))) (.mY [qm 9 4,qc 10 .add 9 1,qm 4 10] [0,3,4])))))) (qS [qz 2 false] [2] .ret))))⟩)
theorem low145:pC Tryz.prog (kpO F145) (zW []) 145=some F145:=by kernel_rfl
def F146:aO:=laid (X:=⟨45,[.tmp 4],(qS [qk 4 0] [0,1] (.seq (qS [qm 6 0,qm 7 1,qo 8 (.xM (.tmp 6) (.tmp 7)),qo 9 (.bin .eql (.tmp 8) (.const (.int .u8 124)))] [0,1,9] (qC 9 (qS [qm 10 1,qc 11 .add 10 1,qm 4 11] [4] .ret) .skip)) (qS [qm 12 1,qm 5 12] [0,1,5] (.seq (.block 0 (.loop (.seq (qS [qm 13 5,qm 14 0,qo 15 (.Ga (.tmp 14)),qb 16 .lss 13 15,qm 17 16,qt 17 (qm 18 0),qt 17 (qm 19 5),
 qt 17 (qo 20 (.xM (.tmp 18) (.tmp 19))),qt 17 (qx 21 145 [20]),qa 22 17 21,qm 23 22,qt 23 (qm 24 5),qt 23 (qm 25 1),qt 23 (qb 26 .gtr 24 25),
 qt 23 (qm 27 26),qt 27 (qm 28 0),qt 27 (qm 29 5),qt 27 (qo 30 (.xM (.tmp 28) (.tmp 29))),
 qt 27 (qo 31 (.bin .eql (.tmp 30) (.const (.int .u8 45)))),qt 23 (qa 32 27 31),qt 23 (qm 33 32),qt 33 (qm 34 0),qt 33 (qm 35 5),
 qt 33 (qc 36 .add 35 1),qt 33 (qx 37 183 [34,36]),qt 33 (qx 38 182 [37]),qt 23 (qa 39 33 38),qt 23 (qo 40 (.un .not (.tmp 39))),qa 41 23 40] [0,1,5,41] (qC 41 .skip (.exit 0))) (.block 1 (.mY [qm 42 5,qc 43 .add 42 1,qm 5 43] [0,1,5]))))) (qS [qm 44 5,qm 4 44] [4] .ret)))))⟩)
theorem low146:pC Tryz.prog (kpO F146) (zW []) 146=some F146:=by kernel_rfl
def F180:aO:=laid (X:=⟨21,[.tmp 2],(qS [qz 2 false] [0] (qS [qm 3 0,qo 4 (.bin .geq (.tmp 3) (.const (.int .u8 97))),qm 5 4,qt 5 (qm 6 0),
 qt 5 (qo 7 (.bin .leq (.tmp 6) (.const (.int .u8 122)))),qa 8 5 7,qm 9 8,qu 9 (qm 10 0),
 qu 9 (qo 11 (.bin .geq (.tmp 10) (.const (.int .u8 65)))),qu 9 (qm 12 11),qt 12 (qm 13 0),
 qt 12 (qo 14 (.bin .leq (.tmp 13) (.const (.int .u8 90)))),qu 9 (qa 15 12 14),qr 16 9 15,qm 17 16,qu 17 (qm 18 0),
 qu 17 (qo 19 (.bin .eql (.tmp 18) (.const (.int .u8 95)))),qr 20 17 19,qm 2 20] [2] .ret))⟩)
theorem low180:pC Tryz.prog (kpO F180) (zW []) 180=some F180:=by kernel_rfl
def F181:aO:=laid (X:=⟨18,[.tmp 4],(qS [qk 4 0] [0,1] (.seq (.block 0 (.loop (.seq (qS [qm 5 1,qm 6 0,qo 7 (.Ga (.tmp 6)),qb 8 .lss 5 7,qm 9 8,qt 9 (qm 10 0),qt 9 (qm 11 1),qt 9 (qo 12 (.xM (.tmp 10) (.tmp 11))),
 qt 9 (qx 13 216 [12]),qa 14 9 13] [0,1,14] (qC 14 .skip (.exit 0))) (.block 1 (.mY [qm 15 1,qc 16 .add 15 1,qm 1 16] [0,1]))))) (qS [qm 17 1,qm 4 17] [4] .ret)))⟩)
theorem low181:pC Tryz.prog (kpO F181) (zW []) 181=some F181:=by kernel_rfl
def F182:aO:=laid (X:=⟨9,[.tmp 2],(qS [qz 2 false] [0] (qS [qm 3 0,qo 4 (.bin .geq (.tmp 3) (.const (.int .u8 48))),qm 5 4,qt 5 (qm 6 0),
 qt 5 (qo 7 (.bin .leq (.tmp 6) (.const (.int .u8 57)))),qa 8 5 7,qm 2 8] [2] .ret))⟩)
theorem low182:pC Tryz.prog (kpO F182) (zW []) 182=some F182:=by kernel_rfl
def F183:aO:=laid (X:=⟨12,[.tmp 4],(qS [qo 4 (.mv (.const (.int .u8 0)))] [0,1] (.seq (qS [qm 5 1,qm 6 0,qo 7 (.Ga (.tmp 6)),qb 8 .lss 5 7] [0,1,8] (qC 8 (qS [qm 9 0,qm 10 1,qo 11 (.xM (.tmp 9) (.tmp 10)),qm 4 11] [4] .ret) .skip)) (qS [qo 4 (.mv (.const (.int .u8 0)))] [4] .ret)))⟩)
theorem low183:pC Tryz.prog (kpO F183) (zW []) 183=some F183:=by kernel_rfl
def F216:aO:=laid (X:=⟨9,[.tmp 2],(qS [qz 2 false] [0] (qS [qm 3 0,qx 4 180 [3],qm 5 4,qu 5 (qm 6 0),qu 5 (qx 7 182 [6]),qr 8 5 7,qm 2 8] [2] .ret))⟩)
theorem low216:pC Tryz.prog (kpO F216) (zW []) 216=some F216:=by kernel_rfl
noncomputable section
def F85:aO:=aZ (o:=gF pq Tryz.f85 [])
theorem low85:Zo9 85 [] F85:=Zx9
def F144:aO:=aZ (o:=gF pq Tryz.f144 [])
theorem low144:Zo9 144 [] F144:=Zx9
def F147:aO:=aZ (o:=gF pq Tryz.f147 [])
theorem low147:Zo9 147 [] F147:=Zx9
def F243:aO:=aZ (o:=gF pq Tryz.f243 [])
theorem low243:Zo9 243 [] F243:=Zx9
def F259:aO:=aZ (o:=gF pq Tryz.f259 [])
theorem low259:Zo9 259 [] F259:=Zx9
def F260:aO:=aZ (o:=gF pq Tryz.f260 [])
theorem low260:Zo9 260 [] F260:=Zx9
def F279:aO:=aZ (o:=gF pq Tryz.f279 [])
theorem low279:Zo9 279 [] F279:=Zx9
def F86:aO:=aZ (o:=gF pq Tryz.f86 [])
theorem low86:Zo9 86 [] F86:=Zx9
def F148:aO:=aZ (o:=gF pq Tryz.f148 [])
theorem low148:Zo9 148 [] F148:=Zx9
end
theorem JW(s:ByteArray):au Tryz.prog 132 [.string s] [] (λv Post=>v=.bool (decide (wV s≠0))/\Post=[]):=by
 refine au.intro Wo Zn9 ?_;refine ae ?_;by_cases h1:s=⟨#[115,101,108,102]⟩
 .rw[Zt h1];refine ae ?_;exact kG (Post:=[]) (.inr rfl) (.tmp Zr .nil) ⟨by rw[h1];rfl,rfl⟩ ZI
 rw[Zf h1];refine ae ?_;by_cases h2:s=⟨#[115,117,112,101,114]⟩
 .rw[Zt h2];refine ae ?_;exact kG (Post:=[]) (.inr rfl) (.tmp Zr .nil) ⟨by rw[h2];rfl,rfl⟩ ZI
 rw[Zf h2];refine ae ?_;by_cases h3:s=⟨#[110,105,108]⟩
 .rw[Zt h3];refine ae ?_;exact kG (Post:=[]) (.inr rfl) (.tmp Zr .nil) ⟨by rw[h3];rfl,rfl⟩ ZI
 rw[Zf h3];refine ae ?_;by_cases h4:s=⟨#[116,114,117,101]⟩
 .rw[Zt h4];refine ae ?_;exact kG (Post:=[]) (.inr rfl) (.tmp Zr .nil) ⟨by rw[h4];rfl,rfl⟩ ZI
 rw[Zf h4];refine ae ?_;by_cases h5:s=⟨#[102,97,108,115,101]⟩
 .exact kG (Post:=[]) (.inr rfl) (.tmp Zr .nil) ⟨by rw[Zt h5,h5];rfl,rfl⟩ ZI
 have d:wV s=0:=GH h1 h2 h3 h4 h5;exact kG (Post:=[]) (.inr rfl) (.tmp Zr .nil) ⟨by rw[d,Zf h5];rfl,rfl⟩ ZI
noncomputable section
def F92:aO:=aZ (o:=gF pq Tryz.f92 [(6,[[0,1,2,3,4,5,6,7,8,9,10,11]])])
theorem low92:Zo9 92 [(6,[[0,1,2,3,4,5,6,7,8,9,10,11]])] F92:=Zx9
def F154:aO:=aZ (o:=gF pq Tryz.f154 [])
theorem low154:Zo9 154 [] F154:=Zx9
def F155:aO:=aZ (o:=gF pq Tryz.f155 [])
theorem low155:Zo9 155 [] F155:=Zx9
def F90:aO:=aZ (o:=gF pq Tryz.f90 [(6,[])])
theorem low90:Zo9 90 [(6,[])] F90:=Zx9
end
theorem rI(A:List kC):∀(N:Nat) (x:Lt),x.size<=N->x.size<=274877906944->∀vs,zl A x vs->au Tryz.prog 154 [.agg vs.toArray] [A] (λv Post=>∃ws B,v=.agg ws.toArray/\yY x ws B/\Post=[A,B]):=by
 intro N
 induction N with
 |zero=>intro x U;have:=x.size_pos;omega
 |succ N ih=>
  intro x U hb vs h;cases h with
  |@mk k n b t items a c bk o us wf ha hm hr=>
  simp only[Lt.size]at U hb;have Kk:=JN items;refine au.intro low154 Zn9 ?_;refine ae ?_;refine kX Zr (λq=>?_);refine kK (λG=>?_);simp only[Value.cells];refine ae ?_;refine VC.loop (α:=Nat×Value×List (List Value)×List Value×List kC) (bg:=λs=>[(1,kE q),(2,kE G),(3,s.2.1),(4,vi s.1)]) (Hf:=λs=>[A,kA q 0 [cv k,vi n,uv b,.string t,.slice a items.length c],kA G 0 [.int .u8 0,.int .i64 0,.int .u64 0,.string ⟨#[]⟩,Nz],ao s.2.1 s.2.2.1.flatten s.2.2.2.1,s.2.2.2.2])
   (I:=λs=>s.1<=items.length/\ky 5 s.2.1 s.1 s.2.2.1.flatten s.2.2.2.1/\gf (items.take s.1) s.2.2.1 s.2.2.2.2) (μ:=λs=>items.length - s.1) (0,Nz,[],[],[]) ⟨X3 _,.nil,gf.nil⟩ ZU (ai.cut (M:=[A,kA q 0 [cv k,vi n,uv b,.string t,.slice a items.length c],kA G 0 [.int .u8 0,.int .i64 0,.int .u64 0,.string ⟨#[]⟩,Nz]]) ZI (ai.perm (by simp[ao]))) ?_
  rintro⟨j,sv,rows,sp,K⟩ ⟨i1,F,i3⟩
  simp only at i1 F i3;dsimp only;refine ae ?_;by_cases hj:j < items.length;rotate_left
  .rw[show decide ((j:Int) < (items.length:Int))=false from Zf Zo];have rW:j=items.length:=by omega
   subst rW;rw[Qk]at i3;have Y:=yY.of F i3 wf;obtain⟨D,E,rfl⟩:=F.form;refine ae ?_;exact⟨.inr rfl,[.agg #[cv k,vi n,uv b,.string t,.slice D items.length E]],[A,ao (.slice D items.length E) rows.flatten sp++K],.aI (us:=[cv k,vi n,uv b,.string t,.slice D items.length E]) Zr Zr (λy d=>by simp only[Vd,QG];first|exact .inl d|exact .inr (.inl d)|exact .inr (.inr (.inl d))|exact .inr (.inr (.inr (.inl d)))|exact .inr (.inr (.inr (.inr (.inl d))))) .nil,ai.cut (M:=[A,ao (.slice D items.length E) rows.flatten sp,K]) ZI (ai.perm Zs),⟨_,_,rfl,Y,rfl⟩⟩
  obtain rfl:=ha Zo;rw[show decide ((j:Int) < (items.length:Int))=true from Zt Zo];obtain⟨y,d⟩:∃y,items[j]? =some y:=⟨_,Zg hj⟩;have cG:=hm j hj;have S:=hr j y d;have h1:=Lt.aD (Zv d);have X:=ih y Zo Zo _ S;generalize us j=uj at*;obtain⟨e1,c1,rfl⟩:=ed S;refine ae ?_;refine kR Zr CS rfl ?_;refine ae ?_;refine kH X Zr ZP (λv Post hv=>?_);obtain⟨ws,J,rfl,H,rfl⟩:=hv;simp only[aE];have hwl:=H.rd.len;have W:=H.rd;obtain⟨C,g,rfl⟩:=ed W;refine j8 (out:=[cv y.kind,vi y.n,uv y.bits,.string y.text,.slice C y.items.length g]) Zr Zr (λr=>?_);refine kw (k:=j) (m:=1) (xs:=rows.flatten) (sp:=sp) (ys:=[cv y.kind,vi y.n,uv y.bits,.string y.text,.slice C y.items.length g]) Zr Zr F ZK Zr ?_ rfl Zr Zr Zd Zo (λT Q O=>?_)
  .exact C2
  have Z:rows.flatten++[cv y.kind,vi y.n,uv y.bits,.string y.text,.slice C y.items.length g]=(rows++[[cv y.kind,vi y.n,uv y.bits,.string y.text,.slice C y.items.length g]]).flatten:=by simp
  rw[Z]at O|-;have L:=i3.snoc H;rw[show items.take j++[y]=items.take (j+1) by rw[Qi,d];rfl]at L;refine ae ?_;refine⟨(j+1,T,rows++[[cv y.kind,vi y.n,uv y.bits,.string y.text,.slice C y.items.length g]],Q,K++J),⟨by simp only;omega,O,L⟩,by simp only;omega,ZU,?_⟩;simp only;refine ai.cut (M:=[A,kA q 0 [cv k,vi n,uv b,.string t,.slice (some ⟨bk,o,none⟩) items.length c],kA G 0 [.int .u8 0,.int .i64 0,.int .u64 0,.string ⟨#[]⟩,Nz],ao T (rows++[[cv y.kind,vi y.n,uv y.bits,.string y.text,.slice C y.items.length g]]).flatten Q,K,J]) ZI (ai.perm Zs)
theorem nD(A:List kC)(g:Value)(l:List ByteArray)(h:cO A g l):au Tryz.prog 155 [g] [A] (λv Post=>∃B,gl v l B/\Post=[A,B]):=by
 obtain⟨a,c,rfl,hl,hr⟩:=h;refine au.intro low155 Zn9 ?_;have fq:∀t∈l,t.size<=140737488355328:=λt q=>by
  obtain⟨i,hi⟩:=Vv q;obtain⟨_,_,_,_,h⟩:=hr i t hi;exact h
 refine ae ?_;cases CT:l with
 |nil=>
  subst CT;refine rq Zr Zr ?_;refine ae ?_;exact kG (Post:=[A,[]]) (.inr rfl) (.tmp Zr .nil) ⟨[],⟨[],.nil,rfl,Zs,Zs⟩,rfl⟩ (ai.cut (M:=[A]) ZI (ai.perm Zs))
 |cons t l'=>
  rw[<- CT];obtain⟨b,o,d,_⟩:=hr 0 t (by rw[CT];rfl);cases d;have j:Src ([A]:SH).flatten 1 l.length (l.map Value.string) (.slice (some ⟨b,o,none⟩) l.length c):=by
   exact zB5
  refine VO.imp (H':=[ao Nz [] [],A]) (ai.perm (by simp[ao])) ?_;refine kw (k:=0) (m:=l.length) (xs:=[]) (sp:=[]) (ys:=l.map Value.string) Zr Zr .nil ZK Zr j Zs (by simp[vg,jo]) Zr Zd Zo (λcw bA aH=>?_);exact zCC
theorem CX(A:List kC):∀(N:Nat) (x:Nd),x.w<=N->x.w<=274877906944->∀vs,jN A x vs->au Tryz.prog 90 [.agg vs.toArray] [A] (λv Post=>∃ws B,v=.agg ws.toArray/\eI x ws B/\Post=[A,B]):=by
 intro N
 induction N with
 |zero=>intro x hx;have:=x.iy;omega
 |succ N ih=>
  intro x hx hb vs h;cases h with
  |@mk k s lit args ab kids p lv av tv a c bk o us wf hl bD bB ha hm hr rV=>
  simp only[Nd.w]at hx hb;have Kk:=ws_ge kids;have C9:=rI A _ lit (Qt _) Zo lv hl;have hca:=nD A av args bD;have hct:=nD A tv ab bB;have dE:=hl;cases dE with
  |@mk lk ln bm lt items la lc CV lo IY LJ Ly LB LC=>
  obtain⟨T,U,rfl,s5,dD⟩:=bD;obtain⟨ta,tc,rfl,rZ,IG⟩:=bB;refine au.intro low90 Zn9 ?_;simp only[aE];refine ae ?_;refine kX Zr (λq=>?_);refine kK (λO=>?_);simp only[Value.cells];refine ae ?_;refine VC.loop (α:=Nat×Value×List (List Value)×List Value×List kC) (bg:=λz=>[(1,kE q),(2,kE O),(3,z.2.1),(4,vi z.1)]) (Hf:=λz=>[A,kA q 0 (rA k s lk ln bm lt la items.length lc T args.length U ta ab.length tc a kids.length c p),kA O 0 [.int .u8 0,.string ⟨#[]⟩,.int .u8 0,.int .i64 0,.int .u64 0,.string ⟨#[]⟩,Nz,Nz,Nz,Nz,.int .i64 0],ao z.2.1 z.2.2.1.flatten z.2.2.2.1,z.2.2.2.2])
   (I:=λz=>z.1<=kids.length/\ky 11 z.2.1 z.1 z.2.2.1.flatten z.2.2.2.1/\gg (kids.take z.1) z.2.2.1 z.2.2.2.2) (μ:=λz=>kids.length - z.1) (0,Nz,[],[],[]) ⟨X3 _,.nil,gg.nil⟩ ZU (ai.cut (M:=[A,kA q 0 (rA k s lk ln bm lt la items.length lc T args.length U ta ab.length tc a kids.length c p),kA O 0 [.int .u8 0,.string ⟨#[]⟩,.int .u8 0,.int .i64 0,.int .u64 0,.string ⟨#[]⟩,Nz,Nz,Nz,Nz,.int .i64 0]]) ZI (ai.perm (by simp[ao]))) ?_
  rintro⟨j,sv,rows,sp,K⟩ ⟨i1,i2,i3⟩
  simp only at i1 i2 i3;dsimp only;refine ae ?_;by_cases hj:j < kids.length
  .obtain rfl:=ha Zo;rw[show decide ((j:Int) < (kids.length:Int))=true from Zt Zo];obtain⟨y,hy⟩:∃y,kids[j]? =some y:=⟨_,Zg hj⟩;have cG:=hm j hj;have bF:=hr j y hy;have h1:=Nd.cj (Zv hy);have az:=ih y Zo Zo _ bF;have eO:=bF.len;generalize us j=uj at*;refine ae ?_;refine kR Zr CS eO ?_;refine ae ?_;refine kH az Zr ZP (λv Post hv=>?_);obtain⟨ws,B2,rfl,hw,rfl⟩:=hv;simp only[aE];have IJ:=hw.rd;obtain⟨W,X,Y,Z,f5,f6,f7,f8,f9,g,C,D,E,F,G,H,J,rfl,_,_⟩:=yF IJ;refine j8 (out:=(rA y.kind y.name W X Y Z f5 f6 f7 f8 f9 g C D E F G H J)) Zr Zr (λr=>?_);refine kw (k:=j) (m:=1) (xs:=rows.flatten) (sp:=sp) (ys:=(rA y.kind y.name W X Y Z f5 f6 f7 f8 f9 g C D E F G H J)) Zr Zr i2 ZK Zr ?_ rfl Zr Zr Zd Zo (λcw bA aH=>?_)
   .exact C2
   have fS:rows.flatten++(rA y.kind y.name W X Y Z f5 f6 f7 f8 f9 g C D E F G H J)=(rows++[(rA y.kind y.name W X Y Z f5 f6 f7 f8 f9 g C D E F G H J)]).flatten:=by simp
   rw[fS]at aH|-;have IE:=i3.snoc hw;rw[show kids.take j++[y]=kids.take (j+1) by rw[Qi,hy];rfl]at IE;refine ae ?_;refine⟨(j+1,cw,rows++[(rA y.kind y.name W X Y Z f5 f6 f7 f8 f9 g C D E F G H J)],bA,K++B2),⟨by simp only;omega,aH,IE⟩,by simp only;omega,ZU,?_⟩;simp only;refine ai.cut (M:=[A,kA q 0 (rA k s lk ln bm lt la items.length lc T args.length U ta ab.length tc (some ⟨bk,o,none⟩) kids.length c p),kA O 0 [.int .u8 0,.string ⟨#[]⟩,.int .u8 0,.int .i64 0,.int .u64 0,.string ⟨#[]⟩,Nz,Nz,Nz,Nz,.int .i64 0],ao cw (rows++[(rA y.kind y.name W X Y Z f5 f6 f7 f8 f9 g C D E F G H J)]).flatten bA,K,B2]) ZI (ai.perm Zs)
  rw[show decide ((j:Int) < (kids.length:Int))=false from Zf Zo];have rW:j=kids.length:=by omega
  subst rW;rw[Qk]at i3;obtain⟨sa,sc,rfl⟩:=i2.form;generalize hSL:ao (.slice sa kids.length sc) rows.flatten sp=SL;refine ae ?_;refine VC.imp (H':=[kA q 0 (rA k s lk ln bm lt la items.length lc T args.length U ta ab.length tc a kids.length c p),kA O 0 [.int .u8 0,.string ⟨#[]⟩,.int .u8 0,.int .i64 0,.int .u64 0,.string ⟨#[]⟩,Nz,Nz,Nz,Nz,.int .i64 0],SL,K,A]) ZI ?_;refine VC.seq (VC.free 16 (λi v B=>match i with
   |0=>v=.pointer (some ⟨q,0,none⟩)/\B=[]
   |1=>v=cv k/\B=[]
   |2=>v=.pointer (some ⟨q,1,none⟩)/\B=[]
   |3=>v=.string s/\B=[]
   |4=>v=.pointer (some ⟨q,2,none⟩)/\B=[]
   |5=>v=.agg [cv lk,vi ln,uv bm,.string lt,.slice la items.length lc].toArray/\B=[]
   |6=>∃ws,v=.agg ws.toArray/\yY (.mk lk ln bm lt items) ws B
   |7=>v=.pointer (some ⟨q,7,none⟩)/\B=[]
   |8=>v=.slice T args.length U/\B=[]
   |9=>gl v args B
   |10=>v=.pointer (some ⟨q,8,none⟩)/\B=[]
   |11=>v=.slice ta ab.length tc/\B=[]
   |12=>gl v ab B
   |13=>v=.slice sa kids.length sc/\B=[]
   |14=>v=.pointer (some ⟨q,10,none⟩)/\B=[]
   |15=>v=vi p/\B=[]
   |_=>True) Zd Zd Zd ?_ ?_)
  .intro i hi vv hg aw d L
   match i,hi with
  |0,_=>
   show VO _ _ [⟨some 21,none,.Ha 0 (.tmp 1)⟩] _ _ _ _;exact z8 (L 1 _ rfl Zd) rfl xw
  |1,_=>
   show VO _ _ [⟨some 22,none,.dc (.tmp 21)⟩] _ _ _ _;have e:=d 0 Zd 21 rfl;rw[(hg 0 Zd).1]at e;exact jg e Zh xw
  |2,_=>
   show VO _ _ [⟨some 23,none,.Ha 1 (.tmp 1)⟩] _ _ _ _;exact z8 (L 1 _ rfl Zd) rfl xw
  |3,_=>
   show VO _ _ [⟨some 24,none,.dc (.tmp 23)⟩] _ _ _ _;have e:=d 2 Zd 23 rfl;rw[(hg 2 Zd).1]at e;exact jg e Zh xw
  |4,_=>
   show VO _ _ [⟨some 25,none,.Ha 2 (.tmp 1)⟩] _ _ _ _;exact z8 (L 1 _ rfl Zd) rfl xw
  |5,_=>
   show VO _ _ [⟨some 26,none,.ij 5 (.tmp 25)⟩] _ _ _ _;have e:=d 4 Zd 25 rfl;rw[(hg 4 Zd).1]at e;exact yC e YV xw
  |6,_=>
   show VO _ _ [⟨some 27,none,.call 154 [.tmp 26]⟩] _ _ _ _;have e:=d 5 Zd 26 rfl;exact zCM
  |7,_=>
   show VO _ _ [⟨some 28,none,.Ha 7 (.tmp 1)⟩] _ _ _ _;exact z8 (L 1 _ rfl Zd) rfl xw
  |8,_=>
   show VO _ _ [⟨some 29,none,.dc (.tmp 28)⟩] _ _ _ _;have e:=d 7 Zd 28 rfl;rw[(hg 7 Zd).1]at e;exact jg e Zh xw
  |9,_=>
   show VO _ _ [⟨some 30,none,.call 155 [.tmp 29]⟩] _ _ _ _;have e:=d 8 Zd 29 rfl;rw[(hg 8 Zd).1]at e;refine kH hca (by simp only[V.nt,V.ev,e]) ZP (λv Post hv=>?_);obtain⟨B,hw,rfl⟩:=hv;exact VO.nil ⟨_,B,rfl,hw,by simp only[aE];exact bT⟩
  |10,_=>
   show VO _ _ [⟨some 31,none,.Ha 8 (.tmp 1)⟩] _ _ _ _;exact z8 (L 1 _ rfl Zd) rfl xw
  |11,_=>
   show VO _ _ [⟨some 32,none,.dc (.tmp 31)⟩] _ _ _ _;have e:=d 10 Zd 31 rfl;rw[(hg 10 Zd).1]at e;exact jg e Zh xw
  |12,_=>
   show VO _ _ [⟨some 33,none,.call 155 [.tmp 32]⟩] _ _ _ _;have e:=d 11 Zd 32 rfl;rw[(hg 11 Zd).1]at e;refine kH hct (by simp only[V.nt,V.ev,e]) ZP (λv Post hv=>?_);obtain⟨B,hw,rfl⟩:=hv;exact VO.nil ⟨_,B,rfl,hw,by simp only[aE];exact bT⟩
  |13,_=>
   show VO _ _ [⟨some 34,none,.mv (.tmp 3)⟩] _ _ _ _;exact sR (L 3 _ rfl Zd) xw
  |14,_=>
   show VO _ _ [⟨some 35,none,.Ha 10 (.tmp 1)⟩] _ _ _ _;exact z8 (L 1 _ rfl Zd) rfl xw
  |15,_=>
   show VO _ _ [⟨some 36,none,.dc (.tmp 35)⟩] _ _ _ _;have e:=d 14 Zd 35 rfl;rw[(hg 14 Zd).1]at e;exact jg e Zh xw
  |n+16,h=>exact absurd h Zo
  .intro vv hg aw d L;show VO _ _ _ _ [(vv 0).2,(vv 1).2,(vv 2).2,(vv 3).2,(vv 4).2,(vv 5).2,(vv 6).2,(vv 7).2,(vv 8).2,(vv 9).2,(vv 10).2,(vv 11).2,(vv 12).2,(vv 13).2,(vv 14).2,(vv 15).2,kA q 0 (rA k s lk ln bm lt la items.length lc T args.length U ta ab.length tc a kids.length c p),kA O 0 [.int .u8 0,.string ⟨#[]⟩,.int .u8 0,.int .i64 0,.int .u64 0,.string ⟨#[]⟩,Nz,Nz,Nz,Nz,.int .i64 0],SL,K,A] _ _;refine VO.imp (H':=[kA O 0 [.int .u8 0,.string ⟨#[]⟩,.int .u8 0,.int .i64 0,.int .u64 0,.string ⟨#[]⟩,Nz,Nz,Nz,Nz,.int .i64 0],A,(vv 6).2,(vv 9).2,(vv 12).2,SL,K]) ZI ?_;obtain⟨ws,e6,h6⟩:=hg 6 Zo;have h9:=hg 9 Zo;have T7:=hg 12 Zo;have s22:=d 1 Zd 22 rfl;have s24:=d 3 Zd 24 rfl;have s27:=d 6 Zd 27 rfl;have s30:=d 9 Zd 30 rfl;have s33:=d 12 Zd 33 rfl;have s34:=d 13 Zd 34 rfl;have s36:=d 15 Zd 36 rfl;rw[(hg 1 Zo).1]at s22;rw[(hg 3 Zo).1]at s24;rw[e6]at s27;rw[(hg 13 Zo).1]at s34;rw[(hg 15 Zo).1]at s36;have s2:=L 2 _ rfl Zd;clear hg d L;simp only at h9 T7;generalize (vv 6).2=B6 at*;generalize vv 9=p9 at*;generalize vv 12=p12 at*;obtain⟨v9,B9⟩:=p9;obtain⟨v12,B12⟩:=p12;simp only at*;have eN:=eI.of (p:=p) (k:=k) (s:=s) i2 i3 wf h6 h9 T7;have h6r:=h6.rd;obtain⟨a9,c9,rfl,_,_⟩:=h9.rd;obtain⟨Q,S,rfl,_,_⟩:=T7.rd;obtain⟨e1,c1,rfl⟩:=ed h6r;simp only[Lt.kind,Lt.n,Lt.bits,Lt.text,Lt.items]at*;rw[hSL]at eN;refine VO.sub (Δ:=[(2,kE O),(22,cv k),(24,.string s),(27,.agg #[cv lk,vi ln,uv bm,.string lt,.slice e1 items.length c1]),(30,.slice a9 args.length c9),(33,.slice Q ab.length S),(34,.slice sa kids.length sc),(36,vi p)]) (Sub.cons s2 (Sub.cons s22 (Sub.cons s24 (Sub.cons s27 (Sub.cons s30 (Sub.cons s33 (Sub.cons s34 (Sub.cons s36 Sub.nil)))))))) ?_;refine ae ?_;exact⟨.inr rfl,[.agg #[cv k,.string s,cv lk,vi ln,uv bm,.string lt,.slice e1 items.length c1,.slice a9 args.length c9,.slice Q ab.length S,.slice sa kids.length sc,vi p]],[A,B6++(B9++(B12++(SL++K)))],.aI (us:=(rA k s lk ln bm lt e1 items.length c1 a9 args.length c9 Q ab.length S sa kids.length sc p)) Zr Zr Zak .nil,
    ai.cut (M:=[A,B6,B9,B12,SL,K]) ZI (ai.perm Zs),⟨_,_,rfl,eN,rfl⟩⟩
noncomputable section
def F93:aO:=aZ (o:=gF pq Tryz.f93 [(6,[[0,1,2,3,4,5,6,7,8]])])
theorem low93:Zo9 93 [(6,[[0,1,2,3,4,5,6,7,8]])] F93:=Zx9
def F37:aO:=aZ (o:=gF pq Tryz.f37 [(8,[[0,1,2,3,4,5,6,7,8,9,10,11]])])
theorem low37:Zo9 37 [(8,[[0,1,2,3,4,5,6,7,8,9,10,11]])] F37:=Zx9
def F36:aO:=aZ (o:=gF pq Tryz.f36 [])
theorem low36:Zo9 36 [] F36:=Zx9
def F91:aO:=aZ (o:=gF pq Tryz.f91 [])
theorem low91:Zo9 91 [] F91:=Zx9
def F35:aO:=aZ (o:=gF pq Tryz.f35 [])
theorem low35:Zo9 35 [] F35:=Zx9
def F38:aO:=aZ (o:=gF pq Tryz.f38 [(9,[[0,1,2,3,4,5,6,7,8,9,10],[0,2,3,4,5,6,7,8,1,9,10]])])
theorem low38:Zo9 38 [(9,[[0,1,2,3,4,5,6,7,8,9,10],[0,2,3,4,5,6,7,8,1,9,10]])] F38:=Zx9
def F7:aO:=aZ (o:=gF pq Tryz.f7 [(10,[[0,1,2,3,4,5,6,7,8,9,10,11],[1,2,0,3,4,5,6,7,8,9,10,11],[1,2,3,4,0,5,6,7,8,9,10,11],[0,1,2,3,4,9,5,6,7,8,10,11],[1,2,0,3,4,9,5,6,7,8,10,11],[1,2,3,4,0,9,5,6,7,8,10,11],[1,2,3,4,9,0,5,6,7,8,10,11],[0,1,2,3,9,4,5,6,7,8,10,11],[1,2,0,3,9,4,5,6,7,8,10,11],[1,2,3,9,0,4,5,6,7,8,10,11],[1,2,3,9,4,0,5,6,7,8,10,11],[0,1,3,9,2,4,5,6,7,8,10,11],[1,3,9,0,2,4,5,6,7,8,10,11],[1,3,9,2,0,4,5,6,7,8,10,11],[1,3,9,2,4,0,5,6,7,8,10,11]]),(25,[[0,1,2,3,4,5,6,7,8,9,10,11,12,13],[0,1,2,3,4,6,7,5,8,9,10,11,12,13],[0,1,2,3,4,6,7,8,9,10,5,11,12,13]])])
theorem low7:Zo9 7 [(10,[[0,1,2,3,4,5,6,7,8,9,10,11],[1,2,0,3,4,5,6,7,8,9,10,11],[1,2,3,4,0,5,6,7,8,9,10,11],[0,1,2,3,4,9,5,6,7,8,10,11],[1,2,0,3,4,9,5,6,7,8,10,11],[1,2,3,4,0,9,5,6,7,8,10,11],[1,2,3,4,9,0,5,6,7,8,10,11],[0,1,2,3,9,4,5,6,7,8,10,11],[1,2,0,3,9,4,5,6,7,8,10,11],[1,2,3,9,0,4,5,6,7,8,10,11],[1,2,3,9,4,0,5,6,7,8,10,11],[0,1,3,9,2,4,5,6,7,8,10,11],[1,3,9,0,2,4,5,6,7,8,10,11],[1,3,9,2,0,4,5,6,7,8,10,11],[1,3,9,2,4,0,5,6,7,8,10,11]]),(25,[[0,1,2,3,4,5,6,7,8,9,10,11,12,13],[0,1,2,3,4,6,7,5,8,9,10,11,12,13],[0,1,2,3,4,6,7,8,9,10,5,11,12,13]])] F7:=Zx9
end
theorem JY(s:ByteArray)(hs:s.size<=140737488355328):au Tryz.prog 91 [.string s] [] (λv Post=>v=.string (zY s)/\Post=[]):=by
 refine au.intro low91 Zn9 ?_;refine ae ?_;refine kL (JW s) Zr ?_;unfold zY;by_cases h:wV s≠0
 .rw[Zt h,if_pos h];refine ae ?_;exact kG (Post:=[]) (.inr rfl) (.tmp Zr .nil) ⟨rfl,rfl⟩ ai.nil
 .rw[Zf h,if_neg h];refine ae ?_;refine NN (a:=⟨#[113]⟩) (b:=s) Zr Zr (by have e:(ByteArray.mk #[113]).size=1:=rfl;omega) ?_;refine ae ?_;exact kG (Post:=[]) (.inr rfl) (.tmp Zr .nil) ⟨rfl,rfl⟩ ai.nil
theorem Ce(s:ByteArray):(bL s).size=s.size+1:=by
 unfold bL;rw[ByteArray.size_append];show 1+s.size=_;omega
theorem io(A:List kC)(l:List ByteArray)(lv:Value)(h:cO A lv l)(H:∀t∈l,t.size < 140737488355328):au Tryz.prog 36 [lv] [A] (λv Post=>∃B,gl v (l.map bL) B/\Post=[A,B]):=by
 obtain⟨a,c,rfl,hl,G⟩:=h;refine au.intro low36 Zn9 ?_;refine ae ?_;refine VC.loop (α:=Nat×Value×List Value) (bg:=λz=>[(0,.slice a l.length c),(3,z.2.1),(4,vi z.1)]) (Hf:=λz=>[ao z.2.1 (((l.take z.1).map bL).map Value.string) z.2.2,A]) (I:=λz=>z.1<=l.length/\ky 1 z.2.1 z.1 (((l.take z.1).map bL).map Value.string) z.2.2) (μ:=λz=>l.length - z.1) (0,Nz,[]) ⟨X3 _,.nil⟩ ZU (ai.perm (by simp[ao])) ?_
 rintro⟨j,sv,sp⟩ ⟨F,d⟩
 simp only at F d;dsimp only;obtain⟨N,O,rfl⟩:=id d.form;refine ae ?_;by_cases aJ:j < l.length;rotate_left
 .rw[show decide ((j:Int) < (l.length:Int))=false from Zf Zo];rw[Ql Zo]at d|-;have M:j=l.length:=by omega
  subst M;refine ae ?_;refine kG (Post:=[A,ao (.slice N l.length O) ((l.map bL).map Value.string) sp]) (.inr rfl) (.tmp Zr .nil) ⟨_,⟨sp,by rw[Q6];exact d,rfl,by rw[Q6];omega,λt K=>?_⟩,rfl⟩ ZI;obtain⟨u,L,rfl⟩:=QO.1 K;rw[Ce];have:=H u L;omega
 rw[show decide ((j:Int) < (l.length:Int))=true from Zt Zo];obtain⟨s,g⟩:∃s,l[j]? =some s:=⟨_,Zg aJ⟩;obtain⟨b,o,rfl,fD,J⟩:=G j s g;refine ae ?_;refine NN (a:=⟨#[113]⟩) (b:=s) Zr Zr (by have e:(ByteArray.mk #[113]).size=1:=rfl;omega) ?_;rw[show(⟨#[113]⟩:ByteArray)++s=bL s from rfl];refine ae ?_;refine j8 (out:=[.string (bL s)]) Zr Zr (λr=>?_);refine kw (k:=j) (m:=1) (xs:=((l.take j).map bL).map Value.string) (sp:=sp) (ys:=[.string (bL s)]) Zr Zr d ZK Zr ?_ rfl Zr Zr Zd Zo (λE D C=>?_)
 .exact C2
 have q:((l.take (j+1)).map bL).map Value.string=((l.take j).map bL).map Value.string++[.string (bL s)]:=by rw[Qi,g];simp
 refine ae ?_;refine⟨(j+1,E,D),⟨by simp only;omega,by simp only;rw[q];exact C⟩,by simp only;omega,ZU,?_⟩;dsimp only;rw[q];exact bT
theorem Cr {j n:Nat}{sv:Value}{xs sp:List Value}(h:ky j sv n xs sp):∃g c b o,sv=.slice g n c/\(0 < n->g=some ⟨b,o,none⟩)/\ao sv xs sp=kA b o (xs++sp)/\∀ys:List Value,ys.length=xs.length->ky j sv n ys sp/\ao sv ys sp=kA b o (ys++sp):=by
 cases h with
 |mk h1 h2 h3=>exact⟨_,_,_,_,rfl,λ_=>rfl,rfl,λys d=>⟨.mk Zo Zo h3,rfl⟩⟩
 |nil=>exact⟨none,0,0,0,rfl,λh=>absurd h Zo,rfl,λys d=>by obtain rfl:ys=[]:=vz d;exact⟨.nil,rfl⟩⟩
structure SS (x:Nd):Prop where
 name:x.kind=2∨x.kind=3->x.name.size < 140737488355328
 args:∀t∈x.args,t.size < 140737488355328
 ab:∀t∈x.ab,t.size < 140737488355328
 kids:∀y∈x.kids,kM y≠none
theorem gM {s:ByteArray}(h:wm s=true):s.size<=40:=by
 have e:(kB s).length=s.size:=by simp[kB]
 unfold wm at h;unfold fF at h;split at h
 .cases h
 .rename_i c r hb;rw[vG,vG,decide_eq_true_eq]at h;omega
theorem SS.of {x:Nd}(h:kM x≠none):SS x:=by
 cases x with
 |mk k s lit args ab kids p=>
 have hi:=oO h;have g:(∀t∈args,t.size<=40)/\∀t∈ab,t.size<=40:=by
  by_cases h7:k=7
  .exact⟨λt d=>gM (dz ((hi.T5 h7).1 t d)),λt d=>gM (dz ((hi.T5 h7).2 t d))⟩
  .obtain⟨rfl,rfl⟩:=hi.noargs h7;exact⟨λt d=>(by cases d),λt d=>(by cases d)⟩
 exact⟨λj=>by have:=gM (hi.name j);simp only[Nd.name];omega,λt d=>by have:=g.1 t d;omega,λt d=>by have:=g.2 t d;omega,hi.fE⟩
def xN(x:Md):Md:=⟨x.aQ,x.args.map bL,x.ab.map bL,x.aA,kZ x.body⟩
def ot(x:Md):Nd:=.mk 7 e0 Go.V.eV x.args x.ab x.body 0
theorem IZ {x:Md}(h:jt x=0):(∀s∈x.args,jF s=true)/\∀s∈x.ab,jF s=true:=by
 have g:zC x≠none:=by
  intro e;unfold jt at h;rw[e]at h;cases h
 unfold zC at g;have d:=lx (wR g).2;exact⟨d.1,(lx d.2).1⟩
theorem x6 {x:Md}(h:jt x=0):SS (ot x):=by
 obtain⟨g,j⟩:=IZ h;exact⟨λhk=>(by rcases hk with hk|hk <;> cases hk),λt d=>by have:=gM (dz (g t d));omega,λt d=>by have:=gM (dz (j t d));omega,lL h⟩
theorem Of {x:Md}(h:jt x=0)(d:zP (ot x)=true):jt (xN x)=0:=by
 obtain⟨j,m⟩:=IZ h;have q:=lL h;unfold ot at d;simp only[zP,vG,vg,decide_eq_true_eq]at d;obtain⟨⟨⟨_,B⟩,C⟩,D⟩:=d;have A:zC (xN x)=zC x:=by
  unfold zC xN;simp only[Q6];rw[mh 15 _ j B,mh 63 _ m C,rC];have s:(kZ x.body).map kM=x.body.map kM:=by
   rw[dt,QE];exact QC λy g=>LU y (q y g) (xh D g)
  rw[s]
 unfold jt at h|-;rw[A];exact h
theorem ZG(F G:List ByteArray){x:Md}(h:jt x=0)(d:zP (ot x)=true):hK (F.map bL) (G.map bL) (xN x)=((hK F G x).1.map jp.aW,(hK F G x).2):=by
 unfold hK;rw[if_pos h,if_pos (Of h d)];show(zu (F.map bL) (G.map bL) (x.args.map bL) (x.ab.map bL) (kZ x.body)).answer=_;rw[XK,Kz]
theorem S6(F G:List ByteArray)(x:Md)(d:Nd.ws x.body<=274877906944):∀y∈(hK F G x).1,PN.bj 274877906944 y.body:=by
 unfold hK;split
 .exact RH F G x.args x.ab x.body _ Zd d
 .intro y g;cases g
theorem R5(s:ByteArray):(zY s).size<=s.size+1:=by
 unfold zY;split
 .omega
 .rw[Ce];exact Qt _
mutual
theorem call_w:∀x:Nd,(jV x).w<=2*x.w
 |.mk k s lit args ab kids p=>by
  rw[jV];have h1:=xT kids;have h2:=R5 s;simp only[Nd.w,Q6];split <;> omega
theorem xT:∀l:List Nd,Nd.ws (kZ l)<=2*Nd.ws l
 |[]=>by rw[kZ];simp only[Nd.ws];omega
 |x::r=>by
  rw[kZ];have h1:=call_w x;have h2:=xT r;simp only[Nd.ws];omega
end
mutual
theorem Oe:∀x:Nd,(jV x).size=x.size
 |.mk k s lit args ab kids p=>by rw[jV,Nd.size,Nd.size,qd kids]
theorem qd:∀l:List Nd,Nd.ap (kZ l)=Nd.ap l
 |[]=>rfl
 |x::r=>by rw[kZ,Nd.ap,Nd.ap,Oe x,qd r]
end
mutual
theorem Tg:∀x:Nd,nj (jV x)=nj x
 |.mk k s lit args ab kids p=>by rw[jV,nj,nj,tz kids];simp only[gu,Q6]
theorem tz:∀l:List Nd,jM (kZ l)=jM l
 |[]=>rfl
 |x::r=>by rw[kZ,jM,jM,Tg x,tz r]
end
theorem Ti(x:Md):iX (xN x).args (xN x).ab (xN x).body=iX x.args x.ab x.body:=by
 show gu (x.args.map bL) (x.ab.map bL) (jM (kZ x.body))=gu x.args x.ab (jM x.body);rw[tz];simp only[gu,Q6]
theorem sJ(y:Nd):∀l:List Nd,wo (l++[y])=(wo l&&zP y)
 |[]=>by rw[QV,wo,wo];cases zP y <;> rfl
 |x::r=>by rw[vr,wo,wo,sJ y r,Bool.and_assoc]
theorem HF {α:Type}{p:α->Bool}{l:List α}{i:Nat}{x:α}(h:l[i]? =some x):(l.take (i+1)).all p=((l.take i).all p&&p x):=by
 rw[Qi,h,List.all_append];simp
theorem IK {H:SH}{A d q D m g j Z Q K:List kC}(h:ai H [A,d,q,D,m,g,j,Z,Q,K]):ai H [q,D,A,m,g,j,Z,Q,K++d]:=ai.cut h (ai.cut (M:=[q,D,A,m,g,j,Z,Q,K,d]) ZI (ai.perm Zs))
theorem HS(A:List kC):∀(N:Nat) (x:Nd),x.w<=N->x.w<=274877906944->SS x->∀vs,jN A x vs->au Tryz.prog 35 [.agg vs.toArray] [A] (λv Post=>∃ws B,v=.tuple #[.agg ws.toArray,.bool (zP x)]/\eI (jV x) ws B/\Post=[A,B]):=by
 intro N
 induction N with
 |zero=>intro x hx;have:=x.iy;omega
 |succ N ih=>
  intro x hx hb aN vs h;have Ui:=CX A _ x (Qt _) hb vs h;cases h with
  |@mk k s lit args ab kids p lv av tv a cc bk o us wf hl bD bB ha hm hr rV=>
  have Eb:=io A args _ bD aN.args;have hnt:=io A ab _ bB aN.ab;have htn:=JY s wf.name;have hkd:=aN.kids;obtain⟨Z,ac,rfl,s5,dD⟩:=id bD;obtain⟨ta,tc,rfl,rZ,IG⟩:=id bB;have Kl:=hl;cases hl with
  |@mk k1 n1 b1 t1 items la lc CV lo IY Se Im qK cP=>
  simp only[Nd.w]at hx hb;have bH:=wf.many;refine au.intro low35 Zn9 ?_;simp only[aE];refine ae ?_;refine kX Zr (λq=>?_);refine kK (λO=>?_);simp only[Value.cells];refine ae ?_;refine kH Ui Zr ZP (λv Post hv=>?_);obtain⟨ws0,B0,rfl,C9,rfl⟩:=hv;simp only[aE];obtain⟨lv',av',R6,sv,rows,sp,S,LA,LT,K,rfl,bn,cu,_,aJ,KY,A4,cF⟩:=C9.parts;obtain⟨e1,ec,rfl⟩:=ed aJ.rd;obtain⟨a9,c9,rfl,_,_⟩:=KY.rd;obtain⟨a8,c8,rfl,_,_⟩:=A4.rd;obtain⟨oa,c0,db,Y,rfl,hoa,iF,cM⟩:=Cr bn;rw[iF]at cF;simp only[Nd.kind,Nd.name,Nd.args,Nd.ab,Nd.kids,Nd.at_,Nd.lit,Lt.kind,Lt.n,Lt.bits,Lt.text,Lt.items,vr,QV]at aJ cu cM hoa bn|-;have hrl:=ff cu.2.1;rw[cu.1]at hrl;refine VO.imp (H':=[A,kA db Y (rows.flatten++sp),S,kA O 0 [.int .u8 0,.string ⟨#[]⟩,.int .u8 0,.int .i64 0,.int .u64 0,.string ⟨#[]⟩,Nz,Nz,Nz,Nz,.int .i64 0],kA q 0 (rA k s k1 n1 b1 t1 la items.length lc Z args.length ac ta ab.length tc a kids.length cc p)]) (ai.cut (M:=[A,S,LA,LT,kA db Y (rows.flatten++sp),K,kA O 0 [.int .u8 0,.string ⟨#[]⟩,.int .u8 0,.int .i64 0,.int .u64 0,.string ⟨#[]⟩,Nz,Nz,Nz,Nz,.int .i64 0],kA q 0 (rA k s k1 n1 b1 t1 la items.length lc Z args.length ac ta ab.length tc a kids.length cc p)]) (ai.perm (by
   simp only[Vd,Ve,vp];exact((cF.append_right _).append_left A).trans (by simp[vm]))) ZI) ?_
  refine ae ?_;refine kK (λW=>?_);refine jH ?_;obtain⟨m,U⟩:∃m,m=if k=2∨k=3 then zY s else s:=⟨_,rfl⟩;obtain⟨Q,X⟩:∃Q,Q=(!decide (k=2∨k=3)||decide (s.size < 40)):=⟨_,rfl⟩;refine VC.join (α:=Unit) (bg:=λ_=>[(1,kE q),(2,kE O),(4,.bool Q),(5,kE W)])
   (Hf:=λ_=>[kA W 0 (rA k m k1 n1 b1 t1 e1 items.length ec a9 args.length c9 a8 ab.length c8 oa kids.length c0 p),A,kA db Y (rows.flatten++sp),S,kA O 0 [.int .u8 0,.string ⟨#[]⟩,.int .u8 0,.int .i64 0,.int .u64 0,.string ⟨#[]⟩,Nz,Nz,Nz,Nz,.int .i64 0],kA q 0 (rA k s k1 n1 b1 t1 la items.length lc Z args.length ac ta ab.length tc a kids.length cc p)]) (I:=λ_=>True) ?_ ?_
  .refine ae ?_;by_cases pL:k=2
   .subst pL;simp only[true_or,or_true,if_true,decide_true,vQ,vN]at U X;refine ae ?_;refine kL htn Zr ?_;refine ae ?_;subst U;rw[show decide ((s.size:Int) < 40)=Q from by rw[X];exact decide_eq_decide.2 Zo];exact Sk
   by_cases qI:k=3
   .subst qI;simp only[true_or,or_true,if_true,decide_true,vQ,vN]at U X;refine ae ?_;refine kL htn Zr ?_;refine ae ?_;subst U;rw[show decide ((s.size:Int) < 40)=Q from by rw[X];exact decide_eq_decide.2 Zo];exact Sk
   have cV:¬(k=2∨k=3):=λc=>c.elim pL qI
   rw[if_neg cV]at U;rw[Zf cV]at X;obtain rfl:Q=true:=X;subst U;rw[show decide ((k:Int)=2)=false from Zf Zo];refine ae ?_;rw[show decide ((k:Int)=3)=false from Zf Zo];exact Sk
  rintro⟨⟩ -
  refine ae ?_;refine kH Eb Zr ZP (λv Post hv=>?_);obtain⟨d,hta,rfl⟩:=hv;simp only[aE];obtain⟨a5,c5,e5,_,_⟩:=id hta.rd;rw[Q6]at e5;subst e5;refine ae ?_;refine kH hnt Zr ZP (λv Post hv=>?_);obtain⟨g,htt,rfl⟩:=hv;simp only[aE];obtain⟨a6,c6,e6,_,_⟩:=id htt.rd;rw[Q6]at e6;subst e6;refine ae ?_;refine VC.loop (α:=Nat×Bool×List (List Value)×List Value×List kC) (bg:=λz=>[(1,kE q),(2,kE O),(4,.bool z.2.1),(5,kE W),(6,vi z.1)])
   (Hf:=λz=>[kA W 0 (rA k m k1 n1 b1 t1 e1 items.length ec a5 args.length c5 a6 ab.length c6 oa kids.length c0 p),kA db Y (z.2.2.1.flatten++z.2.2.2.1),A,S,d,g,kA O 0 [.int .u8 0,.string ⟨#[]⟩,.int .u8 0,.int .i64 0,.int .u64 0,.string ⟨#[]⟩,Nz,Nz,Nz,Nz,.int .i64 0],kA q 0 (rA k s k1 n1 b1 t1 la items.length lc Z args.length ac ta ab.length tc a kids.length cc p),z.2.2.2.2])
   (I:=λz=>z.1<=kids.length/\gg (kZ (kids.take z.1)) z.2.2.1 z.2.2.2.2/\z.2.2.2.1.length=(kids.length - z.1)*11+sp.length/\z.2.2.2.1.drop ((kids.length - z.1)*11)=sp/\z.2.1=(Q&&wo (kids.take z.1)))
   (μ:=λz=>kids.length - z.1) (0,Q,[],rows.flatten++sp,[]) ⟨X3 _,gg.nil,by simp only[Vy];omega,by rw[X0,<- hrl];exact List.drop_left,by rw[Qm,wo,vI]⟩ ZU (ai.cut (M:=[kA W 0 (rA k m k1 n1 b1 t1 e1 items.length ec a5 args.length c5 a6 ab.length c6 oa kids.length c0 p),kA db Y (rows.flatten++sp),A,S,d,g,kA O 0 [.int .u8 0,.string ⟨#[]⟩,.int .u8 0,.int .i64 0,.int .u64 0,.string ⟨#[]⟩,Nz,Nz,Nz,Nz,.int .i64 0],kA q 0 (rA k s k1 n1 b1 t1 la items.length lc Z args.length ac ta ab.length tc a kids.length cc p)]) ZI (ai.perm Zs)) ?_
  rintro⟨j,b,lE,tl,K2⟩ ⟨i1,T,i3,i4,i5⟩
  simp only at i1 T i3 i4 i5;dsimp only;refine ae ?_;by_cases hj:j < kids.length;rotate_left
  .obtain rfl:j=kids.length:=by omega
   rw[Qz,X4,vy]at i4;subst i4;rw[Qk]at T i5;rw[show decide ((kids.length:Int) < (kids.length:Int))=false from Zf Zo];have Lc:=ff T.2.1;rw[T.1,zG]at Lc;obtain⟨hsl2,ν⟩:=cM lE.flatten Zo;have hwf:Kv k m (kZ kids).length p:=⟨wf.kind,by
    rw[U];split
    .unfold zY;split
     .exact wf.name
     .rename_i hk _;rw[Ce];have:=aN.name hk;simp only[Nd.name]at this;omega
    .exact wf.name,by rw[zG];exact wf.many,wf.at_⟩
   have eN:=eI.of (p:=p) (k:=k) (s:=m) (by rw[zG];exact hsl2) T hwf aJ hta htt;rw[ν]at eN;have az:Nd.mk k m (.mk k1 n1 b1 t1 items) (args.map bL) (ab.map bL) (kZ kids) p=jV (.mk k s (.mk k1 n1 b1 t1 items) args ab kids p):=by rw[U];rfl
   rw[az]at eN;simp only[aE]at eN;generalize kA db Y (lE.flatten++tl)=SL at eN|-;have UI:zP (.mk k s (.mk k1 n1 b1 t1 items) args ab kids p)=(b&&(args.all λa=>decide (a.size < 40))&&(ab.all λa=>decide (a.size < 40))):=by
    rw[zP,<- X,i5];cases Q <;> cases (args.all λa=>decide (a.size < 40)) <;> cases (ab.all λa=>decide (a.size < 40)) <;> cases wo kids <;> rfl
   rw[UI];clear UI az U X i5 T i3;refine ae ?_;refine VC.loop (α:=Nat×Bool) (bg:=λz=>[(1,kE q),(2,kE O),(4,.bool z.2),(5,kE W),(9,vi z.1)]) (Hf:=λ_=>[kA W 0 (rA k m k1 n1 b1 t1 e1 items.length ec a5 args.length c5 a6 ab.length c6 oa kids.length c0 p),SL,A,S,d,g,kA O 0 [.int .u8 0,.string ⟨#[]⟩,.int .u8 0,.int .i64 0,.int .u64 0,.string ⟨#[]⟩,Nz,Nz,Nz,Nz,.int .i64 0],kA q 0 (rA k s k1 n1 b1 t1 la items.length lc Z args.length ac ta ab.length tc a kids.length cc p),K2])
    (I:=λz=>z.1<=args.length/\z.2=(b&&(args.take z.1).all λa=>decide (a.size < 40))) (μ:=λz=>args.length - z.1) (0,b) ⟨X3 _,Zs⟩ ZU ZI ?_
   rintro⟨i,b3⟩ ⟨hi,Ub⟩
   simp only at hi Ub;dsimp only;refine ae ?_;by_cases cL:i < args.length
   .obtain⟨t,ht⟩:∃t,args[i]? =some t:=⟨_,Zg cL⟩;obtain⟨xb,xo,rfl,fD,fq⟩:=dD i t ht;have aj:=HF (p:=λa:ByteArray=>decide (a.size < 40)) ht;rw[show decide ((i:Int) < (args.length:Int))=true from Zt Zo];cases b3 with
    |true=>
     refine ae ?_;refine⟨(i+1,decide ((t.size:Int) < 40)),⟨by simp only;omega,?_⟩,by simp only;omega,ZU,ZI⟩;simp only;rw[aj,<- Bool.and_assoc,<- Ub,vW];exact decide_eq_decide.2 Zo
    |false=>
     refine ae ?_;refine⟨(i+1,false),⟨by simp only;omega,?_⟩,by simp only;omega,ZU,ZI⟩;simp only;rw[aj,<- Bool.and_assoc,<- Ub,vL]
   rw[show decide ((i:Int) < (args.length:Int))=false from Zf Zo];rw[Ql Zo]at Ub;rw[<- Ub];refine ae ?_;refine VC.loop (α:=Nat×Bool) (bg:=λz=>[(1,kE q),(2,kE O),(4,.bool z.2),(5,kE W),(10,vi z.1)]) (Hf:=λ_=>[kA W 0 (rA k m k1 n1 b1 t1 e1 items.length ec a5 args.length c5 a6 ab.length c6 oa kids.length c0 p),SL,A,S,d,g,kA O 0 [.int .u8 0,.string ⟨#[]⟩,.int .u8 0,.int .i64 0,.int .u64 0,.string ⟨#[]⟩,Nz,Nz,Nz,Nz,.int .i64 0],kA q 0 (rA k s k1 n1 b1 t1 la items.length lc Z args.length ac ta ab.length tc a kids.length cc p),K2])
    (I:=λz=>z.1<=ab.length/\z.2=(b3&&(ab.take z.1).all λa=>decide (a.size < 40))) (μ:=λz=>ab.length - z.1) (0,b3) ⟨X3 _,Zs⟩ ZU ZI ?_
   rintro⟨i,b4⟩ ⟨hi,Ud⟩
   simp only at hi Ud;dsimp only;refine ae ?_;by_cases cL:i < ab.length
   .obtain⟨t,ht⟩:∃t,ab[i]? =some t:=⟨_,Zg cL⟩;obtain⟨xb,xo,rfl,fD,fq⟩:=IG i t ht;have aj:=HF (p:=λa:ByteArray=>decide (a.size < 40)) ht;rw[show decide ((i:Int) < (ab.length:Int))=true from Zt Zo];cases b4 with
    |true=>
     refine ae ?_;refine⟨(i+1,decide ((t.size:Int) < 40)),⟨by simp only;omega,?_⟩,by simp only;omega,ZU,ZI⟩;simp only;rw[aj,<- Bool.and_assoc,<- Ud,vW];exact decide_eq_decide.2 Zo
    |false=>
     refine ae ?_;refine⟨(i+1,false),⟨by simp only;omega,?_⟩,by simp only;omega,ZU,ZI⟩;simp only;rw[aj,<- Bool.and_assoc,<- Ud,vL]
   rw[show decide ((i:Int) < (ab.length:Int))=false from Zf Zo];rw[Ql Zo]at Ud;rw[<- Ud];refine ae ?_;exact⟨.inr rfl,[.agg #[cv k,.string m,cv k1,vi n1,uv b1,.string t1,.slice e1 items.length ec,.slice a5 args.length c5,.slice a6 ab.length c6,.slice oa kids.length c0,vi p],.bool b4],[A,S++(d++(g++(SL++K2)))],.aI (us:=(rA k m k1 n1 b1 t1 e1 items.length ec a5 args.length c5 a6 ab.length c6 oa kids.length c0 p)) Zr Zr (λy hy=>QN.2 ⟨_,Zs,hy⟩) (.tmp Zr .nil),
    ai.cut (M:=[A,S,d,g,SL,K2]) ZI (ai.perm Zs),⟨_,_,rfl,eN,rfl⟩⟩
  obtain rfl:=ha Zo;obtain rfl:=hoa Zo;rw[show decide ((j:Int) < (kids.length:Int))=true from Zt Zo];obtain⟨y,hy⟩:∃y,kids[j]? =some y:=⟨_,Zg hj⟩;have cG:=hm j hj;have bF:=hr j y hy;have h1:=Nd.cj (Zv hy);have az:=ih y Zo Zo (SS.of (hkd y (Zv hy))) _ bF;have eO:=bF.len;generalize us j=uj at*;refine ae ?_;refine kR Zr (λz hz=>QN.2 ⟨A,Zs,cG z hz⟩) eO ?_;refine ae ?_;refine kH az Zr ZP (λv Post hv=>?_);obtain⟨ws,B2,rfl,hw,rfl⟩:=hv;simp only[aE];obtain⟨f1,f2,f3,f4,f5,f6,f7,f8,f9,C,D,E,F,G,H,J,L,rfl,_,_⟩:=yF hw.rd;refine ae ?_;refine kK (λq7=>?_);refine ae ?_;have Lc:=ff T.2.1;rw[T.1,zG,QA,Nat.min_eq_left i1]at Lc;have hupd:=NI (tl:=tl) (row:=[cv (jV y).kind,.string (jV y).name,cv f1,vi f2,uv f3,.string f4,.slice f5 f6 f7,.slice f8 f9 C,.slice D E F,.slice G H J,vi L]) Lc Zr;refine yX (us:=[cv (jV y).kind,.string (jV y).name,cv f1,vi f2,uv f3,.string f4,.slice f5 f6 f7,.slice f8 f9 C,.slice D E F,.slice G H J,vi L]) Zr Zr Zr Zr Zr (Ad.there (Ad.there (Ad.there (Ad.there (Ad.cells (ws:=(lE++[[cv (jV y).kind,.string (jV y).name,cv f1,vi f2,uv f3,.string f4,.slice f5 f6 f7,.slice f8 f9 C,.slice D E F,.slice G H J,vi L]]).flatten++tl.drop 11) (k:=Y+j*11) (o:=Y) (vs:=lE.flatten++tl) (us:=[cv (jV y).kind,.string (jV y).name,cv f1,vi f2,uv f3,.string f4,.slice f5 f6 f7,.slice f8 f9 C,.slice D E F,.slice G H J,vi L]) (Nat.le_add_right _ _) (by rw[Vy,Qo];show j*11+11<=_;omega) (by rw[Qo];exact hupd)))))) ?_;have IE:=T.snoc hw;have cA:kZ (kids.take j)++[jV y]=kZ (kids.take (j+1)):=by rw[dt,dt,Qi,hy,QB];rfl
  have cX:wo (kids.take (j+1))=(wo (kids.take j)&&zP y):=by rw[Qi,hy];exact sJ y _
  rw[cA]at IE;unfold rA at IE;generalize [cv (jV y).kind,.string (jV y).name,cv f1,vi f2,uv f3,.string f4,.slice f5 f6 f7,.slice f8 f9 C,.slice D E F,.slice G H J,vi L]=ws at*;have Ki:(tl.drop 11).drop ((kids.length - (j+1))*11)=sp:=by rw[List.drop_drop,show 11+(kids.length - (j+1))*11=(kids.length - j)*11 by omega];exact i4
  have Ea:(tl.drop 11).length=(kids.length - (j+1))*11+sp.length:=by rw[Q0];omega
  have hbn:(b&&zP y)=(Q&&wo (kids.take (j+1))):=by rw[cX,i5,Bool.and_assoc]
  cases b with
  |true=>
   refine ae ?_;exact⟨(j+1,zP y,lE++[ws],tl.drop 11,K2++B2),⟨by simp only;omega,IE,Ea,Ki,by rw[<- hbn];rfl⟩,by simp only;omega,ZU,by dsimp only;exact IK ZI⟩
  |false=>
   refine ae ?_;exact⟨(j+1,false,lE++[ws],tl.drop 11,K2++B2),⟨by simp only;omega,IE,Ea,Ki,by rw[<- hbn];rfl⟩,by simp only;omega,ZU,by dsimp only;exact IK ZI⟩
noncomputable section
def F94:aO:=aZ (o:=gF pq Tryz.f94 [(8,[])])
theorem low94:Zo9 94 [(8,[])] F94:=Zx9
end
theorem KH {b d:Nat}:∀{rows:List (List Value)} {o:Nat},(∀r∈rows,r.length=d)->∀y∈kA b o rows.flatten,∃(i:Nat) (r:List Value),rows[i]? =some r/\y∈kA b (o+i*d) r:=by
 intro rows
 induction rows with
 |nil=>intro o _ y hy;simp[kA]at hy
 |cons q rows ih=>
  intro o h y hy;rw[Vd,ku,QG]at hy;rcases hy with hy|hy
  .exact⟨0,q,rfl,by simpa using hy⟩
  .obtain⟨i,r,j,g⟩:=ih (λr g=>h r (by simp[g])) y hy;refine⟨i+1,r,by simpa using j,?_⟩;rw[h q Zs]at g;rw[show o+(i+1)*d=o+d+i*d by rw[Nat.add_mul];omega];exact g
theorem XX {A:List kC}{a:Option Addr}{c:Nat}{l:List jZ}(h:wA A (.slice a l.length c) l)(D:0 < l.length):Src A 4 l.length (l.flatMap kf) (.slice a l.length c):=by
 obtain⟨a',c',e,j⟩:=h;cases e;obtain⟨t,E⟩:∃t,l[0]? =some t:=⟨_,Zg D⟩;obtain⟨b,o,d,_⟩:=j 0 t E;cases d;have m:∀r∈l.map kf,r.length=4:=λr H=>by
  obtain⟨u,_,rfl⟩:=QO.1 H;rfl
 have s:(l.flatMap kf).length=l.length*4:=by rw[Va,ff m,Q6]
 refine⟨s,λx q=>?_⟩;rw[Va]at q;obtain⟨i,r,g,G⟩:=KH m x q;rw[Vu]at g;obtain⟨u,F,rfl⟩:=X9.1 g;obtain⟨b2,o2,B,C⟩:=j i u F;cases B;exact C x G
theorem XG(l:List jZ):(l.flatMap kf).all jo=true:=by
 rw[vg];intro v g;obtain⟨r,_,d⟩:=QM.1 g;simp only[kf,QI,QZ,or_false]at d;rcases d with rfl|rfl|rfl|rfl <;> rfl
theorem lD(l:List jZ):(l.flatMap kf).length=l.length*4:=by
 have d:∀r∈l.map kf,r.length=4:=λr g=>by
  obtain⟨u,_,rfl⟩:=QO.1 g;rfl
 rw[Va,ff d,Q6]
theorem vo_nil {P:Program}{n:Nat}{rs:List RO}{Γ:Env}{H:SH}{Z:List PanicEntry->Env->SH->Prop}{K:Env->SH->Prop}(h:VO P n rs Γ (ao Nz [] []::H) Z K):VO P n rs Γ H Z K:=VO.imp (ai.perm (by simp[ao])) h
theorem CY(T:List kC):∀(N:Nat) (x:PN),PN.w x<=N->PN.w x<=274877906944->PN.lits 274877906944 x->∀vs,DJ T x vs->au Tryz.prog 94 [.agg vs.toArray] [T] (λv Post=>∃(lv:List Value) (rv kv:Value) (rows:List (List Value)) (J Zk:List Value) (LL:List kC),v=.agg ([cv x.kind,.string x.name]++lv++[rv,.int .i64 x.unit,.bool x.super,kv]).toArray/\
 yY x.lit lv LL/\ky 4 rv x.refs.length (x.refs.flatMap kf) J/\ky 11 kv x.kids.length rows.flatten Zk/\(rows.length=x.kids.length/\∀r∈rows,r.length=11)/\Post=[T,LL,ao rv (x.refs.flatMap kf) J,ao kv rows.flatten Zk]):=by
 intro N
 induction N with
 |zero=>intro x hx;cases x;rw[PN.w]at hx;omega
 |succ N ih=>
  intro x hx hb K6 vs h;cases h with
  |@mk k nm lit refs unit cf kids lv rv a c bk o us hl hr ha hm hs=>
  rw[PN.w]at hx hb;rw[PN.lits]at K6;have C9:=rI T _ lit (Qt _) K6.1 lv hl;have dE:=hl;cases dE with
  |@mk k1 n1 b1 t1 items la lc CV lo IY LJ Ly LB LC=>
  obtain⟨ra,rc,rfl,hrr⟩:=id hr;have Fq:kids.length<=PN.ws kids:=x4 kids;refine au.intro low94 Zn9 ?_;simp only[aE];refine ae ?_;refine kX Zr (λq=>?_);refine kK (λH=>?_);simp only[Value.cells];refine ae ?_;refine VC.loop (α:=Nat×Value×List (List Value)×List Value) (bg:=λz=>[(1,kE q),(2,kE H),(3,z.2.1),(4,vi z.1)]) (Hf:=λz=>[T,kA q 0 (rB k nm k1 n1 b1 t1 la items.length lc ra refs.length rc unit cf a kids.length c),kA H 0 [.int .u8 0,.string ⟨#[]⟩,.int .u8 0,.int .i64 0,.int .u64 0,.string ⟨#[]⟩,Nz,Nz,.int .i64 0,.bool false,Nz],ao z.2.1 z.2.2.1.flatten z.2.2.2])
   (I:=λz=>z.1<=kids.length/\ky 11 z.2.1 z.1 z.2.2.1.flatten z.2.2.2/\z.2.2.1.length=z.1/\∀r∈z.2.2.1,r.length=11) (μ:=λz=>kids.length - z.1) (0,Nz,[],[]) ⟨X3 _,.nil,rfl,λr h=>(by cases h)⟩ ZU (ai.cut (M:=[T,kA q 0 (rB k nm k1 n1 b1 t1 la items.length lc ra refs.length rc unit cf a kids.length c),kA H 0 [.int .u8 0,.string ⟨#[]⟩,.int .u8 0,.int .i64 0,.int .u64 0,.string ⟨#[]⟩,Nz,Nz,.int .i64 0,.bool false,Nz]]) ZI (ai.perm (by simp[ao]))) ?_
  rintro⟨j,sv,rows,sp⟩ ⟨i1,i2,i3,i4⟩
  simp only at i1 i2 i3 i4;dsimp only;refine ae ?_;by_cases hj:j < kids.length
  .obtain rfl:=ha Zo;rw[show decide ((j:Int) < (kids.length:Int))=true from Zt Zo];obtain⟨y,G⟩:∃y,kids[j]? =some y:=⟨_,Zg hj⟩;have cG:=hm j hj;have bF:=hs j y G;have h1:=PN.E1 (Zv G);have az:=ih y Zo Zo (PN.oL K6.2 (Zv G)) _ bF;have eO:=bF.len;generalize us j=uj at*;refine ae ?_;refine kR Zr CS eO ?_;refine ae ?_;refine kH az Zr ZP (λv Post hv=>?_);obtain⟨lv2,rv2,kv2,lE,rsp2,ksp2,LL2,rfl,nO,cP,pL,_,rfl⟩:=hv;simp only[aE];obtain⟨L,K,rfl⟩:=ed nO.rd;obtain⟨A,C,rfl⟩:=cP.form;obtain⟨g,s,rfl⟩:=pL.form;simp only[aE];refine j8 (out:=(rB y.kind y.name y.lit.kind y.lit.n y.lit.bits y.lit.text L y.lit.items.length K A y.refs.length C y.unit y.super g y.kids.length s)) Zr Zr (λr=>?_);refine kw (k:=j) (m:=1) (xs:=rows.flatten) (sp:=sp) (ys:=(rB y.kind y.name y.lit.kind y.lit.n y.lit.bits y.lit.text L y.lit.items.length K A y.refs.length C y.unit y.super g y.kids.length s)) Zr Zr i2 ZK Zr ?_ rfl Zr Zr Zd Zo (λcw bA aH=>?_)
   .exact C2
   have fS:rows.flatten++(rB y.kind y.name y.lit.kind y.lit.n y.lit.bits y.lit.text L y.lit.items.length K A y.refs.length C y.unit y.super g y.kids.length s)=(rows++[(rB y.kind y.name y.lit.kind y.lit.n y.lit.bits y.lit.text L y.lit.items.length K A y.refs.length C y.unit y.super g y.kids.length s)]).flatten:=by simp
   rw[fS]at aH|-;refine ae ?_;refine⟨(j+1,cw,rows++[(rB y.kind y.name y.lit.kind y.lit.n y.lit.bits y.lit.text L y.lit.items.length K A y.refs.length C y.unit y.super g y.kids.length s)],bA),⟨by simp only;omega,aH,by simp[i3],λr s7=>?_⟩,by simp only;omega,ZU,ZI⟩;rcases QG.1 s7 with h'|h'
   .exact i4 r h'
   .rw[QU.1 h'];rfl
  rw[show decide ((j:Int) < (kids.length:Int))=false from Zf Zo];obtain rfl:j=kids.length:=by omega
  obtain⟨Z,sc,rfl⟩:=i2.form;generalize hSL:ao (.slice Z kids.length sc) rows.flatten sp=SL;refine ae ?_;refine vo_nil ?_;refine Ml (m:=refs.length) (ys:=refs.flatMap kf) Zr Zr .nil ZK (λh0=>(XX hr h0).mono (λy G=>by simp[G])) (lD refs) (XG refs) Zr Zd Zo (λsv0 J Zb=>?_);rw[X2,QV]at Zb;rw[QV];obtain⟨D,E,rfl⟩:=Zb.form;generalize hSR:ao (.slice D refs.length E) (refs.flatMap kf) J=SR;refine ae ?_;refine VC.imp (H':=[kA q 0 (rB k nm k1 n1 b1 t1 la items.length lc ra refs.length rc unit cf a kids.length c),kA H 0 [.int .u8 0,.string ⟨#[]⟩,.int .u8 0,.int .i64 0,.int .u64 0,.string ⟨#[]⟩,Nz,Nz,.int .i64 0,.bool false,Nz],SR,SL,T]) ZI ?_;refine VC.seq (VC.free 13 (λi v B=>match i with
   |0=>v=.pointer (some ⟨q,0,none⟩)/\B=[]
   |1=>v=cv k/\B=[]
   |2=>v=.pointer (some ⟨q,1,none⟩)/\B=[]
   |3=>v=.string nm/\B=[]
   |4=>v=.pointer (some ⟨q,2,none⟩)/\B=[]
   |5=>v=.agg [cv k1,vi n1,uv b1,.string t1,.slice la items.length lc].toArray/\B=[]
   |6=>∃ws,v=.agg ws.toArray/\yY (.mk k1 n1 b1 t1 items) ws B
   |7=>v=.slice D refs.length E/\B=[]
   |8=>v=.pointer (some ⟨q,8,none⟩)/\B=[]
   |9=>v=.int .i64 unit/\B=[]
   |10=>v=.pointer (some ⟨q,9,none⟩)/\B=[]
   |11=>v=.bool cf/\B=[]
   |12=>v=.slice Z kids.length sc/\B=[]
   |_=>True) Zd Zd Zd ?_ ?_)
  .intro i hi vv hg aw d F
   match i,hi with
  |0,_=>
   show VO _ _ [⟨some 26,none,.Ha 0 (.tmp 1)⟩] _ _ _ _;exact z8 (F 1 _ rfl Zd) rfl xw
  |1,_=>
   show VO _ _ [⟨some 27,none,.dc (.tmp 26)⟩] _ _ _ _;have e:=d 0 Zd 26 rfl;rw[(hg 0 Zd).1]at e;exact jg e Zh xw
  |2,_=>
   show VO _ _ [⟨some 28,none,.Ha 1 (.tmp 1)⟩] _ _ _ _;exact z8 (F 1 _ rfl Zd) rfl xw
  |3,_=>
   show VO _ _ [⟨some 29,none,.dc (.tmp 28)⟩] _ _ _ _;have e:=d 2 Zd 28 rfl;rw[(hg 2 Zd).1]at e;exact jg e Zh xw
  |4,_=>
   show VO _ _ [⟨some 30,none,.Ha 2 (.tmp 1)⟩] _ _ _ _;exact z8 (F 1 _ rfl Zd) rfl xw
  |5,_=>
   show VO _ _ [⟨some 31,none,.ij 5 (.tmp 30)⟩] _ _ _ _;have e:=d 4 Zd 30 rfl;rw[(hg 4 Zd).1]at e;exact yC e YV xw
  |6,_=>
   show VO _ _ [⟨some 32,none,.call 154 [.tmp 31]⟩] _ _ _ _;have e:=d 5 Zd 31 rfl;exact zCM
  |7,_=>
   show VO _ _ [⟨some 33,none,.mv (.tmp 5)⟩] _ _ _ _;exact sR (F 5 _ rfl Zd) xw
  |8,_=>
   show VO _ _ [⟨some 34,none,.Ha 8 (.tmp 1)⟩] _ _ _ _;exact z8 (F 1 _ rfl Zd) rfl xw
  |9,_=>
   show VO _ _ [⟨some 35,none,.dc (.tmp 34)⟩] _ _ _ _;have e:=d 8 Zd 34 rfl;rw[(hg 8 Zd).1]at e;exact jg e Zh xw
  |10,_=>
   show VO _ _ [⟨some 36,none,.Ha 9 (.tmp 1)⟩] _ _ _ _;exact z8 (F 1 _ rfl Zd) rfl xw
  |11,_=>
   show VO _ _ [⟨some 37,none,.dc (.tmp 36)⟩] _ _ _ _;have e:=d 10 Zd 36 rfl;rw[(hg 10 Zd).1]at e;exact jg e Zh xw
  |12,_=>
   show VO _ _ [⟨some 38,none,.mv (.tmp 3)⟩] _ _ _ _;exact sR (F 3 _ rfl Zd) xw
  |n+13,h=>exact absurd h Zo
  .intro vv hg aw d F;show VO _ _ _ _ [(vv 0).2,(vv 1).2,(vv 2).2,(vv 3).2,(vv 4).2,(vv 5).2,(vv 6).2,(vv 7).2,(vv 8).2,(vv 9).2,(vv 10).2,(vv 11).2,(vv 12).2,kA q 0 (rB k nm k1 n1 b1 t1 la items.length lc ra refs.length rc unit cf a kids.length c),kA H 0 [.int .u8 0,.string ⟨#[]⟩,.int .u8 0,.int .i64 0,.int .u64 0,.string ⟨#[]⟩,Nz,Nz,.int .i64 0,.bool false,Nz],SR,SL,T] _ _;refine VO.imp (H':=[kA H 0 [.int .u8 0,.string ⟨#[]⟩,.int .u8 0,.int .i64 0,.int .u64 0,.string ⟨#[]⟩,Nz,Nz,.int .i64 0,.bool false,Nz],T,(vv 6).2,SR,SL]) ZI ?_;obtain⟨ws,e6,h6⟩:=hg 6 Zo;have O:=d 1 Zd 27 rfl;have Q:=d 3 Zd 29 rfl;have S:=d 6 Zd 32 rfl;have U:=d 7 Zd 33 rfl;have W:=d 9 Zd 35 rfl;have X:=d 11 Zd 37 rfl;have Y:=d 12 Zd 38 rfl;rw[(hg 1 Zo).1]at O;rw[(hg 3 Zo).1]at Q;rw[e6]at S;rw[(hg 7 Zo).1]at U;rw[(hg 9 Zo).1]at W;rw[(hg 11 Zo).1]at X;rw[(hg 12 Zo).1]at Y;have s2:=F 2 _ rfl Zd;clear hg d F;generalize (vv 6).2=B6 at*;have h6r:=h6.rd;obtain⟨e1,c1,rfl⟩:=ed h6r;simp only[Lt.kind,Lt.n,Lt.bits,Lt.text,Lt.items]at*;refine VO.sub (Δ:=[(2,kE H),(27,cv k),(29,.string nm),(32,.agg #[cv k1,vi n1,uv b1,.string t1,.slice e1 items.length c1]),(33,.slice D refs.length E),(35,.int .i64 unit),(37,.bool cf),(38,.slice Z kids.length sc)]) (Sub.cons s2 (Sub.cons O (Sub.cons Q (Sub.cons S (Sub.cons U (Sub.cons W (Sub.cons X (Sub.cons Y Sub.nil)))))))) ?_;refine ae ?_;exact⟨.inr rfl,[.agg #[cv k,.string nm,cv k1,vi n1,uv b1,.string t1,.slice e1 items.length c1,.slice D refs.length E,.int .i64 unit,.bool cf,.slice Z kids.length sc]],[T,B6,SR,SL],.aI (us:=(rB k nm k1 n1 b1 t1 e1 items.length c1 D refs.length E unit cf Z kids.length sc)) Zr Zr (λy G=>QN.2 ⟨_,Zs,G⟩) .nil,
    by exact bT,⟨_,_,_,rows,J,sp,B6,rfl,h6,Zb,i2,⟨i3,i4⟩,by rw[<- hSR,<- hSL];rfl⟩⟩
theorem p_openX {T:List kC}{x:PN}{vs:List Value}(h:DJ T x vs):∃(J:Nat) (K:ByteArray) (A:Nat) (B:Int) (C:Nat) (D:ByteArray) (E:Option Addr) (F G:Nat) (H:Option Addr) (I d:Nat) (g:Int) (j:Bool) (m:Option Addr) (q s:Nat),vs=(rB J K A B C D E F G H I d g j m q s):=by
 cases h with
 |mk hl hr ha hm hs=>
  obtain⟨_,_,rfl,_⟩:=hr;cases hl with
  |mk Se Im qK cP=>exact⟨_,_,_,_,_,_,_,_,_,_,_,_,_,_,_,_,_,rfl⟩
theorem XH {refs:List jZ}{i:Nat}{r:jZ}(h:refs[i]? =some r)(tl:List Value):((((refs.take i).map jZ.gO++refs.drop i).flatMap kf++tl).set (i*4+3) (.string ⟨#[]⟩))=(((refs.take (i+1)).map jZ.gO++refs.drop (i+1)).flatMap kf++tl):=by
 have d:i < refs.length:=(Vt.1 h).1;have g:refs.drop i=r::refs.drop (i+1):=by
  rw[vw d]
  congr 1
  rw[Zg d]at h;exact XC h
 have j:refs.take (i+1)=refs.take i++[r]:=by rw[Qi,h];rfl
 have m:(((refs.take i).map jZ.gO).flatMap kf).length=i*4:=by rw[lD,Q6,QA,Nat.min_eq_left Zo]
 rw[g,j,QB,VV,VV,VV,vm,List.set_append_right _ _ Zo,m,Qo];simp only[QD,QF,List.flatMap_cons,List.flatMap_nil,vp,vm];rfl
theorem UZ {H:SH}{j D m T g Z Q K d:List kC}(h:ai H [j,D,m,T,g,Z,Q,K,d]):ai H [j,D,m,T,g,Z,Q,K++d]:=ai.cut h (ai.perm Zs)
theorem di:∀l:List PN,PN.dh l=l.map PN.pH
 |[]=>rfl
 |x::r=>by rw[PN.dh,di r];rfl
theorem DL(T:List kC):∀(N:Nat) (x:PN),PN.w x<=N->PN.w x<=274877906944->PN.lits 274877906944 x->∀vs,DJ T x vs->au Tryz.prog 38 [.agg vs.toArray] [T] (λv Post=>∃ws B,v=.agg ws.toArray/\DJ B (PN.pH x) ws/\Post=[T,B]):=by
 intro N
 induction N with
 |zero=>intro x hx;cases x;rw[PN.w]at hx;omega
 |succ N ih=>
  intro x hx hb K6 vs h;have Ui:=CY T _ x (Qt _) hb K6 vs h;cases h with
  |@mk k nm lit refs unit cf kids lv rv a c bk o us hl hr ha hm hs=>
  rw[PN.w]at hx hb;rw[PN.lits]at K6;cases hl with
  |@mk k1 n1 b1 t1 items la lc CV lo IY LJ Ly LB LC=>
  obtain⟨ra,rc,rfl,hrr⟩:=id hr;have Fq:kids.length<=PN.ws kids:=x4 kids;refine au.intro low38 Zn9 ?_;simp only[aE];refine ae ?_;refine kX Zr (λq=>?_);refine kK (λq2=>?_);simp only[Value.cells];refine ae ?_;refine kH Ui Zr ZP (λv Post hv=>?_);obtain⟨lv',rv',kv',rows,K,G,L,rfl,aJ,hsr,Ee,⟨hrl,Za⟩,rfl⟩:=hv;simp only[aE];obtain⟨U,W,rfl⟩:=ed aJ.rd;obtain⟨H,cR,rb,r0,rfl,hoR,hcR,hbR⟩:=Cr hsr;obtain⟨Q,O,kb,k0,rfl,hoK,hcK,hbK⟩:=Cr Ee;rw[hcR,hcK];simp only[PN.kind,PN.name,PN.lit,PN.refs,PN.unit,PN.super,PN.kids,Lt.kind,Lt.n,Lt.bits,Lt.text,Lt.items,vr,QV]at aJ hbR hoR hbK hoK hsr Ee hrl|-;have E:=ff Za;rw[hrl]at E;have hrl4:=lD refs;refine ae ?_;refine kK (λq3=>?_);refine ae ?_;refine VC.loop (α:=Nat) (bg:=λi=>[(1,kE q),(2,kE q2),(3,kE q3),(4,vi i)])
   (Hf:=λi=>[kA q3 0 (rB k nm k1 n1 b1 t1 U items.length W H refs.length cR unit cf Q kids.length O),kA rb r0 (((refs.take i).map jZ.gO++refs.drop i).flatMap kf++K),kA kb k0 (rows.flatten++G),T,L,kA q2 0 [.int .u8 0,.string ⟨#[]⟩,.int .u8 0,.int .i64 0,.int .u64 0,.string ⟨#[]⟩,Nz,Nz,.int .i64 0,.bool false,Nz],kA q 0 (rB k nm k1 n1 b1 t1 la items.length lc ra refs.length rc unit cf a kids.length c)])
   (I:=λi=>i<=refs.length) (μ:=λi=>refs.length - i) 0 (X3 _) ZU (by simp only[Qm,QF,QV,vy];exact bT) ?_
  intro i hi;refine ae ?_;by_cases cL:i < refs.length
  .obtain⟨r,hri⟩:∃r,refs[i]? =some r:=⟨_,Zg cL⟩;obtain rfl:=hoR Zo;have AZ:=XH hri K;have hlen:((((refs.take i).map jZ.gO++refs.drop i).flatMap kf++K)).length=refs.length*4+K.length:=by
    rw[Vy,lD,Vy,Q6,QA,Q0];omega
   rw[show decide ((i:Int) < (refs.length:Int))=true from Zt Zo];refine ae ?_;refine yX (us:=[.string ⟨#[]⟩]) Zr Zr Zr Zr Zr (Ad.there (Ad.set1 (i:=i*4+3) Zo Zo)) ?_;rw[AZ];refine ae ?_;exact⟨i+1,Zo,Zo,ZU,ZI⟩
  obtain rfl:i=refs.length:=by omega
  rw[Qk,List.drop_length,vp];rw[show decide ((refs.length:Int) < (refs.length:Int))=false from Zf Zo];obtain⟨hsr2,hcR2⟩:=hbR ((refs.map jZ.gO).flatMap kf) (by rw[lD,lD,Q6]);rw[<- hcR2];have hrf:=λB=>ux (B:=B) (rs:=refs.map jZ.gO) (sv:=.slice H refs.length cR) (sp:=K) (by rw[Q6];exact hsr2)
  generalize ao (.slice H refs.length cR) ((refs.map jZ.gO).flatMap kf) K=S at hrf|-;refine ae ?_;refine VC.loop (α:=Nat×List (List Value)×List Value×List kC) (bg:=λz=>[(1,kE q),(2,kE q2),(3,kE q3),(5,vi z.1)])
   (Hf:=λz=>[kA q3 0 (rB k nm k1 n1 b1 t1 U items.length W H refs.length cR unit cf Q kids.length O),kA kb k0 (z.2.1.flatten++z.2.2.1),S,T,L,kA q2 0 [.int .u8 0,.string ⟨#[]⟩,.int .u8 0,.int .i64 0,.int .u64 0,.string ⟨#[]⟩,Nz,Nz,.int .i64 0,.bool false,Nz],kA q 0 (rB k nm k1 n1 b1 t1 la items.length lc ra refs.length rc unit cf a kids.length c),z.2.2.2])
   (I:=λz=>z.1<=kids.length/\eJ z.2.2.2 (PN.dh (kids.take z.1)) z.2.1/\z.2.2.1.length=(kids.length - z.1)*11+G.length/\z.2.2.1.drop ((kids.length - z.1)*11)=G)
   (μ:=λz=>kids.length - z.1) (0,[],rows.flatten++G,[]) ⟨X3 _,eJ.nil _,by simp only[Vy];omega,by rw[X0,<- E];exact List.drop_left⟩ ZU (ai.cut (M:=[kA q3 0 (rB k nm k1 n1 b1 t1 U items.length W H refs.length cR unit cf Q kids.length O),kA kb k0 (rows.flatten++G),S,T,L,kA q2 0 [.int .u8 0,.string ⟨#[]⟩,.int .u8 0,.int .i64 0,.int .u64 0,.string ⟨#[]⟩,Nz,Nz,.int .i64 0,.bool false,Nz],kA q 0 (rB k nm k1 n1 b1 t1 la items.length lc ra refs.length rc unit cf a kids.length c)]) ZI (ai.perm Zs)) ?_
  rintro⟨j,lE,tl,J⟩ ⟨i1,F,i3,i4⟩
  simp only at i1 F i3 i4;dsimp only;refine ae ?_;by_cases hj:j < kids.length;rotate_left
  .obtain rfl:j=kids.length:=by omega
   rw[Qz,X4,vy]at i4;subst i4;rw[Qk]at F;rw[show decide ((kids.length:Int) < (kids.length:Int))=false from Zf Zo];have dE:=ff F.w;rw[F.len,di,Q6]at dE;obtain⟨hsk2,hcK2⟩:=hbK lE.flatten Zo;rw[<- hcK2];have K9:=Gy (B:=J) (l:=PN.dh kids) (by rw[di,Q6];exact hsk2) F;generalize ao (.slice Q kids.length O) lE.flatten tl=SK at K9|-;have eN:=Xl (T:=L++(S++(SK++J))) (k:=k) (nm:=nm) (unit:=unit) (cf:=cf) (aJ.rd.more λy d=>by simp[d]) ((hrf []).more λy d=>by simp at d;simp[d]) (K9.more λy d=>by rcases QG.1 d with h|h <;> simp[h]);simp only[aE]at eN;refine ae ?_;exact⟨.inr rfl,[.agg #[cv k,.string nm,cv k1,vi n1,uv b1,.string t1,.slice U items.length W,.slice H refs.length cR,.int .i64 unit,.bool cf,.slice Q kids.length O]],[T,L++(S++(SK++J))],.aI (us:=(rB k nm k1 n1 b1 t1 U items.length W H refs.length cR unit cf Q kids.length O)) Zr Zr (λy d=>QN.2 ⟨_,Zs,d⟩) .nil,
    ai.cut (M:=[T,L,S,SK,J]) ZI (ai.perm Zs),⟨_,_,rfl,eN,rfl⟩⟩
  obtain rfl:=ha Zo;obtain rfl:=hoK Zo;rw[show decide ((j:Int) < (kids.length:Int))=true from Zt Zo];refine ae ?_;obtain⟨y,d⟩:∃y,kids[j]? =some y:=⟨_,Zg hj⟩;have cG:=hm j hj;have bF:=hs j y d;have h1:=PN.E1 (Zv d);have az:=ih y Zo Zo (PN.oL K6.2 (Zv d)) _ bF;have eO:=bF.len;generalize us j=uj at*;refine VC.draws ⟨?_,?_,trivial⟩
  all_goals
   refine ae ?_;refine kR Zr (λz hz=>QN.2 ⟨T,Zs,cG z hz⟩) eO ?_;refine ae ?_;refine kH az Zr ZP (λv Post hv=>?_);obtain⟨ws,B2,rfl,hw,rfl⟩:=hv;simp only[aE];obtain⟨k9,n9,X,Y,Z,f4,f5,f6,f7,f8,f9,g,m,s,A,C,D,rfl⟩:=p_openX hw;have Lc:=ff F.w;rw[F.len,di,Q6,QA,Nat.min_eq_left i1]at Lc;have hupd:=NI (tl:=tl) (row:=(rB k9 n9 X Y Z f4 f5 f6 f7 f8 f9 g m s A C D)) Lc Zr;refine ae ?_;refine yX (us:=(rB k9 n9 X Y Z f4 f5 f6 f7 f8 f9 g m s A C D)) Zr Zr Zr Zr Zr (Ad.there (Ad.there (Ad.there (Ad.cells (ws:=(lE++[(rB k9 n9 X Y Z f4 f5 f6 f7 f8 f9 g m s A C D)]).flatten++tl.drop 11) (k:=k0+j*11) (o:=k0) (vs:=lE.flatten++tl) (us:=(rB k9 n9 X Y Z f4 f5 f6 f7 f8 f9 g m s A C D)) (Nat.le_add_right _ _) (by rw[Vy,Qo];show j*11+11<=_;omega) (by rw[Qo];exact hupd))))) ?_;have cA:PN.dh (kids.take (j+1))=PN.dh (kids.take j)++[PN.pH y]:=by rw[di,di,Qi,d,QB];rfl
   have IE:=(F.more λz hz=>Zw B2 hz).snoc (hw.more λz hz=>QH J hz);rw[<- cA]at IE;generalize (rB k9 n9 X Y Z f4 f5 f6 f7 f8 f9 g m s A C D)=ws at*;have Ki:(tl.drop 11).drop ((kids.length - (j+1))*11)=G:=by rw[List.drop_drop,show 11+(kids.length - (j+1))*11=(kids.length - j)*11 by omega];exact i4
   have Ea:(tl.drop 11).length=(kids.length - (j+1))*11+G.length:=by rw[Q0];omega
   refine ae ?_;refine⟨(j+1,lE++[ws],tl.drop 11,J++B2),⟨by simp only;omega,IE,Ea,Ki⟩,by simp only;omega,ZU,?_⟩;dsimp only;exact UZ ZI
theorem gD {s:ByteArray}{j c:Nat}(h:(kB s)[j]? =some c):(kB s).drop j=c::(kB s).drop (j+1):=by
 obtain⟨d,g⟩:=Vt.1 h;rw[vw d,g]
theorem DV {s:ByteArray}{j:Nat}(h:s.size<=j):(kB s).drop j=[]:=vx (by rw[kV];exact h)
theorem se(c:Nat)(hc:c < 256):au Tryz.prog 180 [cv c] [] (λv Post=>v=.bool (Be c)/\Post=[]):=by
 refine au.intro low180 Zn9 ?_
 (repeat' (first|refine ZB ?_|refine sO Zr (λ_=>?_) (λ_=>?_)|refine sS Zr (λ_=>?_) (λ_=>?_)|refine VC.sH Zr (λ_=>?_) (λ_=>?_)|refine VC.cond Zr (λ_=>?_) (λ_=>?_)))
 all_goals refine⟨.inr rfl,_,_,.tmp Zr .nil,ZI,?_,rfl⟩
 all_goals (simp only[bN,Be,Value.bool.injEq,decide_eq_true_eq,decide_eq_false_iff_not]at*)
 all_goals (rw[vK];simp only[vT,vG,vO,decide_eq_true_eq,decide_eq_false_iff_not,true_iff,iff_true,reduceCtorEq,false_iff,iff_false];omega)
theorem nF(c:Nat)(hc:c < 256):au Tryz.prog 182 [cv c] [] (λv Post=>v=.bool (wX c)/\Post=[]):=by
 refine au.intro low182 Zn9 ?_
 (repeat' (first|refine ZB ?_|refine sO Zr (λ_=>?_) (λ_=>?_)|refine sS Zr (λ_=>?_) (λ_=>?_)|refine VC.sH Zr (λ_=>?_) (λ_=>?_)|refine VC.cond Zr (λ_=>?_) (λ_=>?_)))
 all_goals refine⟨.inr rfl,_,_,.tmp Zr .nil,ZI,?_,rfl⟩
 all_goals (simp only[bN,wX,Value.bool.injEq,decide_eq_true_eq,decide_eq_false_iff_not]at*)
 all_goals (rw[vK];simp only[vT,vG,vO,decide_eq_true_eq,decide_eq_false_iff_not,true_iff,iff_true,reduceCtorEq,false_iff,iff_false];omega)
theorem IM(c:Nat)(d:c < 256):au Tryz.prog 216 [cv c] [] (λv Post=>v=.bool (nX c)/\Post=[]):=by
 refine au.intro low216 Zn9 ?_;refine ae ?_;refine kL (se c d) Zr ?_;cases hl:Be c with
 |true=>
  exact zCA
 |false=>
  refine ae ?_;refine kL (nF c d) Zr ?_;exact zCA
theorem Ai(s:ByteArray)(hs:s.size<=140737488355328)(k:Nat):au Tryz.prog 183 [.string s,vi k] [] (λv Post=>v=cv ((kB s).getD k 0)/\Post=[]):=by
 refine au.intro low183 Zn9 ?_;exact zB1
def DN:ByteArray:=⟨#[43,45,42,47,92,126,60,62,61,64,37,38,63,44,33]⟩
theorem MP(c:Nat):cS c=(kB DN).contains c:=rfl
theorem rO(c:Nat)(hc:c < 256):au Tryz.prog 145 [cv c] [] (λv Post=>v=.bool (cS c)/\Post=[]):=by
 refine au.intro low145 Zn9 ?_;have A:=kV DN;have fq:DN.size=15:=rfl;refine ae ?_;refine VC.loop (α:=Nat) (bg:=λk=>[(0,cv c),(3,.string DN),(4,vi k)]) (Hf:=λ_=>[]) (I:=λk=>k<=15/\∀i,i < k->(kB DN)[i]?≠some c) (μ:=λk=>15 - k) 0 ⟨X3 _,λi h=>by omega⟩ ZU ai.nil ?_
 rintro k ⟨i1,C⟩
 generalize q:DN=B at*;refine ae ?_;by_cases hk:k < 15;rotate_left
 .rw[Zf Zo];refine ae ?_;refine⟨.inr rfl,_,_,.tmp Zr .nil,ZI,?_,rfl⟩;have:cS c=false:=by
   rw[MP,q,vJ];intro h;obtain⟨i,g⟩:=Vv (vt.1 h);have hl:=(Vt.1 g).1;exact C i Zo g
  simp[bN,this]
 rw[Zt Zo];obtain⟨d,D,m⟩:=wG (s:=B) (i:=k) Zo;refine ae ?_;refine wO Zr Zr (j:=k) rfl D ?_;refine ae ?_;by_cases he:d.toNat=c
 .rw[show decide ((d.toNat:Int)=(c:Int))=true from Zt Zo];refine ae ?_;refine⟨.inr rfl,_,_,.tmp Zr .nil,ZI,?_,rfl⟩;have:cS c=true:=by
   rw[MP,q];exact vt.2 (Zv (i:=k) (by rw[m,he]))
  simp[bN,this]
 .rw[show decide ((d.toNat:Int)=(c:Int))=false from Zf Zo];refine ae ?_;refine⟨k+1,⟨Zo,λi g=>?_⟩,Zo,ZU,ai.nil⟩;by_cases e:i=k
  .subst e;rw[m];simpa using he
  .exact C i Zo
def z5(l:List Nat):Nat:=(l.takeWhile nX).length
theorem YD(l:List Nat):z5 l<=l.length:=(List.takeWhile_sublist _).length_le
theorem E2(s:ByteArray)(hs:s.size<=140737488355328)(i:Nat)(q:i<=s.size):au Tryz.prog 181 [.string s,vi i] [] (λv Post=>v=vi (i+z5 ((kB s).drop i):Nat)/\Post=[]):=by
 refine au.intro low181 Zn9 ?_;refine ae ?_;refine VC.loop (α:=Nat) (bg:=λk=>[(0,.string s),(1,vi k)]) (Hf:=λ_=>[]) (I:=λk=>k<=s.size/\k+z5 ((kB s).drop k)=i+z5 ((kB s).drop i)) (μ:=λk=>s.size - k) i ⟨q,rfl⟩ ZU ai.nil ?_
 rintro k ⟨i1,d⟩
 refine ae ?_;by_cases hk:k < s.size;rotate_left
 .rw[Zf Zo];rw[DV Zo]at d;refine ae ?_;refine⟨.inr rfl,_,_,.tmp Zr .nil,ZI,?_,rfl⟩;rw[<- d];rfl
 rw[Zt Zo];obtain⟨c,m,g⟩:=wG hk;refine ae ?_;refine wO Zr Zr (j:=k) rfl m ?_;refine ae ?_;refine kL (IM _ (zt s _ (Zv g))) Zr ?_;rw[gD g]at d;cases hb:nX c.toNat with
 |false=>
  refine ae ?_;refine⟨.inr rfl,_,_,.tmp Zr .nil,ZI,?_,rfl⟩;rw[<- d];simp[bN,z5,hb]
 |true=>
  refine ae ?_;refine⟨k+1,⟨Zo,?_⟩,Zo,ZU,ai.nil⟩;rw[<- d];simp[z5,hb];omega
theorem RI {l:List Nat}{k c:Nat}(h:l[k]? =some c):Dv gV (l.drop k)=if(cS c&&(decide (c≠45)||!wX (l.getD (k+1) 0)))=true then 1+Dv gV (l.drop (k+1))else 0:=by
 rw[<- xi h];obtain⟨d,h2⟩:=Vt.1 h;rw[vw d];rfl
theorem Mh(s:ByteArray)(K:s.size<=140737488355328)(i:Nat)(J:i < s.size):au Tryz.prog 146 [.string s,vi i] [] (λv Post=>v=vi (i+fH ((kB s).drop i):Nat)/\Post=[]):=by
 refine au.intro low146 Zn9 ?_;have G:=kV s;obtain⟨q,A,B⟩:=wG J;have C:=gD B;refine ae ?_;refine wO Zr Zr (j:=i) rfl A ?_;refine ae ?_;by_cases h0:q.toNat=124
 .rw[show decide ((q.toNat:Int)=124)=true from Zt Zo];refine ae ?_;refine⟨.inr rfl,_,_,.tmp Zr .nil,ZI,?_,rfl⟩;rw[C];simp[bN,fH,h0]
 rw[show decide ((q.toNat:Int)=124)=false from Zf Zo];have F:fH ((kB s).drop i)=if cS q.toNat=true then 1+Dv gV ((kB s).drop (i+1))else 0:=by
  rw[C];simp only[fH,if_neg h0]
 refine ae ?_;refine VC.loop (α:=Nat) (bg:=λk=>[(0,.string s),(1,vi i),(5,vi k)]) (Hf:=λ_=>[]) (I:=λk=>k<=s.size/\(k=i∨(i < k/\k+Dv gV ((kB s).drop k)=i+fH ((kB s).drop i)))) (μ:=λk=>s.size - k) i ⟨Zo,.inl rfl⟩ ZU ai.nil ?_
 rintro k ⟨i1,m⟩
 refine ae ?_;by_cases hk:k < s.size;rotate_left
 .rw[Zf Zo];rcases m with rfl|⟨m,i3⟩
  .omega
  exact zEL
 rw[Zt Zo];obtain⟨c,E,H⟩:=wG hk;refine ae ?_;refine wO Zr Zr (j:=k) rfl E ?_;refine ae ?_;refine kL (rO _ (zt s _ (Zv H))) Zr ?_;have g:=RI H;have D:k=i->c=q:=λe=>by subst e;rw[A]at E;cases E;rfl
 cases hb:cS c.toNat with
 |false=>
  refine ae ?_;refine⟨.inr rfl,_,_,.tmp Zr .nil,ZI,?_,rfl⟩;rcases m with rfl|⟨m,i3⟩
  .rw[F,<- D rfl,hb];rfl
  .rw[<- i3,g,hb];rfl
 |true=>
  rw[hb,vW]at g;refine ae ?_;rcases m with rfl|⟨m,i3⟩
  .rw[show decide ((k:Int) > (k:Int))=false from Zf Zo];refine ae ?_;refine⟨k+1,⟨Zo,.inr ⟨Zo,?_⟩⟩,Zo,ZU,ai.nil⟩;rw[F,<- D rfl,hb];simp only[if_true];omega
  rw[show decide ((k:Int) > (i:Int))=true from Zt Zo];refine ae ?_;refine wO Zr Zr (j:=k) rfl E ?_;refine ae ?_;by_cases So:c.toNat=45;rotate_left
  .rw[show decide ((c.toNat:Int)=45)=false from Zf Zo];refine ae ?_;refine⟨k+1,⟨Zo,.inr ⟨Zo,?_⟩⟩,Zo,ZU,ai.nil⟩;rw[<- i3,g];simp[So];omega
  rw[show decide ((c.toNat:Int)=45)=true from Zt Zo];refine ae ?_;refine kL (Ai s K (k+1)) Zr ?_;refine ae ?_;refine kL (nF ((kB s).getD (k+1) 0) (by
   rw[Vh];cases h:(kB s)[k+1]? with
   |none=>decide
   |some x=>exact zt s _ (Zv h))) Zr ?_
  generalize (kB s).getD (k+1) 0=d at g|-;cases K1:wX d with
  |true=>
   refine ae ?_;refine⟨.inr rfl,_,_,.tmp Zr .nil,ZI,?_,rfl⟩;rw[<- i3,g];simp[bN,So,K1]
  |false=>
   refine ae ?_;refine⟨k+1,⟨Zo,.inr ⟨Zo,?_⟩⟩,Zo,ZU,ai.nil⟩;rw[<- i3,g];simp[K1];omega
theorem Sh(l:List Nat):l.all nX=decide (z5 l=l.length):=by
 induction l with
 |nil=>rfl
 |cons c r ih=>
  simp only[vf,z5,List.takeWhile_cons];cases hc:nX c with
  |false=>simp
  |true=>
   simp only[vW,if_true,Vz,ih,z5,Nat.add_right_cancel_iff];exact decide_eq_decide.2 Iff.rfl
theorem mg(s:ByteArray)(m:s.size<=140737488355328):au Tryz.prog 144 [.string s] [] (λv Post=>v=.bool (wm s)/\Post=[]):=by
 refine au.intro low144 Zn9 ?_;have hlen:=kV s;unfold wm fF;refine ae ?_;by_cases h0:s=⟨#[]⟩
 .subst h0;exact zC9
 obtain⟨c,r,g,hr,q,lh⟩:=eK h0;rw[Zt (show(s.size:Int) > 0 by omega)];refine ae ?_;by_cases h40:s.size<=40;rotate_left
 .exact zCW
 rw[Zt Zo];refine ae ?_;refine wO Zr Zr (j:=0) rfl g ?_;refine ae ?_;refine kL (se _ q) Zr ?_;cases hl:Be c.toNat with
 |false=>
  refine ae ?_;refine⟨.inr rfl,_,_,.tmp Zr .nil,ZI,?_,rfl⟩;simp[bN,hr,hl]
 |true=>
  have d:=E2 s m 0 Zo;rw[vy,X2]at d;refine ae ?_;refine kL d Zr ?_;refine ae ?_;refine⟨.inr rfl,_,_,.tmp Zr .nil,ZI,?_,rfl⟩;have h2:(c.toNat::r).length<=40:=by rw[<- hr];omega
  have aj:=Sh (kB s);exact zBX
def Ei:List Nat->List Nat->Bool
 |_,[]=>false
 |[],_::_=>true
 |a::x,b::y=>decide (a < b)||(decide (a=b)&&Ei x y)
theorem Lu:∀(a b:List UInt8),Op.bytesLess a b=Ei (a.map UInt8.toNat) (b.map UInt8.toNat):=by
 intro a
 induction a with
 |nil=>intro b;cases b <;> rfl
 |cons x a ih=>
  intro b;cases b with
  |nil=>rfl
  |cons y b=>
   have d:decide (x < y)=decide (x.toNat < y.toNat):=decide_eq_decide.2 UInt8.lt_iff_toNat_lt;have g:(x==y)=decide (x.toNat=y.toNat):=by
    rw[vK,beq_iff_eq,decide_eq_true_eq];exact UInt8.toNat_inj.symm
   simp only[Op.bytesLess,QD,Ei,ih,d,g]
def qZ(m:Nat)(l:List Nat):Nat:=l.foldl (λn c=>n*10+(c - 48)) m
theorem oP(m c:Nat)(l:List Nat):qZ m (c::l)=qZ (m*10+(c - 48)) l:=by unfold qZ;exact Vg ..
theorem W6(l:List Nat):zc l=qZ 0 l:=by unfold qZ zc;exact Eq.refl _
theorem MW:∀(a b:List Nat) (m n:Nat),a.length=b.length->a.all wX=true->m < n->qZ m a < qZ n b:=by
 intro a
 induction a with
 |nil=>intro b m n h _ j;cases b with
  |nil=>exact j
  |cons=>cases h
 |cons c a ih=>
  intro b m n h g j;cases b with
  |nil=>cases h
  |cons d b=>
   simp only[vf,vG]at g;have q:=g.1;simp only[wX,vG,decide_eq_true_eq]at q;rw[oP,oP];exact ih b _ _ (by simpa using h) g.2 Zo
theorem Wg:∀(a b:List Nat) (m:Nat),a.length=b.length->a.all wX=true->b.all wX=true->Ei a b=decide (qZ m a < qZ m b)/\(qZ m a=qZ m b->a=b):=by
 intro a
 induction a with
 |nil=>intro b m h _ _;cases b with
  |nil=>simp[Ei]
  |cons=>cases h
 |cons c a ih=>
  intro b m h j g;cases b with
  |nil=>cases h
  |cons d b=>
   simp only[vf,vG]at j g;have A:=j.1;have s:=g.1;simp only[wX,vG,decide_eq_true_eq]at A s;have q:a.length=b.length:=by simpa using h
   rw[oP,oP];simp only[Ei];rcases Nat.lt_trichotomy c d with h1|h1|h1
   .have:=MW a b (m*10+(c - 48)) (m*10+(d - 48)) q j.2 Zo;rw[Zt h1,Zt this];exact⟨rfl,λe=>by omega⟩
   .subst h1;obtain⟨B,C⟩:=ih b (m*10+(c - 48)) q j.2 g.2;rw[B];exact⟨Zs,λe=>by rw[C e]⟩
   .have:=MW b a (m*10+(d - 48)) (m*10+(c - 48)) q.symm g.2 Zo;rw[Zf (show ¬c < d by omega),Zf (show ¬c=d by omega),Zf (show ¬qZ (m*10+(c - 48)) a < qZ (m*10+(d - 48)) b by omega)];exact⟨rfl,λe=>by omega⟩
theorem Z6(s t:ByteArray)(j:s.size=t.size)(m:(kB s).all wX=true)(q:(kB t).all wX=true):(!(Op.bytesLess s.toList t.toList||decide (s=t)))=decide (zc (kB t) < zc (kB s)):=by
 obtain⟨d,g⟩:=Wg (kB s) (kB t) 0 (by rw[kV,kV,j]) m q;rw[Lu,Lib.toList_data,Lib.toList_data,show s.data.toList.map UInt8.toNat=kB s from rfl,show t.data.toList.map UInt8.toNat=kB t from rfl,d,W6,W6];by_cases e:s=t
 .subst e;simp
 .have cI:qZ 0 (kB s)≠qZ 0 (kB t):=λh=>e (jQ (g h))
  simp only[e,decide_false,vV]
  (rw[vK];simp only[vT,vG,vO,decide_eq_true_eq,decide_eq_false_iff_not,true_iff,iff_true,reduceCtorEq,false_iff,iff_false];omega)
def sn(m:Bool):ByteArray:=if m then⟨#[49,49,53,50,57,50,49,53,48,52,54,48,54,56,52,54,57,55,54]⟩else⟨#[49,49,53,50,57,50,49,53,48,52,54,48,54,56,52,54,57,55,53]⟩
theorem Eo(m:Bool):(sn m).size=19/\(kB (sn m)).all wX=true/\zc (kB (sn m))=if m=true then 1152921504606846976 else 1152921504606846975:=by cases m <;> decide
theorem IV(s t:ByteArray)(hs:s.size<=140737488355328)(ht:t.size<=140737488355328)(d:(kB s).all wX=true)(g:(kB t).all wX=true):
 au Tryz.prog 279 [.string s,.string t] [] (λv Post=>v=.bool (decide (t.size < s.size∨(s.size=t.size/\zc (kB t) < zc (kB s))))/\Post=[]):=by
 refine au.intro low279 Zn9 ?_;refine ae ?_;by_cases h1:t.size < s.size
 .rw[show decide ((s.size:Int) > (t.size:Int))=true from Zt Zo];refine ae ?_;refine⟨.inr rfl,_,_,.tmp Zr .nil,ZI,?_,rfl⟩;simp[bN,h1]
 rw[show decide ((s.size:Int) > (t.size:Int))=false from Zf Zo];refine ae ?_;by_cases h2:s.size=t.size;rotate_left
 .rw[show decide ((s.size:Int)=(t.size:Int))=false from Zf Zo];refine ae ?_;refine⟨.inr rfl,_,_,.tmp Zr .nil,ZI,?_,rfl⟩;simp[bN,h1,h2]
 rw[show decide ((s.size:Int)=(t.size:Int))=true from Zt Zo];refine ae ?_;have j:=Z6 s t h2 d g;refine⟨.inr rfl,_,_,.tmp Zr .nil,ZI,?_,rfl⟩;simp only[bN,j];simp[h1,h2]
theorem Jk(s:ByteArray)(hs:s.size<=140737488355328):au Tryz.prog 259 [.string s] [] (λv Post=>∃t,v=.string t/\kB t=wP (kB s)/\t.size<=s.size/\Post=[]):=by
 refine au.intro low259 Zn9 ?_;refine ae ?_;refine VC.loop (α:=ByteArray) (bg:=λt=>[(0,.string t)]) (Hf:=λ_=>[]) (I:=λt=>t.size<=s.size/\wP (kB t)=wP (kB s)) (μ:=λt=>t.size) s ⟨Qt _,rfl⟩ ZU ai.nil ?_
 rintro t ⟨F,B⟩
 have g:=kV t;refine ae ?_;have stop:wP (kB t)=kB t->∃u,Value.string t=.string u/\kB u=wP (kB s)/\u.size<=s.size/\([]:SH)=[]:=λh=>⟨t,rfl,by rw[<- B,h],F,rfl⟩
 by_cases h1:1 < t.size;rotate_left
 .rw[show decide ((t.size:Int) > 1)=false from Zf Zo];have A:=stop (by
   match h:kB t with
   |[]=>rfl
   |[c]=>rw[wP.eq_2];intro D r m;simp at m
   |c::d::r=>rw[h]at g;simp at g;omega)
  refine ae ?_;exact kG (Post:=[]) (.inr rfl) (.tmp Zr .nil) A ai.nil
 rw[show decide ((t.size:Int) > 1)=true from Zt Zo];obtain⟨c,E,G⟩:=wG (s:=t) (i:=0) Zo;obtain⟨d,hd,C⟩:=wG (s:=t) (i:=1) Zo;have q:kB t=c.toNat::d.toNat::(kB t).drop 2:=by
  rw[<- gD C,<- gD G];rfl
 refine ae ?_;refine wO Zr Zr (j:=0) rfl E ?_;refine ae ?_;by_cases h48:c.toNat=48;rotate_left
 .rw[show decide ((c.toNat:Int)=48)=false from Zf Zo];have A:=stop (by
   rw[q,wP.eq_2];intro D r m;simp at m;exact h48 m.1)
  refine ae ?_;exact kG (Post:=[]) (.inr rfl) (.tmp Zr .nil) A ai.nil
 rw[show decide ((c.toNat:Int)=48)=true from Zt Zo];refine ae ?_;refine eD (l:=1) (h:=t.size) Zr (.num Zr) .YW ⟨Zo,Zo⟩ ?_;refine ae ?_;refine⟨t.extract 1 t.size,⟨by rw[ByteArray.size_extract];omega,?_⟩,by rw[ByteArray.size_extract];omega,ZU,ai.nil⟩;rw[<- B,ji,q,h48];rw[show(48::d.toNat::(kB t).drop 2).take t.size=48::d.toNat::(kB t).drop 2 from Ql (by
  have:=congrArg List.length q;rw[g]at this;simp at this|-;omega)]
 rfl
theorem Dx {t:ByteArray}(m:Bool)(A:(kB t).all wX=true):((sn m).size < t.size∨(t.size=(sn m).size/\zc (kB (sn m)) < zc (kB t)))↔¬z9 m (kB t):=by
 obtain⟨j,_,q⟩:=Eo m;have d:=kV t;have g:=numL_lt (kB t) 0 0 (λc s=>vg.1 A c s) Zd;rw[show(kB t).foldl (λn c=>n*10+(c - 48)) 0=zc (kB t) by simp only[zc]]at g;rw[j,q];unfold z9;rw[d,X2]at*;by_cases hs:t.size < 19
 .have h4:(10:Nat) ^ t.size<=10 ^ 18:=Nat.pow_le_pow_right Zo Zo;have h5:(10:Nat) ^ 18=1000000000000000000:=by decide
  cases m <;> simp <;> omega
 .cases m <;> simp <;> omega
theorem Gf(A:List kC)(H:oD A)(t:ByteArray)(G:kB t≠[])(s:(kB t).all wX=true)(hl:t.size<=255)(m:Bool):au Tryz.prog 260 [.string t,.bool m] [A] (λv Post=>ny m t v/\Post=[A]):=by
 refine au.intro low260 Zn9 ?_;have I:=kV t;have j:y9 .add (.string ⟨#[45]⟩) (.string t)=some (.string (⟨#[45]⟩++t)):=if_pos (by show 1+t.size<=9223372036854775807;omega);have E:=Dx m s;obtain⟨g1,K,g3⟩:=Eo m;refine ae ?_;refine kK (λb=>?_);refine ae ?_;by_cases hz:t=⟨#[48]⟩
 .rw[Zt hz];refine ae ?_;refine⟨.inr rfl,_,_,.aI (us:=[cv 4,vi 0,uv 0,.string ⟨#[]⟩,Nz]) Zr Zr Kb .nil,ZI,.inl ⟨?_,?_⟩,rfl⟩
  .rw[hz];cases m <;> exact⟨Zd,Zd⟩
  .rw[hz];cases m <;> rfl
 rw[Zf hz];refine ae ?_;have q:=IV t (sn m) Zo Zo s K;have d:z9 m (kB t)->au Tryz.prog 279 [.string t,.string (sn m)] [] (λv Post=>v=.bool false/\Post=[]):=λh=>by
  rw[Zf (λC=>E.1 C h)]at q;exact q
 have g:¬z9 m (kB t)->au Tryz.prog 279 [.string t,.string (sn m)] [] (λv Post=>v=.bool true/\Post=[]):=λh=>by
  rw[Zt (E.2 h)]at q;exact q
 have F:∀u:ByteArray,¬z9 m (kB t)->kB u=(if m=true then 45::kB t else kB t)->ny m t (.agg #[cv 5,vi 0,uv 0,.string u,Nz]):=λu L C=>.inr ⟨L,u,rfl,C⟩
 cases m with
 |true=>
  refine ae ?_;by_cases Nf:z9 true (kB t);rotate_left
  .refine kL (g Nf) Zr ?_;refine ae ?_;refine gW Zr Zr j ?_;refine ae ?_;refine⟨.inr rfl,_,_,.aI (us:=[cv 5,vi 0,uv 0,.string (⟨#[45]⟩++t),Nz]) Zr Zr Kb .nil,ZI,F _ Nf (by rw[pI];rfl),rfl⟩
  refine kL (d Nf) Zr ?_;refine ae ?_;refine kH (iL A H t G s (by have:=Nf.1;omega)) Zr ZP (λv Post D=>?_);rcases D with⟨⟨hn,rfl⟩|⟨hn,_⟩,rfl⟩
  rotate_left
  .have:=Nf.2;simp only[if_true]at this;omega
  simp only[aE];have J:=Nf.2;simp only[if_true]at J;have B:ny true t (.agg #[cv 4,vi (-(zc (kB t):Int)),uv 0,.string ⟨#[]⟩,Nz]):=.inl ⟨Nf,rfl⟩;generalize zc (kB t)=N at*;refine ae ?_;rw[show IntKind.i64.wrap (0 - (N:Int))=-(N:Int) by rw[Int.zero_sub];exact wrap64 ⟨Zo,Zo⟩];refine ae ?_;exact⟨.inr rfl,_,_,.aI (us:=[cv 4,vi (-(N:Int)),uv 0,.string ⟨#[]⟩,Nz]) Zr Zr Kb .nil,ZI,B,rfl⟩
 |false=>
  refine ae ?_;by_cases Nf:z9 false (kB t);rotate_left
  .refine kL (g Nf) Zr ?_;refine ae ?_;refine⟨.inr rfl,_,_,.aI (us:=[cv 5,vi 0,uv 0,.string t,Nz]) Zr Zr Kb .nil,ZI,F _ Nf rfl,rfl⟩
  refine kL (d Nf) Zr ?_;refine ae ?_;refine kH (iL A H t G s (by have:=Nf.1;omega)) Zr ZP (λv Post D=>?_);rcases D with⟨⟨hn,rfl⟩|⟨hn,_⟩,rfl⟩
  rotate_left
  .have:=Nf.2;simp only[vM,if_false]at this;omega
  simp only[aE];have B:ny false t (.agg #[cv 4,vi (zc (kB t):Int),uv 0,.string ⟨#[]⟩,Nz]):=.inl ⟨Nf,rfl⟩;generalize zc (kB t)=N at*;refine ae ?_;exact⟨.inr rfl,_,_,.aI (us:=[cv 4,vi (N:Int),uv 0,.string ⟨#[]⟩,Nz]) Zr Zr Kb .nil,ZI,B,rfl⟩
theorem Dg(A:List kC)(X:oD A)(s:ByteArray)(hs:s.size<=140737488355328):au Tryz.prog 243 [.string s] [A] (λv Post=>Hv s v/\Post=[A]):=by
 refine au.intro low243 Zn9 ?_;have Hj:=kV s;have M4:yf (kB s)=false->Hv s (.tuple #[.agg #[cv 0,vi 0,uv 0,.string ⟨#[]⟩,Nz],vi 144]):=λh=>.inl ⟨h,rfl⟩
 have g:decide ((kB s).getD 0 0=45)=zd (kB s):=by
  unfold zd;cases kB s <;> simp
 have U:=Ai s hs 0;refine jH ?_;refine kK (λb=>?_);refine jH ?_;refine kL U Zr ?_;generalize q:(kB s).getD 0 0=O at g|-;refine jH ?_;refine VC.join (α:=ByteArray) (λd=>[(0,.string d),(2,kE b),(4,.bool (zd (kB s)))]) (λ_=>[kA b 0 [.int .u8 0,.int .i64 0,.int .u64 0,.string ⟨#[]⟩,.slice none 0 0],A]) (λd=>kB d=zK (kB s)/\d.size<=s.size) ?_ ?_
 .by_cases So:O=45
  .rw[show decide ((O:Int)=45)=true from Zt Zo];rw[Zt So]at g;have lh:0 < s.size:=by
    rcases Qr s.size with h|h
    .rw[Vh,Vp Zo]at q;simp at q;omega
    .exact h
   refine ae ?_;refine eD (l:=1) (h:=s.size) Zr (.num Zr) .YW ⟨Zo,Zo⟩ ?_;refine ae ?_;refine⟨s.extract 1 s.size,⟨?_,by rw[ByteArray.size_extract];omega⟩,by rw[<- g];exact C0,ZI⟩;rw[ji,Ql Zo];unfold zK;have F:(kB s).head? =some 45:=by
    have:=g.symm;unfold zd at this;exact of_decide_eq_true this
   rw[if_pos F,List.drop_one]
  .rw[show decide ((O:Int)=45)=false from Zf Zo];rw[Zf So]at g;refine ae ?_;refine⟨s,⟨?_,Qt _⟩,by rw[<- g];exact C0,ZI⟩;unfold zK;have F:¬(kB s).head? =some 45:=by
    have:=g.symm;unfold zd at this;exact of_decide_eq_false this
   rw[if_neg F]
 rintro d ⟨H,Y⟩
 have Z:=kV d;generalize W:zd (kB s)=m;refine ae ?_;refine VC.loop (α:=Nat) (bg:=λk=>[(0,.string d),(2,kE b),(4,.bool m),(5,vi k)]) (Hf:=λ_=>[kA b 0 [.int .u8 0,.int .i64 0,.int .u64 0,.string ⟨#[]⟩,Nz],A]) (I:=λk=>k<=d.size/\∀i c,i < k->(kB d)[i]? =some c->wX c=true) (μ:=λk=>d.size - k) 0 ⟨X3 _,λi c h=>by omega⟩ ZU ZI ?_
 rintro k ⟨i1,T⟩
 refine ae ?_;by_cases hk:k < d.size
 .rw[Zt Zo];obtain⟨c,G,N⟩:=wG hk;refine ae ?_;refine wO Zr Zr (j:=k) rfl G ?_;refine ae ?_;refine kL (nF _ (zt d _ (Zv N))) Zr ?_;cases hb:wX c.toNat with
  |true=>
   refine ae ?_;refine⟨k+1,⟨Zo,λi x L hx=>?_⟩,Zo,ZU,ZI⟩;by_cases e:i=k
   .subst e;rw[N]at hx;cases hx;exact hb
   .exact T i x Zo hx
  |false=>
   have iE:yf (kB s)=false:=by
    unfold yf;rw[<- H];have:(kB d).all wX=false:=by
     rw[vJ];intro h;have:=vg.1 h _ (Zv N);rw[hb]at this;cases this
    rw[this];simp
   refine ae ?_;exact⟨.inr rfl,_,_,.aI (us:=[cv 0,vi 0,uv 0,.string ⟨#[]⟩,Nz]) Zr Zr Kb (.tmp Zr .nil),ZI,M4 iE,rfl⟩
 rw[Zf Zo];have Q:(kB d).all wX=true:=by
  rw[vg];intro c G;obtain⟨i,L⟩:=Vv G;exact T i c (by have:=(Vt.1 L).1;omega) L
 refine ae ?_;refine kH (Jk d Zo) Zr ZP (λv Post M=>?_);obtain⟨t,rfl,B,hts,rfl⟩:=M;have D:=kV t;have J:yf (kB s)=(decide (kB d≠[])&&decide (t.size<=255)):=by
  unfold yf;rw[<- H,<- B,D,Q,vI]
 simp only[QV];refine ae ?_;by_cases h0:kB d=[]
 .have hb:yf (kB s)=false:=by rw[J,Zf (λh=>h h0)];rfl
  have:t.size=0:=by rw[<- D,B,h0];rfl
  rw[show decide ((t.size:Int) < 1)=true from Zt Zo];exact zDO
 have C:kB t≠[]:=by rw[B];exact Ey h0
 have:0 < t.size:=by rw[<- D];exact List.length_pos_iff.2 C
 rw[show decide ((t.size:Int) < 1)=false from Zf Zo];refine ae ?_;by_cases tM:t.size<=255;rotate_left
 .rw[Zt (show(t.size:Int) > 255 by omega)];have hb:yf (kB s)=false:=by rw[J,Zf tM];simp
  exact zDO
 rw[Zf (show ¬(t.size:Int) > 255 by omega)];have K:yf (kB s)=true:=by rw[J,Zt tM,Zt h0];rfl
 refine ae ?_;refine kH (Gf A X t C (by rw[B];exact Cb Q) tM m) Zr ZP (λv Post M=>?_);obtain⟨S,rfl⟩:=M;have fin:∀u,ny m t u->Hv s (.tuple #[u,vi 0]):=λu hu=>.inr ⟨K,t,u,by rw[B,H],by rw[W];exact hu,rfl⟩
 have E:=fin _ S;simp only[aE];rcases S with⟨_,rfl⟩|⟨_,u,rfl,_⟩
 .generalize (if m=true then -(zc (kB t):Int)else(zc (kB t):Int))=z at E|-;refine ae ?_;exact⟨.inr rfl,_,_,.aI (us:=[cv 4,vi z,uv 0,.string ⟨#[]⟩,Nz]) Zr Zr Kb (.tmp Zr .nil),ZI,E,rfl⟩
 .refine ae ?_;exact⟨.inr rfl,_,_,.aI (us:=[cv 5,vi 0,uv 0,.string u,Nz]) Zr Zr Kb (.tmp Zr .nil),ZI,E,rfl⟩
theorem J5(l:List Nat):∃w r,l=w++r/\w.length=z5 l/\w.all nX=true/\∀c q,r=c::q->nX c=false:=by
 unfold z5
 induction l with
 |nil=>exact⟨[],[],rfl,rfl,rfl,λc q h=>by cases h⟩
 |cons c r ih=>
  cases hc:nX c with
  |false=>exact⟨[],c::r,rfl,by simp[hc],rfl,λd q h=>by cases h;exact hc⟩
  |true=>
   obtain⟨w,q,rfl,g,j,m⟩:=ih;exact⟨c::w,q,rfl,by simp[hc,g],by simp[hc,j],m⟩
theorem JP {c:Nat}{l:List Nat}(h:c∈l):∃p q,l=p++c::q/\c∉p:=by
 induction l with
 |nil=>cases h
 |cons d r ih=>
  by_cases hd:c=d
  .subst hd;exact⟨[],r,rfl,Zs⟩
  .obtain⟨p,q,rfl,g⟩:=ih (by simpa[hd]using h);exact⟨d::p,q,rfl,by simp[hd,g]⟩
theorem inn58:nX 58=false:=rfl
theorem no58 {w:List Nat}(h:w.all nX=true):58∉w:=λd=>by
 have:=vg.1 h 58 d;rw[inn58]at this;cases this
theorem WD {w:List Nat}(h:fF w=true):w.all nX=true:=by
 cases w with
 |nil=>rfl
 |cons c r=>
  simp only[fF,vG]at h;exact h.2
theorem Eg {l:List Nat}(H:l≠[])(n:Nat):
 zg (j9 l) n=if(fF (l.take (z5 l))=true/\l.getD (z5 l) 0=58)then zg (j9 (l.drop (z5 l+1))) (n+1)else -1:=by
 obtain⟨w,r,m,F,s,G⟩:=J5 l;rw[<- F];have L:l.take w.length=w:=by rw[m];simp
 rw[L];by_cases hc:fF w=true/\l.getD w.length 0=58
 .rw[if_pos hc];obtain⟨I,d⟩:=hc;have K:∃q,r=58::q:=by
   rw[m,Vh,Vl (Qt _),Qz]at d;cases r with
   |nil=>simp at d
   |cons c q=>simp at d;exact⟨q,by rw[d]⟩
  obtain⟨q,rfl⟩:=K;rw[m,oi (no58 s)];rw[show(w++58::q).drop (w.length+1)=q by simp];simp only[zg];rw[if_neg Zs,if_pos (by simp[I])]
 .rw[if_neg hc];have j:∀p C,j9 l=p::C->p≠[]->sd p=false->zg (j9 l) n=-1:=λp C e E h=>by rw[e];exact tT E h
  by_cases d:58∈l
  .obtain⟨p,q,g,J⟩:=JP d;refine j (p++[58]) (j9 q) (by rw[g,oi J]) Zs ?_;unfold sd;rw[vJ];intro h;simp at h;refine hc ?_;have D:p=w:=by
    have A:=WD h;have e:p++58::q=w++r:=by rw[<- g,m]
    rcases List.append_eq_append_iff.1 e with⟨a,rfl,ha⟩|⟨a,rfl,ha⟩
    .cases a with
     |nil=>simp
     |cons c a=>
      simp only[vr,vq]at ha;rw[<- ha.1]at s;exact absurd Zs (no58 s)
    .cases a with
     |nil=>simp
     |cons c a=>
      have:=G c (a++58::q) (by rw[ha];rfl);have B:=vg.1 A c Zs;rw[this]at B;cases B
   subst D;refine⟨h,?_⟩;rw[g];simp
  .refine j l [] (uZ d) H ?_;unfold sd;rw[vJ];intro h;simp only[vG,decide_eq_true_eq]at h;exact d (List.mem_of_getLast? h.1)
theorem Dh(s:ByteArray)(C:s.size<=140737488355328):au Tryz.prog 147 [.string s] [] (λv Post=>v=vi (zg (j9 (kB s)) 0)/\Post=[]):=by
 refine au.intro low147 Zn9 ?_;have j:=kV s;refine ae ?_;refine VC.loop (α:=Nat×Nat) (bg:=λz=>[(0,.string s),(3,vi z.1),(4,vi z.2)]) (Hf:=λ_=>[]) (I:=λz=>z.2<=s.size/\z.1<=z.2/\zg (j9 ((kB s).drop z.2)) z.1=zg (j9 (kB s)) 0) (μ:=λz=>s.size - z.2) (0,0) ⟨X3 _,Qt _,rfl⟩ ZU ai.nil ?_
 rintro⟨n,i⟩ ⟨H,J,i3⟩
 simp only at H J i3;dsimp only;refine ae ?_;by_cases hk:i < s.size;rotate_left
 .rw[Zf Zo];exact zEL
 rw[Zt Zo];have F:=E2 s C i Zo;have A:=YD ((kB s).drop i);rw[Q0,j]at A;obtain⟨c,hc,K⟩:=wG hk;have E:(kB s).drop i≠[]:=by rw[gD K];simp
 have d:=Eg E n;rw[i3,List.drop_drop]at d;have q:((kB s).drop i).getD (z5 ((kB s).drop i)) 0=(kB s).getD (i+z5 ((kB s).drop i)) 0:=by
  rw[Vh,Vh,Vo]
 rw[q]at d;have m:kB (s.extract i (i+z5 ((kB s).drop i)))=((kB s).drop i).take (z5 ((kB s).drop i)):=by
  rw[ji,List.drop_take,Qo]
 rw[<- m]at d;have D:=λh=>d.trans (if_pos h)
 have g:=λh=>d.trans (if_neg h)
 clear d;generalize G:z5 ((kB s).drop i)=w at*;refine ae ?_;refine kL F Zr ?_;refine ae ?_;refine eD (l:=i) (h:=i+w) Zr (.num Zr) (.num Zr) ⟨Zo,Zo⟩ ?_;refine ae ?_;refine kL (mg (s.extract i (i+w)) (by rw[ByteArray.size_extract];omega)) Zr ?_;cases hn:wm (s.extract i (i+w))with
 |false=>
  have d:=g (λh=>by have B:wm (s.extract i (i+w))=true:=h.1;rw[hn]at B;cases B);refine ae ?_;refine⟨.inr rfl,_,_,.tmp Zr .nil,ZI,?_,rfl⟩;rw[d];rfl
 |true=>
  refine ae ?_;refine kL (Ai s C (i+w)) Zr ?_;refine ae ?_;by_cases tN:(kB s).getD (i+w) 0=58;rotate_left
  .have d:=g (λh=>tN h.2);rw[show decide (((kB s).getD (i+w) 0:Int)=58)=false from Zf Zo];refine ae ?_;refine⟨.inr rfl,_,_,.tmp Zr .nil,ZI,?_,rfl⟩;rw[d];rfl
  have d:=D ⟨hn,tN⟩;have aJ:i+w < s.size:=by
   rcases Nat.lt_or_ge (i+w) s.size with h|h
   .exact h
   .rw[Vh,Vp Zo]at tN;cases tN
  rw[show decide (((kB s).getD (i+w) 0:Int)=58)=true from Zt Zo];refine ae ?_;exact⟨(n+1,i+w+1),⟨by simp only;omega,by simp only;omega,by simp only;rw[d,Qn]⟩,by simp only;omega,ZU,ai.nil⟩
theorem ib(s:ByteArray)(g:s.size<=140737488355328):au Tryz.prog 85 [.string s] [] (λv Post=>v=vi (kS s)/\Post=[]):=by
 refine au.intro low85 Zn9 ?_;have q:=kV s;refine ae ?_;refine kL (mg s g) Zr ?_;by_cases h0:s=⟨#[]⟩
 .subst h0;exact zC9
 obtain⟨c,r,m,B,D,C⟩:=eK h0;refine ae ?_;rw[show decide ((s.size:Int)=0)=false from Zf Zo];cases hn:wm s with
 |true=>
  refine ae ?_;refine⟨.inr rfl,_,_,.tmp Zr .nil,ZI,?_,rfl⟩;unfold kS p7;rw[show fF (kB s)=true from hn];rfl
 |false=>
  have A:fF (kB s)=false:=hn;have d:kS s=if(cS c.toNat||decide (c.toNat=124))=true then(if fH (kB s)=(kB s).length then 1 else -1)else zg (j9 (kB s)) 0:=by
   unfold kS p7;rw[if_neg (by rw[A];simp)];simp only[B]
  have hsg:=Mh s g 0 C;rw[vy,X2]at hsg;refine ae ?_;refine wO Zr Zr (j:=0) rfl m ?_;refine ae ?_;refine kL (rO _ D) Zr ?_;have Sq:(cS c.toNat||decide (c.toNat=124))=true->kS s=(if fH (kB s)=(kB s).length then 1 else -1):=λh=>by rw[d,if_pos h]
  cases hb:cS c.toNat with
  |true=>
   have Sq:=Sq (by simp[hb]);generalize fH (kB s)=z at hsg Sq;exact zB6
  |false=>
   refine ae ?_;refine wO Zr Zr (j:=0) rfl m ?_;refine ae ?_;by_cases OU:c.toNat=124
   .have Sq:=Sq (by simp[OU]);generalize fH (kB s)=z at hsg Sq;rw[show decide ((c.toNat:Int)=124)=true from Zt Zo];exact zB6
   rw[show decide ((c.toNat:Int)=124)=false from Zf Zo];rw[if_neg (by simp[hb,OU])]at d;refine ae ?_;refine kL (Dh s g) Zr ?_;refine ae ?_;refine⟨.inr rfl,_,_,.tmp Zr .nil,ZI,?_,rfl⟩;rw[d];rfl
noncomputable section
def F217:aO:=aZ (o:=gF pq Tryz.f217 [])
theorem low217:Zo9 217 [] F217:=Zx9
def F218:aO:=aZ (o:=gF pq Tryz.f218 [])
theorem low218:Zo9 218 [] F218:=Zx9
def F184:aO:=aZ (o:=gF pq Tryz.f184 [])
theorem low184:Zo9 184 [] F184:=Zx9
def F185:aO:=aZ (o:=gF pq Tryz.f185 [])
theorem low185:Zo9 185 [] F185:=Zx9
def F149:aO:=aZ (o:=gF pq Tryz.f149 [])
theorem low149:Zo9 149 [] F149:=Zx9
def F151:aO:=aZ (o:=gF pq Tryz.f151 [])
theorem low151:Zo9 151 [] F151:=Zx9
def F88:aO:=aZ (o:=gF pq Tryz.f88 [])
theorem low88:Zo9 88 [] F88:=Zx9
def F219:aO:=aZ (o:=gF pq Tryz.f219 [])
theorem low219:Zo9 219 [] F219:=Zx9
def F186:aO:=aZ (o:=gF pq Tryz.f186 [])
theorem low186:Zo9 186 [] F186:=Zx9
def F187:aO:=aZ (o:=gF pq Tryz.f187 [])
theorem low187:Zo9 187 [] F187:=Zx9
def F153:aO:=aZ (o:=gF pq Tryz.f153 [(4,[[0,1,2,3,4,5,6],[0,2,1,3,4,5,6]])])
theorem low153:Zo9 153 [(4,[[0,1,2,3,4,5,6],[0,2,1,3,4,5,6]])] F153:=Zx9
def F152:aO:=aZ (o:=gF pq Tryz.f152 [])
theorem low152:Zo9 152 [] F152:=Zx9
def F89:aO:=aZ (o:=gF pq Tryz.f89 [])
theorem low89:Zo9 89 [] F89:=Zx9
def F150:aO:=aZ (o:=gF pq Tryz.f150 [])
theorem low150:Zo9 150 [] F150:=Zx9
end
theorem Mt(s:ByteArray):au Tryz.prog 132 [.string s] [] (λv Post=>v=.bool (zz.contains (kB s))/\Post=[]):=by
 refine au.intro Wo Zn9 ?_;have d:∀t:ByteArray,kB t∈zz->s=t->zz.contains (kB s)=true:=λt j e=>by
  subst e;exact vt.2 j
 refine ae ?_;by_cases h1:s=⟨#[115,101,108,102]⟩
 .have hf:=d _ Zd h1;rw[Zt h1];exact Zy
 rw[Zf h1];refine ae ?_;by_cases h2:s=⟨#[115,117,112,101,114]⟩
 .have hf:=d _ Zd h2;rw[Zt h2];exact Zy
 rw[Zf h2];refine ae ?_;by_cases h3:s=⟨#[110,105,108]⟩
 .have hf:=d _ Zd h3;rw[Zt h3];exact Zy
 rw[Zf h3];refine ae ?_;by_cases h4:s=⟨#[116,114,117,101]⟩
 .have hf:=d _ Zd h4;rw[Zt h4];exact Zy
 rw[Zf h4];refine ae ?_;by_cases h5:s=⟨#[102,97,108,115,101]⟩
 .have hf:=d _ Zd h5;refine kG (Post:=[]) (.inr rfl) (.tmp Zr .nil) ⟨by rw[hf,Zt h5];rfl,rfl⟩ ZI
 have g:zz.contains (kB s)=false:=by
  exact zBG
 refine kG (Post:=[]) (.inr rfl) (.tmp Zr .nil) ⟨by rw[g,Zf h5];rfl,rfl⟩ ZI
theorem AE(s:ByteArray)(g:s.size<=140737488355328):au Tryz.prog 148 [.string s] [] (λv Post=>v=.bool (jF s)/\Post=[]):=by
 refine au.intro low148 Zn9 ?_;refine ae ?_;refine kL (mg s g) Zr ?_;refine ae ?_;refine kL (Mt s) Zr ?_;have d:jF s=(!zz.contains (kB s)&&wm s):=rfl;rw[d];generalize zz.contains (kB s)=b;cases wm s with
 |true=>
  refine ae ?_;exact kG (Post:=[]) (.inr rfl) (.tmp Zr .nil) ⟨by cases b <;> rfl,rfl⟩ ZI
 |false=>
  refine ae ?_;exact kG (Post:=[]) (.inr rfl) (.tmp Zr .nil) ⟨by cases b <;> rfl,rfl⟩ ZI
theorem lZ(B:List kC)(v:Value)(l:List ByteArray)(h:cO B v l):au Tryz.prog 86 [v] [B] (λu Post=>u=.bool (l.all jF)/\Post=[B]):=by
 obtain⟨a,c,rfl,hl,q⟩:=h;refine au.intro low86 Zn9 ?_;refine ae ?_;refine VC.loop (α:=Nat) (bg:=λk=>[(0,.slice a l.length c),(3,vi k)]) (Hf:=λ_=>[B]) (I:=λk=>k<=l.length/\(l.take k).all jF=true) (μ:=λk=>l.length - k) 0 ⟨X3 _,rfl⟩ ZU ZI ?_
 rintro k ⟨i1,g⟩
 refine ae ?_;by_cases hk:k < l.length;rotate_left
 .rw[Zf Zo];rw[Ql Zo]at g;refine ae ?_;exact kG (Post:=[B]) (.inr rfl) (.tmp Zr .nil) ⟨by rw[g];rfl,rfl⟩ ZI
 rw[Zt Zo];obtain⟨t,d⟩:∃t,l[k]? =some t:=⟨_,Zg hk⟩;obtain⟨b,o,rfl,hm,m⟩:=q k t d;have j:l.take (k+1)=l.take k++[t]:=by rw[Qi,d];rfl
 refine ae ?_;refine kL (AE t m) Zr ?_;cases hf:jF t with
 |true=>
  refine ae ?_;exact⟨k+1,⟨Zo,by rw[j];simp[g,hf]⟩,Zo,ZU,ZI⟩
 |false=>
  have:l.all jF=false:=by
   rw[vJ];intro h;have:=vg.1 h t (Zv d);rw[hf]at this;cases this
  refine ae ?_;exact kG (Post:=[B]) (.inr rfl) (.tmp Zr .nil) ⟨by rw[this];rfl,rfl⟩ ZI
theorem Dl(l:List Rs):(jm l).isSome=l.all Option.isSome:=by
 induction l with
 |nil=>rfl
 |cons r l ih=>
  rw[fT,vf,<- ih];cases r <;> cases jm l <;> rfl
structure LitQ where
 ok:Bool
 n:Int
 b:Nat
 t:ByteArray
 sv:Value
 l:Nat
theorem Dj(A:List kC)(hE:oD A):∀(N:Nat) (x:Lt),x.size<=N->x.size<=1099511627776->∀vs,zl A x vs->∀inside:Bool,au Tryz.prog 217 [.agg vs.toArray,.bool inside] [A] (λv Post=>v=.bool (jS x inside).isSome/\Post=[A]):=by
 intro N
 induction N with
 |zero=>intro x U;have:=x.size_pos;omega
 |succ N ih=>
  intro x U H vs X inside;have T:=X;cases X with
  |@mk k n b t items a c bk o us wf ha hm hr=>
  refine au.intro low217 Zn9 ?_;refine jH ?_;refine kX Zr (λq=>?_);simp only[Value.cells];refine jH ?_;refine VC.join (α:=LitQ) (λs=>[(2,kE q),(5,.bool s.ok)]) (λs=>[A,kA q 0 [cv k,vi s.n,uv s.b,.string s.t,s.sv]])
   (λs=>(∃a c,s.sv=.slice a s.l c)/\(jS (.mk k n b t items) inside).isSome=(s.ok&&decide (s.n=0/\s.b=0/\s.t.size=0/\s.l=0))) ?_ ?_
  .have mT:=wf.kind;obtain⟨O5,Fv⟩:=wf.n;have hz:(⟨#[]⟩:ByteArray).size=0:=rfl;have sm:∀(b:Bool) (r:Rs),(kQ b r).isSome=(b&&r.isSome):=λb r=>by cases b <;> rfl
   have Y:∀(y:Bool),(jS (.mk k n b t items) inside).isSome=(y&&decide (n=0/\b=0/\t.size=0/\items.length=0))->∃d:LitQ,((∃a c,d.sv=.slice a d.l c)/\(jS (.mk k n b t items) inside).isSome=(d.ok&&decide (d.n=0/\d.b=0/\d.t.size=0/\d.l=0)))/\d=⟨y,n,b,t,.slice a items.length c,items.length⟩:=λy h=>⟨_,⟨⟨_,_,rfl⟩,h⟩,rfl⟩
   by_cases k1:k=1
   .subst k1;exact zCT
   by_cases k2:k=2
   .subst k2;exact zCT
   by_cases k3:k=3
   .subst k3;exact zCT
   by_cases k4:k=4
   .subst k4;refine ae ?_;by_cases h1:-1152921504606846976<=n;rotate_left
    .rw[show decide (n ≥ -1152921504606846976)=false from Zf h1];exact zEP
    rw[show decide (n ≥ -1152921504606846976)=true from Zt h1];refine ae ?_;refine⟨⟨decide (n<=1152921504606846975),0,b,t,_,_⟩,⟨⟨_,_,rfl⟩,?_⟩,ZU,ZI⟩;simp[jS,sm,h1]
   by_cases k5:k=5
   .subst k5;refine ae ?_;refine kH (Dg A hE t wf.text) Zr ZP (λv Post K=>?_);obtain⟨C,rfl⟩:=K;obtain⟨L,nn,tt,G,rfl,D⟩:=C.large;simp only[aE];refine ae ?_;refine kK (λq2=>?_);refine ae ?_;have fin:∀y:Bool,y=n6 (kB t)->((jS (.mk 5 n b t items) inside).isSome=(y&&decide (n=0/\b=0/\(⟨#[]⟩:ByteArray).size=0/\items.length=0))):=λy h=>by
     rw[h,hz];simp[jS,sm]
    by_cases h1:G=0;rotate_left
    .rw[show decide ((G:Int)=0)=false from Zf Zo];refine ae ?_;exact⟨⟨false,n,b,⟨#[]⟩,_,_⟩,⟨⟨_,_,rfl⟩,fin _ (vJ.2 λh=>h1 (D.2 h).1).symm⟩,ZU,ZI⟩
    rw[show decide ((G:Int)=0)=true from Zt Zo];refine ae ?_;by_cases g:L=5;rotate_left
    .rw[show decide ((L:Int)=5)=false from Zf Zo];refine ae ?_;exact⟨⟨false,n,b,⟨#[]⟩,_,_⟩,⟨⟨_,_,rfl⟩,fin _ (vJ.2 λh=>g (D.2 h).2.1).symm⟩,ZU,ZI⟩
    rw[show decide ((L:Int)=5)=true from Zt Zo];refine ae ?_;refine⟨⟨decide (tt=t),n,b,⟨#[]⟩,_,_⟩,⟨⟨_,_,rfl⟩,fin _ ?_⟩,ZU,ZI⟩;rw[vK,decide_eq_true_eq];exact⟨λh=>D.1 ⟨h1,g,h⟩,λh=>(D.2 h).2.2⟩
   by_cases k6:k=6
   .subst k6;have J:=wf.bits;refine ae ?_;refine⟨⟨!decide (((b / 4503599627370496&&&2047:Nat):Int)=2047),n,0,t,.slice a items.length c,items.length⟩,⟨⟨_,_,rfl⟩,?_⟩,ZU,by show ai _ [A,kA q 0 [cv 6,vi n,.int .u64 0,.string t,.slice a items.length c]];exact bT⟩;have e:b*2 % 18446744073709551616 / 9007199254740992=(b / 4503599627370496&&&2047):=by
     rw[show(2047:Nat)=2 ^ 11 - 1 from rfl,Qq];omega
    have e0:jS (.mk 6 n b t items) inside=kQ (decide (b*2 % 18446744073709551616 / 9007199254740992≠2047/\n=0/\t.size=0/\items.length=0)) (some (0,false)):=by
     simp only[jS];rfl
    rw[e0,sm,e];generalize (b / 4503599627370496&&&2047)=z;by_cases hz:z=2047
    .subst hz;simp
    .have:¬(z:Int)=2047:=by omega
     simp[hz,this]
   by_cases k7:k=7
   .subst k7;refine ae ?_;by_cases h1:0<=n;rotate_left
    .rw[show decide (n ≥ 0)=false from Zf h1];exact zEP
    rw[show decide (n ≥ 0)=true from Zt h1];refine ae ?_;refine⟨⟨decide (n<=255),0,b,t,_,_⟩,⟨⟨_,_,rfl⟩,?_⟩,ZU,ZI⟩;simp[jS,sm,h1]
   by_cases k8:k=8
   .subst k8;exact zCD
   by_cases k9:k=9
   .subst k9;exact zCD
   by_cases k11:k=11
   .subst k11;exact zCD
   by_cases k10:k=10
   .subst k10;have bH:=wf.many;have O:(jS (.mk 10 n b t items) inside).isSome=(items.all (λy=>(jS y true).isSome)&&decide (n=0/\b=0/\t.size=0/\(0:Nat)=0)):=by
     have h1:(jm (uS items)).isSome=items.all λy=>(jS y true).isSome:=by
      rw[Dl,dI,List.all_map];rfl
     rw[<- h1];simp only[jS];simp[sm];cases jm (uS items) <;> simp[z7,wy]
    refine ae ?_;refine VC.loop (α:=Nat×Bool) (bg:=λs=>[(2,kE q),(5,.bool s.2),(8,vi s.1)]) (Hf:=λs=>[A,kA q 0 [cv 10,vi n,uv b,.string t,.slice a items.length c]])
     (I:=λs=>s.1<=items.length/\s.2=(items.take s.1).all λy=>(jS y true).isSome) (μ:=λs=>items.length - s.1) (0,true) ⟨X3 _,rfl⟩ ZU ZI ?_
    rintro⟨j,ok⟩ ⟨i1,m⟩
    simp only at i1 m;dsimp only;refine ae ?_;by_cases hj:j < items.length;rotate_left
    .rw[show decide ((j:Int) < (items.length:Int))=false from Zf Zo];rw[Ql Zo]at m;refine ae ?_;refine⟨⟨ok,n,b,t,Nz,0⟩,⟨⟨_,_,rfl⟩,?_⟩,ZU,ZI⟩;rw[O,<- m]
    rw[show decide ((j:Int) < (items.length:Int))=true from Zt Zo];cases ok with
    |false=>
     refine ae ?_;refine⟨⟨false,n,b,t,Nz,0⟩,⟨⟨_,_,rfl⟩,?_⟩,ZU,ZI⟩;have:(items.all λy=>(jS y true).isSome)=false:=by
      rw[vJ];intro h;have g:((items.take j).all λy=>(jS y true).isSome)=true:=vg.2 λy B=>vg.1 h y (QP B)
      rw[g]at m;cases m
     rw[O,this]
    |true=>
     obtain rfl:=ha Zo;obtain⟨y,B⟩:∃y,items[j]? =some y:=⟨_,Zg hj⟩;have F:=hr j y B;have cG:=hm j hj;have Ze:=Lt.aD (Zv B);simp only[Lt.size]at U H;have Q:=ih y Zo Zo _ F true;have S:=F.len;generalize us j=uj at F cG Q S;have Z:items.take (j+1)=items.take j++[y]:=by rw[Qi,B];rfl
     refine ae ?_;refine kR Zr CS S ?_;refine ae ?_;refine kH Q Zr ZP (λv Post K=>?_);obtain⟨rfl,rfl⟩:=K;simp only[aE];refine ae ?_;refine⟨(j+1,(jS y true).isSome),⟨by simp only;omega,?_⟩,by simp only;omega,ZU,ZI⟩;simp only[Z,List.all_append,<- m,vf,List.all_nil,vI,vW]
   have cV:jS (.mk k n b t items) inside=none:=by
    simp only[jS];rw[if_neg Zo,if_neg k4,if_neg k5,if_neg k6,if_neg k7,if_neg Zo,if_neg k11,if_neg k10]
   refine ae ?_;rw[show decide ((k:Int)=1)=false from Zf Zo];refine ae ?_;rw[show decide ((k:Int)=2)=false from Zf Zo];refine ae ?_;rw[show decide ((k:Int)=3)=false from Zf Zo];refine ae ?_;rw[show decide ((k:Int)=4)=false from Zf Zo];refine ae ?_;rw[show decide ((k:Int)=5)=false from Zf Zo];refine ae ?_;rw[show decide ((k:Int)=6)=false from Zf Zo];refine ae ?_;rw[show decide ((k:Int)=7)=false from Zf Zo];refine ae ?_;rw[show decide ((k:Int)=8)=false from Zf Zo];refine ae ?_;rw[show decide ((k:Int)=9)=false from Zf Zo];refine ae ?_;rw[show decide ((k:Int)=11)=false from Zf Zo];refine ae ?_;rw[show decide ((k:Int)=10)=false from Zf Zo];refine ae ?_;refine⟨⟨false,n,b,t,_,_⟩,⟨⟨_,_,rfl⟩,?_⟩,ZU,ZI⟩;rw[cV];rfl
  rintro⟨ok,n',E,M,sv,l⟩ ⟨⟨a',c',W⟩,C⟩
  simp only at W C;subst W;dsimp only;rw[C];have hz:(⟨#[]⟩:ByteArray).size=0:=rfl;cases ok with
  |false=>
   exact YT
  |true=>
   refine ae ?_;by_cases h1:n'=0;rotate_left
   .rw[Zf h1];exact zCY
   rw[Zt h1];refine ae ?_;by_cases g:E=0;rotate_left
   .rw[show decide ((E:Int)=0)=false from Zf Zo];refine ae ?_;exact kG (Post:=[A]) (.inr rfl) (.tmp Zr .nil) ⟨by simp[bN,g],rfl⟩ ZI
   rw[show decide ((E:Int)=0)=true from Zt Zo];refine ae ?_;by_cases h3:M=⟨#[]⟩;rotate_left
   .have:¬M.size=0:=λe=>h3 (jQ (by rw[Q4.1 ((kV M).trans e)];rfl))
    rw[Zf h3];refine ae ?_;exact kG (Post:=[A]) (.inr rfl) (.tmp Zr .nil) ⟨by simp[bN,this],rfl⟩ ZI
   rw[Zt h3];refine ae ?_;refine kG (Post:=[A]) (.inr rfl) (.tmp Zr .nil) ⟨?_,rfl⟩ ZI;simp only[bN,h1,g,h3,hz,true_and,vW,Value.bool.injEq];exact decide_eq_decide.2 ⟨λh=>by omega,λh=>by omega⟩
theorem Wc:∀(l:List (List Nat)) (n:Nat),-1<=zg l n/\zg l n<=n+l.length:=by
 intro l
 induction l with
 |nil=>intro n;simp only[zg,Q7];omega
 |cons p l ih=>
  intro n;simp only[zg,Vz];split
  .omega
  .split
   .have:=ih (n+1);omega
   .omega
theorem tu(s:ByteArray)(hs:s.size<=140737488355328):-1<=kS s/\kS s<=140737488355329:=by
 have d:=kV s;unfold kS;generalize kB s=l at d;have h1:=Wc (j9 l) 0;have h2:=B7 l;cases l with
 |nil=>decide
 |cons c r=>
  unfold p7;dsimp only;split
  .omega
  .split
   .split <;> omega
   .omega
theorem xm(k:Nat)(s:ByteArray)(d c3 g j m A B c9 C:Value):au Tryz.prog 185 [.agg #[cv k,.string s,d,c3,g,j,m,A,B,c9,C]] [] (λv Post=>v=.bool (zU k s)/\Post=[]):=by
 refine au.intro low185 Zn9 ?_;exact zAR
theorem xj {s:ByteArray}:s.size=0↔s=⟨#[]⟩:=⟨λe=>jQ (by rw[Q4.1 ((kV s).trans e)];rfl),λe=>by rw[e];rfl⟩
def mX(lk:Nat)(ln:Int)(lb:Nat)(lt:ByteArray)(lm:Nat):Bool:=decide (lk=0/\ln=0/\lb=0/\lt.size=0/\lm=0)
theorem Rn(k:Nat)(s:ByteArray)(j:Nat)(A:Int)(g:Nat)(lt:ByteArray)(E:Option Addr)(m F:Nat)(C:Option Addr)(d D:Nat)(H:Option Addr)(B I:Nat)(c9 G:Value):
 au Tryz.prog 218 [.agg #[cv k,.string s,cv j,vi A,uv g,.string lt,.slice E m F,.slice C d D,.slice H B I,c9,G]] [] (λv Post=>v=.bool (mX j A g lt m&&decide (s.size=0/\d=0/\B=0))/\Post=[]):=by
 refine au.intro low218 Zn9 ?_;refine ae ?_;refine kX Zr (λq=>?_);simp only[Value.cells];refine ae ?_;by_cases h1:s.size=0;rotate_left
 .rw[show decide (s=⟨#[]⟩)=false from Zf (by first|exact λe=>h1 (xj.2 e)|exact xj.1 h1)];refine ae ?_;exact kG (Post:=[]) (.inr rfl) (.tmp Zr .nil) ⟨by simp[bN,mX,h1],rfl⟩ ZI
 rw[show decide (s=⟨#[]⟩)=true from Zt (by first|exact λe=>h1 (xj.2 e)|exact xj.1 h1)];refine ae ?_;by_cases h2:j=0;rotate_left
 .rw[show decide ((j:Int)=0)=false from Zf Zo];refine ae ?_;exact kG (Post:=[]) (.inr rfl) (.tmp Zr .nil) ⟨by simp[bN,mX,h2],rfl⟩ ZI
 rw[show decide ((j:Int)=0)=true from Zt Zo];refine ae ?_;by_cases h3:A=0;rotate_left
 .rw[show decide (A=0)=false from Zf (by assumption)];refine ae ?_;exact kG (Post:=[]) (.inr rfl) (.tmp Zr .nil) ⟨by simp[bN,mX,h3],rfl⟩ ZI
 rw[show decide (A=0)=true from Zt (by assumption)];refine ae ?_;by_cases h4:g=0;rotate_left
 .rw[show decide ((g:Int)=0)=false from Zf Zo];refine ae ?_;exact kG (Post:=[]) (.inr rfl) (.tmp Zr .nil) ⟨by simp[bN,mX,h4],rfl⟩ ZI
 rw[show decide ((g:Int)=0)=true from Zt Zo];refine ae ?_;by_cases h5:lt.size=0;rotate_left
 .rw[show decide (lt=⟨#[]⟩)=false from Zf (by first|exact λe=>h5 (xj.2 e)|exact xj.1 h5)];refine ae ?_;exact kG (Post:=[]) (.inr rfl) (.tmp Zr .nil) ⟨by simp[bN,mX,h5],rfl⟩ ZI
 rw[show decide (lt=⟨#[]⟩)=true from Zt (by first|exact λe=>h5 (xj.2 e)|exact xj.1 h5)];refine ae ?_;by_cases h6:m=0;rotate_left
 .rw[show decide ((m:Int)=0)=false from Zf Zo];refine ae ?_;exact kG (Post:=[]) (.inr rfl) (.tmp Zr .nil) ⟨by simp[bN,mX,h6],rfl⟩ ZI
 rw[show decide ((m:Int)=0)=true from Zt Zo];refine ae ?_;by_cases h7:d=0;rotate_left
 .rw[show decide ((d:Int)=0)=false from Zf Zo];refine ae ?_;exact kG (Post:=[]) (.inr rfl) (.tmp Zr .nil) ⟨by simp[bN,mX,h7],rfl⟩ ZI
 rw[show decide ((d:Int)=0)=true from Zt Zo];refine ae ?_;refine kG (Post:=[]) (.inr rfl) (.tmp Zr .nil) ⟨?_,rfl⟩ ZI;simp only[bN,mX,h1,h2,h3,h4,h5,h6,h7,true_and,decide_true,vW,Value.bool.injEq];exact decide_eq_decide.2 ⟨λh=>by omega,λh=>by omega⟩
structure OneS where
 ok:Bool
 n:Int
 s:ByteArray
 lk:Nat
 ln:Int
 lb:Nat
 lt:ByteArray
 la:Option Addr
 lm:Nat
 lc:Nat
 aa:Option Addr
 am:Nat
 ac:Nat
 ta:Option Addr
 tm:Nat
 tc:Nat
theorem Xf(A:List kC)(hE:oD A)(x:Nd)(hb:x.w<=274877906944)(vs:List Value)(h:jN A x vs):au Tryz.prog 184 [.agg vs.toArray] [A] (λv Post=>v=.tuple #[.bool (wp x.kind x.name x.lit x.args x.ab x.kids.length),vi (yI x.kind x.name)]/\Post=[A]):=by
 have h0:=h;cases h with
 |@mk k s lit args ab kids p lv av tv a c bk o us wf hl bD bB ha hm hr rV=>
 simp only[Nd.w]at hb;have nM:=Dj A hE _ lit (Qt _) Zo lv hl false;have Y5:=lZ A av args bD;have K:=lZ A tv ab bB;simp only[Nd.kind,Nd.name,Nd.lit,Nd.args,Nd.ab,Nd.kids];have O4:=hl.len;cases hl with
 |@mk lk ln lb lt items la lc CV lo IY LJ Ly LB LC=>
 obtain⟨g,j,rfl,s5,dD⟩:=bD;obtain⟨m,B,rfl,rZ,IG⟩:=bB;have mT:=wf.kind;have D:=wf.name;have bH:=wf.many;have C:wz (.mk lk ln lb lt items)=mX lk ln lb lt items.length:=rfl;refine au.intro low184 Zn9 ?_;simp only[aE];refine jH ?_;refine kX Zr (λq=>?_);simp only[Value.cells];refine jH ?_;refine VC.join (α:=OneS) (λz=>[(1,kE q),(4,.bool z.ok),(5,vi z.n)]) (λz=>[A,kA q 0 (rA k z.s z.lk z.ln z.lb z.lt z.la z.lm z.lc z.aa z.am z.ac z.ta z.tm z.tc a kids.length c p)])
  (λz=>wp k s (.mk lk ln lb lt items) args ab kids.length=(z.ok&&(mX z.lk z.ln z.lb z.lt z.lm&&decide (z.s.size=0/\z.am=0/\z.tm=0)))/\yI k s=z.n) ?_ ?_
 .have G:(⟨#[]⟩:ByteArray).size=0:=rfl;by_cases k1:k=1
  .subst k1;refine ae ?_;refine kH nM Zr ZP (λv Post F=>?_);obtain⟨rfl,rfl⟩:=F;simp only[aE];refine ae ?_;refine⟨⟨(jS (.mk lk ln lb lt items) false).isSome,0,s,0,0,0,⟨#[]⟩,none,0,0,g,args.length,j,m,ab.length,B⟩,⟨?_,rfl⟩,ZU,by show ai _ [A,kA q 0 [cv 1,.string s,.int .u8 0,.int .i64 0,.int .u64 0,.string ⟨#[]⟩,Nz,.slice g args.length j,.slice m ab.length B,.slice a kids.length c,vi p]];exact bT⟩;simp[wp,mX,G]
  by_cases k2:k=2
  .subst k2;refine ae ?_;refine kL (mg s D) Zr ?_;refine ae ?_;refine⟨⟨wm s,0,⟨#[]⟩,lk,ln,lb,lt,la,items.length,lc,g,args.length,j,m,ab.length,B⟩,⟨?_,rfl⟩,ZU,ZI⟩;simp only[G];simp[wp,C,Bool.and_assoc]
  by_cases k3:k=3
  .subst k3;refine ae ?_;refine kL (AE s D) Zr ?_;refine ae ?_;refine⟨⟨jF s,1,⟨#[]⟩,lk,ln,lb,lt,la,items.length,lc,g,args.length,j,m,ab.length,B⟩,⟨?_,rfl⟩,ZU,ZI⟩;simp only[G];simp[wp,C,Bool.and_assoc]
  have E:-1<=kS s/\kS s<=140737488355329:=tu s D;by_cases k4:k=4
  .subst k4;refine ae ?_;refine kL (ib s D) Zr ?_;obtain⟨z,d⟩:∃z,kS s=z:=⟨_,rfl⟩;rw[d]at E|-;refine ae ?_;refine⟨⟨decide (z+1 > 0),z+1,⟨#[]⟩,lk,ln,lb,lt,la,items.length,lc,g,args.length,j,m,ab.length,B⟩,⟨?_,by simp[yI,d]⟩,ZU,ZI⟩;simp only[G];rw[show decide (z+1 > 0)=decide (0<=z)from decide_eq_decide.2 ⟨λh=>by omega,λh=>by omega⟩];simp[wp,C,d,Bool.and_assoc]
  by_cases k5:k=5
  .subst k5;refine ae ?_;refine⟨⟨decide ((kids.length:Int) > 2),-1,s,lk,ln,lb,lt,la,items.length,lc,g,args.length,j,m,ab.length,B⟩,⟨?_,rfl⟩,ZU,ZI⟩;rw[show decide ((kids.length:Int) > 2)=decide (2 < kids.length)from decide_eq_decide.2 ⟨λh=>by omega,λh=>by omega⟩];simp[wp,C,Bool.and_assoc]
  by_cases k6:k=6
  .subst k6;refine ae ?_;refine kL (ib s D) Zr ?_;obtain⟨z,d⟩:∃z,kS s=z:=⟨_,rfl⟩;rw[d]at E|-;refine ae ?_;refine⟨⟨decide (z ≥ 0),z,⟨#[]⟩,lk,ln,lb,lt,la,items.length,lc,g,args.length,j,m,ab.length,B⟩,⟨?_,by simp[yI,d]⟩,ZU,ZI⟩;simp only[G];rw[show decide (z ≥ 0)=decide (0<=z)from rfl];simp[wp,C,d,Bool.and_assoc]
  by_cases k7:k=7
  .subst k7;refine ae ?_;refine kH Y5 Zr ZP (λv Post F=>?_);obtain⟨rfl,rfl⟩:=F;simp only[aE];cases hfa0:args.all jF with
   |false=>
    refine ae ?_;refine⟨⟨false,-1,s,lk,ln,lb,lt,la,items.length,lc,none,0,0,none,0,0⟩,⟨?_,rfl⟩,ZU,ZI⟩;simp[wp,hfa0]
   |true=>
    refine ae ?_;refine kH K Zr ZP (λv Post F=>?_);obtain⟨rfl,rfl⟩:=F;simp only[aE];refine ae ?_;refine⟨⟨ab.all jF,-1,s,lk,ln,lb,lt,la,items.length,lc,none,0,0,none,0,0⟩,⟨?_,rfl⟩,ZU,ZI⟩;simp only[wp,hfa0,C,show ¬(7:Nat)=1 by omega,show ¬(7:Nat)=2 by omega,show ¬(7:Nat)=3 by omega,show ¬(7:Nat)=4 by omega,show ¬(7:Nat)=5 by omega,show ¬(7:Nat)=6 by omega,if_false,if_true,vW,and_self,and_true,Bool.and_assoc]
  by_cases k8:k=8
  .subst k8;refine ae ?_;refine⟨⟨true,-1,s,lk,ln,lb,lt,la,items.length,lc,g,args.length,j,m,ab.length,B⟩,⟨?_,rfl⟩,ZU,ZI⟩;simp[wp,C]
  by_cases k9:k=9
  .subst k9;refine ae ?_;refine⟨⟨true,1,s,lk,ln,lb,lt,la,items.length,lc,g,args.length,j,m,ab.length,B⟩,⟨?_,rfl⟩,ZU,ZI⟩;simp[wp,C]
  refine ae ?_;rw[show decide ((k:Int)=1)=false from Zf Zo];refine ae ?_;rw[show decide ((k:Int)=2)=false from Zf Zo];refine ae ?_;rw[show decide ((k:Int)=3)=false from Zf Zo];refine ae ?_;rw[show decide ((k:Int)=4)=false from Zf Zo];refine ae ?_;rw[show decide ((k:Int)=5)=false from Zf Zo];refine ae ?_;rw[show decide ((k:Int)=6)=false from Zf Zo];refine ae ?_;rw[show decide ((k:Int)=7)=false from Zf Zo];refine ae ?_;rw[show decide ((k:Int)=8)=false from Zf Zo];refine ae ?_;rw[show decide ((k:Int)=9)=false from Zf Zo];refine ae ?_;refine⟨⟨false,0,s,lk,ln,lb,lt,la,items.length,lc,g,args.length,j,m,ab.length,B⟩,⟨?_,?_⟩,ZU,ZI⟩
  .simp[wp,k1,k2,k3,k4,k5,k6,k7,k8,k9]
  .simp[yI,k1,k2,k3,k4,k5,k6,k7,k8,k9]
 .rintro⟨ok,n,s',O,S,M,T,L,Q,N,H,J,I,U,X,W⟩ ⟨Y,Z⟩
  simp only at Y Z;dsimp only;rw[Y,Z];have hn:=Rn k s' O S M T L Q N H J I U X W (.slice a kids.length c) (vi p);cases ok with
  |true=>
   refine ae ?_;refine kL hn Zr ?_;refine ae ?_;exact kG (Post:=[A]) (.inr rfl) (.tmp Zr (.tmp Zr .nil)) ⟨rfl,rfl⟩ ZI
  |false=>
   refine ae ?_;exact kG (Post:=[A]) (.inr rfl) (.tmp Zr (.tmp Zr .nil)) ⟨rfl,rfl⟩ ZI
end Go.Proofs.YtijnokbblmbpkaaGreatDoor

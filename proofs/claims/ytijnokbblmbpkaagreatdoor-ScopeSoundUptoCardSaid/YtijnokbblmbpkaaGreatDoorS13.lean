/-
  Looks: a receiver.
-/
import Derived.Test.YtijnokbblmbpkaaGreatDoorS12
import Derived.Test.YtijnokbblmbpkaaGreatDoorS6
import Derived.Test.YtijnokbblmbpkaaGreatDoorS7
set_option linter.unusedSimpArgs false
set_option linter.unusedVariables false
namespace Go.Proofs.YtijnokbblmbpkaaGreatDoor
open Go Go.V
set_option maxHeartbeats 3200000
set_option maxRecDepth 100000
theorem first_spec(A:List kC)(x:Nd)(vs:List Value)(h:jQ A x vs)(hn:wx A x vs)(sel:ByteArray)(hsel:sel.size<=140737488355328)(lb:Nat)(m0 deep:Bool):Look 203 [kE lb,.agg vs.toArray,.string sel] A lb m0 deep (firstR x sel (kO x)):=by
 have hv:=zM A x vs h hn (recvS sel) lb m0 deep;have hcall:=hn.1 lb m0 deep;obtain⟨c2,c3,c4,c5,c6,c7,c8,c9,c10,rfl,hsz,hk⟩:=nd_open h;have hsu:wh x=superKS x.kind x.name:=rfl;have hss:=super_spec x.kind x.name c2 c3 c4 c5 c6 c7 c8 c9 c10;refine jY.intro low203 (by simp[n203]) ?_;unfold firstR;rw[hsu];refine GOH ?_;refine kd Zr (fun q=>?_);simp only[Value.cells];refine GOH ?_;refine kV hss Zr ?_;cases hs:superKS x.kind x.name with
 |true=>
  rw[if_pos rfl];refine GOH ?_;refine kJ hcall Zr ZP (fun v Post hv=>?_) (fun ch Post hz=>?_);rotate_left
  ·obtain⟨hb,rfl,m2,rfl⟩:=hz;exact⟨[A,lkA lb m2 deep],ZI,hb,rfl,m2,rfl⟩
  exact zCJ
 |false=>
  rw[if_neg Zs];refine GOH ?_;generalize jr x (recvS sel) (kO x)=r at hv|-;cases r with
  |some dm=>
   obtain⟨d,m2⟩:=dm;have hvf:jY Tryz.prog 170 [kE lb,.agg #[cv x.kind,.string x.name,c2,c3,c4,c5,c6,c7,c8,c9,c10],vi (recvS sel)] [A,lkA lb m0 deep] (fun v Post=>v=vi d/\Post=[A,lkA lb (m0||m2) deep]) (fun _ _=>False):=
    jY.mono hv (fun v Post ⟨d',m',e,h1,h2⟩=>by cases e;exact⟨h1,h2⟩) (fun ch Post hz=>by cases hz.1)
   refine VC.seq (VC.draws ⟨?_,?_,trivial⟩)
   ·exact zBL
   ·exact zBL
  |none=>
   have hvz:jY Tryz.prog 170 [kE lb,.agg #[cv x.kind,.string x.name,c2,c3,c4,c5,c6,c7,c8,c9,c10],vi (recvS sel)] [A,lkA lb m0 deep] (fun v Post=>False) (fun ch Post=>ch=w9/\∃m,Post=[A,lkA lb m deep]):=
    jY.mono hv (fun v Post ⟨d',m',e,_⟩=>by cases e) (fun ch Post hz=>hz.2)
   refine VC.seq (VC.drawZ (fun ch H'=>ch=w9/\∃m,Imp H' [A,lkA lb m deep]) (fun H'=>H'=[kA q 0 [cv x.kind,.string x.name,c2,c3,c4,c5,c6,c7,c8,c9,c10],A,lkA lb m0 deep]) rfl ?_ (fun ch H' hp=>?_))
   ·intro rs hrs;rcases Q4.1 hrs with rfl|hrs
    ·skip
     refine kH ?_;refine⟨rfl,.agg #[cv x.kind,.string x.name,c2,c3,c4,c5,c6,c7,c8,c9,c10],True,fun Γ H hΓ hH=>?_,?_⟩
     ·subst hH;exact st_loadM (hΓ 4 Zd _ rfl) Zab Zaf
     refine kH ?_;refine⟨rfl,vi (recvS sel),True,fun Γ H hΓ hH=>?_,?_⟩
     ·subst hH;exact kV (receiver_spec sel hsel) (by simp only[V.evs,V.ev,hΓ 14 Zd _ rfl]) Zaf
     exact zBG
    rcases Q4.1 hrs with rfl|hrs
    ·skip
     refine kH ?_;refine kH ?_;refine⟨rfl,vi (recvS sel),True,fun Γ H hΓ hH=>?_,?_⟩
     ·subst hH;exact kV (receiver_spec sel hsel) (by simp only[V.evs,V.ev,hΓ 14 Zd _ rfl]) Zaf
     refine⟨rfl,.agg #[cv x.kind,.string x.name,c2,c3,c4,c5,c6,c7,c8,c9,c10],True,fun Γ H hΓ hH=>?_,?_⟩
     ·subst hH;exact st_loadM (hΓ 4 Zd _ rfl) Zab Zaf
     exact zBG
    ·cases hrs
   ·obtain⟨rfl,m,hi⟩:=hp;exact⟨_,hi,rfl,rfl,m,rfl⟩
end Go.Proofs.YtijnokbblmbpkaaGreatDoor
namespace Go.V
open Go
section
variable {P:Program} {n:Nat} {rs:List RO} {Γ:Env} {H:SH} {Z:List PanicEntry->Env->SH->Prop} {K:Env->SH->Prop} {d:Option Nat}
theorem st_max {x y:Operand}{a b:Nat}(hx:ev Γ x=some (vi a))(hy:ev Γ y=some (vi b))(h:VO P n rs (putE d (vi (max a b:Nat)) Γ) H Z K):
 VO P n (⟨d,none,.max2 x y⟩::rs) Γ H Z K:=by
 refine VO.pure rfl (v:=vi (max a b:Nat)) (fun ρ hρ=>?_) h;have e:(if(b:Int) > (a:Int)then(b:Int)else(a:Int))=((max a b:Nat):Int):=by split <;> omega
 simp only[kS,hρ _ _ hx,hρ _ _ hy,vi,e]
theorem st_eqI {x y:Operand}{k:IntKind}{a b:Int}{t:Bool}(hx:ev Γ x=some (.int k a))(hy:ev Γ y=some (.int k b))(ht:decide (a=b)=t)(h:VO P n rs (putE d (.bool t) Γ) H Z K):
 VO P n (⟨d,none,.bin .eql x y⟩::rs) Γ H Z K:=
 VO.pure rfl (v:=.bool t) (fun ρ hρ=>by subst ht;simp[kS,hρ _ _ hx,hρ _ _ hy,zQ,intV]) h
theorem st_leI {x y:Operand}{k:IntKind}{a b:Int}{t:Bool}(hx:ev Γ x=some (.int k a))(hy:ev Γ y=some (.int k b))(ht:decide (a<=b)=t)(h:VO P n rs (putE d (.bool t) Γ) H Z K):
 VO P n (⟨d,none,.bin .leq x y⟩::rs) Γ H Z K:=
 VO.pure rfl (v:=.bool t) (fun ρ hρ=>by subst ht;simp[kS,hρ _ _ hx,hρ _ _ hy,zQ,intV]) h
theorem st_lenI {x:Operand}{a:Option Addr}{m c:Nat}(hx:ev Γ x=some (.slice a m c))(h:VO P n rs (putE d (vi m) Γ) H Z K):
 VO P n (⟨d,none,.lenL x⟩::rs) Γ H Z K:=
 VO.pure rfl (v:=vi m) (fun ρ hρ=>by simp[kS,hρ _ _ hx,vi]) h
end
end Go.V
namespace Go.Proofs.YtijnokbblmbpkaaGreatDoor
open Go Go.V
set_option maxHeartbeats 3200000
set_option maxRecDepth 100000
theorem nd_open2 {A:List kC}{y:Nd}{vs:List Value}(h:jQ A y vs):∃(e1:Nat) (e2:Int) (e3:Nat) (e4:ByteArray) (e5:Option Addr) (e6 e7:Nat) (e8:Option Addr) (e9 e10:Nat) (e11:Option Addr) (e12 e13:Nat) (e14:Option Addr) (e15 e16:Nat) (e17:Int),
 vs=[cv y.kind,.string y.name,cv e1,vi e2,uv e3,.string e4,.slice e5 e6 e7,.slice e8 e9 e10,.slice e11 e12 e13,.slice e14 e15 e16,vi e17]/\y.name.size<=140737488355328/\y.kind < 256:=by
 cases h with
 |mk wf hl hav htv ha hm hr=>
  obtain⟨_,_,rfl,_⟩:=hav;obtain⟨_,_,rfl,_⟩:=htv;cases hl with
  |mk wf2 ha2 hm2 hr2=>exact⟨_,_,_,_,_,_,_,_,_,_,_,_,_,_,_,_,_,rfl,wf.name,wf.kind⟩
structure zS (A:List kC)(l:List Nd)(a:Option Addr)(bk o:Nat)(us:Nat->List Value):Prop where
 at_:0 < l.length->a=some ⟨bk,o,none⟩
 many:l.length<=140737488355328
 mem:∀i,i < l.length->∀y∈kA bk (o+i*11) (us i),y∈A
 rd:∀i x,l[i]? =some x->jQ A x (us i)
 ok:∀i x,l[i]? =some x->wx A x (us i)
theorem arguments_spec(A:List kC)(l:List Nd)(a:Option Addr)(c bk o:Nat)(us:Nat->List Value)(hk:zS A l a bk o us)(sel:ByteArray)(hsel:sel.size<=140737488355328)(lb:Nat)(m0 deep:Bool):
 Look 204 [kE lb,.string sel,.slice a l.length c] A lb m0 deep (argsR sel l (l.map kO)):=by
 refine jY.intro low204 (by simp[n204]) ?_;unfold Go.V.argsR;rw[valuesR_map];obtain⟨RR,hRR⟩:∃RR,RR=kP (decide (j7 sel=l.length)) (wo (decide (15 < j7 sel)) (wM (l.map fun x=>jr x (argS sel) (kO x)))):=⟨_,rfl⟩;rw[<- hRR];have hmany:=hk.many;refine GOH ?_;refine kV (arity_spec sel hsel) Zr ?_;refine GOH ?_;by_cases har:j7 sel=(l.length:Int);rotate_left
 ·have hnone:RR=none:=by simp[hRR,kP,har]
  rw[Zf har];exact zA7
 have hm1:RR=wo (decide (15 < j7 sel)) (wM (l.map fun x=>jr x (argS sel) (kO x))):=by simp[hRR,kP,har]
 rw[Zt har];refine GOH ?_;refine kJ (kw true) Zr ZP (fun v Post hv=>?_) Zaj;obtain⟨_,rfl,rfl⟩:=hv;simp only[QD];refine GOH ?_;obtain⟨m0',hm0'⟩:∃m0',m0'=m0:=⟨_,rfl⟩;cases m0 with
 |true=>
  obtain⟨mB,hmB⟩:∃b,b=(true||decide (15 < j7 sel)):=⟨_,rfl⟩;have hmB0:mB=true:=by rw[hmB,Bool.true_or]
  exact zA2
 |false=>
  obtain⟨mB,hmB⟩:∃b,b=(false||decide (15 < j7 sel)):=⟨_,rfl⟩;have hmB0:mB=decide (j7 sel > 15):=by rw[hmB,vJ]
  exact zA2
end Go.Proofs.YtijnokbblmbpkaaGreatDoor
namespace Go.Proofs.YtijnokbblmbpkaaGreatDoor
open Go Go.V
set_option maxHeartbeats 3200000
set_option maxRecDepth 100000
theorem statements_spec(A:List kC)(l:List Nd)(a:Option Addr)(c bk o:Nat)(us:Nat->List Value)(hk:zS A l a bk o us)(lb:Nat)(m0 deep:Bool):
 Look 107 [kE lb,.slice a l.length c] A lb m0 deep (wM (zN l (l.map kO))):=by
 refine jY.intro low107 (by simp[n107]) ?_;have hmany:=hk.many;refine GOH ?_;refine VC.loop (α:=Nat×Nat×Bool) (Γf:=fun s=>[(0,kE lb),(1,.slice a l.length c),(5,vi s.2.1),(8,.slice a l.length c),(9,vi l.length),(10,vi s.1)]) (Hf:=fun s=>[A,lkA lb (m0||s.2.2) deep])
  (I:=fun s=>s.1<=l.length/\wM ((zN l (l.map kO)).take s.1)=some (s.2.1,s.2.2)) (μ:=fun s=>l.length - s.1) (0,0,false) ⟨Qf _,rfl⟩ ZU (by show Imp _ [A,lkA lb (m0||false) deep];rw[vQ];exact IMx) ?_
 rintro⟨j,d,mm⟩ ⟨i1,i2⟩
 simp only at i1 i2;dsimp only;refine GOH ?_;by_cases hj:j < l.length;rotate_left
 ·rw[show decide ((j:Int) < (l.length:Int))=false from Zf Zo];rw[QR (by rw[stmtsR_len];omega)]at i2;refine GOH ?_;refine jI (kG (Post:=[A,lkA lb (m0||mm) deep]) (.inr rfl) (.tmp Zr .nil) ⟨d,mm,i2,rfl,rfl⟩ ZI)
 obtain rfl:=hk.at_ Zo;rw[show decide ((j:Int) < (l.length:Int))=true from Zt Zo];obtain⟨y,hy⟩:∃y,l[j]? =some y:=⟨_,Zg hj⟩;have hyr:=hk.rd j y hy;have hym:=hk.mem j hj;have hget:=stmtsR_get l j y hy;have hok:=hk.ok j y hy;generalize us j=uj at hyr hym hok;obtain⟨e1,e2,e3,e4,e5,e6,e7,e8,e9,e10,e11,e12,e13,e14,e15,e16,e17,rfl,hsz,hkk⟩:=nd_open2 hyr;refine GOH ?_;refine kZ Zr Zah rfl ?_;refine GOH ?_;refine kL (fun q=>?_);refine GOH ?_;by_cases h9:y.kind=9
 ·rw[show decide ((y.kind:Int)=9)=true from Zt Zo];refine GOH ?_;by_cases hl:j+1=l.length
  ·rw[show decide ((j:Int)=(l.length:Int) - 1)=true from Zt Zo];rw[if_pos ⟨h9,hl⟩]at hget;have hv:=hok.1 lb (m0||mm) deep;exact zAH
  ·rw[show decide ((j:Int)=(l.length:Int) - 1)=false from Zf Zo];rw[if_neg (fun h=>hl h.2)]at hget;have hv:=zM A y _ hyr hok 1 lb (m0||mm) deep;exact zAH
 ·rw[show decide ((y.kind:Int)=9)=false from Zf Zo];rw[if_neg (fun h=>h9 h.1)]at hget;have hv:=zM A y _ hyr hok 1 lb (m0||mm) deep;exact zAH
end Go.Proofs.YtijnokbblmbpkaaGreatDoor
namespace Go.V
open Go
theorem jU {R G:Prop}(r:R)(h:Later R->G:=by
 intro later
 (repeat (first
   |(first
   |(apply st_gt;rfl)
   |(apply st_shr;rfl;rfl;omega;omega;exact Zi;exact Zi;(first|assumption|((try simp only[Nat.reducePow]);rfl));rfl)
   |(apply st_shl;rfl;rfl;omega;omega;exact Zi;exact Zi;(first|assumption|((try simp only[Nat.reducePow]);rfl));rfl)
   |(apply st_and;rfl;rfl;exact Zl;exact Zl;exact Zi;exact Zi;(first|exact and1 _|exact and7 _|exact and15 _|rfl))
   |(apply st_or;rfl;rfl;exact Zl;exact Zl;exact Zi;exact Zi;rfl)
   |(apply st_andN;rfl;rfl;exact Zl;exact Zl;exact Zi;exact Zi)
   |(apply st_subU;rfl;rfl;omega;omega;exact Zi;exact Zi)
   |(apply st_addB;rfl;rfl;omega;omega;omega;exact Zi;exact Zi)
   |(apply st_convN;rfl;(first|exact wrapI Zo|exact wrapU_lt Zo|exact wrapB_lt Zo))
   |(apply st_quoN;rfl;rfl;omega;omega;exact Zi;exact Zi)
   |(apply st_remN;rfl;rfl;omega;omega;exact Zi;exact Zi)
   |(apply st_gf;rfl;rfl)
   |(apply st_gu;rfl)
   |(apply st_mv;rfl)
   |(apply st_nil;rfl)
   |(apply st_pick_t;rfl;rfl)
   |(apply st_pick_f;rfl;rfl)
   |(apply st_fld;rfl;exact Zz)
   |(apply wL;rfl;exact Zh)
   |(apply wL;rfl;exact Zm)
   |(apply st_loadM;rfl;exact Zab)
   |(apply st_extL;rfl;rfl)
   |(apply st_ext;rfl;rfl)
   |(apply st_add;rfl;rfl;omega)
   |(apply st_sub;rfl;rfl;omega)
   |(apply st_mul;rfl;rfl;omega)
   |(apply st_rem;rfl;rfl;decide)
   |(apply st_idxL;rfl;rfl;omega;exact Zz)
   |(apply st_idxA;rfl;rfl;omega;exact Zz)
   |(apply st_build;rfl;(focus (simp only[lnb,Value.cells,Qe,Nat.reduceEqDiff,↓reduceIte,eq_self,Nat.reduceAdd,Nat.reduceSub,Qd,Nat.reduceLeDiff,QW,and_self,rep,kf] <;> rfl)))
   |(apply st_store';rfl;rfl;(focus (simp only[lnb,Value.cells,Qe,Nat.reduceEqDiff,↓reduceIte,eq_self,Nat.reduceAdd,Nat.reduceSub,Qd,Nat.reduceLeDiff,QW,and_self,rep,kf] <;> rfl));rfl;rfl;exact Zac)
   |(apply st_pure;rfl;rfl;rfl))
    |(refine VO.nil ?_;simp only[V.argsEnv,V.restr,V.look,V.putE,V.thenQ,V.blockQ,Qe,Nat.reduceAdd,Nat.reduceEqDiff,↓reduceIte,eq_self])
    |refine VC.seq_reg ?_
    |refine VC.seq_draw1 ?_
    |refine VC.seq_block ?_
    |refine VC.seq_skip ?_
    |refine VC.reg ?_
    |refine VC.draw1 ?_
    |refine VC.block ?_
    |(refine VC.skip ?_;try simp only[V.argsEnv,V.restr,V.look,V.putE,V.thenQ,V.blockQ,Qe,Nat.reduceAdd,Nat.reduceEqDiff,↓reduceIte,eq_self])
    |(refine VC.exit ?_;try simp only[V.argsEnv,V.restr,V.look,V.putE,V.thenQ,V.blockQ,Qe,Nat.reduceAdd,Nat.reduceEqDiff,↓reduceIte,eq_self])
    |(refine VC.ret ?_;try simp only[V.thenQ,V.blockQ])
    |(apply VC.seq_cond_t;rfl)
    |(apply VC.seq_cond_f;rfl)
    |(apply VC.cond_t;rfl)
    |(apply VC.cond_f;rfl)))
 exact later.out):G:=h ⟨r⟩
end Go.V
namespace Go.Proofs.YtijnokbblmbpkaaGreatDoor
open Go Go.V
set_option maxHeartbeats 3200000
set_option maxRecDepth 100000
theorem nd_open3 {A:List kC}{y:Nd}{vs:List Value}(h:jQ A y vs):∃(e1:Nat) (e2:Int) (e3:Nat) (e4:ByteArray) (e5:Option Addr) (e6 e7:Nat) (e8:Option Addr) (e9 e10:Nat) (e11:Option Addr) (e12 e13:Nat) (e14:Option Addr) (e15 e16:Nat),
 vs=[cv y.kind,.string y.name,cv e1,vi e2,uv e3,.string e4,.slice e5 e6 e7,.slice e8 e9 e10,.slice e11 e12 e13,.slice e14 e15 e16,vi y.at_]:=by
 exact zC6
structure wa where
 d:Nat
 mm:Bool
 name:ByteArray
 lk:Nat
 ln:Int
 lb:Nat
 lt:ByteArray
 la:Option Addr
 li:Nat
 lc:Nat
 aa:Option Addr
 an:Nat
 ac:Nat
 ta:Option Addr
 tn:Nat
 tc:Nat
def wa.ok(s:wa):Prop:=s.name.size=0/\s.an=0/\s.tn=0/\s.lk=0/\s.ln=0/\s.lb=0/\s.lt.size=0/\s.li=0
instance nodeSDec (s:wa):Decidable s.ok:=by unfold wa.ok;infer_instance
abbrev wa.cells (s:wa)(k:Nat)(p:Int):List Value:=[cv k,.string s.name,cv s.lk,vi s.ln,uv s.lb,.string s.lt,.slice s.la s.li s.lc,.slice s.aa s.an s.ac,.slice s.ta s.tn s.tc,.slice none 0 0,vi p]
def nodeSw:IC:=match F169.body with
 |.seq _ (.seq _ (.seq _ (.seq _ (.seq x _))))=>x
 |_=>.skip
def NodeSw(A:List kC)(x:Nd)(vs:List Value):Prop:=∀(lb q r:Nat) (m0 deep:Bool),
 VC Tryz.prog F169.n nodeSw [(0,kE lb),(3,kE q),(5,kE r),(6,vi 0)] [kA r 0 (vs.set 9 (.slice none 0 0)),kA q 0 vs,A,lkA lb m0 deep]
  (thenQ (fun Γ' H'=>∃s:wa,(kO x=if s.ok then some (s.d,s.mm)else none)/\V.Sub Γ' [(5,kE r),(6,vi s.d)]/\Imp H' [A,lkA lb (m0||s.mm) deep,kA r 0 (s.cells x.kind x.at_)])
    (endP F169.res (LkQ A lb m0 deep (kO x)) (LkZ A lb deep (kO x))))
theorem node_of(A:List kC)(x:Nd)(vs:List Value)(h:jQ A x vs)(hs:NodeSw A x vs)(lb:Nat)(m0 deep:Bool):Look 169 [kE lb,.agg vs.toArray] A lb m0 deep (kO x):=by
 have hsw:=hs lb;obtain⟨e1,e2,e3,e4,e5,e6,e7,e8,e9,e10,e11,e12,e13,e14,e15,e16,rfl⟩:=nd_open3 h;refine jY.intro low169 (by simp[n169]) ?_;refine jU ?_;refine kd Zr (fun q=>?_);simp only[Value.cells];refine jU ?_;refine kL (fun r=>?_);refine jU ?_;refine VC.join (α:=wa) (fun s=>[(5,kE r),(6,vi s.d)]) (fun s=>[A,lkA lb (m0||s.mm) deep,kA r 0 (s.cells x.kind x.at_)])
  (fun s=>kO x=if s.ok then some (s.d,s.mm)else none) ?_ ?_
 ·exact hsw q r m0 deep
 ·rintro⟨d,mm,name,lk,ln,lbt,lt,la,li,lc,aa,an,ac,ta,tn,tc⟩ hR
  simp only at hR;rw[hR];unfold wa.ok;simp only;refine jU ?_;refine kL (fun q2=>?_);refine jU ?_;by_cases h1:name=⟨#[]⟩;rotate_left
  ·have hno:¬(name.size=0/\an=0/\tn=0/\lk=0/\ln=0/\lbt=0/\lt.size=0/\li=0):=fun h=>h1 (ByteArray.ext (v6 h.1))
   rw[Zf h1];exact zAB
  rw[Zt h1];refine jU ?_;by_cases h2:an=0;rotate_left
  ·have hno:¬(name.size=0/\an=0/\tn=0/\lk=0/\ln=0/\lbt=0/\lt.size=0/\li=0):=fun h=>h2 h.2.1
   rw[show decide ((an:Int)=0)=false from Zf Zo];exact zAB
  rw[show decide ((an:Int)=0)=true from Zt Zo];refine jU ?_;by_cases h3:tn=0;rotate_left
  ·have hno:¬(name.size=0/\an=0/\tn=0/\lk=0/\ln=0/\lbt=0/\lt.size=0/\li=0):=fun h=>h3 h.2.2.1
   rw[show decide ((tn:Int)=0)=false from Zf Zo];exact zAB
  rw[show decide ((tn:Int)=0)=true from Zt Zo];refine jU ?_;by_cases h4:lk=0;rotate_left
  ·have hno:¬(name.size=0/\an=0/\tn=0/\lk=0/\ln=0/\lbt=0/\lt.size=0/\li=0):=fun h=>h4 h.2.2.2.1
   rw[show decide ((lk:Int)=0)=false from Zf Zo];exact zAB
  rw[show decide ((lk:Int)=0)=true from Zt Zo];refine jU ?_;by_cases h5:ln=0;rotate_left
  ·have hno:¬(name.size=0/\an=0/\tn=0/\lk=0/\ln=0/\lbt=0/\lt.size=0/\li=0):=fun h=>h5 h.2.2.2.2.1
   rw[Zf h5];exact zAB
  rw[Zt h5];refine jU ?_;by_cases h6:lbt=0;rotate_left
  ·have hno:¬(name.size=0/\an=0/\tn=0/\lk=0/\ln=0/\lbt=0/\lt.size=0/\li=0):=fun h=>h6 h.2.2.2.2.2.1
   rw[show decide ((lbt:Int)=0)=false from Zf Zo];exact zAB
  rw[show decide ((lbt:Int)=0)=true from Zt Zo];refine jU ?_;by_cases h7:lt=⟨#[]⟩;rotate_left
  ·have hno:¬(name.size=0/\an=0/\tn=0/\lk=0/\ln=0/\lbt=0/\lt.size=0/\li=0):=fun h=>h7 (ByteArray.ext (v6 h.2.2.2.2.2.2.1))
   rw[Zf h7];exact zAB
  rw[Zt h7];refine jU ?_;by_cases h8:li=0;rotate_left
  ·have hno:¬(name.size=0/\an=0/\tn=0/\lk=0/\ln=0/\lbt=0/\lt.size=0/\li=0):=fun h=>h8 h.2.2.2.2.2.2.2
   rw[show decide ((li:Int)=0)=false from Zf Zo];exact zAB
  rw[show decide ((li:Int)=0)=true from Zt Zo];refine jU ?_;refine kJ (kw true) Zr ZP (fun v Post hv=>?_) Zaj;obtain⟨_,rfl,rfl⟩:=hv;simp only[QD];refine jU ?_;exact jI (kG (Post:=[A,lkA lb (m0||mm) deep]) (.inr rfl) (.tmp Zr .nil) ⟨d,mm,if_pos ⟨by rw[h1];rfl,h2,h3,h4,h5,h6,by rw[h7];rfl,h8⟩,rfl,rfl⟩ ZI)
end Go.Proofs.YtijnokbblmbpkaaGreatDoor
namespace Go.Proofs.YtijnokbblmbpkaaGreatDoor
open Go Go.V
set_option maxHeartbeats 3200000
set_option maxRecDepth 100000
structure LitS where
 d:Nat
 mm:Bool
 n:Int
 b:Nat
 t:ByteArray
 sv:Value
 l:Nat
def LitS.ok(s:LitS):Prop:=s.n=0/\s.b=0/\s.t.size=0/\s.l=0
instance(s:LitS):Decidable s.ok:=by unfold LitS.ok;infer_instance
theorem lit_spec(A:List kC)(hE:ErA A):∀(N:Nat) (x:Lt),x.size<=N->x.size<=1099511627776->∀vs,LtRd A x vs->∀(lb:Nat) (m0 deep inside:Bool),Look 202 [kE lb,.agg vs.toArray,.bool inside] A lb m0 deep (w8 x inside):=by
 intro N
 induction N with
 |zero=>intro x hx;have:=x.size_pos;omega
 |succ N ih=>
  intro x hx hbd vs hvs lb m0 deep inside;have hvs2:=hvs;cases hvs with
  |@mk k n b t items a c bk o us wf ha hm hr=>
  refine jY.intro low202 (by simp[n202]) ?_;refine jU ?_;refine kd Zr (fun q=>?_);simp only[Value.cells];refine jU ?_;refine kL (fun r=>?_);refine jU ?_;refine VC.join (α:=LitS) (fun s=>[(7,vi s.d),(8,kE r)]) (fun s=>[A,lkA lb (m0||s.mm) deep,kA r 0 [cv k,vi s.n,uv s.b,.string s.t,s.sv]])
   (fun s=>(∃a c,s.sv=.slice a s.l c)/\w8 (.mk k n b t items) inside=if s.ok then some (s.d,s.mm)else none) ?_ ?_
  ·have hk256:=wf.kind;obtain⟨hn1,hn2⟩:=wf.n;by_cases k1:k=1
   ·subst k1;exact zAK
   by_cases k2:k=2
   ·subst k2;exact zAK
   by_cases k3:k=3
   ·subst k3;exact zAK
   by_cases k4:k=4
   ·subst k4;refine GOH ?_;by_cases h1:-1152921504606846976<=n;rotate_left
    ·have hnone:w8 (.mk 4 n b t items) inside=none:=by simp[w8,kP,h1]
     rw[Zf h1];exact zA7
    rw[Zt h1];refine GOH ?_;by_cases h2:n<=1152921504606846975;rotate_left
    ·have hnone:w8 (.mk 4 n b t items) inside=none:=by simp[w8,kP,h2]
     rw[Zf h2];exact zA7
    exact zBI
   by_cases k5:k=5
   ·subst k5;refine GOH ?_;refine kM (integer_spec A hE t wf.text) Zr ZP (fun v Post hv=>?_);obtain⟨hq,rfl⟩:=hv;obtain⟨kk,nn,tt,ee,rfl,hlg⟩:=hq.large;simp only[CNx];refine GOH ?_;refine kL (fun q2=>?_);refine GOH ?_;by_cases h1:ee=0;rotate_left
    ·have hnone:w8 (.mk 5 n b t items) inside=none:=by
      have:largeL (kF t)=false:=Bool.eq_false_iff.2 fun h=>h1 (hlg.2 h).1
      simp[w8,kP,this]
     rw[show decide ((ee:Int)=0)=false from Zf Zo];exact zA7
    rw[show decide ((ee:Int)=0)=true from Zt Zo];refine GOH ?_;by_cases h2:kk=5;rotate_left
    ·have hnone:w8 (.mk 5 n b t items) inside=none:=by
      have:largeL (kF t)=false:=Bool.eq_false_iff.2 fun h=>h2 (hlg.2 h).2.1
      simp[w8,kP,this]
     rw[show decide ((kk:Int)=5)=false from Zf Zo];exact zA7
    rw[show decide ((kk:Int)=5)=true from Zt Zo];refine GOH ?_;by_cases h3:tt=t;rotate_left
    ·have hnone:w8 (.mk 5 n b t items) inside=none:=by
      have:largeL (kF t)=false:=Bool.eq_false_iff.2 fun h=>h3 (hlg.2 h).2.2
      simp[w8,kP,this]
     rw[Zf h3];exact zA7
    rw[Zt h3];refine GOH ?_;refine kJ (kw true) Zr ZP (fun v Post hv=>?_) Zaj;obtain⟨_,rfl,rfl⟩:=hv;simp only[QD];refine GOH ?_;have hl5:=hlg.1 ⟨h1,h2,h3⟩;refine⟨⟨0,false,n,b,⟨#[]⟩,_,_⟩,⟨⟨_,_,rfl⟩,?_⟩,ZU,by rw[vQ];exact IMx⟩;simp[w8,kP,LitS.ok,hl5,show(⟨#[]⟩:ByteArray).size=0 from rfl]
   by_cases k6:k=6
   ·subst k6;have hbits:=wf.bits;refine GOH ?_;by_cases h1:b*2 % 18446744073709551616 / 9007199254740992=2047
    ·have hnone:w8 (.mk 6 n b t items) inside=none:=by simp[w8,kP,h1]
     rw[show decide (((b*2 % 18446744073709551616 / 9007199254740992:Nat):Int)=2047)=true from Zt Zo,Bool.not_true];exact zA7
    rw[show decide (((b*2 % 18446744073709551616 / 9007199254740992:Nat):Int)=2047)=false from Zf Zo,vL];refine GOH ?_;refine kJ (kw true) Zr ZP (fun v Post hv=>?_) Zaj;obtain⟨_,rfl,rfl⟩:=hv;simp only[QD];refine GOH ?_;refine⟨⟨0,false,n,0,t,.slice a items.length c,items.length⟩,⟨⟨_,_,rfl⟩,?_⟩,ZU,by rw[vQ];show Imp _ [A,lkA lb m0 deep,kA r 0 [cv 6,vi n,.int .u64 0,.string t,.slice a items.length c]];exact IMx⟩;simp[w8,kP,LitS.ok,h1]
   by_cases k7:k=7
   ·subst k7;refine GOH ?_;by_cases h1:0<=n;rotate_left
    ·have hnone:w8 (.mk 7 n b t items) inside=none:=by simp[w8,kP,h1]
     rw[Zf h1];exact zA7
    rw[Zt h1];refine GOH ?_;by_cases h2:n<=255;rotate_left
    ·have hnone:w8 (.mk 7 n b t items) inside=none:=by simp[w8,kP,h2]
     rw[Zf h2];exact zA7
    exact zBI
   by_cases k8:k=8
   ·subst k8;exact zCA
   by_cases k9:k=9
   ·subst k9;exact zCA
   by_cases k11:k=11
   ·subst k11;have h0:(⟨#[]⟩:ByteArray).size=0:=rfl;cases m0 with
    |true=>
     refine GOH ?_;refine⟨⟨0,decide (255 < t.size),n,b,⟨#[]⟩,_,_⟩,⟨⟨_,_,rfl⟩,?_⟩,ZU,by rw[Bool.true_or];exact IMx⟩;simp[w8,kP,LitS.ok,h0]
    |false=>
     refine GOH ?_;by_cases h1:255 < t.size
     ·rw[show decide ((t.size:Int) > 255)=true from Zt Zo];refine GOH ?_;refine⟨⟨0,true,n,b,⟨#[]⟩,_,_⟩,⟨⟨_,_,rfl⟩,?_⟩,ZU,by rw[Bool.or_true];exact IMx⟩;simp[w8,kP,LitS.ok,h0,h1]
     ·rw[show decide ((t.size:Int) > 255)=false from Zf Zo];refine GOH ?_;refine⟨⟨0,false,n,b,⟨#[]⟩,_,_⟩,⟨⟨_,_,rfl⟩,?_⟩,ZU,by rw[vQ];exact IMx⟩;simp[w8,kP,LitS.ok,h0,h1]
   by_cases k10:k=10
   ·subst k10;cases m0 with
    |true=>
     have hmm1:∀mm,(true||(decide (255 < items.length)||mm))=(true||mm):=fun _=>by simp
     exact zA8
    |false=>
     refine GOH ?_;by_cases h255:255 < items.length
     ·have hmm1:∀mm,(false||(decide (255 < items.length)||mm))=(true||mm):=fun _=>by simp[h255]
      rw[show decide ((items.length:Int) > 255)=true from Zt Zo];exact zA8
     ·have hmm1:∀mm,(false||(decide (255 < items.length)||mm))=(false||mm):=fun _=>by simp[h255]
      rw[show decide ((items.length:Int) > 255)=false from Zf Zo];refine GOH ?_;refine VC.loop (α:=Nat×Nat×Bool) (Γf:=fun s=>[(0,kE lb),(7,vi s.2.1),(8,kE r),(114,.slice a items.length c),(115,vi items.length),(116,vi s.1)]) (Hf:=fun s=>[A,lkA lb (false||s.2.2) deep,kA r 0 [cv 10,vi n,uv b,.string t,.slice a items.length c]])
       (I:=fun s=>s.1<=items.length/\wM ((items.take s.1).map fun x=>w8 x true)=some (s.2.1,s.2.2)) (μ:=fun s=>items.length - s.1) (0,0,false) ⟨Qf _,rfl⟩ ZU (by rw[vQ];exact IMx) ?_
      rintro⟨j,d,mm⟩ ⟨i1,i2⟩
      simp only at i1 i2;dsimp only;have hmany:=wf.many;simp only[Lt.size]at hbd;have hdb:d<=Lt.sizes items:=maxR_le (fun r hr d m e=>by
       obtain⟨y,hy,rfl⟩:=Q9.1 hr;have h1:=Lt.sizes_mem (QA hy);have h2:=litD_le _ y (QW _) true d m e;omega) i2
      refine GOH ?_;by_cases hj:j < items.length;rotate_left
      ·rw[show decide ((j:Int) < (items.length:Int))=false from Zf Zo];have htk:items.take j=items:=QR Zo;rw[htk,<- litsD_map]at i2;refine GOH ?_;refine⟨⟨d+1,decide (255 < items.length)||mm,n,b,t,.slice none 0 0,0⟩,⟨⟨_,_,rfl⟩,?_⟩,ZU,?_⟩
       ·simp[w8,i2,wo,wV,kP,LitS.ok]
       ·rw[hmm1];exact IMx
      obtain rfl:=ha Zo;rw[show decide ((j:Int) < (items.length:Int))=true from Zt Zo];obtain⟨y,hy⟩:∃y,items[j]? =some y:=⟨_,Zg hj⟩;have hyr:=hr j y hy;have hym:=hm j hj;have hysz:y.size<=N:=by
       have h1:=Lt.sizes_mem (Zv hy);simp only[Lt.size]at hx;omega
      have hy1:=Lt.sizes_mem (Zv hy);have hcall:=ih y hysz Zo _ hyr lb (false||mm) deep true;generalize us j=uj at hyr hym hcall;have hyr2:=hyr;cases hyr2 with
      |@mk k2 n2 b2 t2 items2 a2 c2 bk2 o2 us2 wf2 ha2 hm2 hr2=>
      refine GOH ?_;refine kZ Zr Zah rfl ?_;refine GOH ?_;refine kL (fun q2=>?_);refine GOH ?_;refine kJ hcall Zr ZP (fun v Post hv=>?_) (fun ch Post hz=>?_);rotate_left
      ·obtain⟨hb,rfl,m2,rfl⟩:=hz;have hnone:w8 (.mk 10 n b t items) inside=none:=by
        have h1:wM (litsD items)=none:=by
         rw[litsD_map];exact maxR_none (Q9.2 ⟨_,Zv hy,hb⟩)
        simp[w8,h1,wo,wV,kP]
       exact⟨[A,lkA lb m2 deep],ZI,hnone,rfl,m2,rfl⟩
      obtain⟨e,m2,he,rfl,rfl⟩:=hv;simp only[CNx];have htk:items.take (j+1)=items.take j++[.mk k2 n2 b2 t2 items2]:=by rw[QO,hy];rfl
      refine GOH ?_;rw[show(if(e:Int) > (d:Int)then(e:Int)else(d:Int))=((max d e:Nat):Int) by split <;> omega];refine⟨(j+1,max d e,mm||m2),⟨by simp only;omega,?_⟩,by simp only;omega,ZU,?_⟩
      ·simp only[htk,Vw,Vy,Q0,he];exact maxR_snoc i2
      ·simp only[vM];exact IMx
   refine GOH ?_;rw[show decide ((k:Int)=1)=false from Zf Zo];refine GOH ?_;rw[show decide ((k:Int)=2)=false from Zf Zo];refine GOH ?_;rw[show decide ((k:Int)=3)=false from Zf Zo];refine GOH ?_;rw[show decide ((k:Int)=4)=false from Zf Zo];refine GOH ?_;rw[show decide ((k:Int)=5)=false from Zf Zo];refine GOH ?_;rw[show decide ((k:Int)=6)=false from Zf Zo];refine GOH ?_;rw[show decide ((k:Int)=7)=false from Zf Zo];refine GOH ?_;rw[show decide ((k:Int)=11)=false from Zf Zo];refine GOH ?_;rw[show decide ((k:Int)=8)=false from Zf Zo];refine GOH ?_;rw[show decide ((k:Int)=9)=false from Zf Zo];refine GOH ?_;rw[show decide ((k:Int)=10)=false from Zf Zo];refine GOH ?_;have hnone:w8 (.mk k n b t items) inside=none:=by simp[w8,k1,k2,k3,k4,k5,k6,k7,k8,k9,k10,k11]
   refine kJ (kw false) Zr ZP Zai (fun ch Post hz=>?_);obtain⟨_,rfl,rfl⟩:=hz;exact⟨[A,lkA lb m0 deep],ZI,hnone,rfl,m0,rfl⟩
  ·rintro⟨d,mm,n',b',t',sv,l⟩ ⟨⟨a',c',hsv⟩,hl⟩
   simp only at hsv hl;subst hsv;rw[hl];unfold LitS.ok;simp only;refine jU ?_;by_cases h1:n'=0;rotate_left
   ·have hno:¬(n'=0/\b'=0/\t'.size=0/\l=0):=fun h=>h1 h.1
    rw[Zf h1];exact zAB
   rw[Zt h1];refine jU ?_;by_cases h2:b'=0;rotate_left
   ·have hno:¬(n'=0/\b'=0/\t'.size=0/\l=0):=fun h=>h2 h.2.1
    rw[show decide ((b':Int)=0)=false from Zf Zo];exact zAB
   rw[show decide ((b':Int)=0)=true from Zt Zo];refine jU ?_;by_cases h3:t'=⟨#[]⟩;rotate_left
   ·have hno:¬(n'=0/\b'=0/\t'.size=0/\l=0):=fun h=>h3 (ByteArray.ext (v6 h.2.2.1))
    rw[Zf h3];exact zAB
   rw[Zt h3];refine jU ?_;by_cases h4:l=0;rotate_left
   ·have hno:¬(n'=0/\b'=0/\t'.size=0/\l=0):=fun h=>h4 h.2.2.2
    rw[show decide ((l:Int)=0)=false from Zf Zo];exact zAB
   rw[show decide ((l:Int)=0)=true from Zt Zo];refine jU ?_;refine kJ (kw true) Zr ZP (fun v Post hv=>?_) Zaj;obtain⟨_,rfl,rfl⟩:=hv;simp only[QD];refine jU ?_;exact jI (kG (Post:=[A,lkA lb (m0||mm) deep]) (.inr rfl) (.tmp Zr .nil) ⟨d,mm,if_pos ⟨h1,h2,by rw[h3];rfl,h4⟩,rfl,rfl⟩ ZI)
end Go.Proofs.YtijnokbblmbpkaaGreatDoor
namespace Go.Proofs.YtijnokbblmbpkaaGreatDoor
open Go Go.V
set_option maxHeartbeats 3200000
set_option maxRecDepth 100000
theorem node_k1(A:List kC)(hE:ErA A)(x:Nd)(vs:List Value)(h:jQ A x vs)(hw:x.w<=274877906944)(hok:∀y us,y∈x.kids->jQ A y us->wx A y us)(hk:x.kind=1):NodeSw A x vs:=by
 intro lb q r m0 deep;cases h with
 |@mk k s lit args temps kids p lv av tv a c bk o us wf hl hav htv ha hm hr hcp=>
 simp only[Nd.kind]at hk;have hl2:=hl;cases hl2 with
 |@mk lk ln lbt lt items la lc lbk lo lus lwf lha lhm lhr=>
 have hav2:=hav;have htv2:=htv;obtain⟨aa,ac,rfl,hal,har⟩:=hav2;obtain⟨ta,tc,rfl,htl,htr⟩:=htv2;have hkids:zS A kids a bk o us:=⟨ha,wf.many,hm,hr,fun i y e=>hok y (us i) (Zv e) (hr i y e)⟩;have hns:=wf.name;have hmany:=wf.many;simp only[Nd.w]at hw;obtain⟨RR,hRR⟩:∃RR,RR=kO (.mk k s (.mk lk ln lbt lt items) args temps kids p):=⟨_,rfl⟩;rw[<- hRR];rw[show kO (.mk k s (.mk lk ln lbt lt items) args temps kids p)=je k s (.mk lk ln lbt lt items) args temps kids (kids.map kO) by simp[kO,jh]]at hRR;show VC _ _ _ _ [kA r 0 [cv k,.string s,cv lk,vi ln,uv lbt,.string lt,.slice la items.length lc,.slice aa args.length ac,.slice ta temps.length tc,.slice none 0 0,vi p],kA q 0 [cv k,.string s,cv lk,vi ln,uv lbt,.string lt,.slice la items.length lc,.slice aa args.length ac,.slice ta temps.length tc,.slice a kids.length c,vi p],A,lkA lb m0 deep] _;subst hk;refine GOH ?_;by_cases hk0:kids.length=0;rotate_left
 ·have hnone:RR=none:=by simp[hRR,wa.ok,je,kP,litZ,Lt.kind,Lt.n,Lt.bits,Lt.text,Lt.items,hk0]
  rw[show decide ((kids.length:Int)=0)=false from Zf Zo];exact zA7
 rw[show decide ((kids.length:Int)=0)=true from Zt Zo];refine GOH ?_;refine kJ (kw true) Zr ZP (fun v Post hv=>?_) Zaj;obtain⟨_,rfl,rfl⟩:=hv;simp only[QD];refine GOH ?_;refine kJ (lit_spec A hE _ _ (QW _) Zo _ hl lb m0 deep false) Zr ZP (fun v Post hv=>?_) (fun ch Post hz=>?_);rotate_left
 ·exact zCP
 obtain⟨d,m2,he,rfl,rfl⟩:=hv;simp only[CNx];refine GOH ?_;refine⟨⟨d,m2,s,0,0,0,⟨#[]⟩,none,0,0,aa,args.length,ac,ta,temps.length,tc⟩,?_,ZU,?_⟩
 ·simp[hRR,wa.ok,je,kP,litZ,Lt.kind,Lt.n,Lt.bits,Lt.text,Lt.items,he,hk0,show(⟨#[]⟩:ByteArray).size=0 from rfl]
 ·show Imp _ [A,lkA lb (m0||m2) deep,kA r 0 [cv 1,.string s,.int .u8 0,.int .i64 0,.int .u64 0,.string ⟨#[]⟩,.slice none 0 0,.slice aa args.length ac,.slice ta temps.length tc,.slice none 0 0,vi p]];exact IMx
theorem node_k2(A:List kC)(hE:ErA A)(x:Nd)(vs:List Value)(h:jQ A x vs)(hw:x.w<=274877906944)(hok:∀y us,y∈x.kids->jQ A y us->wx A y us)(hk:x.kind=2):NodeSw A x vs:=by
 intro lb q r m0 deep;cases h with
 |@mk k s lit args temps kids p lv av tv a c bk o us wf hl hav htv ha hm hr hcp=>
 simp only[Nd.kind]at hk;have hl2:=hl;cases hl2 with
 |@mk lk ln lbt lt items la lc lbk lo lus lwf lha lhm lhr=>
 have hav2:=hav;have htv2:=htv;obtain⟨aa,ac,rfl,hal,har⟩:=hav2;obtain⟨ta,tc,rfl,htl,htr⟩:=htv2;have hkids:zS A kids a bk o us:=⟨ha,wf.many,hm,hr,fun i y e=>hok y (us i) (Zv e) (hr i y e)⟩;have hns:=wf.name;have hmany:=wf.many;simp only[Nd.w]at hw;obtain⟨RR,hRR⟩:∃RR,RR=kO (.mk k s (.mk lk ln lbt lt items) args temps kids p):=⟨_,rfl⟩;rw[<- hRR];rw[show kO (.mk k s (.mk lk ln lbt lt items) args temps kids p)=je k s (.mk lk ln lbt lt items) args temps kids (kids.map kO) by simp[kO,jh]]at hRR;show VC _ _ _ _ [kA r 0 [cv k,.string s,cv lk,vi ln,uv lbt,.string lt,.slice la items.length lc,.slice aa args.length ac,.slice ta temps.length tc,.slice none 0 0,vi p],kA q 0 [cv k,.string s,cv lk,vi ln,uv lbt,.string lt,.slice la items.length lc,.slice aa args.length ac,.slice ta temps.length tc,.slice a kids.length c,vi p],A,lkA lb m0 deep] _;subst hk;refine GOH ?_;by_cases hk0:kids.length=0;rotate_left
 ·have hnone:RR=none:=by simp[hRR,wa.ok,je,kP,litZ,Lt.kind,Lt.n,Lt.bits,Lt.text,Lt.items,hk0]
  rw[show decide ((kids.length:Int)=0)=false from Zf Zo];exact zA7
 rw[show decide ((kids.length:Int)=0)=true from Zt Zo];refine GOH ?_;refine kV (name_spec s hns) Zr ?_;cases hn:nameS s with
 |false=>
  have hnone:RR=none:=by simp[hRR,wa.ok,je,kP,litZ,Lt.kind,Lt.n,Lt.bits,Lt.text,Lt.items,hn]
  exact zA7
 |true=>
  refine GOH ?_;refine kJ (kw true) Zr ZP (fun v Post hv=>?_) Zaj;obtain⟨_,rfl,rfl⟩:=hv;simp only[QD];refine GOH ?_;refine⟨⟨0,false,⟨#[]⟩,lk,ln,lbt,lt,la,items.length,lc,aa,args.length,ac,ta,temps.length,tc⟩,?_,ZU,?_⟩
  ·simp[hRR,wa.ok,je,kP,litZ,Lt.kind,Lt.n,Lt.bits,Lt.text,Lt.items,hn,hk0,show(⟨#[]⟩:ByteArray).size=0 from rfl];simp only[and_assoc]
  ·rw[vQ];show Imp _ [A,lkA lb m0 deep,kA r 0 [cv 2,.string ⟨#[]⟩,cv lk,vi ln,uv lbt,.string lt,.slice la items.length lc,.slice aa args.length ac,.slice ta temps.length tc,.slice none 0 0,vi p]];exact IMx
end Go.Proofs.YtijnokbblmbpkaaGreatDoor
namespace Go.Proofs.YtijnokbblmbpkaaGreatDoor
open Go Go.V
set_option maxHeartbeats 3200000
set_option maxRecDepth 100000
theorem node_k9(A:List kC)(hE:ErA A)(x:Nd)(vs:List Value)(h:jQ A x vs)(hw:x.w<=274877906944)(hok:∀y us,y∈x.kids->jQ A y us->wx A y us)(hk:x.kind=9):NodeSw A x vs:=by
 intro lb q r m0 deep;cases h with
 |@mk k s lit args temps kids p lv av tv a c bk o us wf hl hav htv ha hm hr hcp=>
 simp only[Nd.kind]at hk;have hl2:=hl;cases hl2 with
 |@mk lk ln lbt lt items la lc lbk lo lus lwf lha lhm lhr=>
 have hav2:=hav;have htv2:=htv;obtain⟨aa,ac,rfl,hal,har⟩:=hav2;obtain⟨ta,tc,rfl,htl,htr⟩:=htv2;have hkids:zS A kids a bk o us:=⟨ha,wf.many,hm,hr,fun i y e=>hok y (us i) (Zv e) (hr i y e)⟩;have hns:=wf.name;have hmany:=wf.many;simp only[Nd.w]at hw;obtain⟨RR,hRR⟩:∃RR,RR=kO (.mk k s (.mk lk ln lbt lt items) args temps kids p):=⟨_,rfl⟩;rw[<- hRR];rw[show kO (.mk k s (.mk lk ln lbt lt items) args temps kids p)=je k s (.mk lk ln lbt lt items) args temps kids (kids.map kO) by simp[kO,jh]]at hRR;show VC _ _ _ _ [kA r 0 [cv k,.string s,cv lk,vi ln,uv lbt,.string lt,.slice la items.length lc,.slice aa args.length ac,.slice ta temps.length tc,.slice none 0 0,vi p],kA q 0 [cv k,.string s,cv lk,vi ln,uv lbt,.string lt,.slice la items.length lc,.slice aa args.length ac,.slice ta temps.length tc,.slice a kids.length c,vi p],A,lkA lb m0 deep] _;subst hk;refine GOH ?_;by_cases hk1:kids.length=1;rotate_left
 ·have hnone:RR=none:=by
   rw[hRR];unfold je;rw[if_neg Zd,if_neg Zd,if_neg Zd,if_neg Zd,if_neg Zd,if_neg Zd,if_neg Zd,if_neg Zd,if_pos rfl];unfold kP;split
   ·match kids,hk1 with
    |[],_=>rfl
    |_::_::_,_=>rfl
   ·rfl
  rw[show decide ((kids.length:Int)=1)=false from Zf Zo];exact zA7
 rw[show decide ((kids.length:Int)=1)=true from Zt Zo];obtain⟨y,hky⟩:∃y,kids=[y]:=Vn.1 hk1;have hy0:kids[0]? =some y:=by rw[hky];rfl
 have hym:=hm 0 Zo;rw[Qg,QU]at hym;have hyl:=(hr 0 y hy0).len;obtain rfl:=ha Zo;have hok0:=hkids.ok 0 y hy0;have hval:=fun m=>zM A y _ (hr 0 y hy0) hok0 1 lb m deep
 refine GOH ?_;refine kJ (kw true) Zr ZP (fun v Post hv=>?_) Zaj;obtain⟨_,rfl,rfl⟩:=hv;simp only[QD];refine GOH ?_;refine kZ Zr (fun z hz=>Q3 _ (Q3 _ (Zw _ (hym z hz)))) hyl ?_;refine GOH ?_;refine kJ (hval m0) Zr ZP (fun v Post hv=>?_) (fun ch Post hz=>?_);rotate_left
 ·exact zCL
 obtain⟨d,m2,he,rfl,rfl⟩:=hv;simp only[CNx];refine GOH ?_;refine⟨⟨d,m2,s,lk,ln,lbt,lt,la,items.length,lc,aa,args.length,ac,ta,temps.length,tc⟩,?_,ZU,?_⟩
 ·simp[hRR,wa.ok,je,kP,litZ,Lt.kind,Lt.n,Lt.bits,Lt.text,Lt.items,he,hky];simp only[and_assoc]
 ·show Imp _ [A,lkA lb (m0||m2) deep,kA r 0 [cv 9,.string s,cv lk,vi ln,uv lbt,.string lt,.slice la items.length lc,.slice aa args.length ac,.slice ta temps.length tc,.slice none 0 0,vi p]];exact IMx
theorem node_k3(A:List kC)(hE:ErA A)(x:Nd)(vs:List Value)(h:jQ A x vs)(hw:x.w<=274877906944)(hok:∀y us,y∈x.kids->jQ A y us->wx A y us)(hk:x.kind=3):NodeSw A x vs:=by
 intro lb q r m0 deep;cases h with
 |@mk k s lit args temps kids p lv av tv a c bk o us wf hl hav htv ha hm hr hcp=>
 simp only[Nd.kind]at hk;have hl2:=hl;cases hl2 with
 |@mk lk ln lbt lt items la lc lbk lo lus lwf lha lhm lhr=>
 have hav2:=hav;have htv2:=htv;obtain⟨aa,ac,rfl,hal,har⟩:=hav2;obtain⟨ta,tc,rfl,htl,htr⟩:=htv2;have hkids:zS A kids a bk o us:=⟨ha,wf.many,hm,hr,fun i y e=>hok y (us i) (Zv e) (hr i y e)⟩;have hns:=wf.name;have hmany:=wf.many;simp only[Nd.w]at hw;obtain⟨RR,hRR⟩:∃RR,RR=kO (.mk k s (.mk lk ln lbt lt items) args temps kids p):=⟨_,rfl⟩;rw[<- hRR];rw[show kO (.mk k s (.mk lk ln lbt lt items) args temps kids p)=je k s (.mk lk ln lbt lt items) args temps kids (kids.map kO) by simp[kO,jh]]at hRR;show VC _ _ _ _ [kA r 0 [cv k,.string s,cv lk,vi ln,uv lbt,.string lt,.slice la items.length lc,.slice aa args.length ac,.slice ta temps.length tc,.slice none 0 0,vi p],kA q 0 [cv k,.string s,cv lk,vi ln,uv lbt,.string lt,.slice la items.length lc,.slice aa args.length ac,.slice ta temps.length tc,.slice a kids.length c,vi p],A,lkA lb m0 deep] _;subst hk;refine GOH ?_;refine j9 (out:=[.string s]) Zr Zr (fun q3=>?_);refine GOH ?_;have hrd:RdT (kA q3 0 [.string s]) (.slice (some ⟨q3,0,none⟩) 1 1) [s]:=⟨_,_,rfl,Zs,fun i t e=>by
  cases i with
  |zero=>cases e;exact⟨q3,0,rfl,by simp[kA],hns⟩
  |succ i=>simp at e⟩
 refine kJ (names_spec (kA q3 0 [.string s]) _ [s] hrd lb 1 m0 deep) Zr ZP (fun v Post hv=>?_) (fun ch Post hz=>?_);rotate_left
 ·obtain⟨hb,rfl,m2,rfl⟩:=hz;have hfr:wD s=false:=by simpa using hb
  exact⟨[A,lkA lb m2 deep],ZI,by simp[hRR,wa.ok,je,kP,litZ,Lt.kind,Lt.n,Lt.bits,Lt.text,Lt.items,hfr],rfl,m2,rfl⟩
 obtain⟨hb,rfl,rfl⟩:=hv;have hfr:wD s=true:=by simpa using hb
 rw[show(m0||decide (1 < [s].length))=m0 by simp];simp only[CNx];refine GOH ?_;by_cases hk1:kids.length=1;rotate_left
 ·have hnone:RR=none:=by
   rw[hRR];unfold je;rw[if_neg Zd,if_neg Zd,if_pos rfl];unfold kP;split
   ·match kids,hk1 with
    |[],_=>rfl
    |_::_::_,_=>rfl
   ·rfl
  rw[show decide ((kids.length:Int)=1)=false from Zf Zo];exact zA7
 rw[show decide ((kids.length:Int)=1)=true from Zt Zo];obtain⟨y,hky⟩:∃y,kids=[y]:=Vn.1 hk1;have hy0:kids[0]? =some y:=by rw[hky];rfl
 have hym:=hm 0 Zo;rw[Qg,QU]at hym;have hyl:=(hr 0 y hy0).len;obtain rfl:=ha Zo;have hok0:=hkids.ok 0 y hy0;have hval:=fun m=>zM A y _ (hr 0 y hy0) hok0 1 lb m deep
 refine GOH ?_;refine kJ (kw true) Zr ZP (fun v Post hv=>?_) Zaj;obtain⟨_,rfl,rfl⟩:=hv;simp only[QD];refine GOH ?_;refine kZ Zr (fun z hz=>by simp only[vz,Q1];simp[hym z hz]) hyl ?_;refine GOH ?_;refine kJ (hval m0) Zr ZP (fun v Post hv=>?_) (fun ch Post hz=>?_);rotate_left
 ·exact zCL
 obtain⟨d,m2,he,rfl,rfl⟩:=hv;simp only[CNx];refine GOH ?_;refine⟨⟨d,m2,⟨#[]⟩,lk,ln,lbt,lt,la,items.length,lc,aa,args.length,ac,ta,temps.length,tc⟩,?_,ZU,?_⟩
 ·simp[hRR,wa.ok,je,kP,litZ,Lt.kind,Lt.n,Lt.bits,Lt.text,Lt.items,he,hky,hfr,show(⟨#[]⟩:ByteArray).size=0 from rfl];simp only[and_assoc]
 ·show Imp _ [A,lkA lb (m0||m2) deep,kA r 0 [cv 3,.string ⟨#[]⟩,cv lk,vi ln,uv lbt,.string lt,.slice la items.length lc,.slice aa args.length ac,.slice ta temps.length tc,.slice none 0 0,vi p]];exact IMx
theorem node_k6(A:List kC)(hE:ErA A)(x:Nd)(vs:List Value)(h:jQ A x vs)(hw:x.w<=274877906944)(hok:∀y us,y∈x.kids->jQ A y us->wx A y us)(hk:x.kind=6):NodeSw A x vs:=by
 intro lb q r m0 deep;cases h with
 |@mk k s lit args temps kids p lv av tv a c bk o us wf hl hav htv ha hm hr hcp=>
 simp only[Nd.kind]at hk;have hl2:=hl;cases hl2 with
 |@mk lk ln lbt lt items la lc lbk lo lus lwf lha lhm lhr=>
 have hav2:=hav;have htv2:=htv;obtain⟨aa,ac,rfl,hal,har⟩:=hav2;obtain⟨ta,tc,rfl,htl,htr⟩:=htv2;have hkids:zS A kids a bk o us:=⟨ha,wf.many,hm,hr,fun i y e=>hok y (us i) (Zv e) (hr i y e)⟩;have hns:=wf.name;have hmany:=wf.many;simp only[Nd.w]at hw;obtain⟨RR,hRR⟩:∃RR,RR=kO (.mk k s (.mk lk ln lbt lt items) args temps kids p):=⟨_,rfl⟩;rw[<- hRR];rw[show kO (.mk k s (.mk lk ln lbt lt items) args temps kids p)=je k s (.mk lk ln lbt lt items) args temps kids (kids.map kO) by simp[kO,jh]]at hRR;show VC _ _ _ _ [kA r 0 [cv k,.string s,cv lk,vi ln,uv lbt,.string lt,.slice la items.length lc,.slice aa args.length ac,.slice ta temps.length tc,.slice none 0 0,vi p],kA q 0 [cv k,.string s,cv lk,vi ln,uv lbt,.string lt,.slice la items.length lc,.slice aa args.length ac,.slice ta temps.length tc,.slice a kids.length c,vi p],A,lkA lb m0 deep] _;subst hk;refine GOH ?_;refine kJ (arguments_spec A kids a c bk o us hkids s hns lb m0 deep) Zr ZP (fun v Post hv=>?_) (fun ch Post hz=>?_);rotate_left
 ·exact zCP
 obtain⟨d,m2,he,rfl,rfl⟩:=hv;simp only[CNx];refine GOH ?_;refine⟨⟨d,m2,⟨#[]⟩,lk,ln,lbt,lt,la,items.length,lc,aa,args.length,ac,ta,temps.length,tc⟩,?_,ZU,?_⟩
 ·simp[hRR,wa.ok,je,kP,litZ,Lt.kind,Lt.n,Lt.bits,Lt.text,Lt.items,he,show(⟨#[]⟩:ByteArray).size=0 from rfl];simp only[and_assoc]
 ·show Imp _ [A,lkA lb (m0||m2) deep,kA r 0 [cv 6,.string ⟨#[]⟩,cv lk,vi ln,uv lbt,.string lt,.slice la items.length lc,.slice aa args.length ac,.slice ta temps.length tc,.slice none 0 0,vi p]];exact IMx
theorem node_k0(A:List kC)(hE:ErA A)(x:Nd)(vs:List Value)(h:jQ A x vs)(hw:x.w<=274877906944)(hok:∀y us,y∈x.kids->jQ A y us->wx A y us)(hk:x.kind≠1/\x.kind≠2/\x.kind≠3/\x.kind≠4/\x.kind≠5/\x.kind≠6/\x.kind≠7/\x.kind≠8/\x.kind≠9):NodeSw A x vs:=by
 intro lb q r m0 deep;cases h with
 |@mk k s lit args temps kids p lv av tv a c bk o us wf hl hav htv ha hm hr hcp=>
 simp only[Nd.kind]at hk;have hl2:=hl;cases hl2 with
 |@mk lk ln lbt lt items la lc lbk lo lus lwf lha lhm lhr=>
 have hav2:=hav;have htv2:=htv;obtain⟨aa,ac,rfl,hal,har⟩:=hav2;obtain⟨ta,tc,rfl,htl,htr⟩:=htv2;have hkids:zS A kids a bk o us:=⟨ha,wf.many,hm,hr,fun i y e=>hok y (us i) (Zv e) (hr i y e)⟩;have hns:=wf.name;have hmany:=wf.many;simp only[Nd.w]at hw;obtain⟨RR,hRR⟩:∃RR,RR=kO (.mk k s (.mk lk ln lbt lt items) args temps kids p):=⟨_,rfl⟩;rw[<- hRR];rw[show kO (.mk k s (.mk lk ln lbt lt items) args temps kids p)=je k s (.mk lk ln lbt lt items) args temps kids (kids.map kO) by simp[kO,jh]]at hRR;show VC _ _ _ _ [kA r 0 [cv k,.string s,cv lk,vi ln,uv lbt,.string lt,.slice la items.length lc,.slice aa args.length ac,.slice ta temps.length tc,.slice none 0 0,vi p],kA q 0 [cv k,.string s,cv lk,vi ln,uv lbt,.string lt,.slice la items.length lc,.slice aa args.length ac,.slice ta temps.length tc,.slice a kids.length c,vi p],A,lkA lb m0 deep] _;obtain⟨k1,k2,k3,k4,k5,k6,k7,k8,k9⟩:=hk;have hnone:RR=none:=by simp[hRR,je,k1,k2,k3,k4,k5,k6,k7,k8,k9]
 refine GOH ?_;rw[show decide ((k:Int)=1)=false from Zf Zo];refine GOH ?_;rw[show decide ((k:Int)=2)=false from Zf Zo];refine GOH ?_;rw[show decide ((k:Int)=3)=false from Zf Zo];refine GOH ?_;rw[show decide ((k:Int)=4)=false from Zf Zo];refine GOH ?_;rw[show decide ((k:Int)=6)=false from Zf Zo];refine GOH ?_;rw[show decide ((k:Int)=5)=false from Zf Zo];refine GOH ?_;rw[show decide ((k:Int)=7)=false from Zf Zo];refine GOH ?_;rw[show decide ((k:Int)=8)=false from Zf Zo];refine GOH ?_;rw[show decide ((k:Int)=9)=false from Zf Zo];exact zA7
end Go.Proofs.YtijnokbblmbpkaaGreatDoor
namespace Go.Proofs.YtijnokbblmbpkaaGreatDoor
open Go Go.V
set_option maxHeartbeats 3200000
set_option maxRecDepth 100000
theorem node_k7(A:List kC)(hE:ErA A)(x:Nd)(vs:List Value)(h:jQ A x vs)(hw:x.w<=274877906944)(hok:∀y us,y∈x.kids->jQ A y us->wx A y us)(hk:x.kind=7):NodeSw A x vs:=by
 intro lb q r m0 deep;cases h with
 |@mk k s lit args temps kids p lv av tv a c bk o us wf hl hav htv ha hm hr hcp=>
 simp only[Nd.kind]at hk;have hl2:=hl;cases hl2 with
 |@mk lk ln lbt lt items la lc lbk lo lus lwf lha lhm lhr=>
 have hav2:=hav;have htv2:=htv;obtain⟨aa,ac,rfl,hal,har⟩:=hav2;obtain⟨ta,tc,rfl,htl,htr⟩:=htv2;have hkids:zS A kids a bk o us:=⟨ha,wf.many,hm,hr,fun i y e=>hok y (us i) (Zv e) (hr i y e)⟩;have hns:=wf.name;have hmany:=wf.many;simp only[Nd.w]at hw;obtain⟨RR,hRR⟩:∃RR,RR=kO (.mk k s (.mk lk ln lbt lt items) args temps kids p):=⟨_,rfl⟩;rw[<- hRR];rw[show kO (.mk k s (.mk lk ln lbt lt items) args temps kids p)=je k s (.mk lk ln lbt lt items) args temps kids (kids.map kO) by simp[kO,jh]]at hRR;show VC _ _ _ _ [kA r 0 [cv k,.string s,cv lk,vi ln,uv lbt,.string lt,.slice la items.length lc,.slice aa args.length ac,.slice ta temps.length tc,.slice none 0 0,vi p],kA q 0 [cv k,.string s,cv lk,vi ln,uv lbt,.string lt,.slice la items.length lc,.slice aa args.length ac,.slice ta temps.length tc,.slice a kids.length c,vi p],A,lkA lb m0 deep] _;subst hk;refine GOH ?_;refine kJ (names_spec A _ args hav lb 15 m0 deep) Zr ZP (fun v Post hv=>?_) (fun ch Post hz=>?_);rotate_left
 ·obtain⟨hb,rfl,m2,rfl⟩:=hz;exact⟨[A,lkA lb m2 deep],ZI,by simp[hRR,je,kP,wn,hb],rfl,m2,rfl⟩
 obtain⟨hf1,rfl,rfl⟩:=hv;obtain⟨m1,hm1⟩:∃m1,m1=(m0||decide (15 < args.length)):=⟨_,rfl⟩;rw[<- hm1];simp only[CNx];refine GOH ?_;refine kJ (names_spec A _ temps htv lb 63 m1 deep) Zr ZP (fun v Post hv=>?_) (fun ch Post hz=>?_);rotate_left
 ·obtain⟨hb,rfl,m2,rfl⟩:=hz;have hnone:RR=none:=by
   simp only[hRR,je,wn,hb];simp[kP,wo]
  exact⟨[A,lkA lb m2 deep],ZI,hnone,rfl,m2,rfl⟩
 obtain⟨hf2,rfl,rfl⟩:=hv;obtain⟨m2,hm2⟩:∃m2,m2=(m1||decide (63 < temps.length)):=⟨_,rfl⟩;rw[<- hm2];simp only[CNx];refine GOH ?_;refine kJ (statements_spec A kids a c bk o us hkids lb m2 deep) Zr ZP (fun v Post hv=>?_) (fun ch Post hz=>?_);rotate_left
 ·obtain⟨hb,rfl,m3,rfl⟩:=hz;have hnone:RR=none:=by
   simp only[hRR,je,wn,hb,wV,wo];simp[kP]
  exact⟨[A,lkA lb m3 deep],ZI,hnone,rfl,m3,rfl⟩
 obtain⟨d,m3,he,rfl,rfl⟩:=hv;have hdb:d<=1099511627777:=maxR_le (fun r hr d m e=>by
  obtain⟨j,hj⟩:=Vg hr;have hjl:=(Vd.1 hj).1;rw[stmtsR_len]at hjl;have hy:=Zg hjl;have hget:=stmtsR_get kids j kids[j] hy;rw[hget]at hj;have hb:=(hkids.ok j _ hy).2;split at hj
  ·cases hj;have:=hb d m e;omega
  ·cases hj;exact valueR_le hb e) he
 simp only[CNx];refine GOH ?_;refine⟨⟨d+1,decide (15 < args.length)||(decide (63 < temps.length)||m3),s,lk,ln,lbt,lt,la,items.length,lc,none,0,0,none,0,0⟩,?_,ZU,?_⟩
 ·simp only[hRR,je,wn,hf1,hf2,he,wV,wo];simp[wa.ok,kP,litZ,Lt.kind,Lt.n,Lt.bits,Lt.text,Lt.items]
 ·rw[show(m0||(decide (15 < args.length)||(decide (63 < temps.length)||m3)))=(m2||m3) by rw[hm2,hm1];simp only[vM]];show Imp _ [A,lkA lb (m2||m3) deep,kA r 0 [cv 7,.string s,cv lk,vi ln,uv lbt,.string lt,.slice la items.length lc,.slice none 0 0,.slice none 0 0,.slice none 0 0,vi p]];exact IMx
theorem node_k8(A:List kC)(hE:ErA A)(x:Nd)(vs:List Value)(h:jQ A x vs)(hw:x.w<=274877906944)(hok:∀y us,y∈x.kids->jQ A y us->wx A y us)(hk:x.kind=8):NodeSw A x vs:=by
 intro lb q r m0 deep;cases h with
 |@mk k s lit args temps kids p lv av tv a c bk o us wf hl hav htv ha hm hr hcp=>
 simp only[Nd.kind]at hk;have hl2:=hl;cases hl2 with
 |@mk lk ln lbt lt items la lc lbk lo lus lwf lha lhm lhr=>
 have hav2:=hav;have htv2:=htv;obtain⟨aa,ac,rfl,hal,har⟩:=hav2;obtain⟨ta,tc,rfl,htl,htr⟩:=htv2;have hkids:zS A kids a bk o us:=⟨ha,wf.many,hm,hr,fun i y e=>hok y (us i) (Zv e) (hr i y e)⟩;have hns:=wf.name;have hmany:=wf.many;simp only[Nd.w]at hw;obtain⟨RR,hRR⟩:∃RR,RR=kO (.mk k s (.mk lk ln lbt lt items) args temps kids p):=⟨_,rfl⟩;rw[<- hRR];rw[show kO (.mk k s (.mk lk ln lbt lt items) args temps kids p)=je k s (.mk lk ln lbt lt items) args temps kids (kids.map kO) by simp[kO,jh]]at hRR;show VC _ _ _ _ [kA r 0 [cv k,.string s,cv lk,vi ln,uv lbt,.string lt,.slice la items.length lc,.slice aa args.length ac,.slice ta temps.length tc,.slice none 0 0,vi p],kA q 0 [cv k,.string s,cv lk,vi ln,uv lbt,.string lt,.slice la items.length lc,.slice aa args.length ac,.slice ta temps.length tc,.slice a kids.length c,vi p],A,lkA lb m0 deep] _;subst hk;have hR8:RR=kP (decide (s.size=0/\args.length=0/\temps.length=0)&&litZ (.mk lk ln lbt lt items)) (wV (wo (decide (255 < kids.length)) (wM (kids.map fun y=>jr y 1 (kO y))))):=by
  rw[hRR,<- valuesR_map];rfl
 obtain⟨m0',hm0'⟩:∃m0',m0'=m0:=⟨_,rfl⟩;cases m0 with
 |true=>
  obtain⟨mB,hmB⟩:∃b,b=(true||decide (255 < kids.length)):=⟨_,rfl⟩;have hmB0:mB=true:=by rw[hmB,Bool.true_or]
  exact zA6
 |false=>
  obtain⟨mB,hmB⟩:∃b,b=(false||decide (255 < kids.length)):=⟨_,rfl⟩;have hmB0:mB=decide ((kids.length:Int) > 255):=by
   rw[hmB,vJ];exact decide_eq_decide.2 Zo
  exact zA6
end Go.Proofs.YtijnokbblmbpkaaGreatDoor
namespace Go.Proofs.YtijnokbblmbpkaaGreatDoor
open Go Go.V
theorem look_some {f:Nat}{args:List Value}{A:List kC}{lb:Nat}{m0 deep:Bool}{r:Rs}{d:Nat}{m:Bool}(h:Look f args A lb m0 deep r)(hr:r=some (d,m)):
 Fun Tryz.prog f args [A,lkA lb m0 deep] (fun v Post=>v=vi d/\Post=[A,lkA lb (m0||m) deep]):=by
 refine jY.fun (jY.mono h (fun v Post ⟨d',m',e,h1,h2⟩=>?_) (fun ch Post hz=>?_))
 ·rw[hr]at e;cases e;exact⟨h1,h2⟩
 ·rw[hr]at hz;cases hz.1
theorem look_any {f:Nat}{args:List Value}{A:List kC}{lb:Nat}{deep:Bool}{r:Rs}(h:∀m,Look f args A lb m deep r):
 ∃(d:Nat) (φ:Prop),(φ->r≠none)/\∀m,jY Tryz.prog f args [A,lkA lb m deep] (fun v Post=>v=vi d/\φ/\∃m',Post=[A,lkA lb m' deep]) (fun ch Post=>ch=w9/\∃m',Post=[A,lkA lb m' deep]):=by
 cases r with
 |none=>exact⟨0,False,fun h=>h.elim,fun m=>jY.mono (h m) (fun v Post ⟨d',m',e,_⟩=>by cases e) (fun ch Post hz=>hz.2)⟩
 |some p=>
  obtain⟨d,m1⟩:=p;exact⟨d,True,fun _=>by simp,fun m=>jY.mono (h m) (fun v Post ⟨d',m',e,h1,h2⟩=>by cases e;exact⟨h1,trivial,_,h2⟩) (fun ch Post hz=>hz.2)⟩
theorem bothR_none {p q:Rs}(h:p=none∨q=none):bothR p q=none:=by
 rcases h with rfl|rfl
 ·rfl
 ·cases p <;> rfl
end Go.Proofs.YtijnokbblmbpkaaGreatDoor
namespace Go.V
open Go
structure Hd where
 cls:Nat
 fmt:Nat
 spare:Nat
 hash:Nat
 age:Nat
 slots:Nat
 marked:Bool
 noted:Bool
def b2n(b:Bool):Nat:=if b then 1 else 0
structure Hd.May (h:Hd):Prop where
 cls:h.cls<=4095
 hash:h.hash<=4194303
 age:h.age<=15
 slots:h.slots<=65536
 spare:h.spare<=7
 fmt:1<=h.fmt/\h.fmt<=6
 plain:h.fmt<=4->h.spare=0
 eph:h.fmt=3->0 < h.slots
 meth:h.fmt=6->0 < h.slots
 some:h.spare≠0->(if h.fmt=6 then 1 else 0) < h.slots
def pk(h:Hd):Nat:=h.cls+h.fmt*4096+h.spare*32768+h.hash*262144+h.age*1099511627776+b2n h.marked*17592186044416+b2n h.noted*35184372088832
structure Ob where
 at_:Nat
 hd:Hd
 body:List Nat
def Ob.stop(b:Ob):Nat:=b.at_+2+b.hd.slots
structure Ob.Ok (b:Ob):Prop where
 may:b.hd.May
 len:b.body.length=b.hd.slots
 small:∀x∈b.body,x < 18446744073709551616
 meth:b.hd.fmt=6->∃n r,b.body=(8*n+1)::r/\n<=r.length
structure Lay (ws st:List Nat)(obs:List Ob):Prop where
 small:∀x∈ws,x < 18446744073709551616
 sts:∀x∈st,x < 18446744073709551616
 stl:st.length=ws.length / 64+1
 len:ws.length < 4194304
 ok:∀b∈obs,b.Ok
 low:∀b∈obs,2<=b.at_
 high:∀b∈obs,b.stop<=ws.length
 head:∀b∈obs,ws[b.at_]? =some (pk b.hd)/\ws[b.at_+1]? =some b.hd.slots
 body:∀b∈obs,∀i < b.hd.slots,ws[b.at_+2+i]? =b.body[i]?
 sort:obs.Pairwise fun a b=>a.stop<=b.at_
 bits:∀w,w < ws.length->(bitAt st w=true↔∃b∈obs,b.at_=w)
end Go.V
namespace Go.V
open Go
def kU:KEnc Nat:=⟨.int,uv,fun a b=>by
 show some (decide (((a:Nat):Int)=((b:Nat):Int)))=some (decide (a=b))
 congr 1;rw[decide_eq_decide];omega⟩
structure AH where
 rm:List (Nat×Nat×Nat)
 obs:List Ob
 sp:List Nat
 cl:List Nat
 stack:List Nat
 queue:List Nat
 noted:List Nat
 ahead:List (Nat×Nat)
 given:Nat
structure HW where
 a:AH
 ws:List Nat
 st:List Nat
 wb:Nat
 sb:Nat
 kv:Value
 qv:Value
 nv:Value
 ks:List Value
 qs:List Value
 ns:List Value
 mb:Nat
 es:Array MapEntry
 mc:Nat
def rmEnc(r:Nat×Nat×Nat):List Value:=[vi r.1,vi r.2.1,vi r.2.2]
def arrV(b:Nat)(l:List Nat):Value:=.slice (some ⟨b,0,none⟩) l.length l.length
def HMem(p:Nat)(x:HW):SH:=
 [kA p 0 [arrV x.wb x.ws,arrV x.sb x.st],kA p 4180 [x.kv,x.qv,x.nv,.map (some x.mb),vi x.a.given],kA p 2 (x.a.rm.flatMap rmEnc),kA p 20 (x.a.sp.map uv),kA p 84 (x.a.cl.map uv),
  kA x.wb 0 (x.ws.map uv),kA x.sb 0 (x.st.map uv),slA x.kv (x.a.stack.map uv) x.ks,slA x.qv (x.a.queue.map uv) x.qs,slA x.nv (x.a.noted.map uv) x.ns,[.obj x.mb (.map x.es x.mc)]]
def HA(p:Nat)(x:HW):List kC:=(HMem p x).flatten
structure RmOk (a:AH)(n:Nat):Prop where
 len:a.rm.length=6
 zero:a.rm[0]? =some (0,0,0)
 rng:∀(i:Nat) (r:Nat×Nat×Nat),a.rm[i]? =some r->r.1<=r.2.2/\r.2.2<=r.2.1/\r.2.1<=n
 low:∀(i:Nat) (r:Nat×Nat×Nat),1<=i->a.rm[i]? =some r->2<=r.1
 apart:∀(i j:Nat) (r s:Nat×Nat×Nat),i < j->a.rm[i]? =some r->a.rm[j]? =some s->1<=i->r.2.1<=s.1∨s.2.1<=r.1
 inn:∀b∈a.obs,∃(i:Nat) (r:Nat×Nat×Nat),1<=i/\a.rm[i]? =some r/\r.1<=b.at_/\b.stop<=(if i=5 then r.2.1 else r.2.2)
structure HOk (x:HW):Prop where
 lay:Lay x.ws x.st x.a.obs
 rm:RmOk x.a x.ws.length
 spl:x.a.sp.length=64
 cll:x.a.cl.length=4096
 sps:∀o∈x.a.sp,o < 18446744073709551616
 cls:∀o∈x.a.cl,o < 18446744073709551616
 stks:∀o∈x.a.stack,o < 18446744073709551616
 ques:∀o∈x.a.queue,o < 18446744073709551616
 nots:∀o∈x.a.noted,o < 18446744073709551616
 stk:jC 1 x.kv x.a.stack.length (x.a.stack.map uv) x.ks
 que:jC 1 x.qv x.a.queue.length (x.a.queue.map uv) x.qs
 note:jC 1 x.nv x.a.noted.length (x.a.noted.map uv) x.ns
 map:zG kU uv x.es x.mc x.a.ahead
 given:x.a.given<=4194303
 deep:x.a.stack.length<=4096
 few:x.a.queue.length<=1073741823/\x.a.noted.length<=1073741823
section
variable {P:Program} {n:Nat} {rs:List RO} {Γ:Env} {H:SH} {Z:List PanicEntry->Env->SH->Prop} {K:Env->SH->Prop}
end
end Go.V
namespace Go.V
open Go
structure Keep (f:Ob->Ob):Prop where
 at_:∀b,(f b).at_=b.at_
 slots:∀b,(f b).hd.slots=b.hd.slots
section
variable {ws st:List Nat} {obs:List Ob}
end
end Go.V
namespace Go.V
open Go
section
variable {P:Program} {n:Nat} {rs:List RO} {Γ:Env} {H:SH} {Z:List PanicEntry->Env->SH->Prop} {K:Env->SH->Prop} {d:Option Nat}
end
section
variable {P:Program} {n:Nat} {rs:List RO} {Γ:Env} {H:SH} {Z:List PanicEntry->Env->SH->Prop} {K:Env->SH->Prop} {d:Option Nat}
theorem st_slcL1 {size len cap l b o:Nat}{x lo:Operand}{kl:IntKind}{cl:Int}(hx:ev Γ x=some (.slice (some ⟨b,o,none⟩) len cap))(hlo:ev Γ lo=some (.int kl cl))(el:cl=(l:Int))(hr:l<=len/\len<=cap)
 (k:VO P n rs (putE d (.slice (some ⟨b,if cap=l then o else o+l*size,none⟩) (len - l) (cap - l)) Γ) H Z K):
 VO P n (⟨d,none,.slcL size x (some lo) none none⟩::rs) Γ H Z K:=by
 subst el;refine VO.pure rfl (fun ρ hρ=>?_) k;have h1:bound (Value.int kl (l:Int)) len=some l:=by simp[bound];omega
 simp[kS,hρ _ _ hx,hρ _ _ hlo,zC,h1,ju]
end
end Go.V

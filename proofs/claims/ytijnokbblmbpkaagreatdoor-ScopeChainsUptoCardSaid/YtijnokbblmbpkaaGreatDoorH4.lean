/-
  A part of the proof.
-/
import Derived.Test.YtijnokbblmbpkaaGreatDoorH3
import Derived.Below
import Derived.Lib.Bytealg
import Derived.Test.YtijnokbblmbpkaaGreatDoorH2
import Derived.ChangeOld
import Derived.RowKit3
import Derived.ChangeSame
import Derived.ChangeSlices
import Derived.RowKit
import Derived.Deep.Slices
import Derived.Deep.Fields
set_option linter.all false
set_option maxHeartbeats 1600000
namespace Go.V
open Go
variable {A:List kC}
section
variable {P:Program} {N0 nx n:Nat} {σ:Sg} {Γ:Env} {h:Mp} {rs:List RO} {d:Option Nat} {Z:List PanicEntry->Env->SH->Prop} {K:Env->SH->Prop}
def M9 {size:Nat}{sv:Value}{xs:List Value}{F:Mp}(g:jG N0 σ (Γ.map (·.2)) h nx)(J:0<size)(e:OO h size sv=some (xs,F)):
 ∃k sp,ke size (rn σ sv) k (xs.map (rn σ)) sp/\(kq A σ h).Perm (aj (rn σ sv) (xs.map (rn σ)) sp++kq A σ F)/\(∀p∈F,p∈h)/\(∀v∈xs,cu nx v):=by
 unfold OO at e;split at e
 .cases e;exact⟨0,[],by simpa using ke.nil,by simp[aj],λp q=>q,λv B=>by cases B⟩
 .rename_i b o m c;split at e
  case h_2=>cases e
  split at e
  .rename_i vs d;split at e
   case h_2=>cases e
   rename_i j;cases e;simp only[vG]at j;obtain⟨E,G,D⟩:=j;have H:=uA E;have C:=me G;have I:=Gc D;have M:m*size<=c*size:=Qx _ C;refine⟨m,(vs.drop (m*size)).map (rn σ),?_,?_,λp q=>IL q,λv B=>g.cells _ (yK d) v (QP B)⟩
   .simp only[bE,sS,J2,if_pos I];refine .mk ?_ ?_ C
    .rw[Q6,QB];omega
    .rw[Q6,Q6,QB,Q1];omega
   .refine(oX d).trans (vZ _ ?_);simp only[bE,sS,aj,yx,Qo,<- QC,Qj];exact .refl _
  .rename_i s vs d;split at e
   case h_2=>cases e
   rename_i j;cases e;simp only[vG]at j;obtain⟨E,G,D⟩:=j;have H:=uA E;have C:=uA G;have I:=me D;subst H;have L:=g.grow _ (yK d);simp only[Tu]at L;have K:J2 σ b c=σ.cap b:=by rw[C,J2,if_neg (Nat.lt_irrefl _),Qy,Nat.sub_zero]
   refine⟨m,(vs.drop (m*s)).map (rn σ)++σ.tl b,?_,?_,λp q=>IL q,λv B=>g.cells _ (yK d) v (QP B)⟩
   .simp only[bE,sS,K];refine .mk ?_ ?_ ?_
    .rw[Q6,QB];omega
    .rw[Vz,Q6,Q6,QB,Q1];omega
    .have:m*s<=σ.cap b*s:=by omega
     exact Nat.le_of_mul_le_mul_right this J
   .refine(oX d).trans (vZ _ ?_);simp only[bE,sS,aj,yx,Qo,<- vj,<- QC,Qj];exact .refl _
  .cases e
 .cases e
def Sq {size m:Nat}{C:Value}{ys:List Value}{j:Mp}{F:List Value}(g:jG N0 σ F j nx)(e:srcE j size C=some (m,ys)):
 eZ (rn σ C)=some m/\Src (kq A σ j) size m (ys.map (rn σ)) (rn σ C)/\ys.length=m*size/\∀v∈ys,cu nx v:=by
 unfold srcE at e;split at e
 .split at e
  case h_2=>cases e
  rename_i l q;cases e;have d:=po q;refine⟨by simp[eZ],?_,d,oI g q⟩;simp only[bE,sS,Src];exact⟨by rw[Q6,d],fK q⟩
 .split at e
  case h_2=>cases e
  cases e;exact⟨by simp[eZ],by simp[Src],Zs,λv B=>by cases B⟩
 .rename_i s;split at e
  case h_2=>cases e
  cases e;have E:(eY s).all bG=true:=by
   rw[vf];intro x D;simp only[eY,QO]at D;obtain⟨c,_,rfl⟩:=D;rfl
  refine⟨by simp[eZ],?_,by simp[eY],λv B=>cu.bG (vf.1 E v B)⟩;rw[fN E];simp only[fO,Src,eY];rw[Ql Zs]
 .cases e
def R3 {t:TypeId}{size bytes m:Nat}{zero xs ys:List Value}{s x:Operand}{sv Q:Value}{j:Mp}(g:jG N0 σ (Γ.map (·.2)) h nx)(hs:xw N0 Γ s=some sv)(hx:xw N0 Γ x=some Q)(ht:OO h size sv=some (xs,j))(hy:srcE j size Q=some (m,ys))
 (U:ys.all jk=true) (hz:zero.length=size) (hb:bytes≠0) (h1:xs.length+m<=1048576) (Y:bytes<=65536) (H:0<size) (h0:xs.length+m≠0)
 (T:∀C,Ag nx σ C->jG N0 C (.slice (some ⟨nx,0,none⟩) (xs.length/size+m) ni::Γ.map (·.2)) ((nx,.grow size (xs++ys))::j) (nx+1)->
   VO P n rs (au d (rn C (.slice (some ⟨nx,0,none⟩) (xs.length/size+m) ni)) (cB C Γ)) [kq A C ((nx,.grow size (xs++ys))::j)] Z K):
 VO P n (⟨d,none,.append t size bytes zero s x⟩::rs) (cB σ Γ) [kq A σ h] Z K:=by
 obtain⟨k,sp,L,k2,F,M⟩:=M9 g H ht;have X:jG N0 σ (Γ.map (·.2)) j nx:=⟨g.fix,g.le,λp E=>g.ids p (F p E),λp E=>g.grow p (F p E),λp E=>g.cells p (F p E),g.bJ⟩;obtain⟨s1,s2,s3,N⟩:=Sq X hy;have G:=L.len;rw[Q6]at G;have pR:k<=xs.length:=by rw[G];exact Nat.le_mul_of_pos_right _ H
 have D:xs.length/size=k:=by rw[G];exact Nat.mul_div_cancel _ H
 refine VO.imp (ap.perm (B:=[aj (rn σ sv) (xs.map (rn σ)) sp,kq A σ j]) (by simpa using k2)) ?_;refine kX (lA g hs).1 (lA g hx).1 L .here s1 (R:=[kq A σ j]) (by simpa using s2) (by rw[Q6];exact s3) (xK σ _ U) hz hb ?_ λbZ q S=>?_
 .have:(2*(k+m)+192)*bytes<=2097344*65536:=Nat.mul_le_mul Zo Y;omega
 obtain⟨b,o,c,rfl,ZH,pQ⟩:=S.some (by
  rcases Qq (k+m)with e|e
  .exfalso;have W:k=0:=by omega
   rw[W,X1]at G;omega
  .exact e)
 have a:=pC σ nx b o c q;obtain⟨u1,O,u3,u4⟩:=AS σ nx b o c q;have J:=T (lT σ nx b o c q) a (g.new F (λv hv=>by
  rcases QH.1 hv with hv|hv
  .exact(M v hv).mono (Qt _)
  .exact(N v hv).mono (Qt _)) (by
  simp only[Tu,u3,u4];have:((xs.map (rn σ))++(ys.map (rn σ))).length+q.length=c*size:=pQ;simpa using this) (λv hv=>by
  rcases QJ.1 hv with rfl|hv
  .exact cu.slc (Qw _)
  .exact(g.bJ v hv).mono (Qt _)))
 have hC:J2 (lT σ nx b o c q) nx ni=c:=by simp[J2,u3]
 simp only[bE,sS,u1,O,hC,Qo,D]at J;rw[uR a g.bJ];refine VO.imp (AD (B:=kq A (lT σ nx b o c q) ((nx,.grow size (xs++ys))::j)) ?_) J;rw[oY g F];simp only[yx,u1,O,u4,aj]
 congr 2
 rw[QC]
 congr 1
 congr 1
 .exact QD λw I=>(M w I _ _ a.symm)
 .exact QD λw I=>(N w I _ _ a.symm)
def op_call {F:CF}(M:qw A P N0 F){f:Nat}{xs:List Operand}{a5:List Value}{s:PR}(g:jG N0 σ (Γ.map (·.2)) h nx)(N:PY N0 Γ xs=some a5)(O:F f a5 h nx=some s)
 (I:∀v q m j,s=.val v q m->Ag nx σ j->nx<=m->jG N0 j (v::Γ.map (·.2)) q m->VO P n rs (au d (rn j v) (cB j Γ)) [kq A j q] Z K)
 (Q:∀B q m j,s=.AG B q m->Ag nx σ j->nx<=m->jG N0 j (B.map (·.v)) q m->Z (J3 j B) (cB σ Γ) [kq A j q]):
 VO P n (⟨d,none,.call f xs⟩::rs) (cB σ Γ) [kq A σ h] Z K:=by
 obtain⟨J,L⟩:=evs_rn g N;refine kM (M f a5 h nx s O σ (g.with L)) J (R:=[]) (by simp[fq]) ?_ ?_
 .rintro v dl ⟨H,q,m,j,G,C,D,E,rfl,rfl⟩
  rw[vm,uR C g.bJ];exact I H q m j G C D (E.with λu hu=>by
   rcases QJ.1 hu with rfl|hu
   .exact E.bJ _ Zs
   .exact(g.bJ u hu).mono D)
 .rintro B dl ⟨H,q,m,j,G,C,D,E,rfl,rfl⟩
  rw[vm];exact Q H q m j G C D E
end
variable {A:List kC}
section
variable {P:Program} {N0 nx n:Nat} {σ:Sg} {Γ:Env} {h:Mp} {rs:List RO} {d:Option Nat} {Z:List PanicEntry->Env->SH->Prop} {K:Env->SH->Prop}
def Fq(g:jG N0 σ (Γ.map (·.2)) h nx){v:Value}(d:cu nx v):jG N0 σ (v::Γ.map (·.2)) h nx:=g.with λu hu=>by
 rcases QJ.1 hu with rfl|hu
 .exact d
 .exact g.bJ u hu
def Es(g:jG N0 σ (Γ.map (·.2)) h nx){d y:Nat}{x:Option Operand}{l:Nat}{dd:Option Nat}(A:dd=some d)(e:Ub N0 Γ d x=some l)(B:l<=y):wX y dd (x.map (Au (cB σ Γ)))=some l/\∀o∈pL x,known (cB σ Γ) o=true:=by
 cases x with
 |none=>simp only[Ub,X9]at e;subst e;exact⟨A,λo j=>by cases j⟩
 |some x=>
  simp only[Ub]at e;split at e
  case h_2=>cases e
  rename_i k z C;cases e;have m:=(lA g C).1;rw[cP]at m;refine⟨?_,λo j=>?_⟩
  .have q:Au (cB σ Γ) x=.int k (Int.ofNat l):=by simp[Au,m]
   have s:(0:Int)<=Int.ofNat l/\Int.ofNat l<=(y:Int):=⟨Int.natCast_nonneg _,Int.ofNat_le.2 B⟩;simp only[X7,wX,q,bound,if_pos s];rfl
  .simp only[pL,Option.toList_some,QU]at j;subst j;simp[known,m]
def op_slcU {size b o k c:Nat}{x:Operand}{H F:Option Operand}{v:Value}(g:jG N0 σ (Γ.map (·.2)) h nx)(hx:xw N0 Γ x=some (.slice (some ⟨b,o,none⟩) k c))(hc:Nat.blt c ni=false)(j:slcU N0 Γ h size H F b o k c=some v)
 (T:cu nx v->VO P n rs (au d (rn σ v) (cB σ Γ)) [kq A σ h] Z K):VO P n (⟨d,none,.tf size x H F none⟩::rs) (cB σ Γ) [kq A σ h] Z K:=by
 unfold slcU at j;split at j
 case h_2=>cases j
 rename_i s vs L;split at j
 case h_2=>cases j
 rename_i l m hl hm;split at j
 case h_2=>cases j
 rename_i J;simp only[vG]at J;obtain⟨W,X,c3,Y,c5,c6,c7⟩:=J;cases j;have e1:=uA W;have e2:=Gc X;have e3:=uA c3;have e4:=me Y;have e5:=me c5;have e6:=me c6;have D:¬c<ni:=λN=>by have:Nat.blt c ni=true:=Nat.ble_eq_true_of_le N;rw[hc]at this;cases this
 have M:=g.grow _ (yK L);simp only[Tu]at M;have Q:(c-ni+k)*size<=σ.cap b*size:=by rw[e1]at M;omega
 have E:c-ni+k<=σ.cap b:=Nat.le_of_mul_le_mul_right Q e2;have hid:=g.ids _ (yK L);have O:=(lA g hx).1;have G:Au (cB σ Γ) x=.slice (some ⟨σ.tu b,σ.off b+o,none⟩) k (σ.cap b-(c-ni)):=by
  simp only[Au,O,X3,bE,sS,J2,if_neg D]
 have I:=Es (y:=m) (dd:=some 0) g rfl hl e5;have C:=Es (y:=σ.cap b-(c-ni)) (dd:=some k) g rfl hm Zo;refine pA rfl ?_ (v:=rn σ (.slice (some ⟨b,o+l*size,none⟩) (m-l) (c+l))) ?_ (T (cu.slc hid))
 .rw[vf];intro y hy;simp only[mS,QJ,QH]at hy;rcases hy with rfl|(hy|hy)|hy
  .simp[known,O]
  .exact I.2 y hy
  .exact C.2 y hy
  .cases hy
 .have S:yD k (σ.cap b-(c-ni)) (H.map (Au (cB σ Γ))) (F.map (Au (cB σ Γ))) none=some (l,m,σ.cap b-(c-ni)):=by
   have U:wX (σ.cap b-(c-ni)) (some (σ.cap b-(c-ni))) none=some (σ.cap b-(c-ni)):=rfl;unfold yD;rw[U,Option.bind_some];simp only[Option.isSome_none,vN,if_false];rw[C.1,Option.bind_some,I.1];rfl
  simp only[kb,G,X6,S,X7,bE,sS,J2,if_neg (show ¬c+l<ni by omega)];have n9:c+l-ni=c-ni+l:=by omega
  have B:(if σ.cap b-(c-ni)=l then σ.off b+o else σ.off b+o+l*size)=σ.off b+(o+l*size):=by
   split
   .rename_i N;rcases vT.1 c7 with q|q
    .have:=Gc q;omega
    .have:=uA q;subst this;simp
   .omega
  rw[B,n9,Nat.sub_sub]
def XB {F:CF}(S:qw A P N0 F){r:R}{L:PR}(j:u5 N0 F r Γ h nx=some L)(g:jG N0 σ (Γ.map (·.2)) h nx)
 (H:∀v G I q,L=.val v G I->Ag nx σ q->nx<=I->jG N0 q (v::Γ.map (·.2)) G I->VO P n rs (au d (rn q v) (cB q Γ)) [kq A q G] Z K)
 (sn:∀N G I q,L=.AG N G I->Ag nx σ q->nx<=I->jG N0 q (N.map (·.v)) G I->Z (J3 q N) (cB σ Γ) [kq A q G]):
 VO P n (⟨d,none,r⟩::rs) (cB σ Γ) [kq A σ h] Z K:=by
 have C:∀v,L=.val v h nx->cu nx v->VO P n rs (au d (rn σ v) (cB σ Γ)) [kq A σ h] Z K:=λv e M=>H v h nx σ e (.refl _ _) (Qs _) (Fq g M)
 have J:kz r=true->Fc N0 r Γ h nx=some L->VO P n (⟨d,none,r⟩::rs) (cB σ Γ) [kq A σ h] Z K:=λY j=>by
  unfold Fc at j;split at j
  case h_2=>cases j
  rename_i B;simp only[vG]at B;split at j
  case h_2=>cases j
  rename_i v hv;cases j;exact op_pure g Y B.2.1 B.2.2.1 B.2.2.2 hv (C v rfl)
 cases r
 case lH x=>
  simp only[u5]at j;split at j
  case h_2=>cases j
  rename_i b o D;split at j
  case h_2=>cases j
  rename_i v O;cases j;exact Xy g D O (C v rfl)
 case ny m x=>
  simp only[u5]at j;split at j
  case h_2=>cases j
  rename_i b o D;split at j
  case h_2=>cases j
  rename_i us O;cases j;exact Xz g D O (C _ rfl)
 case alloc t z=>
  simp only[u5]at j;split at j
  case h_2=>cases j
  rename_i hz;cases j;exact Xx g hz λq a E=>H _ _ _ q rfl a (Qt _) E
 case box t x=>
  simp only[u5]at j;split at j
  case h_2=>cases j
  rename_i v D;cases j;exact op_box g D λq a E=>H _ _ _ q rfl a (Qt _) E
 case nP t len z ps=>
  simp only[u5]at j;split at j
  case h_2=>cases j
  rename_i B;simp only[vG]at B;split at j
  case h_2=>cases j
  rename_i out X;cases j;exact R4 g B.1 B.2.1 X (Gc B.2.2) λq a E=>H _ _ _ q rfl a (Qt _) E
 case store m x y=>
  simp only[u5]at j;split at j
  case h_2=>cases j
  rename_i b o u D Q;split at j
  case h_2=>cases j
  rename_i W;split at j
  case h_2=>cases j
  rename_i G hw;cases j;exact XC g D Q (uA W) hw λE=>H _ _ _ σ rfl (.refl _ _) (Qs _) E
 case append t size bytes zero s x=>
  simp only[u5]at j;split at j
  case h_2=>cases j
  rename_i sv xv M D;split at j
  case h_2=>cases j
  rename_i xs G ht;split at j
  case h_2=>cases j
  rename_i m ys Q;split at j
  case h_2=>cases j
  rename_i B;simp only[vG,vP]at B;cases j;exact R3 g M D ht Q B.1 (uA B.2.1) (beqF B.2.2.1) (me B.2.2.2.1) (me B.2.2.2.2.1) (Gc B.2.2.2.2.2.1) (beqF B.2.2.2.2.2.2) λq a E=>H _ _ _ q rfl a (Qt _) E
 case call f xs=>
  simp only[u5]at j;split at j
  case h_2=>cases j
  rename_i a5 T;exact op_call S g T j H sn
 case tf size x lo hi mx=>
  simp only[u5]at j;split at j
  .rename_i b o k c D;split at j
   .exact J rfl j
   .rename_i U;split at j
    case h_2=>cases j
    rename_i v M;cases j;exact op_slcU g D U M (C v rfl)
  .exact J rfl j
 all_goals first
  |exact J rfl j
  |(simp only[u5,Fc,kz,vM]at j;cases j;done)
def uL {F:CF}(X:qw A P N0 F):∀{rs:List RO} {Γ:Env} {h:Mp} {nx:Nat} {σ:Sg} {E:OR},zG N0 F rs Γ h nx=some E->jG N0 σ (Γ.map (·.2)) h nx->
 (∀C q m j,E=.ok C q m->Ag nx σ j->nx<=m->jG N0 j (C.map (·.2)) q m->K (cB j C) [kq A j q])->
 (∀C D q m j,E=.AG D C q m->Ag nx σ j->nx<=m->jG N0 j (D.map (·.v)++C.map (·.2)) q m->Z (J3 j D) (cB j C) [kq A j q])->VO P n rs (cB σ Γ) [kq A σ h] Z K:=by
 intro rs
 induction rs with
 |nil=>
  intro Γ h nx σ E B g G H;simp only[zG,X9]at B;exact VO.nil (G Γ h nx σ B.symm (.refl _ _) (Qs _) g)
 |cons x rs ih=>
  intro Γ h nx σ E B g G H;obtain⟨d,W,r⟩:=x;have U:∀{E:OR},(match u5 N0 F r Γ h nx with
   |none=>none
   |some (.AG D q m)=>some (.AG D Γ q m)
   |some (.val v q m)=>zG N0 F rs (au d v Γ) q m)=some E->
   (∀C q m j,E=.ok C q m->Ag nx σ j->nx<=m->jG N0 j (C.map (·.2)) q m->K (cB j C) [kq A j q])->
   (∀C D q m j,E=.AG D C q m->Ag nx σ j->nx<=m->jG N0 j (D.map (·.v)++C.map (·.2)) q m->Z (J3 j D) (cB j C) [kq A j q])->VO P n (⟨d,none,r⟩::rs) (cB σ Γ) [kq A σ h] Z K:=by
   intro E B G H;cases hr:u5 N0 F r Γ h nx with
   |none=>rw[hr]at B;cases B
   |some pr=>
    rw[hr]at B;refine XB X hr g ?_ ?_
    .rintro v q m j rfl a le I
     simp only at B;rw[<- Oq];refine ih B ⟨I.fix,I.le,I.ids,I.grow,I.cells,JT I.bJ⟩ ?_ ?_
     .intro O S M L e N J Q;exact G O S M L e (a.trans N le) (Qu le J) Q
     .intro O D S M L e N J Q;exact H O D S M L e (a.trans N le) (Qu le J) Q
    .rintro D q m j rfl a le I
     simp only[X9]at B;rw[uR a g.bJ];exact H Γ D q m j B.symm a le (I.with λu hu=>by
      rcases QH.1 hu with hu|hu
      .exact I.bJ u hu
      .exact(g.bJ u hu).mono le)
  have skip:∀{E:OR},zG N0 F rs (au d undef Γ) h nx=some E->
   (∀C q m j,E=.ok C q m->Ag nx σ j->nx<=m->jG N0 j (C.map (·.2)) q m->K (cB j C) [kq A j q])->
   (∀C D q m j,E=.AG D C q m->Ag nx σ j->nx<=m->jG N0 j (D.map (·.v)++C.map (·.2)) q m->Z (J3 j D) (cB j C) [kq A j q])->VO P n rs (au d undef (cB σ Γ)) [kq A σ h] Z K:=by
   intro E B G H;have hu:rn σ undef=undef:=eL rfl;have:=ih (σ:=σ) B (g.with (JT (Fq g (cu.plain rfl)).bJ)) G H;rw[Oq,hu]at this;exact this
  cases W with
  |none=>
   simp only[zG,L1]at B;exact U B G H
  |some sb=>
   obtain⟨s,b⟩:=sb;simp only[zG,L1]at B;cases hl:look Γ s with
   |none=>rw[hl]at B;cases B
   |some u=>
    rw[hl]at B;cases u<;>try (cases B;done)
    case tuple vs=>
     simp only at B;cases hv:vs.toList with
     |cons x l=>rw[hv]at B;cases B
     |nil=>
      rw[hv]at B;have e:vs=#[]:=vD.1 (by rw[hv]);subst e;exact Kb (by rw[mJ,hl];simp[undef]) (skip B G H)
    rename_i c;have T:look (cB σ Γ) s=some (.bool c):=by rw[mJ,hl];simp
    simp only at B;cases L4:(c==b)with
    |true=>
     rw[L4]at B;have e:c=b:=by simpa using L4
     subst e;exact ti T (U B G H)
    |false=>
     rw[L4]at B;exact Fx T L4 (skip B G H)
end
def rnX(σ:Sg):Ex->Exit
 |.normal=>.normal
 |.exit i=>.exit i
 |.ret=>.ret
 |.AG ch=>.panic (J3 σ ch)
def yz:Ex->List Value
 |.AG ch=>ch.map (·.v)
 |_=>[]
section
variable {P:Program} {N0 n L:Nat}
def K4(A:List kC)(P:Program)(N0 n:Nat)(c:IC)(f:Env->Mp->Nat->IR):Prop:=∀Γ h nx e aB h' bp,f Γ h nx=some (e,aB,h',bp)->∀σ,jG N0 σ (Γ.map (·.2)) h nx->∀Q:Exit->Env->SH->Prop,
 (∀aQ,Ag nx σ aQ->nx<=bp->jG N0 aQ (yz e++aB.map (·.2)) h' bp->Q (rnX aQ e) (cB aQ aB) [kq A aQ h'])->VC P n c (cB σ Γ) [kq A σ h] Q
def MA {c:IC}{f:Env->Mp->Nat->IR}(T:K4 A P N0 n c f):∀k,K4 A P N0 n (.loop c) (Jx f k):=by
 intro k Γ h nx e K N L U σ g Q D;refine VC.loop (α:=Nat×Env×Mp×Nat×Sg) (bg:=λs=>cB s.2.2.2.2 s.2.1) (Hf:=λs=>[kq A s.2.2.2.2 s.2.2.1])
  (I:=λs=>Jx f s.1 s.2.1 s.2.2.1 s.2.2.2.1=some (e,K,N,L)/\Ag nx σ s.2.2.2.2/\nx<=s.2.2.2.1/\jG N0 s.2.2.2.2 (s.2.1.map (·.2)) s.2.2.1 s.2.2.2.1) (μ:=λs=>s.1) (k,Γ,h,nx,σ)
  ⟨U,.refl _ _,Qs _,g⟩ Sub.refl (ap.refl _) ?_
 rintro⟨j,F,O,E,G⟩ ⟨m,q,d,H⟩
 simp only at m q d H|-;cases j with
 |zero=>cases m
 |succ j=>
  simp only[Jx]at m;cases hb:f F O E with
  |none=>rw[hb]at m;cases m
  |some r=>
   obtain⟨x,M,S,J⟩:=r;rw[hb]at m;refine T _ _ _ _ _ _ _ hb G H _ λB a le C=>?_
   cases x with
   |normal=>
    simp only at m;exact⟨(j,M,S,J,B),⟨m,q.trans a d,Qu d le,by simpa[yz]using C⟩,Qw _,Sub.refl,ap.refl _⟩
   |exit i=>cases m;exact D B (q.trans a d) (Qu d le) C
   |ret=>cases m;exact D B (q.trans a d) (Qu d le) C
   |AG ch=>cases m;exact D B (q.trans a d) (Qu d le) C
def lx {e:Value->Value->Bool}(d:∀a b,e a b=true->a=b):∀{l m:List Value},Uz e l m=true->l=m:=by
 intro l
 induction l with
 |nil=>intro m h;cases m with
  |nil=>rfl
  |cons=>simp[Uz]at h
 |cons a l ih=>intro m h;cases m with
  |nil=>simp[Uz]at h
  |cons b m=>
   simp only[Uz,vG]at h;rw[d _ _ h.1,ih h.2]
def ly:∀(k:Nat) {a b:Value},PX k a b=true->a=b:=by
 intro k
 induction k with
 |zero=>intro a b h;simp[PX]at h
 |succ k ih=>
  intro a b h;unfold PX at h;split at h<;>(try simp only[vG,beq_iff_eq,decide_eq_true_eq]at h)
  all_goals first
   |rfl
   |(cases h;done)
   |(obtain⟨d,g⟩:=h;subst d;subst g;rfl)
   |(subst h;rfl)
   |(obtain⟨d,g⟩:=h;rw[uA d,uA g])
   |(obtain⟨d,g,j⟩:=h;rw[d,uA g,uA j])
   |(rw[uA h])
   |(obtain⟨d,g⟩:=h;rw[d,ih g])
   |(rw[vD.1 (lx (λ_ _=>ih) h)])
   |(obtain⟨d,g,j⟩:=h;rw[d,vD.1 (lx (λ_ _=>ih) g),vD.1 (lx (λ_ _=>ih) j)])
def Py:∀{Γ Δ:Env},eqE Γ Δ=true->Γ=Δ:=by
 intro Γ
 induction Γ with
 |nil=>intro Δ h;cases Δ with
  |nil=>rfl
  |cons=>simp[eqE]at h
 |cons p Γ ih=>
  intro Δ h;obtain⟨s,x⟩:=p;cases Δ with
  |nil=>simp[eqE]at h
  |cons q Δ=>
   obtain⟨t,y⟩:=q;simp only[eqE,vG]at h;rw[uA h.1,ly 20 h.2.1,ih h.2.2]
def PK:∀{l m:List MapEntry},eqM l m=true->l=m:=by
 intro l
 induction l with
 |nil=>intro m h;cases m with
  |nil=>rfl
  |cons=>simp[eqM]at h
 |cons a l ih=>intro m h;cases m with
  |nil=>simp[eqM]at h
  |cons b m=>
   simp only[eqM,vG]at h;obtain⟨⟨d,g⟩,j,q⟩:=h;cases a;cases b;simp only at d g j;rw[ly 20 d,ly 20 g,uA j,ih q]
def Px {a b:Ap}(h:eqB a b=true):a=b:=by
 unfold eqB at h;split at h<;>(try simp only[vG,decide_eq_true_eq]at h)
 .rw[lx (λ_ _=>ly 20) h]
 .rw[uA h.1,lx (λ_ _=>ly 20) h.2]
 .rw[uA h.2,vD.1 (PK h.1)]
 .rw[h.1,uA h.2]
 .cases h
def Pz:∀{Γ Δ:Mp},eqH Γ Δ=true->Γ=Δ:=by
 intro Γ
 induction Γ with
 |nil=>intro Δ h;cases Δ with
  |nil=>rfl
  |cons=>simp[eqH]at h
 |cons p Γ ih=>
  intro Δ h;obtain⟨s,x⟩:=p;cases Δ with
  |nil=>simp[eqH]at h
  |cons q Δ=>
   obtain⟨t,y⟩:=q;simp only[eqH,vG]at h;rw[uA h.1,Px h.2.1,ih h.2.2]
def Pt {F:CF}{j:List Nat}{Γ Δ:Env}{h q:Mp}{nx s:Nat}:∀{r:List (List RO)},NN N0 F j Γ h nx Δ q s r=true->∀rs∈r,∃m,zG N0 F rs Γ h nx=some (.ok m q s)/\bh j m=Δ:=by
 intro r
 induction r with
 |nil=>intro _ rs h;cases h
 |cons x r ih=>
  intro d rs da;simp only[NN]at d;split at d
  case h_2=>cases d
  rename_i A h' bp B;split at d
  case h_2=>cases d
  rename_i g;simp only[vG]at g;rcases QJ.1 da with rfl|da
  .exact⟨A,by rw[B,uA g.2.1,Pz g.2.2],Py g.1⟩
  .exact ih d rs da
def Ww {F:CF}(X:qw A P N0 F)(L:Nat):∀c:IC,K4 A P N0 n c (wR N0 F L c):=by
 intro c
 induction c with
 |skip=>
  intro Γ h nx e q E B d σ g Q j;simp only[wR,X9,XA]at d;obtain⟨rfl,rfl,rfl,rfl⟩:=d;exact VC.skip (j σ (.refl _ _) (Qs _) (by simpa[yz]using g))
 |oJ rs bj=>
  intro Γ h nx e q E B d σ g Q j;simp only[wR]at d;cases ho:zG N0 F rs Γ h nx with
  |none=>rw[ho]at d;cases d
  |some r=>
   rw[ho]at d;refine VC.oJ (uL X ho g ?_ ?_)
   .rintro C O M J rfl a le D
    simp only[X9,XA]at d;obtain⟨rfl,rfl,rfl,rfl⟩:=d;have:=j J a le (by simpa[yz]using D.with (rJ D.bJ));rw[uS]at this;exact this
   .rintro C N O M J rfl a le D
    simp only[X9,XA]at d;obtain⟨rfl,rfl,rfl,rfl⟩:=d;exact j J a le (by simpa[yz]using D)
 |draw tD bj=>
  intro Γ h nx e q E B d σ g Q j;simp only[wR]at d;split at d
  case h_1=>cases d
  rename_i rs r;cases ho:zG N0 F rs Γ h nx with
  |none=>rw[ho]at d;cases d
  |some bT=>
   rw[ho]at d;cases bT with
   |AG N Γ1 h1 n1=>
    cases d
   |ok Γ1 h1 n1=>
    simp only at d;have first:∀U:Env->SH->Prop,(∀m,Ag nx σ m->nx<=n1->jG N0 m (Γ1.map (·.2)) h1 n1->U (bh bj (cB m Γ1)) [kq A m h1])->VO P n rs (cB σ Γ) [kq A σ h] (λ_ _ _=>False) λq H'=>U (bh bj q) H':=λU lY=>by
     refine uL X ho g ?_ ?_
     .rintro C O M J G a le D
      cases G;exact lY J a le D
     .rintro C N O M J G
      cases G
    cases r with
    |nil=>
     simp only[X9,XA]at d;obtain⟨rfl,rfl,rfl,rfl⟩:=d;exact VC.Ez (first (λΓ H=>Q .normal Γ H) λm a le D=>by have:=j m a le (by simpa[yz]using D.with (rJ D.bJ));rw[uS]at this;exact this)
    |cons r0 r1=>
     simp only at d;split at d
     case h_2=>cases d
     rename_i I;simp only[X9,XA]at d;obtain⟨rfl,rfl,rfl,rfl⟩:=d;refine VC.draw λS hrs2=>?_
     have go:∀C,zG N0 F S Γ h nx=some (.ok C h1 n1)->bh bj C=bh bj Γ1->VO P n S (cB σ Γ) [kq A σ h] (λ_ _ _=>False) λq H'=>Q .normal (bh bj q) H':=λC S6 G=>by
      refine uL X S6 g ?_ ?_
      .rintro Γ3 h3 nx3 T W a le g3
       cases W;have:=j T a le (by rw[<- G];simpa[yz]using g3.with (rJ g3.bJ));rw[<- G,uS]at this;exact this
      .rintro Γ3 N h3 nx3 T W
       cases W
     rcases QJ.1 hrs2 with rfl|hrs2
     .exact go Γ1 ho rfl
     .obtain⟨C,o1,o2⟩:=Pt I _ hrs2;exact go C o1 o2
 |seq x y ihx ihy=>
  intro Γ h nx e q E B d σ g Q j;simp only[wR]at d;cases I:wR N0 F L x Γ h nx with
  |none=>rw[I]at d;cases d
  |some r=>
   obtain⟨G,C,O,M⟩:=r;rw[I]at d;refine VC.seq (ihx _ _ _ _ _ _ _ I σ g _ λm a le s=>?_);cases G with
   |normal=>
    exact ihy _ _ _ _ _ _ _ d m (by simpa[yz]using s) Q λJ a2 Z D=>j J (a.trans a2 le) (Qu le Z) D
   |exit i=>cases d;exact j m a le s
   |ret=>cases d;exact j m a le s
   |AG N=>cases d;exact j m a le s
 |cond c x y ihx ihy=>
  intro Γ h nx e q E B d σ g Q j;simp only[wR]at d;split at d
  .rename_i Y;have K:=(lA g Y).1;rw[sT]at K;exact VC.tT K (ihx _ _ _ _ _ _ _ d σ g Q j)
  .rename_i Y;have K:=(lA g Y).1;rw[sT]at K;exact VC.tS K (ihy _ _ _ _ _ _ _ d σ g Q j)
  .cases d
 |block id x ih=>
  intro Γ h nx e q E B d σ g Q j;simp only[wR]at d;cases I:wR N0 F L x Γ h nx with
  |none=>rw[I]at d;cases d
  |some r=>
   obtain⟨G,C,O,M⟩:=r;rw[I]at d;refine VC.block (ih _ _ _ _ _ _ _ I σ g _ λm a le s=>?_);cases G with
   |normal=>cases d;exact j m a le s
   |exit i=>
    simp only at d;cases hi:Nat.beq i id with
    |true=>
     rw[hi]at d;cases d;show bK id Q (.exit i) _ _;simp only[bK,uA hi,if_true];exact j m a le (by simpa[yz]using s)
    |false=>
     rw[hi]at d;cases d;show bK id Q (.exit i) _ _;simp only[bK,if_neg (beqF hi)];exact j m a le s
   |ret=>cases d;exact j m a le s
   |AG N=>cases d;exact j m a le s
 |loop x ih=>exact MA ih L
 |exit id=>
  intro Γ h nx e q E B d σ g Q j;simp only[wR,X9,XA]at d;obtain⟨rfl,rfl,rfl,rfl⟩:=d;exact VC.exit (j σ (.refl _ _) (Qs _) (by simpa[yz]using g))
 |ret=>
  intro Γ h nx e q E B d σ g Q j;simp only[wR,X9,XA]at d;obtain⟨rfl,rfl,rfl,rfl⟩:=d;exact VC.ret (j σ (.refl _ _) (Qs _) (by simpa[yz]using g))
 |scope x ih=>
  intro Γ h nx e q E B d σ g Q j;simp only[wR]at d;refine VC.scope (ih _ _ _ _ _ _ _ d σ g _ λm a le s=>⟨λl=>?_,j m a le s⟩);cases e<;>simp[rnX]
 |label l=>
  intro Γ h nx e q E B d σ g Q j;simp only[wR,X9,XA]at d;obtain⟨rfl,rfl,rfl,rfl⟩:=d;exact VC.label (j σ (.refl _ _) (Qs _) (by simpa[yz]using g))
 |iR g ps x y ihx ihy=>intro Γ h nx e q E B d;simp only[wR]at d;cases d
 |free rs an bj=>intro Γ h nx e q E B d;simp only[wR]at d;cases d
def Sj {nx:Nat}{σ:Sg}{Γ:Env}{h:Mp}{D:List Value}(g:jG N0 σ D h nx)(C:∀v∈Γ.map (·.2),cu nx v):∀{r:List RV} {vs:List Value},C3 Γ h r=some vs->SR (cB σ Γ) [kq A σ h] r (vs.map (rn σ))/\∀v∈vs,cu nx v:=by
 intro r
 induction r with
 |nil=>intro vs e;simp only[C3,X9]at e;subst e;exact⟨.nil,λv C=>by cases C⟩
 |cons x r ih=>
  intro vs e;cases x with
  |tmp t=>
   simp only[C3]at e;split at e
   case h_2=>cases e
   rename_i v l j d;cases e;obtain⟨q,s⟩:=ih d;refine⟨.tmp (by rw[mJ,j];rfl) q,λu hu=>?_⟩;rcases QJ.1 hu with rfl|hu
   .exact C _ (Co j)
   .exact s u hu
  |cC t=>
   simp only[C3]at e;split at e
   case h_2=>cases e
   rename_i b o j;split at e
   case h_2=>cases e
   rename_i v l d B;cases e;obtain⟨q,s⟩:=ih B;refine⟨.cC (b:=σ.tu b) (o:=σ.off b+o) (by rw[mJ,j];simp[sS]) ?_ q,λu hu=>?_⟩
   .simp only[Vd,Ve,vm];exact fK d _ Nt
   .rcases QJ.1 hu with rfl|hu
    .exact oI g d _ Zs
    .exact s u hu
  |az t m=>
   simp only[C3]at e;split at e
   case h_2=>cases e
   rename_i b o j;split at e
   case h_2=>cases e
   rename_i us l d B;cases e;obtain⟨q,s⟩:=ih B;refine⟨?_,λu hu=>?_⟩
   .have E:rn σ (.agg us.toArray)=.agg (us.map (rn σ)).toArray:=by simp
    rw[QE,E];refine .az (b:=σ.tu b) (o:=σ.off b+o) (by rw[mJ,j];simp[sS]) (by rw[Q6];exact po d) ?_ q;simp only[Vd,Ve,vm];exact fK d
   .rcases QJ.1 hu with rfl|hu
    .exact cu.agg (oI g d)
    .exact s u hu
def FeOk(P:Program)(f:Nat):FE->Prop
 |.fir F=>∃kp od,Jy P kp od f=some F
def xg(P:Program)(Fy:List (Nat×FE)):Prop:=∀p∈Fy,FeOk P p.1 p.2
def xg.nil:xg P []:=λp d=>by cases d
def xg.cons {f:Nat}{R:aP}{g:Nat->List Nat}{j:Nat->List (List Nat)}{d:List (Nat×FE)}(h:Jy P g j f=some R)(t:xg P d):xg P ((f,.fir R)::d):=λp hp=>by
 rcases QJ.1 hp with rfl|hp
 .exact⟨g,j,h⟩
 .exact t p hp
def tab_mem {d:List (Nat×FE)}{f:Nat}{R:FE}(e:YT d f=some R):(f,R)∈d:=by
 induction d with
 |nil=>cases e
 |cons p d ih=>
  obtain⟨i,b⟩:=p;simp only[YT]at e;split at e
  .rename_i g;cases e;rw[uA g];simp
  .simp[ih e]
def O2:∀{vs:List Value} {k:Nat},(aV k vs).map (·.2)=vs:=by
 intro vs
 induction vs with
 |nil=>intro k;rfl
 |cons v vs ih=>intro k;simp only[aV,QE,ih]
def η(σ:Sg):∀{vs:List Value} {k:Nat},cB σ (aV k vs)=aV k (vs.map (rn σ)):=by
 intro vs
 induction vs with
 |nil=>intro k;rfl
 |cons v vs ih=>intro k;simp only[aV,QE,<- ih];rfl
def Ξ {B:List (Nat×FE)}{C:CF}(Q:xg P B)(O:qw A P N0 C)(L:Nat):∀k,qw A P N0 (Br N0 B C L k):=by
 intro k
 induction k with
 |zero=>intro f a5 h nx D d;simp only[Br]at d;cases d
 |succ k ih=>
  intro f a5 h nx D d σ g;simp only[Br]at d;cases hor:C f a5 h nx with
  |some v=>
   rw[hor]at d;cases d;exact O f a5 h nx _ hor σ g
  |none=>
   rw[hor]at d;simp only at d;cases hta:YT B f with
   |none=>rw[hta]at d;cases d
   |some E=>
    have K:=Q _ (tab_mem hta);rw[hta]at d;cases E with
    |fir R=>
     simp only at d;split at d
     case h_1=>cases d
     rename_i N;obtain⟨kp,od,M⟩:=K;refine jr.intro M (by rw[Q6];exact me N) ?_;rw[<- η];cases hb:wR N0 (Br N0 B C L k) L R.body (aV 0 a5) h nx with
     |none=>rw[hb]at d;cases d
     |some r=>
      obtain⟨e,G,m,q⟩:=r;rw[hb]at d;refine Ww ih L R.body _ _ _ _ _ _ _ hb σ (g.with (by rw[O2];exact g.bJ)) _ λj a le F=>?_
      have fin:∀x:Exit,(x=.normal∨x=.ret)->(match C3 G m R.bT with|some vs=>some (PR.val (bU vs) m q)|none=>none)=some D->jG N0 j (G.map (·.2)) m q->
       Θ R.bT (λv dl=>∃J m q j,D=.val J m q/\Ag nx σ j/\nx<=q/\jG N0 j [J] m q/\v=rn j J/\dl=[kq A j m])
        (λH dl=>∃s m q j,D=.AG s m q/\Ag nx σ j/\nx<=q/\jG N0 j (s.map (·.v)) m q/\H=J3 j s/\dl=[kq A j m]) x (cB j G) [kq A j m]:=by
       intro x U d I;split at d
       case h_2=>cases d
       rename_i vs W;cases d;obtain⟨X,Y⟩:=Sj I I.bJ W;refine jU ⟨U,_,_,X,ap.refl _,V.bU vs,m,q,j,rfl,a,le,I.with (λw T=>by rw[QU.1 T];exact cu.bU Y),(rn_tup j vs).symm,rfl⟩
      cases e with
      |normal=>exact fin .normal (.inl rfl) d (by simpa[yz]using F)
      |ret=>exact fin .ret (.inr rfl) d (by simpa[yz]using F)
      |exit i=>cases d
      |AG H=>
       cases d;exact⟨_,ap.refl _,H,m,q,j,rfl,a,le,F.with (λu S=>F.bJ u (Zw _ S)),rfl,rfl⟩
end
def qm(d a:Nat):RO:=⟨some d,none,.mv (.tmp a)⟩
def qk(d:Nat)(v:Int):RO:=⟨some d,none,.mv (.const (.int .i64 v))⟩
def qz(d:Nat)(b:Bool):RO:=⟨some d,none,.mv (.const (.bool b))⟩
def qo(d:Nat)(r:R):RO:=⟨some d,none,r⟩
def ql(d a:Nat):RO:=⟨some d,none,.lH (.tmp a)⟩
def qf(d o a:Nat):RO:=⟨some d,none,.Ω o (.tmp a)⟩
def qi(d s a b:Nat):RO:=⟨some d,none,.GX s (.tmp a) (.tmp b)⟩
def qb(d:Nat)(o:BinOp)(a b:Nat):RO:=⟨some d,none,.bin o (.tmp a) (.tmp b)⟩
def qc(d:Nat)(o:BinOp)(a:Nat)(v:Int):RO:=⟨some d,none,.bin o (.tmp a) (.const (.int .i64 v))⟩
def qn(d a:Nat):RO:=⟨some d,none,.qd (.tmp a)⟩
def qs(n a b:Nat):RO:=⟨none,none,.store n (.tmp a) (.tmp b)⟩
def qp(d c a b:Nat):RO:=⟨some d,none,.pick (.tmp c) (.tmp a) (.tmp b)⟩
def qa(d c a:Nat):RO:=⟨some d,none,.pick (.tmp c) (.tmp a) (.const (.bool false))⟩
def qr(d c b:Nat):RO:=⟨some d,none,.pick (.tmp c) (.const (.bool true)) (.tmp b)⟩
def qe(d a i:Nat):RO:=⟨some d,none,.ext (.tmp a) i⟩
def tmps:List Nat->List Operand
 |[]=>[]
 |a::r=>.tmp a::tmps r
def qx(d f:Nat)(l:List Nat):RO:=⟨some d,none,.call f (tmps l)⟩
def qL(d a:Nat):RO:=⟨some d,none,.G4 (.tmp a)⟩
def qN(d n a:Nat):RO:=⟨some d,none,.ny n (.tmp a)⟩
def qB(d t a:Nat):RO:=⟨some d,none,.box t (.tmp a)⟩
def qt(g:Nat)(x:RO):RO:=⟨x.dst,some (g,true),x.op⟩
def qu(g:Nat)(x:RO):RO:=⟨x.dst,some (g,false),x.op⟩
def qS(rs:List RO)(k:List Nat)(r:IC):IC:=.seq (.oJ rs k) r
def qC(c:Nat)(a b:IC):IC:=.cond (.tmp c) a b
def nthO:List RO->Nat->RO
 |[],_=>default
 |x::_,0=>x
 |_::r,n+1=>nthO r n
def ordO(l:List RO):List Nat->List RO
 |[]=>[]
 |i::r=>nthO l i::ordO l r
def JN(l:List RO):List (List Nat)->List (List RO)
 |[]=>[]
 |p::r=>ordO l p::JN l r
def qD(l:List RO)(ps:List (List Nat))(k:List Nat):IC:=.draw (JN l ps) k
def laid {X F:aP}(_h:F=X:=by(dsimp only[qm,qk,qz,qo,ql,qf,qi,qb,qc,qn,qs,qp,qa,qr,qe,tmps,qx,qL,qN,qB,qt,qu,qS,qC,nthO,ordO,JN,qD]<;>exact rfl)):aP:=F
def TKx {H R:SH}{A:List kC}(h:Tk H A R:=by(focus ((repeat (first|with_reducible exact Tk.here|apply Tk.there));done))):Tk H A R:=h
def bH {H D:SH}(h:ap H D:=by(first|with_reducible exact ap.refl|with_reducible exact ap.left|(focus ((try simp only[QV]);(repeat (first|exact ap.nil|(apply ap.cons;(focus ((repeat (first|with_reducible exact Tk.here|apply Tk.there));done)))));done)))):ap H D:=h
def SPx {H D R:SH}(h:fq H D R:=by(focus ((repeat (first|exact fq.nil|(apply fq.cons;(focus ((repeat (first|with_reducible exact Tk.here|apply Tk.there));done)))));done))):fq H D R:=h
def Du {G D:Env}(h:Sub G D:=by(repeat (first|exact Sub.nil|(apply Sub.cons;rfl)))):Sub G D:=h
def aE {α:Type}:(∀(a:α) (l r:List α),(a::l)++r=a::(l++r))/\(∀r:List α,([]:List α)++r=r):=⟨λ_ _ _=>rfl,λ_=>rfl⟩
def run_mem {A P d}{C:List (Nat×FE)}{D}(Q:xg P C)(O:qw A P d D){L k f a5 q j B}(E:a5.all rE=true)(N:Br d C D L k f a5 [] d=some (.val q j B)):
 aq P f a5 [A] (λu dl=>∃σ,jG d σ [q] j B/\u=rn σ q/\dl=[A,kq [] σ j]):=by
 have g:jG d ⟨λi=>i,λ_=>0,λ_=>0,λ_=>[]⟩ a5 [] d:=⟨λ_ _=>⟨rfl,rfl⟩,Qs _,(λp m=>by cases m),(λp m=>by cases m),(λp m=>by cases m),λu s=>cu.plain (vf.1 E u s)⟩;have F:=Ξ Q O L k f a5 [] d _ N _ g;have I:a5.map (rn ⟨λi=>i,λ_=>0,λ_=>0,λ_=>[]⟩)=a5:=by
  conv=>rhs;rw[<- List.map_id a5]
  exact QD λu s=>eL (vf.1 E u s)
 rw[I]at F;have G:=F.conv (H:=[A]) (R:=[]) (Q':=λu dl=>∃σ,jG d σ [q] j B/\u=rn σ q/\dl=[A,kq [] σ j]) (Z':=λ_ _=>False) (by simp[fq,kq]) ?_ ?_
 .exact G.fun
 .rintro u dl ⟨v1,M,S,h,e,_,_,K,rfl,rfl⟩
  cases e;exact⟨[A,kq [] h j],⟨h,K,rfl,rfl⟩,ap.perm (by simpa using Jo)⟩
 .rintro ch dl ⟨J,M,S,h,e,_⟩
  cases e
def Ui(h:Mp)(w:Nat)(b n c:Nat):Bool:=match Nat.blt c ni with
 |true=>Nat.ble n c
 |false=>match ui h b with
  |some (.grow s vs)=>Nat.beq s w&&Nat.beq c ni&&Nat.blt 0 w&&Nat.ble (n*w) vs.length
  |_=>false
def IA {q I σ A h}(g:jG q σ A h I){w b n c}(d:Ui h w b n c=true):n<=J2 σ b c:=by
 unfold Ui at d;unfold J2;split at d
 .rename_i j;rw[if_pos (Gc j)];exact me d
 .rename_i j;split at d
  case h_2=>cases d
  rename_i s vs H;simp only[vG]at d;obtain⟨⟨⟨B,C⟩,D⟩,E⟩:=d;obtain rfl:=uA B;obtain rfl:=uA C;rw[if_neg (Nat.lt_irrefl _),Qy,Nat.sub_zero];have m:=g.grow _ (yK H);have m:vs.length+(σ.tl b).length=σ.cap b*s:=m;have F:=me E;have G:=Gc D;exact Nat.le_of_mul_le_mul_right (Qu F Zo) G
def Hr {α:Type}(f:List Value->Option α)(w:Nat):Nat->List Value->Option (List α)
 |0,_=>some []
 |n+1,us=>match f (us.take w)with
  |some x=>match Hr f w n (us.drop w)with
   |some l=>some (x::l)
   |none=>none
  |none=>none
def sQ {α:Type}{f:List Value->Option α}{w:Nat}:∀{n:Nat} {us:List Value} {l:List α},Hr f w n us=some l->l.length=n/\∀i x,l[i]? =some x->f ((us.drop (i*w)).take w)=some x
 |0,us,l,h=>by
  obtain rfl:[]=l:=X8 h;exact⟨rfl,λi x d=>by simp at d⟩
 |n+1,us,l,h=>by
  rw[Hr]at h;split at h
  case h_2=>cases h
  rename_i x d;split at h
  case h_2=>cases h
  rename_i r q;obtain rfl:=X8 h;obtain⟨j,m⟩:=sQ q;refine⟨by rw[Q0,j],λi y g=>?_⟩;cases i with
  |zero=>
   obtain rfl:x=y:=by simpa using g
   simpa using d
  |succ i=>
   have:=m i y (by simpa using g);rw[List.drop_drop]at this;rw[Nat.succ_mul,Nat.add_comm];exact this
def rdSl {α:Type}(h:Mp)(w:Nat)(f:List Value->Option α):Value->Option (List α)
 |.slice none 0 _=>some []
 |.slice (some ⟨b,o,none⟩) n c=>match Nat.beq o 0&&Ui h w b n c with
  |true=>match lL h b 0 (n*w)with
   |some us=>Hr f w n us
   |none=>none
  |false=>none
 |_=>none
def C2 {C I σ D h}(g:jG C σ D h I){α:Type}{w}{f:List Value->Option α}{v}{l:List α}(d:rdSl h w f v=some l):
 ∃(a:Option Addr) (c bk o:Nat) (us:Nat->List Value),rn σ v=.slice a l.length c/\(0<l.length->a=some ⟨bk,o,none⟩/\l.length<=c)/\(∀i,i<l.length->∀y∈kA bk (o+i*w) (us i),y∈kq [] σ h)/\∀i x,l[i]? =some x->∃ws,us i=ws.map (rn σ)/\f ws=some x:=by
 unfold rdSl at d;split at d
 .obtain rfl:[]=l:=X8 d;exact⟨none,_,0,0,λ_=>[],by simp;rfl,λh=>absurd h Zs,λi s=>absurd s Zs,λi x q=>by simp at q⟩
 .rename_i b o n c;split at d
  case h_2=>cases d
  rename_i j;rw[vG]at j;obtain rfl:=uA j.1;split at d
  case h_2=>cases d
  rename_i us B;obtain⟨E,F⟩:=sQ d;have I7:=IA g j.2;have G:=fK (σ:=σ) (A:=[]) B;have hl:=po B;refine⟨some ⟨σ.tu b,σ.off b,none⟩,J2 σ b c,σ.tu b,σ.off b,λi=>((us.drop (i*w)).take w).map (rn σ),?_,λ_=>⟨rfl,Zo⟩,λi s y H=>?_,λi x q=>⟨_,rfl,F i x q⟩⟩
  .rw[E,bE];rfl
  .refine G y ?_;rw[Qo];refine nq (i:=i*w) (m:=w) ?_ y H;show((us.drop (i*w)).take w).map (rn σ)=((us.map (rn σ)).drop (i*w)).take w;rw[List.map_take,List.map_drop]
 .cases d
def rdStr:List Value->Option ByteArray
 |[.string s]=>match Nat.ble s.size 1000 with|true=>some s|false=>none
 |_=>none
def uO(h:Mp)(v:Value):Option (List ByteArray):=match rdSl h 1 rdStr v with
 |some l=>match Nat.ble l.length 1000 with|true=>some l|false=>none
 |none=>none
def fF {A K σ B h}(g:jG A σ B h K){v l}(j:uO h v=some l):dU (kq [] σ h) (rn σ v) l:=by
 unfold uO at j;split at j
 case h_2=>cases j
 rename_i l' I;split at j
 case h_2=>cases j
 rename_i m;obtain rfl:=X8 j;have m:=me m;obtain⟨a,c,bk,o,us,D,E,F,G⟩:=C2 g I;refine⟨a,c,D,Zo,λi t q=>?_⟩;have H:=(Vt.1 q).1;obtain⟨ws,C,d⟩:=G i t q;unfold rdStr at d;split at d
 case h_2=>cases d
 rename_i s;split at d
 case h_2=>cases d
 rename_i J;obtain rfl:=X8 d;refine⟨bk,o,(E Zo).1,?_,by have:=me J;omega⟩;refine F i H _ ?_;rw[C,Nat.mul_one];exact kI.2 ⟨0,.string s,Zs,rfl⟩
def ndOkB(k lk ln lb p:Int)(s lt:ByteArray)(n:Nat):Bool:=decide (0<=k/\k<256/\0<=lk/\lk<256/\0<=lb/\lb<18446744073709551616)&&decide (-9223372036854775808<=ln/\ln<=9223372036854775807/\-9223372036854775808<=p/\p<=9223372036854775807)&&(Nat.ble s.size 1000&&Nat.ble lt.size 1000&&Nat.ble n 1000)
def rdNdC(kr:Value->Option (List Nd))(h:Mp):List Value->Option Nd
 |[.int .u8 k,.string s,.int .u8 lk,.int .i64 ln,.int .u64 lb,.string lt,.slice none 0 _,av,tv,kv,.int .i64 p]=>match uO h av with
  |some a=>match uO h tv with
   |some t=>match kr kv with
    |some ks=>match ndOkB k lk ln lb p s lt ks.length with
     |true=>some (.mk k.toNat s (.mk lk.toNat ln lb.toNat lt []) a t ks p)
     |false=>none
    |none=>none
   |none=>none
  |none=>none
 |_=>none
def XP:Nat->Mp->Value->Option (List Nd)
 |0,_,_=>none
 |f+1,h,v=>rdSl h 11 (rdNdC (XP f h) h) v
def JV {X nx σ Z h}(g:jG X σ Z h nx):∀(f:Nat) (v:Value) (l:List Nd),XP f h v=some l->
 ∃(a:Option Addr) (c bk o:Nat) (us:Nat->List Value),rn σ v=.slice a l.length c/\(0<l.length->a=some ⟨bk,o,none⟩/\l.length<=c)/\(∀i,i<l.length->∀y∈kA bk (o+i*11) (us i),y∈kq [] σ h)/\∀i x,l[i]? =some x->jD (kq [] σ h) x (us i):=by
 intro f
 induction f with
 |zero=>intro v l h;cases h
 |succ f ih=>
  intro v l hr;obtain⟨a,c,bk,o,us,h1,h2,h3,h4⟩:=C2 g hr;refine⟨a,c,bk,o,us,h1,h2,h3,λi x J=>?_⟩;obtain⟨ws,e1,d⟩:=h4 i x J;rw[e1];unfold rdNdC at d;split at d
  case h_2=>cases d
  rename_i k s lk ln lb lt j F H K p;split at d
  case h_2=>cases d
  rename_i A hA;split at d
  case h_2=>cases d
  rename_i T hT;split at d
  case h_2=>cases d
  rename_i D lX;split at d
  case h_2=>cases d
  rename_i I;obtain rfl:=X8 d;unfold ndOkB at I;simp only[vG,decide_eq_true_eq]at I;obtain⟨⟨⟨b1,b2,b3,b4,b5,b6⟩,b7,b8,b9,Y⟩,⟨m,q⟩,B⟩:=I;have m:=me m;have q:=me q;have B:=me B;obtain⟨E,G,C,U,L,k1,k2,Q,S⟩:=ih K D lX;have M:yc (kq [] σ h) (.mk lk.toNat ln lb.toNat lt []) [cv lk.toNat,vi ln,uv lb.toNat,.string lt,.slice none 0 j]:=.mk (a:=none) (c:=j) (bk:=0) (o:=0) (us:=λ_=>[]) ⟨Zo,Zo,Zo,Zo,Zd⟩ (λh=>absurd h Zs) (λi hi=>absurd hi Zs) (λi x J=>by simp at J);have N:=fF g hA;have O:=fF g hT;by_cases pR:0<D.length
  .obtain⟨k5,k6⟩:=k2 pR;have:=jD.mk (k:=k.toNat) (s:=s) (p:=p) (a:=E) (c:=G) (bk:=C) (o:=U) (us:=L) (ak:=D) ⟨Zo,Zo,Zo,Zo⟩ M N O (λ_=>k5) Q S k6;have e:([Value.int .u8 k,.string s,.int .u8 lk,vi ln,.int .u64 lb,.string lt,.slice none 0 j,F,H,K,vi p]).map (rn σ)=[cv k.toNat,.string s]++[cv lk.toNat,vi ln,uv lb.toNat,.string lt,.slice none 0 j]++[rn σ F,rn σ H,.slice E D.length G,vi p]:=zCJ
   rw[e];exact this
  .have W:D=[]:=vy Zo;subst W;have:=jD.mk (k:=k.toNat) (s:=s) (p:=p) (a:=E) (c:=G) (bk:=C) (o:=U) (us:=L) (ak:=[]) ⟨Zo,Zo,Zs,Zo⟩ M N O (λh=>absurd h Zs) Q S (X0 _);have e:([Value.int .u8 k,.string s,.int .u8 lk,vi ln,.int .u64 lb,.string lt,.slice none 0 j,F,H,K,vi p]).map (rn σ)=[cv k.toNat,.string s]++[cv lk.toNat,vi ln,uv lb.toNat,.string lt,.slice none 0 j]++[rn σ F,rn σ H,.slice E ([]:List Nd).length G,vi p]:=zCJ
   rw[e];exact this
def EV {α:Type}{X F:α}(_h:F=X:=by(dsimp only[qm,qk,qz,qo,ql,qf,qi,qb,qc,qn,qs,qp,qa,qr,qe,tmps,qx,qL,qN,qB,qt,qu,qS,qC,nthO,ordO,JN,qD]<;>exact rfl)):α:=F
def insN(x:Nat):List Nat->List Nat
 |[]=>[x]
 |y::r=>if x<y then x::y::r else if x=y then y::r else y::insN x r
def Eg(a b:List Nat):List Nat:=b.foldr insN a
def tmN:List Operand->List Nat
 |[]=>[]
 |.tmp t::r=>t::tmN r
 |_::r=>tmN r
def delN(d:Nat):List Nat->List Nat
 |[]=>[]
 |y::r=>if d=y then delN d r else y::delN d r
def regN:List Oper->List Nat->List Nat
 |[],a=>a
 |o::r,a=>Eg (match o.dst with|some d=>delN d (regN r a)|none=>regN r a) (tmN o.op.operands.toList)
def itN(f:List Nat->List Nat):Nat->List Nat->List Nat
 |0,l=>l
 |n+1,l=>match Eg l (f l)with|m=>if m.length=l.length then l else itN f n m
def NM(ps:List Nat):List Nat->List Nat
 |[]=>[]
 |y::r=>if ps.contains y then NM ps r else y::NM ps r
def RJ(rt:List Nat):Code->List Nat->List (Nat×List Nat)->List Nat
 |.region _ ops _,a,_=>regN ops.toList a
 |.seq x y,a,ex=>RJ rt x (RJ rt y a ex) ex
 |.cond c x y,a,ex=>Eg (Eg (RJ rt x a ex) (RJ rt y a ex)) (tmN [c])
 |.block id b,a,ex=>RJ rt b a ((id,a)::ex)
 |.loop b,_,ex=>itN (λl=>RJ rt b l ex) 20 []
 |.exit id,_,ex=>assoc ex id
 |.ret,_,_=>rt
 |.scope b,a,ex=>RJ rt b a ex
 |.rangeFunc g ps x b,a,ex=>Eg (Eg (NM ps.toList (RJ rt x (RJ rt b [] ex) ex)) a) (tmN [g])
 |_,a,_=>a
def Z1(rt:List Nat):Code->List Nat->List (Nat×List Nat)->List (Nat×List Nat)
 |.region id _ _,a,_=>[(id,a)]
 |.seq x y,a,ex=>Z1 rt x (RJ rt y a ex) ex++Z1 rt y a ex
 |.cond _ x y,a,ex=>Z1 rt x a ex++Z1 rt y a ex
 |.block id b,a,ex=>Z1 rt b a ((id,a)::ex)
 |.loop b,_,ex=>Z1 rt b (itN (λl=>RJ rt b l ex) 20 []) ex
 |.scope b,a,ex=>Z1 rt b a ex
 |.rangeFunc _ _ x b,_,ex=>Z1 rt x (RJ rt b [] ex) ex++Z1 rt b [] ex
 |_,_,_=>[]
def Si:List ResultVar->List Nat
 |[]=>[]
 |.tmp t::r=>insN t (Si r)
 |.cell a _::r=>insN a (Si r)
def keepN(P:Program)(f:Nat):List (Nat×List Nat):=match P.funcs[f]? with
 |some fn=>match fn.body with
  |some c=>Z1 (Si fn.results.toList) c (Si fn.results.toList) []
  |none=>[]
 |none=>[]
def gOp(P:Program):Op->Option R
 |.call c=>match c.callee with
  |.value (.func f)=>some (.call f c.args.toList)
  |_=>jJ P (.call c)
 |o=>jJ P o
def gL(P:Program)(ops:Array Oper):List Oper->List RO
 |[]=>[]
 |o::r=>match gOp P o.op with
  |none=>gL P ops r
  |some x=>match o.guard with
   |none=>⟨o.dst,none,x⟩::gL P ops r
   |some (j,b)=>⟨o.dst,((ops[j]?).bind (·.dst)).map (·,b),x⟩::gL P ops r
def gR(P:Program)(od:List (Nat×List (List Nat)))(id:Nat)(ops:Array Oper)(a:List Nat):Bool->IC
 |false=>.oJ (gL P ops ops.toList) a
 |true=>match assoc od id with
  |[]=>.free (gL P ops ops.toList) (lh ops) a
  |o::r=>.draw (JN (gL P ops ops.toList) (o::r)) a
def gC(P:Program)(od:List (Nat×List (List Nat)))(rt:List Nat):Code->List Nat->List (Nat×List Nat)->List Nat×IC
 |.region id ops d,a,_=>(regN ops.toList a,gR P od id ops a d)
 |.seq x y,a,ex=>match gC P od rt y a ex with|(l,p)=>match gC P od rt x l ex with|(m,q)=>(m,.seq q p)
 |.cond c x y,a,ex=>match gC P od rt x a ex with|(l,p)=>match gC P od rt y a ex with|(m,q)=>(Eg (Eg l m) (tmN [c]),.cond c p q)
 |.block id b,a,ex=>match gC P od rt b a ((id,a)::ex)with|(l,p)=>(l,.block id p)
 |.loop b,_,ex=>match itN (λl=>RJ rt b l ex) 20 []with|l=>match gC P od rt b l ex with|(m,p)=>(m,.loop p)
 |.exit id,_,ex=>(assoc ex id,.exit id)
 |.ret,_,_=>(rt,.ret)
 |.scope b,a,ex=>match gC P od rt b a ex with|(l,p)=>(l,.scope p)
 |.rangeFunc g ps x b,a,ex=>match gC P od rt b [] ex with|(l,p)=>match gC P od rt x l ex with|(m,q)=>(Eg (Eg (NM ps.toList m) a) (tmN [g]),.iR g ps.toList q p)
 |.label l,a,_=>(a,.label l)
 |_,a,_=>(a,.skip)
def gF(P:Program)(fn:Func)(od:List (Nat×List (List Nat))):Option aP:=match fn.body,zD P fn.results.toList with
 |some c,some r=>some ⟨fn.ntmps,r,(gC P od (Si fn.results.toList) c (Si fn.results.toList) []).2⟩
 |_,_=>none
def aY(P:Program)(f:Nat)(od:List (Nat×List (List Nat))):Option aP:=Jy P (assoc (keepN P f)) (assoc od) f
def mkA {α:Type}(l:List α):Array.mk l=l.toArray:=rfl
def aZ {o:Option aP}{F:aP}(_h:o=some F:=by(apply Eq.trans;cbv;dsimp only[mkA]<;>exact rfl)):aP:=F
def Sat.below {w w' L}(h:RowKit.Below w.heap.size w w')(d:Sat w L):Sat w' L:=by
 refine⟨λx g=>?_,d.nodup⟩;have hl:=d.lt g;have hh:=d.holds x g;cases x with
 |cell b off v=>
  obtain⟨c,t,lo,hi,hb,r⟩:=hh;exact⟨c,t,lo,hi,by rw[h.block b hl];exact hb,r⟩
 |obj b o=>exact⟨by rw[h.block b hl];exact hh.1,hh.2⟩
 |row b n=>
  exact zFU
 |own b n=>
  exact zFU
def j9.below {w w'}(h:RowKit.Below w.heap.size w w'):j9 w w':=
 ⟨h.os,h.output,h.size,λi c t lo hi d=>⟨c,by rw[h.block i (v9.1 d).1];exact d,rfl,λ_ _=>rfl⟩⟩
def aq.JL {P:Program}{f:Nat}{a5:List Value}{Q:Value->Prop}(m:wK P f=true)(h:∀w,Calls P f a5.toArray w λe w'=>∃v,e=.returned v/\Q v/\w'=w):aq P f a5 [] (λv dl=>Q v/\dl=[]):=
 ⟨m,λF w q=>(h w).mono λe w' ⟨v,d,g,j⟩=>by subst j;exact⟨v,[],d,⟨g,rfl⟩,q,.refl _⟩⟩
def aq.E6 {P:Program}{f:Nat}{a5:List Value}{Q:Value->Prop}{A:List kC}(q:wK P f=true)(h:∀w F,Sat w (A++F)->Calls P f a5.toArray w λe w'=>∃v,e=.returned v/\Q v/\RowKit.Below w.heap.size w w'):aq P f a5 [A] (λv dl=>Q v/\dl=[A]):=
 ⟨q,λF w g=>(h w F (by simpa using g)).mono λe w' ⟨v,j,m,d⟩=>⟨v,[A],j,⟨m,rfl⟩,g.below d,.below d⟩⟩
def kY(s):(kB s).length=s.size:=by simp[kB]
def Lb {s:ByteArray}{i:Nat}{c:UInt8}(h:s[i]? =some c):(kB s)[i]? =some c.toNat:=by
 have d:i<s.size:=by
  by_cases d:i<s.size
  .exact d
  .simp[d]at h
 have g:s.data[i]? =some c:=by
  have j:s[i]? =some s[i]:=by simp[d]
  rw[j]at h;rw[<- h];exact v8 (xs:=s.data) d
 simp[kB,g]
def zx(s):∀c∈kB s,c<256:=by
 intro c d;obtain⟨x,_,rfl⟩:=QO.1 d;exact x.toNat_lt
def jY {s t}(h:kB s=kB t):s=t:=by
 have d:s.data.toList=t.data.toList:=by
  have g:∀l m:List UInt8,l.map UInt8.toNat=m.map UInt8.toNat->l=m:=by
   intro l
   induction l with
   |nil=>intro m e;cases m with|nil=>rfl|cons=>cases e
   |cons a l ih=>
    intro m e;cases m with
    |nil=>cases e
    |cons b m=>
     simp only[QE,vp]at e;rw[UInt8.toNat_inj.1 e.1,ih m e.2]
  exact g _ _ h
 exact ByteArray.ext (vD.1 d)
def wD {s i}(h:i < s.size):∃c:UInt8,s[i]? =some c/\(kB s)[i]? =some c.toNat:=⟨s[i],by simp[h],Lb (by simp[h])⟩
def KX:List Nat->Nat->Int
 |[],_=>-1
 |b::l,c=>if b=c then 0 else if KX l c=-1 then -1 else KX l c+1
def ix_eq(l:List UInt8)(c:UInt8):Lib.indexByte l c=KX (l.map UInt8.toNat) c.toNat:=by
 induction l with
 |nil=>rfl
 |cons b l ih=>
  simp only[Lib.indexByte,QE,KX,ih];by_cases h:b=c
  .subst h;simp
  .have:b.toNat≠c.toNat:=λe=>h (UInt8.toNat_inj.1 e)
   simp[h,this]
def ixN_bin {c}(h:c < 256):decide (0<=KX [43,45,42,47,92,126,60,62,61,64,37,38,63,44,33] c)=cU c:=by
 have d:∀c:Fin 256,decide (0<=KX [43,45,42,47,92,126,60,62,61,64,37,38,63,44,33] c.val)=cU c.val:=by decide+kernel
 exact d ⟨c,h⟩
def RE(l c):(KX l c=-1/\c∉l)∨∃p r:List Nat,l=p++c::r/\c∉p/\KX l c=p.length:=by
 induction l with
 |nil=>exact .inl ⟨rfl,Zs⟩
 |cons b l ih=>
  by_cases h:b=c
  .subst h;exact .inr ⟨[],l,rfl,Zs,by simp[KX]⟩
  .rcases ih with⟨h1,h2⟩|⟨p,r,h1,h2,h3⟩
   .exact .inl ⟨by simp[KX,h,h1],by simp[h2,Ne.symm h]⟩
   .refine .inr ⟨b::p,r,by simp[h1],by simp[h2,Ne.symm h],?_⟩;have d:¬((p.length:Int)=-1):=by omega
    simp[KX,h,h3,d]
def xM:∀{l:List Nat},58∉l->jE l=[l]:=by
 intro l
 induction l with
 |nil=>intro _;rfl
 |cons b l ih=>
  intro h;simp only[QJ,not_or]at h;simp only[jE,if_neg (Ne.symm h.1),ih h.2]
def oF:∀{p r:List Nat},58∉p->jE (p++58::r)=(p++[58])::jE r:=by
 intro p r
 induction p with
 |nil=>intro _;simp[jE]
 |cons b p ih=>
  intro h;simp only[QJ,not_or]at h;simp only[vq,jE,if_neg (Ne.symm h.1),ih h.2]
def Nv {l:List Nat}{p:Nat->Bool}{e:Nat}(h1:e<=l.length)(g:∀k,k < e->p (l.getD k 0)=true)(j:e < l.length->p (l.getD e 0)=false):l.all p=decide (e=l.length):=by
 by_cases h:e=l.length
 .rw[Zt h,vf];intro x q;obtain⟨i,m,rfl⟩:=List.getElem_of_mem q;have:=g i Zo
  rwa [Vh,Zg m]at this
 .rw[Zf h,List.all_eq_false];have d:e<l.length:=by omega
  have:=j d;rw[Vh,Zg d]at this;exact⟨_,List.getElem_mem d,by simpa using this⟩
def ep {s}(h:s≠⟨#[]⟩):∃(c:UInt8) (r:List Nat),s[0]? =some c/\kB s=c.toNat::r/\c.toNat<256/\0<s.size:=by
 have g:0<s.size:=by
  rcases Qq s.size with h2|h2
  .exact absurd (ByteArray.ext (v7 h2)) h
  .exact h2
 obtain⟨c,j,d⟩:=wD g;refine⟨c,(kB s).tail,j,?_,c.toNat_lt,g⟩;cases hb:kB s with
 |nil=>rw[hb]at d;cases d
 |cons a r=>rw[hb]at d;cases d;rfl
def jf(s a b):kB (s.extract a b)=((kB s).take b).drop a:=by
 simp only[kB,ByteArray.data_extract,Array.toList_extract,List.extract_eq_take_drop,List.map_take,List.map_drop,List.drop_take]
def ofN(l:List Nat):ByteArray:=⟨(l.map Nat.toUInt8).toArray⟩
def Lc {l}(h:∀c∈l,c < 256):kB (ofN l)=l:=by
 simp only[kB,ofN,QF]
 conv=>rhs;rw[<- List.map_id l]
 refine QD λc d=>?_
 exact Nat.mod_eq_of_lt (h c d)
def xL(l):(jE l).flatten=l:=by
 induction l with
 |nil=>rfl
 |cons c r ih=>
  simp only[jE];split
  .rename_i h;simp[ih,h]
  .cases h:jE r with
   |nil=>rw[h]at ih;simp at ih;simp[<- ih]
   |cons p ps=>rw[h]at ih;simp at ih|-;exact ih
def Sb(t):∃d:List ByteArray,d.map kB=jE (kB t):=by
 have h:∀p∈jE (kB t),∀c∈p,c<256:=λp g c j=>zx t c (by rw[<- xL (kB t)];exact List.mem_flatten.2 ⟨p,g,j⟩)
 generalize jE (kB t)=l at h;refine⟨l.map ofN,?_⟩;rw[QF]
 conv=>rhs;rw[<- List.map_id l]
 exact QD λp g=>Lc (h p g)
def runL_eq {on}:∀{l:List Nat} {e:Nat},e<=l.length->(∀k,k<e->on (l.drop k)=true)->(e<l.length->on (l.drop e)=false)->D9 on l=e:=by
 intro l
 induction l with
 |nil=>intro e h _ _;simp at h;simp[D9,h]
 |cons c r ih=>
  intro e h g j;cases e with
  |zero=>
   have:=j Zs;simp only[vx]at this;simp[D9,this]
  |succ e=>
   have d:=g 0 Zo;simp only[vx]at d;have:=ih (e:=e) (by simpa using h) (λk m=>by simpa using g (k+1) Zo) (λm=>by simpa using j (by simpa using m));simp[D9,d,this];omega
def xS {l:List Nat}{k:Nat}{c:Nat}(h:l[k]? =some c):gG (l.drop k)=(cU c&&(decide (c≠45)||!wV (l.getD (k+1) 0))):=by
 obtain⟨d,rfl⟩:=Vt.1 h;rw[vt d];simp only[gG]
 congr 2
 rw[Vh];by_cases h2:k+1<l.length
 .rw[vt h2];simp[h2]
 .rw[vw Zo,Vp Zo];rfl
def Yl {c r e}(g:c≠124)(s:cU c=true)(j:e<=(c::r).length)(m:∀k,k < e->1<=k->gG ((c::r).drop k)=true)(q:e < (c::r).length->1<=e/\gG ((c::r).drop e)=false):fp (c::r)=e∨(e=0):=by
 cases e with
 |zero=>exact .inr rfl
 |succ e=>
  left;simp only[fp,if_neg g,s,if_true];have:=runL_eq (on:=gG) (l:=r) (e:=e) (by simpa using j) (λk d=>by simpa using m (k+1) Zo Zo) (λd=>by simpa using(q (by simpa using d)).2);omega
def pO(s t):kB (s++t)=kB s++kB t:=by
 simp[kB]
def Rn {w:World}{a b:kC}(B:a.holds w)(s:b.holds w)(h:a.loc=b.loc):a=b:=by
 cases a with
 |cell i k v=>
  cases b with
  |cell j l u=>
   simp only[kC.loc,XA,X9]at h;obtain⟨rfl,rfl⟩:=h;obtain⟨c,t,D,C,g,A,_⟩:=B;obtain⟨F,H,E,G,d,q,_⟩:=s;rw[g]at d;cases d;rw[A]at q;cases q;rfl
  |obj j o=>simp[kC.loc]at h
  |row j n=>simp[kC.loc]at h
  |own j n=>
   simp only[kC.loc,XA,X9]at h;obtain⟨rfl,rfl⟩:=h;obtain⟨c,t,D,C,g,A,_⟩:=B;obtain⟨F,H,E,G,d,q,_⟩:=s;rw[g]at d;cases d;have:=(v9.1 A).1;omega
 |own i n=>
  obtain⟨c,t,D,C,g,A,_⟩:=B;cases b with
  |cell j l u=>
   simp only[kC.loc,XA,X9]at h;obtain⟨rfl,rfl⟩:=h;obtain⟨F,H,E,G,d,q,_⟩:=s;rw[g]at d;cases d;have:=(v9.1 q).1;omega
  |obj j p=>simp[kC.loc]at h
  |row j m=>simp[kC.loc]at h
  |own j m=>
   simp only[kC.loc,XA,X9]at h;obtain⟨rfl,rfl⟩:=h;rfl
 |row i n=>
  obtain⟨c,t,D,C,g,A⟩:=B;cases b with
  |cell j l u=>simp[kC.loc]at h
  |obj j p=>
   simp only[kC.loc,XA,and_true]at h;subst h;have d:=s.1;rw[g]at d;cases d;exact absurd s.2 (by simp[zF])
  |row j m=>
   simp only[kC.loc,XA,and_true]at h;subst h;obtain⟨F,H,E,G,d,q⟩:=s;rw[g]at d;cases d;rw[A]at q;rw[q]
  |own j m=>simp[kC.loc]at h
 |obj i o=>
  cases b with
  |cell j l u=>simp[kC.loc]at h
  |obj j p=>
   simp only[kC.loc,XA,and_true]at h;subst h;have g:=B.1;rw[s.1]at g;cases g;rfl
  |row j n=>
   simp only[kC.loc,XA,and_true]at h;subst h;obtain⟨c,t,D,C,g,A⟩:=s;have d:=B.1;rw[g]at d;cases d;exact absurd B.2 (by simp[zF])
  |own j n=>simp[kC.loc]at h
def J7 {w}:∀L:List kC,(∀a∈L,a.holds w)->∃d,Sat w d/\∀a∈L,a∈d:=by
 intro L
 induction L with
 |nil=>intro _;exact⟨[],⟨Zs,Zs⟩,Zs⟩
 |cons x L ih=>
  intro h;obtain⟨d,g,j⟩:=ih (λa ha=>h a (by simp[ha]));by_cases hx:x.loc∈d.map kC.loc
  .obtain⟨y,m,e⟩:=QO.1 hx;have:y=x:=Rn (g.holds y m) (h x Zs) e;subst this;refine⟨d,g,λa ha=>?_⟩;rcases QJ.1 ha with rfl|ha
   .exact m
   .exact j a ha
  .refine⟨x::d,⟨λa ha=>?_,by simp only[QE,QX];exact⟨hx,g.nodup⟩⟩,λa ha=>?_⟩
   .rcases QJ.1 ha with rfl|ha
    .exact h a Zs
    .exact g.holds a ha
   .rcases QJ.1 ha with rfl|ha
    .simp
    .simp[j a ha]
def dk(w:World)(i:Nat):List kC:=match w.heap[i]? with
 |some (.cells c _ (lo,hi))=>.row i c.size::(if lo<=c.size/\c.size<hi then []else [.own i c.size])++(List.range c.size).filterMap λj=>if lo<=j/\j<hi then none else(c[j]?).map λv=>.cell i j v
 |some o=>[.obj i o]
 |none=>[]
def sat_all(w):∃L,Sat w L/\∀a:kC,a.holds w->a∈L:=by
 obtain⟨L,C,D⟩:=J7 (w:=w) ((List.range w.heap.size).flatMap (dk w)) (by
  intro a ha;obtain⟨i,_,ha⟩:=QN.1 ha;unfold dk at ha;split at ha
  .rename_i c t q m hb;rcases QH.1 ha with ha|ha
   .rcases QJ.1 ha with rfl|ha
    .exact⟨c,t,q,m,hb,rfl⟩
    .split at ha
     .cases ha
     .rename_i g;obtain rfl:=QU.1 ha;exact⟨c,t,q,m,hb,rfl,g⟩
   obtain⟨j,_,s⟩:=List.mem_filterMap.1 ha;split at s
   .cases s
   .rename_i g;simp only[X5]at s;obtain⟨v,A,rfl⟩:=s;exact⟨c,t,q,m,hb,A,g⟩
  .rename_i o B hb;simp only[QU]at ha;subst ha;refine⟨hb,?_⟩;cases o<;>first|rfl|(rename_i c t fr;exact absurd rfl (B c t fr.1 fr.2))
  .cases ha)
 refine⟨L,C,λa ha=>D a ?_⟩;cases a with
 |cell i k v=>
  obtain⟨c,t,q,m,hb,A,g⟩:=ha;have d:i<w.heap.size:=zCH
  refine QN.2 ⟨i,QS.2 d,?_⟩;unfold dk;rw[hb];refine QI _ (List.mem_filterMap.2 ⟨k,QS.2 (v9.1 A).1,?_⟩);rw[if_neg g,A];rfl
 |own i n=>
  obtain⟨c,t,q,m,hb,rfl,g⟩:=ha;have d:i<w.heap.size:=zCH
  refine QN.2 ⟨i,QS.2 d,?_⟩;unfold dk;rw[hb];refine Zw _ (QK _ ?_);rw[if_neg g];exact QU.2 rfl
 |row i n=>
  obtain⟨c,t,q,m,hb,rfl⟩:=ha;have d:i<w.heap.size:=zCH
  refine QN.2 ⟨i,QS.2 d,?_⟩;unfold dk;rw[hb];exact Zw _ (QL ..)
 |obj i o=>
  obtain⟨hb,E⟩:=ha;have d:i<w.heap.size:=zCH
  refine QN.2 ⟨i,QS.2 d,?_⟩;unfold dk;rw[hb];cases o<;>first|(simp;done)|(simp[zF]at E)
def Xu {w w' L}(C:∀a:kC,a.holds w->a∈L)(D:Sat w' L)(I:j9 w w'):∀i,i<w.heap.size->w'.heap[i]? =w.heap[i]?:=by
 intro i G;have d:w.heap[i]? =some w.heap[i]:=v8 G;generalize w.heap[i]=o at d;rw[d];by_cases hc:zF o=false
 .exact(D.holds _ (C (.obj i o) ⟨d,hc⟩)).1
 .cases o<;>first|(exact absurd rfl hc)|skip
  rename_i c t fr;obtain⟨q,m⟩:=fr;obtain⟨c',B,E,F⟩:=I.cells i c t q m d;rw[B]
  congr 2
  apply Array.ext E;intro j g h;by_cases hf:q<=j/\j<m
  .have:=F j hf;rw[v8 g,v8 h]at this;exact X8 this
  .obtain⟨c2,t2,J,H,s,A,_⟩:=D.holds _ (C (.cell i j c[j]) ⟨c,t,q,m,d,v8 h,hf⟩);rw[B]at s;cases s;rw[v8 g]at A;exact X8 A
def mapM_mono {α j:Type}{f g:α->Option j}:∀{l:List α} {r:List j},(∀x∈l,∀y,f x=some y->g x=some y)->l.mapM f=some r->l.mapM g=some r:=by
 intro l
 induction l with
 |nil=>intro r _ h;simpa using h
 |cons a l ih=>
  intro r d h;simp only[List.mapM_cons,Option.bind_eq_bind,Option.pure_def,X2]at h|-;obtain⟨y,m,ys,q,s⟩:=h;exact⟨y,d a Zs y m,ys,ih (λx A=>d x (by simp[A])) q,s⟩
def xk {w w':World}(d:∀i,i < w.heap.size->w'.heap[i]? =w.heap[i]?){base n:Nat}{a:Addr}{cs:List Value}(h:w.cells? base a n=some cs):w'.cells? base a n=some cs:=by
 unfold World.cells? at h|-;split at h
 .rename_i m;rw[if_pos m];refine mapM_mono (λi _ v g=>?_) h;have j:=World.block_lt_of_cell? w _ g;unfold World.cell? at g|-;rw[d _ j];exact g
 .cases h
section
variable {H:Type} {enc:TypeId×Value->H} {P:Program} {w w':World} {base:Nat} {sp:Nat->Bool} {held:Bool}
structure tE (P:Program)(ok:TypeId->Prop):Prop where
 ptr:∀t e,ok t->P.underlying t=some (.pointer e)->ok e
 slice:∀t e,ok t->P.underlying t=some (.slice e)->ok e/\0<P.cellsOf e
 struct:∀t fs,ok t->P.underlying t=some (.struct fs)->∀f∈fs.toList,ok f.type
 array:∀t n e,ok t->P.underlying t=some (.array n e)->ok e
 map:∀t k e,ok t->P.underlying t=some (.map k e)->ok e
def NH(P:Program)(S:List TypeId):Bool:=S.all λt=>match P.underlying t with
 |some (.pointer e)=>S.contains e
 |some (.slice e)=>S.contains e&&decide (0<P.cellsOf e)
 |some (.struct fs)=>fs.toList.all λf=>S.contains f.type
 |some (.array _ e)=>S.contains e
 |some (.map _ e)=>S.contains e
 |_=>true
def Pk {S:List TypeId}(h:NH P S=true):tE P (·∈S):=by
 have j:=vf.1 h;refine⟨λt e d g=>?_,λt e d g=>?_,λt fs d g f m=>?_,λt n e d g=>?_,λt k e d g=>?_⟩
 all_goals have:=j t d
 all_goals rw[g]at this
 all_goals simp only[vr,vG,decide_eq_true_eq,vf]at this
 .exact this
 .exact this
 .exact this f m
 .exact this
 .exact this
def Ef {ok:TypeId->Prop}(K:tE P ok)(s:∀i,i<w.heap.size->w'.heap[i]? =w.heap[i]?)(pY:∀b,b<w.heap.size->sp b=true)
 {r Y:TypeId->List Value->Option (DataW H×List MemPlace)} (I:∀t cs x,ok t->r t cs=some x->Y t cs=some x) {t:TypeId} {cs:List Value} {x:DataW H×List MemPlace} (J:ok t)
 (h:DataW.trodStep enc P w base (λ_=>true) true r t cs=some x):DataW.trodStep enc P w' base sp true Y t cs=some x:=by
 unfold DataW.trodStep at h;split at h
 case h_1 hu=>unfold DataW.trodStep;simp only[hu];exact h
 case h_2 hu=>unfold DataW.trodStep;simp only[hu];exact h
 case h_3 hu=>unfold DataW.trodStep;simp only[hu];exact h
 case h_4 hu=>unfold DataW.trodStep;simp only[hu];exact h
 case h_5 hu=>unfold DataW.trodStep;simp only[hu];exact h
 case h_6 e a hu=>
  unfold DataW.trodStep;simp only[hu];simp only[X5,X2]at h|-;obtain⟨y,⟨A,C,d⟩,E⟩:=h;exact⟨y,⟨A,xk s C,I _ _ _ (K.ptr t e J hu) d⟩,E⟩
 case h_7 hu=>unfold DataW.trodStep;simp only[hu];exact h
 case h_8 e a len cap hu=>
  unfold DataW.trodStep;simp only[hu];obtain⟨W,lC⟩:=K.slice t e J hu;simp only at h;split at h
  .rename_i N;rw[if_pos N];simp only[X5,X2,if_true]at h|-;obtain⟨B,S,rest,F,E⟩:=h;have L:∀i y,(w.cells? base (a.add (i*P.cellsOf e)) (P.cellsOf e)).bind (r e)=some y->(w'.cells? base (a.add (i*P.cellsOf e)) (P.cellsOf e)).bind (Y e)=some y:=by
    intro i y d;simp only[X2]at d|-;obtain⟨A,C,d⟩:=d;exact⟨A,xk s C,I _ _ _ W d⟩
   have nK:(cap-len=0)∨a.block<w.heap.size:=by
    rcases Qq (cap-len)with h0|h0
    .exact .inl h0
    .right;have cz:rest≠[]:=by
      intro hn;subst hn;have:=congrArg List.length (show []=_ from rfl:([]:List Nat)=[]);have G:∀{l:List Nat} {g:Nat->Option (DataW H×List MemPlace)} {q:List (DataW H×List MemPlace)},l.mapM g=some q->q.length=l.length:=by
       intro l g
       induction l with
       |nil=>intro q D;simp at D;subst D;rfl
       |cons a l ih=>
        intro q D;simp only[List.mapM_cons,Option.bind_eq_bind,Option.pure_def,X2]at D;obtain⟨y,_,ys,h2,h3⟩:=D;cases h3;simp[ih h2]
      have:=G F;simp at this;omega
     obtain⟨y,d⟩:=List.exists_mem_of_ne_nil _ cz;obtain⟨j,_,Z⟩:=mapM_mem_of F y d;simp only[X2]at Z;obtain⟨A,C,_⟩:=Z;have:=World.cells?_block C lC;have Q:(a.add ((len+j)*P.cellsOf e)).block=a.block:=by unfold Addr.add;split<;>rfl
     rw[Q]at this;exact this
   refine⟨B,mapM_mono (λi _ y d=>L i y d) S,rest,?_,E⟩;rcases nK with h0|h0
   .rw[h0]at F|-;simp at F|-;subst F;rfl
   .rw[pY _ h0];exact mapM_mono (λi _ y d=>L _ y d) F
  .cases h
 case h_9 fs hu=>
  unfold DataW.trodStep;simp only[hu];split at h
  .rename_i U;rw[if_pos U];simp only[X5]at h|-;obtain⟨xs,E,e⟩:=h;exact⟨xs,mapM_mono (λf T y d=>I _ _ _ (K.struct t fs J hu f T) d) E,e⟩
  .cases h
 case h_10 n e hu=>
  unfold DataW.trodStep;simp only[hu];split at h
  .rename_i U;rw[if_pos U];simp only[X5]at h|-;obtain⟨xs,E,Q⟩:=h;exact⟨xs,mapM_mono (λf _ y d=>I _ _ _ (K.array t n e J hu) d) E,Q⟩
  .cases h
 case h_11 hu=>unfold DataW.trodStep;simp only[hu];exact h
 case h_12 u v hu=>
  unfold DataW.trodStep;simp only[hu];exact h
 case h_13 hu=>unfold DataW.trodStep;simp only[hu];exact h
 case h_14 k e b hu=>
  unfold DataW.trodStep;simp only[hu];split at h
  .rename_i es O N;have aI:b<w.heap.size:=by
    rcases Nat.lt_or_ge b w.heap.size with h'|h'
    .exact h'
    .simp[Array.getElem?_eq_none h']at N
   rw[s b aI,N];dsimp only;split at h
   .rename_i C;rw[if_pos C];simp only[X2]at h|-;obtain⟨m,S,hd⟩:=h;refine⟨m,mapM_mono (λx _ y d=>?_) S,hd⟩;obtain⟨X,hk,M⟩:=X2.1 d;refine X2.2 ⟨X,hk,?_⟩;split at M
    .rename_i T;rw[if_pos T];simp only[X5]at M|-;obtain⟨q,D,e⟩:=M;exact⟨q,I _ _ _ (K.map t k _ J hu) D,e⟩
    .cases M
   .cases h
  .cases h
 case h_15 hu=>unfold DataW.trodStep;simp only[hu];exact h
 case h_16 hu=>unfold DataW.trodStep;simp only[hu];exact h
 case h_17 hu=>unfold DataW.trodStep;simp only[hu];exact h
 case h_18 hu=>unfold DataW.trodStep;simp only[hu];exact h
 case h_19 hu=>unfold DataW.trodStep;simp only[hu];exact h
 case h_20 hu=>unfold DataW.trodStep;simp only[hu];exact h
 case h_21=>cases h
def Sz {ok:TypeId->Prop}(j:tE P ok)(d:∀i,i<w.heap.size->w'.heap[i]? =w.heap[i]?)(m:∀b,b<w.heap.size->sp b=true):
 ∀(n:Nat) (t:TypeId) (cs:List Value) (x:DataW H×List MemPlace),ok t->DataW.trod enc P w base (λ_=>true) true n t cs=some x->DataW.trod enc P w' base sp true n t cs=some x:=by
 intro n
 induction n with
 |zero=>intro t cs x _ h;simp[DataW.trod]at h
 |succ n ih=>
  intro t cs x g h;rw[DataW.trod_step]at h|-;exact Ef j d m ih g h
def tk {ok:TypeId->Prop}(j:tE P ok)(d:∀i,i<w.heap.size->w'.heap[i]? =w.heap[i]?)(m:∀b,b<w.heap.size->sp b=true):
 ∀{g:List TypeId} {vs:List Value} {ds:List (DataW H)} {s:List MemPlace},(∀t∈g,ok t)->DataW.TrodAll enc P w base (λ_=>true) true g vs ds s->DataW.TrodAll enc P w' base sp true g vs ds s
 |[],[],[],_,_,h=>h
 |_::_,_::_,_::_,_,ho,⟨p,q,⟨n,h1⟩,h2,e⟩=>⟨p,q,⟨n,Sz j d m n _ _ _ (ho _ Zs) h1⟩,tk j d m (λt A=>ho t (by simp[A])) h2,e⟩
end
open Go Go.ChangeShapes Go.WideShapes
section
variable {H:Type} {enc:TypeId×Value->H} {P:Program}
def glue {f:FuncId}{fn:Func}{s:ChangeSpec}{Q:TypeId}{g C j:Bool}{W:World}{a5:List Value}{ds F:List (DataW H)}{d:List MemPlace}
 (m:s.vars=[]) (J:fn.resultTypes=#[Q]) (G:P.underlying Q=some .bool) (D:s.fn H (ds++F)={results:=[.lit (.bool true)],args:=ds})
 {ok:TypeId->Prop} (n9:tE P ok) (T:∀t∈fn.params.toList,ok t) (N:DataW.Whole enc P fn.params.toList s.vars g W a5 ds F d)
 (Y:∀A,(∀a:kC,a.holds W->a∈A)->aq P f a5 [A] λv dl=>v=.bool true/\dl=[A]):
 Calls P f a5.toArray W λe E=>∃v,e=.returned v/\s.post enc P fn g C j false W a5.toArray v E:=by
 obtain⟨A,X,K⟩:=sat_all W;have h:=(Y A K).2 [] W (by simpa using X);refine h.mono ?_
 rintro e E ⟨v,dl,rfl,⟨rfl,rfl⟩,Z,I⟩
 have S:Sat E A:=by simpa using Z
 have B:=Xu K S I;refine⟨_,rfl,ds,F,d,[],d,[],by simpa using N,?_,?_,?_,?_,λh=>by cases h⟩
 .rw[J,D];exact trodAll_mk1 ⟨1,by simp[DataW.trod,G,Value.cells]⟩
 .obtain⟨p,q,U,L,M,_,_⟩:=N;rw[m]at L;obtain⟨rfl,rfl⟩:=trodVars_none L;rw[D];simp only[vm]at M;subst M;simpa using tk n9 B (λb G=>by simpa using G) T U
 .rw[D,m];rfl
 .refine⟨I.os,I.output,λi O=>?_⟩;rw[B i O];have:W.heap[i]? =some W.heap[i]:=v8 O;generalize W.heap[i]=o at this;rw[this];cases o<;>first|exact⟨rfl,rfl,rfl,λ_ _=>rfl⟩|exact .inr ⟨rfl,rfl⟩|rfl
def cH {W:World}{b o:Nat}{v:Value}(h:W.cell? ⟨b,o,none⟩=some v)(hf:W.frozen? ⟨b,o,none⟩=false):(kC.cell b o v).holds W:=by
 unfold World.cell? at h;unfold World.frozen? at hf;split at h
 .rename_i c t fr d;obtain⟨m,j⟩:=fr;simp only at d hf h;rw[d]at hf;simp only[vF,decide_eq_false_iff_not]at hf;refine⟨c,t,m,j,d,by simpa using h,λg=>?_⟩;rcases hf with hf|hf
  .exact hf g.1
  .exact hf g.2
 .cases h
end
open Go Go.ChangeShapes Go.WideShapes Go.Deep
inductive SC where
 |int (k:IntKind)
 |str
section
variable {H:Type} {enc:TypeId×Value->H} {P:Program} {W:World} {base:Nat}
def Ir(b o i:Nat):(⟨b,o,none⟩:Addr).add i=⟨b,o+i,none⟩:=by
 unfold Addr.add;split
 .rename_i d;have:i=0:=by simpa using d
  subst this;rfl
 .rfl
def gW {α:Type}{Q:Nat->α->Prop}{n:Nat}(h:∀i,i<n->∃x,Q i x):∃l:List α,l.length=n/\∀i x,l[i]? =some x->Q i x:=by
 induction n with
 |zero=>exact⟨[],rfl,Zs⟩
 |succ n ih=>
  obtain⟨l,g,m⟩:=ih (λi j=>h i Zo);obtain⟨x,q⟩:=h n Zo;refine⟨l++[x],by simp[g],λi y d=>?_⟩;by_cases j:i<l.length
  .rw[Vj j]at d;exact m i y d
  .rw[Vl Zo]at d;have:i=n:=by
    have:=(Vt.1 d).1;simp at this;omega
   subst this;simp[g]at d;subst d;exact q
end
structure Tq {H:Type}(bulk:DataW H->Nat):Prop where
 agg:∀l d,d∈l->bulk d<bulk (.agg l)
 sl:∀es sp d,d∈es->bulk d<bulk (.slice es sp)
 len:∀es sp,es.length<=bulk (.slice es sp)
 sls:∀es sp,(es.map bulk).sum<=bulk (.slice es sp)
 aggs:∀l,(l.map bulk).sum<bulk (.agg l)
 str:∀bs,bs.length<=bulk (.lit (.string bs))
def Da {W:World}{a:Addr}{v:Value}(h:W.cell? a=some v):a=⟨a.block,a.off,none⟩:=by
 obtain⟨b,o,s⟩:=a;cases s with
 |none=>rfl
 |some s=>
  unfold World.cell? at h;split at h
  .simp at h
  .cases h
section
variable {H:Type} {enc:TypeId×Value->H} {P:Program} {bulk:DataW H->Nat}
def AI(J:Tq bulk){t e:TypeId}{g:Nat}(ht:P.underlying t=some (.slice e))(O:P.cellsOf e=g)(T:0<g){W:World}{u:Value}{n:Nat}{x:DataW H×List MemPlace}{A:List kC}(h:DataW.trod enc P W 0 (λ_=>true) true n t [u]=some x)(Q:W.noneFrozen x.2)(Z:∀a:kC,a.holds W->a∈A):
 ∃(a:Option Addr) (k c bk o:Nat) (us:Nat->List Value) (D:Nat->DataW H) (s:Nat->List MemPlace) (m:Nat),u=.slice a k c/\(k<=bulk x.1/\((List.range' 0 k).map λi=>bulk (D i)).sum<=bulk x.1/\k<=c)/\(0<k->a=some ⟨bk,o,none⟩)/\∀i,i<k->bulk (D i)<bulk x.1/\(us i).length=g/\(∀y∈kA bk (o+i*g) (us i),y∈A)/\DataW.trod enc P W 0 (λ_=>true) true m e (us i)=some (D i,s i)/\W.noneFrozen (s i):=by
 rcases open_slice ht h with⟨E,_⟩|⟨a,len,cap,m,U,D,s,H4,_,hl,_,hm,hx,B⟩
 .simp only[vp,and_true]at E;exact⟨none,0,0,0,0,λ_=>[],λ_=>.nil,λ_=>[],0,E,⟨X0 _,X0 _,Qs _⟩,λh=>absurd h (Nat.lt_irrefl 0),λi B=>absurd B (Nat.not_lt_zero _)⟩
 .simp only[vp,and_true]at H4;simp only[if_true]at hm;subst hm;subst hx;rw[O]at B;obtain⟨us,L⟩:∃us:Nat->List Value,∀i,i<m->W.cells? 0 (a.add (i*g)) g=some (us i)/\DataW.trod enc P W 0 (λ_=>true) true U e (us i)=some (D i,s i):=
   ⟨λi=>if h:i<m then(B i h).choose else [],λi h=>by simp only[dif_pos h];exact(B i h).choose_spec⟩
  refine⟨some a,len,m,a.block,a.off,us,D,s,U,H4,⟨?_,?_,Zo⟩,λhk=>?_,λi X=>?_⟩
  .have:=J.len ((List.range len).map D) ((List.range (m-len)).map λj=>D (len+j));simpa using this
  .have:=J.sls ((List.range len).map D) ((List.range (m-len)).map λj=>D (len+j));rw[QF]at this;rw[<- List.range_eq_range'];exact this
  .obtain⟨C,_⟩:=L 0 Zo;obtain⟨_,_,F⟩:=World.cells?_some C;have d:=F 0 T;obtain⟨_,q,_⟩:=World.cells?_some C;rw[Zg Zo]at d;have G:(a.add (0*g)).add 0=a:=by rw[X1];rfl
   rw[G]at d;rw[<- Da d]
  .obtain⟨C,E⟩:=L i Zo;obtain⟨_,q,F⟩:=World.cells?_some C;have ha:a=⟨a.block,a.off,none⟩:=by
    obtain⟨Y,_⟩:=L 0 Zo;obtain⟨_,N,I⟩:=World.cells?_some Y;have d:=I 0 T;rw[Zg Zo]at d;have G:(a.add (0*g)).add 0=a:=by rw[X1];rfl
    rw[G]at d;exact Da d
   refine⟨J.sl _ _ _ (QO.2 ⟨i,QS.2 X,rfl⟩),q,λy hy=>?_,E,λb o K=>Q b o ?_⟩
   .obtain⟨j,v,S,rfl⟩:=kI.1 hy;have gh:=(Vt.1 S).1;have M:=F j Zo;rw[ha,Ir,Ir,S]at M;refine Z _ (cH M (Q _ _ ?_));refine Zw _ (MemPlace.mem_row.2 ⟨i*g+j,?_,?_⟩)
    .rw[O];have:(i+1)*g<=m*g:=Qx _ Zo;rw[Nat.succ_mul]at this;omega
    .rw[Qn]
   .exact QI _ (QN.2 ⟨i,QS.2 Zo,K⟩)
def oH(g:Tq bulk){t e:TypeId}(S:P.underlying t=some (.slice e))(K:P.underlying e=some .string)(I:P.cellsOf e=1){W:World}{u:Value}{n:Nat}{x:DataW H×List MemPlace}{A:List kC}(h:DataW.trod enc P W 0 (λ_=>true) true n t [u]=some x)(L:W.noneFrozen x.2)(F:∀a:kC,a.holds W->a∈A)(eU:bulk x.1<=1048576):
 ∃l:List ByteArray,dU A u l/\l.length<=bulk x.1:=by
 obtain⟨a,k,c,bk,o,us,D,Pl,m,rfl,⟨hk,_⟩,G,M⟩:=AI g S I Zd h L F;obtain⟨l,N,j⟩:=gW (α:=ByteArray) (Q:=λi t=>kC.cell bk (o+i) (.string t)∈A/\t.size<=140737488355328) (n:=k) (λi d=>by
  obtain⟨B,h2,C,E,h5⟩:=M i d;obtain⟨s,O,J,_⟩:=DataW.trod_string K E;refine⟨s,C _ (kI.2 ⟨0,.string s,by rw[O];rfl,by rw[Nat.mul_one];rfl⟩),?_⟩;have q:D i=.lit (.string s.data.toList):=congrArg Prod.fst J;have:=g.str s.data.toList;rw[q]at B;have e2:s.data.toList.length=s.size:=by simp
  omega)
 refine⟨l,⟨a,c,by rw[N],Zo,λi t h=>?_⟩,Zo⟩;have d:i<k:=by have:=(Vt.1 h).1;omega
 exact⟨bk,o,G Zo,(j i t h).1,(j i t h).2⟩
structure LitT (P:Program)(t:TypeId)(sl:TypeId):Prop where
 str:∃fs:Array Field,P.underlying t=some (.struct fs)/\fs.size=5/\∃t0 t1 t2 t3,(fs.toList.map λf=>(f.type,f.offset))=[(t0,0),(t1,1),(t2,2),(t3,3),(sl,4)]/\P.underlying t0=some (.int .u8)/\P.underlying t1=some (.int .i64)/\P.underlying t2=some (.int .u64)/\P.underlying t3=some .string/\
  P.cellsOf t0=1/\P.cellsOf t1=1/\P.cellsOf t2=1/\P.cellsOf t3=1/\P.cellsOf sl=1
 cells:P.cellsOf t=5
 ci:P.underlying sl=some (.slice t)
def wf_u8 {n:Int}(h:(Lit.int .u8 n).wf=true):∃k:Nat,n=k/\k<256:=by
 simp[Lit.wf]at h;have e1:IntKind.u8.min=0:=by decide
 have e2:IntKind.u8.max=255:=by decide
 exact⟨n.toNat,Zo,Zo⟩
def wf_u64 {n:Int}(h:(Lit.int .u64 n).wf=true):∃k:Nat,n=k/\k<18446744073709551616:=by
 simp[Lit.wf]at h;have e1:IntKind.u64.min=0:=by decide
 have e2:IntKind.u64.max=18446744073709551615:=by decide
 exact⟨n.toNat,Zo,Zo⟩
def wf_i64 {n:Int}(h:(Lit.int .i64 n).wf=true):-9223372036854775808<=n/\n<=9223372036854775807:=by
 simp[Lit.wf]at h;have e1:IntKind.i64.min=-9223372036854775808:=by decide
 have e2:IntKind.i64.max=9223372036854775807:=by decide
 omega
def zd {α:Type}{l:List α}{i:Nat}{v:α}(h:(l.drop i).take 1=[v]):l[i]? =some v:=by
 have:=congrArg (λm:List α=>m[0]?) h;simp only[List.getElem?_take,Vo]at this;simpa using this
def Bt {ys:List (DataW H×List MemPlace)}{i:Nat}{y:DataW H×List MemPlace}(h:ys[i]? =some y){q:MemPlace}(d:q∈y.2):q∈ys.flatMap (·.2):=QN.2 ⟨y,Zv h,d⟩
def rd_lit(hb:Tq bulk){t U:TypeId}(B:LitT P t U){W:World}{A:List kC}(hA:∀a:kC,a.holds W->a∈A):∀(N:Nat) (n:Nat) (cs:List Value) (x:DataW H×List MemPlace),bulk x.1<=N->N<=1048576->DataW.trod enc P W 0 (λ_=>true) true n t cs=some x->W.noneFrozen x.2->∃l:Lt,yc A l cs/\l.size<=bulk x.1:=by
 obtain⟨fs,hu,eU,t0,t1,t2,t3,j,u0,u1,u2,u3,c0,c1,c2,c3,c4⟩:=B.str;intro N
 induction N using Nat.strongRecOn with
 |_ N ih=>
  intro n cs x g hN h hf;obtain⟨ys,k,_,rfl,hlen,cS,hfld⟩:=DataW.trod_struct hu h;rw[B.cells]at hlen
  replace g:bulk (.agg (ys.map (·.1)))<=N:=g
  have q:∀(i:Nat) (C off:Nat),(fs.toList.map λf=>(f.type,f.offset))[i]? =some (C,off)->DataW.trod enc P W 0 (λ_=>true) true k C ((cs.drop off).take (P.cellsOf C))=ys[i]?:=λi C off hi=>by
   exact zCI
  have d:∀i,i<5->ys[i]? =some (ys.getD i (.nil,[])):=λi hi=>by
   rw[Vh,Zg Zo];rfl
  have I:=(q 0 t0 0 (by rw[j];rfl)).trans (d 0 Zo);have J:=(q 1 t1 1 (by rw[j];rfl)).trans (d 1 Zo);have K:=(q 2 t2 2 (by rw[j];rfl)).trans (d 2 Zo);have L:=(q 3 t3 3 (by rw[j];rfl)).trans (d 3 Zo);have F:=(q 4 U 4 (by rw[j];rfl)).trans (d 4 Zo);rw[c0]at I;rw[c1]at J;rw[c2]at K;rw[c3]at L;rw[c4]at F;obtain⟨z0,e0,_,w0⟩:=DataW.trod_int u0 I;obtain⟨X,e1,_,w1⟩:=DataW.trod_int u1 J;obtain⟨z2,e2,_,w2⟩:=DataW.trod_int u2 K;obtain⟨s,e3,d3,_⟩:=DataW.trod_string u3 L;have E:∀i,i<5->bulk (ys.getD i (.nil,[])).1<bulk (.agg (ys.map (·.1))):=λi hi=>hb.agg _ _ (QO.2 ⟨_,Zv (d i hi),rfl⟩)
  have ur:∀i,i<5->W.noneFrozen (ys.getD i (.nil,[])).2:=λi hi b o G=>hf b o (Bt (d i hi) G)
  obtain⟨v4,e4⟩:∃v,(cs.drop 4).take 1=[v]:=Q3.1 tK;rw[e4]at F;obtain⟨a,kk,c,bk,o,us,D,Z,m,rfl,⟨hk,lX,hkc⟩,ha,hi⟩:=AI hb B.ci B.cells Zd F (ur 4 Zo) hA;obtain⟨l,hl,M⟩:=gW (α:=Lt) (Q:=λi y=>yc A y (us i)/\y.size<=bulk (D i)) (n:=kk) (λi ZQ=>by
   obtain⟨q1,_,_,q4,q5⟩:=hi i ZQ;have q6:=E 4 Zo;exact ih (bulk (D i)) Zo m (us i) (D i,Z i) (Qs _) Zo q4 q5)
  obtain⟨S,rfl,b0⟩:=wf_u8 w0;obtain⟨T,rfl,b2⟩:=wf_u64 w2;have b1:=wf_i64 w1;have Y:cs=[cv S,vi X,uv T,.string s,.slice a l.length c]:=zBR
  have Wi:s.size<=1048576:=by
   have h3:=E 3 Zo;have e:(ys.getD 3 (.nil,[])).1=.lit (.string s.data.toList):=congrArg Prod.fst d3;rw[e]at h3;exact zE8
  have h4:=E 4 Zo;have O:Lt.ay l<=bulk (ys.getD 4 (.nil,[])).1:=by
   refine Qu (Lt.Yn (f:=λi=>bulk (D i)) (o:=0) (λi x g=>?_)) ?_
   .rw[Qz];exact(M i x g).2
   .rw[hl];exact lX
  rw[Y];refine⟨.mk S X T s l,.mk ⟨b0,b1,b2,Zo,Zo⟩ (λhp=>ha Zo) (λi ck=>(hi i Zo).2.2.1) (λi x g=>(M i x g).1),?_⟩;show 1+Lt.ay l<=bulk (.agg (ys.map (·.1)));omega
structure NodT (P:Program)(t tl sl st:TypeId):Prop where
 str:∃fs:Array Field,P.underlying t=some (.struct fs)/\fs.size=7/\∃t0 t1 t6,(fs.toList.map λf=>(f.type,f.offset))=[(t0,0),(t1,1),(tl,2),(st,7),(st,8),(sl,9),(t6,10)]/\P.underlying t0=some (.int .u8)/\P.underlying t1=some .string/\P.underlying t6=some (.int .i64)/\
  P.cellsOf t0=1/\P.cellsOf t1=1/\P.cellsOf t6=1/\P.underlying st=some (.slice t1)
 cells:P.cellsOf t=11
 cs:P.cellsOf sl=1
 ct:P.cellsOf st=1
 cl:P.cellsOf tl=5
 ak:P.underlying sl=some (.slice t)
def rd_node(hb:Tq bulk){t tl sl st ll:TypeId}(C:NodT P t tl sl st)(hL:LitT P tl ll){W:World}{A:List kC}(Y:∀a:kC,a.holds W->a∈A):∀(N:Nat) (n:Nat) (cs:List Value) (x:DataW H×List MemPlace),bulk x.1<=N->N<=1048576->DataW.trod enc P W 0 (λ_=>true) true n t cs=some x->W.noneFrozen x.2->∃l:Nd,jD A l cs/\l.w<=bulk x.1:=by
 obtain⟨fs,hu,eU,t0,t1,t6,q,u0,u1,u6,c0,c1,c6,I⟩:=C.str;intro N
 induction N using Nat.strongRecOn with
 |_ N ih=>
  intro n cs x E hN h hf;obtain⟨ys,k,_,rfl,j,cS,hfld⟩:=DataW.trod_struct hu h;rw[C.cells]at j
  replace E:bulk (.agg (ys.map (·.1)))<=N:=E
  have B:∀(i:Nat) (ty off:Nat),(fs.toList.map λf=>(f.type,f.offset))[i]? =some (ty,off)->DataW.trod enc P W 0 (λ_=>true) true k ty ((cs.drop off).take (P.cellsOf ty))=ys[i]?:=λi ty off hi=>by
   exact zCI
  have g:∀i,i<7->ys[i]? =some (ys.getD i (.nil,[])):=λi hi=>by
   rw[Vh,Zg Zo];rfl
  have g0:=(B 0 t0 0 (by rw[q];rfl)).trans (g 0 Zo);have g1:=(B 1 t1 1 (by rw[q];rfl)).trans (g 1 Zo);have g2:=(B 2 tl 2 (by rw[q];rfl)).trans (g 2 Zo);have g3:=(B 3 st 7 (by rw[q];rfl)).trans (g 3 Zo);have g4:=(B 4 st 8 (by rw[q];rfl)).trans (g 4 Zo);have g5:=(B 5 sl 9 (by rw[q];rfl)).trans (g 5 Zo);have g6:=(B 6 t6 10 (by rw[q];rfl)).trans (g 6 Zo);rw[c0]at g0;rw[c1]at g1;rw[C.cl]at g2;rw[C.ct]at g3 g4;rw[C.cs]at g5;rw[c6]at g6;obtain⟨z0,e0,_,w0⟩:=DataW.trod_int u0 g0;obtain⟨s,e1,d1,_⟩:=DataW.trod_string u1 g1;obtain⟨z6,e6,_,w6⟩:=DataW.trod_int u6 g6;have F:∀i,i<7->bulk (ys.getD i (.nil,[])).1<bulk (.agg (ys.map (·.1))):=λi hi=>hb.agg _ _ (QO.2 ⟨_,Zv (g i hi),rfl⟩)
  have ur:∀i,i<7->W.noneFrozen (ys.getD i (.nil,[])).2:=λi hi b o hbo=>hf b o (Bt (g i hi) hbo)
  obtain⟨v3,e3⟩:∃v,(cs.drop 7).take 1=[v]:=Q3.1 tK;obtain⟨v4,e4⟩:∃v,(cs.drop 8).take 1=[v]:=Q3.1 tK;obtain⟨v5,e5⟩:∃v,(cs.drop 9).take 1=[v]:=Q3.1 tK;rw[e3]at g3;rw[e4]at g4;rw[e5]at g5;have l2:=F 2 Zo;have l3:=F 3 Zo;have l4:=F 4 Zo;have l5:=F 5 Zo;obtain⟨lit,gO,N3⟩:=rd_lit hb hL Y 1048576 k _ _ Zo (Qs _) g2 (ur 2 Zo);obtain⟨a5,cN,hargl⟩:=oH hb I u1 c1 g3 (ur 3 Zo) Y Zo;obtain⟨ae,GO,Z⟩:=oH hb I u1 c1 g4 (ur 4 Zo) Y Zo;obtain⟨a,kk,c,bk,o,us,D,Pl,m,rfl,⟨hk,lX,hkc⟩,ha,hi⟩:=AI hb C.ak C.cells Zd g5 (ur 5 Zo) Y;obtain⟨l,hl,hq⟩:=gW (α:=Nd) (Q:=λi y=>jD A y (us i)/\y.w<=bulk (D i)) (n:=kk) (λi ZQ=>by
   obtain⟨q1,_,_,q4,q5⟩:=hi i ZQ;exact ih (bulk (D i)) Zo m (us i) (D i,Pl i) (Qs _) Zo q4 q5)
  have G:ys.length=7:=by rw[cS];exact eU
  obtain⟨k0,rfl,b0⟩:=wf_u8 w0;have b6:=wf_i64 w6;have H4:cs=[cv k0,.string s]++(cs.drop 2).take 5++[v3,v4,.slice a l.length c,vi z6]:=by
   have p0:=zd e0;have p1:=zd e1;have p3:=zd e3;have p4:=zd e4;have p5:=zd e5;have p6:=zd e6;obtain⟨a0,J,K,L,M,O,S,T,U,X,d,rfl⟩:∃a0 J K L M O S T U X d,cs=[a0,J,K,L,M,O,S,T,U,X,d]:=by
    match cs,j with
    |[a0,J,K,L,M,O,S,T,U,X,d],_=>exact⟨a0,J,K,L,M,O,S,T,U,X,d,rfl⟩
   simp only[Vn,Vm,X9]at p0 p1 p3 p4 p5 p6;rw[p0,p1,p3,p4,p5,p6,hl];rfl
  have ZV:s.size<=bulk (ys.getD 1 (.nil,[])).1:=by
   have e:(ys.getD 1 (.nil,[])).1=.lit (.string s.data.toList):=congrArg Prod.fst d1;rw[e];exact zE8
  have Ay:s.size<=1048576:=by
   have h3:=F 1 Zo;have e:(ys.getD 1 (.nil,[])).1=.lit (.string s.data.toList):=congrArg Prod.fst d1;rw[e]at h3;exact zE8
  rw[H4];have hsz5:Nd.ws l<=bulk (ys.getD 5 (.nil,[])).1:=by
   refine Qu (Nd.ws_le (f:=λi=>bulk (D i)) (o:=0) (λi x E=>?_)) ?_
   .rw[Qz];exact(hq i x E).2
   .rw[hl];exact lX
  refine⟨.mk k0 s lit a5 ae l z6,.mk ⟨b0,Zo,Zo,b6⟩ gO cN GO (λhp=>ha Zo) (λi ck=>(hi i Zo).2.2.1) (λi x E=>(hq i x E).1) Zo,?_⟩;have hag:=hb.aggs (ys.map (·.1));have hsum:bulk (ys.getD 1 (.nil,[])).1+bulk (ys.getD 2 (.nil,[])).1+bulk (ys.getD 3 (.nil,[])).1+bulk (ys.getD 4 (.nil,[])).1+bulk (ys.getD 5 (.nil,[])).1<=((ys.map (·.1)).map bulk).sum:=by
   match ys,G with
   |[y0,y1,y2,y3,y4,y5,y6],_=>simp only[QE,QG,List.sum_cons,List.sum_nil,List.getD_cons_zero,List.getD_cons_succ];omega
  show 1+s.size+lit.size+a5.length+ae.length+Nd.ws l<=bulk (.agg (ys.map (·.1)));omega
end
section
variable {ops:Array Oper}
def coverC {j:Bool}{rs:List (RO×Oper)}{g:List (List Nat)}(D:fW j rs ops g=true)(t:Nat):
 ∃o∈g,o.Perm (jo ops ops.size t (Array.replicate ops.size false))/\(jo ops ops.size t (Array.replicate ops.size false)).Nodup/\(∀i∈o,i<ops.size)/\
  o.Pairwise (λx y=>indep (rs.getD y default) (rs.getD x default)=true∨[x,y].Sublist (jo ops ops.size t (Array.replicate ops.size false))):=by
 simp only[fW,vG]at D;obtain⟨⟨⟨C,hd⟩,J⟩,hp⟩:=D;have E:qg ops (Array.replicate ops.size false)=List.range ops.size:=zBF
 obtain⟨s1,F,_⟩:=yX C ops.size t (Array.replicate ops.size false) Zs (by rw[E];simp);generalize I:jo ops ops.size t (Array.replicate ops.size false)=l at s1 F|-;have hanc:∀{x y:Nat},y<ops.size->x∈(lh ops).getD y []->Nq l x y:=λhy hx=>I ▸ Ar C (Qs _) (ma hx) hy
 have bX:∀i,i∈l↔i<ops.size:=λi=>by rw[F,E];simp
 generalize L5:IF j rs (lh ops) ops.size=d at hd hp;have hdlt:∀x∈d,x<ops.size:=zDJ
 have K:(l.filter (d.contains ·)).Perm d:=zBX
 have m:=vf.1 hp _ (uH K);simp only[vS,vP,vh]at m;have H:yI (λx y=>!((lh ops).getD x []).contains y) (l.filter (d.contains ·))=true:=zAI
 rcases m with m|⟨o,A,hpo⟩
 .rw[H]at m;cases m
 have G:=vf.1 J o A;simp only[vG,beq_iff_eq,vf,decide_eq_true_eq]at G;obtain⟨⟨o1,o2⟩,o3⟩:=G;have B:o.Perm l:=zAT
 refine⟨o,A,B,s1,λi hi=>(bX i).1 (B.subset hi),?_⟩;exact zB4
def xu {o l:List Nat}(m:o.Perm l)(d:l.Nodup)(h:o.Pairwise λx y=>[x,y].Sublist l):o=l:=by
 refine List.Perm.eq_of_pairwise (le:=λx y=>[x,y].Sublist l) (λa b _ _ g j=>?_) h (List.pairwise_iff_forall_sublist.2 λh=>h) m;have b1:=(AR d g).2.2;have b2:=(AR d j).2.2;omega
def lr(X:Nat->RO×Oper)(val:Nat->Value):List Nat->Env->Env
 |[],Γ=>Γ
 |i::r,Γ=>lr X val r (au (X i).1.dst (val i) Γ)
def writes(X:Nat->RO×Oper)(t j:Nat):Bool:=(X j).1.dst==some t
def xq {X:Nat->RO×Oper}{val:Nat->Value}{t:Nat}:∀{p:List Nat} {Γ Δ:Env},look Γ t=look Δ t->look (lr X val p Γ) t=look (lr X val (p.filter (writes X t)) Δ) t:=by
 intro p
 induction p with
 |nil=>intro Γ Δ h;exact h
 |cons j p ih=>
  intro Γ Δ h;simp only[lr,V5];by_cases hw:writes X t j=true
  .rw[if_pos hw];simp only[lr];refine ih ?_;simp only[writes,beq_iff_eq]at hw;rw[hw];simp[au,look]
  .rw[if_neg hw];refine ih ?_;simp only[writes,beq_iff_eq]at hw;rw[<- h];cases hd:(X j).1.dst with
   |none=>rfl
   |some d=>
    have:d≠t:=λe=>hw (by rw[hd,e])
    simp[au,look,this]
def Yr {i:Nat}:∀{a b c d:List Nat},a++i::b=c++i::d->i∉a->i∉c->a=c:=by
 intro a
 induction a with
 |nil=>
  intro b c d h _ g;cases c with
  |nil=>rfl
  |cons x c=>simp at h;exact absurd (by simp[h.1]) g
 |cons x a ih=>
  intro b c d h j g;cases c with
  |nil=>simp at h;exact absurd (by simp[h.1]) j
  |cons y c=>
   simp only[vq,vp]at h;rw[h.1,ih h.2 (λh=>j (by simp[h])) (λh=>g (by simp[h]))]
def Pw {X:Nat->RO×Oper}{val:Nat->Value}{Γ:Env}{p q d B:List Nat}{i t:Nat}(C:(p++i::q).Perm (d++i::B))(A:(d++i::B).Nodup)
 (H:(p++i::q).Pairwise (λx y=>indep (X y) (X x)=true∨[x,y].Sublist (d++i::B))) (G:t∈looks (X i)):look (lr X val p Γ) t=look (lr X val d Γ) t:=by
 have m:(p++i::q).filter (λj=>decide (j=i)||writes X t j)=(d++i::B).filter (λj=>decide (j=i)||writes X t j):=by
  refine xu (C.filter _) (A.filter _) ?_;have K:(p++i::q).Pairwise (λx y=>x≠y):=C.nodup_iff.2 A;refine((H.and K).filter _).imp_of_mem ?_;intro x y O Q ⟨h,J⟩;have fx:=(QM.1 O).2;have fy:=(QM.1 Q).2;rcases h with h|h
  .exfalso;simp only[indep,vG]at h;obtain⟨⟨L,s⟩,_⟩:=h;have D:=zo L;have I:=zo s;simp only[vS,decide_eq_true_eq,writes,beq_iff_eq]at fx fy;rcases fx with fx|fx<;>rcases fy with fy|fy
   .exact J (fx.trans fy.symm)
   .subst fx;exact(D t fy).1 G
   .subst fy;exact(I t fx).1 G
   .exact(D t fy).2 fx
  .have:=h.filter (λj=>decide (j=i)||writes X t j)
   rwa [show List.filter (λj=>decide (j=i)||writes X t j) [x,y]=[x,y] by simp only[List.filter,fx,fy]]at this
 have g:i∉p:=by
  have:=C.nodup_iff.2 A;intro h;exact(QW.1 this).2.2 i h i Zs rfl
 have E:i∉d:=λh=>(QW.1 A).2.2 i h i Zs rfl
 rw[V0,V0,List.filter_cons_of_pos Zs,List.filter_cons_of_pos Zs]at m;have s:=Yr m (λh=>g ((QM.1 h).1)) (λh=>E ((QM.1 h).1));have F:∀l:List Nat,i∉l->l.filter (λj=>decide (j=i)||writes X t j)=l.filter (writes X t):=λl N=>List.filter_congr λj M=>by
  have:j≠i:=λe=>N (e ▸ M)
  simp[this]
 rw[F p g,F d E]at s;rw[xq (p:=p) rfl,xq (p:=d) rfl,s]
def Pv {X:Nat->RO×Oper}{val:Nat->Value}{i:Nat}:∀{p:List Nat} {Γ:Env},lr X val (p++[i]) Γ=au (X i).1.dst (val i) (lr X val p Γ):=by
 intro p
 induction p with
 |nil=>intro Γ;rfl
 |cons j p ih=>intro Γ;exact ih
def StepZ(P:Program)(n:Nat)(X:Nat->RO×Oper)(PZ:List PanicEntry->SH->Prop)(Hs:SH->Prop)(val:Nat->Value)(φ:Nat->Prop)(i:Nat)(Δ:Env):Prop:=
 ∀Γ H,(∀t∈looks (X i),∀v,look Δ t=some v->look Γ t=some v)->Hs H->VO P n [(X i).1] Γ H (λch _ H'=>PZ ch H') (λaB H'=>aB=au (X i).1.dst (val i) Γ/\Hs H'/\φ i)
def run_any {P:Program}{n:Nat}{X:Nat->RO×Oper}{T:List PanicEntry->SH->Prop}{G:SH->Prop}{val:Nat->Value}{φ:Nat->Prop}{SQ:Env}{o l:List Nat}(U:o.Perm l)(hn:l.Nodup)
 (W:o.Pairwise (λx y=>indep (X y) (X x)=true∨[x,y].Sublist l)) (mq:∀i∈l,tG P n [(X i).1] [X i]) (Z:∀p i q,o=p++i::q->StepZ P n X T G val φ i (lr X val p SQ))
 {F:List kC} {B:Exit->Act->World->Prop} {Q:Act->World->Prop} {a0:Act} {w0:World}
 (hq:∀d w' H',wF n (lr X val l SQ) d->d.defers=a0.defers->Sat w' (H'.flatten++F)->j9 w0 w'->G H'->(∀i∈l,φ i)->Q d w')
 (hz:∀C d w' H',d.tmps.size=n->d.defers=a0.defers->Sat w' (H'.flatten++F)->j9 w0 w'->T C H'->B (.panic C) d w'):
 ∀(A s:List Nat),l=s++A->∀a w H,wF n (lr X val s SQ) a->a.defers=a0.defers->Sat w (H.flatten++F)->j9 w0 w->G H->(∀i∈s,φ i)->cK P B Q (A.map X) a w:=by
 intro A
 induction A with
 |nil=>
  intro s g a w H M D S E N m;rw[vm]at g;subst g;exact hq a w H M D S E N m
 |cons i A ih=>
  intro s g a w H M D S E N m;have hi:i∈o:=U.mem_iff.2 (by rw[g];simp);obtain⟨p,q,O⟩:=List.append_of_mem hi;have st:=Z p i q O (lr X val s SQ) H (λt ht v hv=>by
   rw[<- Pw (val:=val) (Γ:=SQ) (by rw[<- O,<- g];exact U) (by rw[<- g];exact hn) (by rw[<- O,<- g];exact W) ht];exact hv) N
  have:=st [X i] (mq i (by rw[g];simp)) a w F B (cK P B Q (A.map X)) M S
   (λd w' Y H' ⟨k1,k2,k3⟩ I J K L=>by
     subst k1;exact ih (s++[i]) (by rw[g];simp) d w' H' (by rw[Pv];exact I) (J.trans D) K (E.trans L) k2 (λj hj=>by
      rcases QH.1 hj with h|h
      .exact m j h
      .rw[QU.1 h];exact k3))
   (λC d w' Y H' k I J K L=>hz C d w' H' I.size (J.trans D) K (E.trans L) k)
  exact this
def argO:R->List Operand
 |.call _ xs=>xs
 |r=>mS r
def Cp(r:RO):List Nat:=du r.guard++dK (argO r.op)
def okR(r:RO):Bool:=kz r.op||jN r.op||(match r.op with|.call _ _=>true|_=>false)
def AY(P:Program)(n:Nat)(PZ:List PanicEntry->SH->Prop)(Hs:SH->Prop):List RO->Env->Prop->Prop
 |[],_,Φ=>¬Φ
 |r::rs,Δ,Φ=>okR r=true/\∃(v:Value) (φ:Prop),(∀Γ H,(∀t∈Cp r,∀u,look Δ t=some u->look Γ t=some u)->Hs H->VO P n [r] Γ H (λch _ H'=>PZ ch H') (λaB H'=>aB=au r.dst v Γ/\Hs H'/\φ))/\
   AY P n PZ Hs rs (au r.dst v Δ) (Φ/\φ)
def kK {P:Program}{n:Nat}{j:List PanicEntry->SH->Prop}{g:SH->Prop}{r:RO}{rs:List RO}{Δ:Env}{q:Prop}{v:Value}(C:AY P n j g rs (au r.dst v Δ) (q/\True))(ok:okR r=true:=by rfl)
 (B:∀Γ H,(∀t∈Cp r,∀u,look Δ t=some u->look Γ t=some u)->g H->VO P n [r] Γ H (λA _ H'=>j A H') (λs H'=>s=au r.dst v Γ/\g H'/\True):=by
   intro Γ H d m
   first
    |(subst m
      first
       |exact Fx (d _ Zd _ rfl) rfl Iq
       |exact iA (d _ Zd _ rfl) Iq
       |exact iV (d _ Zd _ rfl) rfl Iq
       |exact wJ (d _ Zd _ rfl) Zh Iq
       |exact st_lenI (d _ Zd _ rfl) (VO.nil ⟨rfl,rfl,trivial⟩)
       |exact lO (d _ Zd _ rfl) rfl Iq
       |exact lP (d _ Zd _ rfl) (d _ Zd _ rfl) Iq
       |exact ti (d _ Zd _ rfl) (iV (d _ Zd _ rfl) rfl Iq)
       |exact ti (d _ Zd _ rfl) (wJ (d _ Zd _ rfl) Zh Iq))
    |(obtain⟨mz,hz⟩:=m
      refine VO.imp hz ?_
      first
       |exact iA (d _ Zd _ rfl) Zae
       |exact iV (d _ Zd _ rfl) rfl Zae
       |exact iV (d _ Zd _ rfl) Zo (VO.nil ⟨rfl,⟨mz,ap.refl _⟩,trivial⟩)
       |exact wJ (d _ Zd _ rfl) (by first|(exact Zh)|(exact Zm)) Zae
       |exact kR (d _ Zd _ rfl) Gb cS Zae
       |exact mY (d _ Zd _ rfl) rfl Zo Zz (VO.nil ⟨rfl,⟨mz,ap.refl _⟩,trivial⟩)
       |exact lQ (d _ Zd _ rfl) rfl (l:=1) rfl Zo (VO.nil ⟨rfl,⟨mz,ap.refl _⟩,trivial⟩))):AY P n j g (r::rs) Δ q:=⟨ok,v,True,B,C⟩
def Mz {P:Program}{n:Nat}{x:RO×Oper}(m:eG P n ops x.2=some x.1)(d:okR x.1=true):∀t∈Cp x.1,t∈looks x:=by
 intro t ht;simp only[Cp,looks,QH]at ht|-;rcases ht with ht|ht
 .exact .inl ht
 right;by_cases hq:(kz x.1.op||jN x.1.op)=true
 .rw[if_pos hq];have:argO x.1.op=mS x.1.op:=by
   cases Ro:x.1.op<;>first|rfl|(rw[Ro]at hq;cases hq)
  rwa [this]at ht
 .rw[if_neg hq];simp only[okR,hq,vO]at d;cases Ro:x.1.op with
  |call f xs=>
   have g:=(jP m).1;rw[Ro]at g;obtain⟨c,h,h2,j,h4⟩:=sI g;rw[Ro]at ht;simp only[argO]at ht;rw[h];simp only[Op.operands,Call.operands,Array.toList_append,j,dK,List.filterMap_append,QH];exact .inr ht
  |_=>rw[Ro]at d;cases d
def LN {X:Nat->RO×Oper}{val d:Nat->Value}:∀{p:List Nat} {Γ:Env},(∀j∈p,val j=d j)->lr X val p Γ=lr X d p Γ:=by
 intro p
 induction p with
 |nil=>intro Γ _;rfl
 |cons j p ih=>intro Γ h;simp only[lr];rw[h j Zs];exact ih λk g=>h k (by simp[g])
def Kd {P:Program}{n:Nat}{X:Nat->RO×Oper}{J:List PanicEntry->SH->Prop}{I:SH->Prop}:∀(o:List Nat) (Γ:Env) (B:Prop),o.Nodup->(∀i∈o,okR (X i).1=true->∀t∈Cp (X i).1,t∈looks (X i))->AY P n J I (o.map λi=>(X i).1) Γ B->
 ∃(val:Nat->Value) (φ:Nat->Prop),(∀p i q,o=p++i::q->StepZ P n X J I val φ i (lr X val p Γ))/\¬(B/\∀i∈o,φ i):=by
 intro o
 induction o with
 |nil=>intro Γ B _ _ h;exact⟨λ_=>undef,λ_=>True,λp i q e=>by simp at e,λm=>h m.1⟩
 |cons i o ih=>
  intro Γ B Y K h;obtain⟨M,v,G,Q,S⟩:=h;have A:=QX.1 Y;obtain⟨val,φ,N,O⟩:=ih _ _ A.2 (λj d=>K j (by simp[d])) S;refine⟨λj=>if j=i then v else val j,λj=>if j=i then G else φ j,λp j q e=>?_,λm=>O ⟨⟨m.1,?_⟩,λj d=>?_⟩⟩
  .cases p with
   |nil=>
    simp only[QV,vp]at e;obtain⟨rfl,rfl⟩:=e;intro D H s E;have:=Q D H (λt Z=>s t (K i Zs M t Z)) E;simpa using this
   |cons k p=>
    simp only[vq,vp]at e;obtain⟨rfl,e⟩:=e;have d:j∈o:=by rw[e];simp
    have C:j≠i:=λg=>A.1 (g ▸ d)
    have st:=N p j q e;have U:lr X (λj=>if j=i then v else val j) p (au (X i).1.dst v Γ)=lr X val p (au (X i).1.dst v Γ):=LN λk W=>by
     have L:k∈o:=by rw[e];simp[W]
     have F:k≠i:=λg=>A.1 (g ▸ L)
     simp[F]
    intro D H s E;simp only[lr,if_pos]at s;rw[U]at s;have:=st D H s E;simpa[C]using this
  .have:=m.2 i Zs;simpa using this
  .have T:=m.2 j (by simp[d]);have C:j≠i:=λg=>A.1 (g ▸ d)
   simpa[C]using T
end
def VC.Bp {P n Γ H Q L W}(C B)(h0:B H)(h:∀rs∈L,AY P n C B rs Γ True)(hz:∀j H',C j H'->Q (.panic j) [] H'):VC P n (.draw L W) Γ H Q:=by
 intro ρ kp od E hl a w F QQ hr ha hs hh;obtain⟨id,ops,rs,rfl,G,hm,hc,rfl,rfl⟩:=ji hl;have I:=(wA G).1;refine wpIn_region_draw (λt=>?_);have qZ:Region.schedule (P.follows .mixedOrders) ops t=jo ops ops.size t (Array.replicate ops.size false):=by simp[Region.schedule,hm,Region.linearise,jo]
 rw[qZ];obtain⟨g,O⟩:∃g,fW g (rs.zip ops.toList) ops (od id)=true:=by
  unfold qM at hc;rcases vT.1 hc with hc|hc
  .exact⟨_,hc⟩
  .exact⟨_,hc⟩
 obtain⟨o,S,q,J,s,N⟩:=coverC O t;have m:∀i,i<ops.size->ops[i]? =some ((rs.zip ops.toList).getD i default).2/\((rs.zip ops.toList).getD i default).1=rs.getD i default/\eG P n ops ((rs.zip ops.toList).getD i default).2=some ((rs.zip ops.toList).getD i default).1:=λi d=>zJ G d
 have A:∀i∈jo ops ops.size t (Array.replicate ops.size false),i<ops.size:=λi d=>s i (q.mem_iff.2 d)
 refine fR (P:=P) (ρ:=ρ) (n:=n) (ops:=ops) (X:=λi=>(rs.zip ops.toList).getD i default) (QQ:=QQ) (λi d=>⟨(m i d).1,(m i d).2.2⟩) _ a _ A ?_;have K:=h (o.map λi=>rs.getD i default) (QO.2 ⟨o,S,rfl⟩);have M:(o.map λi=>rs.getD i default)=o.map λi=>((rs.zip ops.toList).getD i default).1:=QD λi d=>(m i (s i d)).2.1.symm
 rw[M]at K;obtain⟨val,φ,Y,Z⟩:=Kd (X:=λi=>(rs.zip ops.toList).getD i default) o Γ True (q.nodup_iff.2 J) (λi d T=>Mz (m i (s i d)).2.2 T) K;refine run_any (X:=λi=>(rs.zip ops.toList).getD i default) (l:=jo ops ops.size t (Array.replicate ops.size false)) (val:=val) (φ:=φ) (SQ:=Γ) (a0:=a) (w0:={w with drawn:=w.drawn+1}) (F:=F) q J N (λi d=>⟨rfl,λx hx=>by rw[QU.1 hx];exact⟨ops,(m i (A i d)).2.2⟩⟩) Y ?_ ?_ _ [] rfl a _ H ha rfl (hs.drawn _) (.refl _) h0 (λi d=>by cases d)
 .intro D w' H' _ _ _ _ _ U;exact absurd ⟨trivial,λi d=>U i (q.mem_iff.1 d)⟩ Z
 .intro j D w' H' k1 k2 k3 k4 k5;exact hh (.panic j) D w' [] H' [] (hz j H' k5) ⟨k1,λt v e=>by cases e⟩ k2 k3.cF (((j9.refl w).drawn _).trans k4)
section
variable {P:Program} {n:Nat} {rs:List RO} {Γ:Env} {H:SH} {Z:List PanicEntry->Env->SH->Prop} {K:Env->SH->Prop} {d:Option Nat}
def HL {x y:Operand}{a b:Nat}(j:ev Γ x=some (vi a))(m:ev Γ y=some (vi b))(h:VO P n rs (au d (vi (max a b:Nat)) Γ) H Z K):
 VO P n (⟨d,none,.max2 x y⟩::rs) Γ H Z K:=by
 refine VO.pure rfl (v:=vi (max a b:Nat)) (λρ g=>?_) h;have e:(if(b:Int)>(a:Int)then(b:Int)else(a:Int))=((max a b:Nat):Int):=by split<;>omega
 simp only[kb,g _ _ j,g _ _ m,vi,e]
def st_eqI {x y:Operand}{k:IntKind}{a b:Int}{t:Bool}(m:ev Γ x=some (.int k a))(q:ev Γ y=some (.int k b))(j:decide (a=b)=t)(h:VO P n rs (au d (.bool t) Γ) H Z K):
 VO P n (⟨d,none,.bin .eql x y⟩::rs) Γ H Z K:=
 VO.pure rfl (v:=.bool t) (λρ g=>by subst j;simp[kb,g _ _ m,g _ _ q,yO,ot]) h
def Ys {x y:Operand}{k:IntKind}{a b:Int}{t:Bool}(m:ev Γ x=some (.int k a))(q:ev Γ y=some (.int k b))(j:decide (a<=b)=t)(h:VO P n rs (au d (.bool t) Γ) H Z K):
 VO P n (⟨d,none,.bin .leq x y⟩::rs) Γ H Z K:=
 VO.pure rfl (v:=.bool t) (λρ g=>by subst j;simp[kb,g _ _ m,g _ _ q,yO,ot]) h
def st_lenI {x:Operand}{a:Option Addr}{m c:Nat}(j:ev Γ x=some (.slice a m c))(h:VO P n rs (au d (vi m) Γ) H Z K):
 VO P n (⟨d,none,.G4 x⟩::rs) Γ H Z K:=
 VO.pure rfl (v:=vi m) (λρ g=>by simp[kb,g _ _ j,vi]) h
end
def jB {R G:Prop}(r:R)(h:Tv R->G:=by
 intro d
 (repeat (first
   |(first
   |(apply ti;rfl)
   |(apply HR;rfl;rfl;omega;omega;exact Zi;exact Zi;(first|assumption|((try simp only[Nat.reducePow]);rfl));rfl)
   |(apply HQ;rfl;rfl;omega;omega;exact Zi;exact Zi;(first|assumption|((try simp only[Nat.reducePow]);rfl));rfl)
   |(apply HI;rfl;rfl;exact Zl;exact Zl;exact Zi;exact Zi;(first|exact δ _|exact ε _|exact Nw _|rfl))
   |(apply OL;rfl;rfl;exact Zl;exact Zl;exact Zi;exact Zi;rfl)
   |(apply AL;rfl;rfl;exact Zl;exact Zl;exact Zi;exact Zi)
   |(apply AQ;rfl;rfl;omega;omega;exact Zi;exact Zi)
   |(apply AK;rfl;rfl;omega;omega;omega;exact Zi;exact Zi)
   |(apply tg;rfl;(first|exact Ku Zo|exact gM Zo|exact oQ Zo))
   |(apply AO;rfl;rfl;omega;omega;exact Zi;exact Zi)
   |(apply AP;rfl;rfl;omega;omega;exact Zi;exact Zi)
   |(apply Fx;rfl;rfl)
   |(apply Kb;rfl)
   |(apply iA;rfl)
   |(apply uX;rfl)
   |(apply lP;rfl;rfl)
   |(apply lO;rfl;rfl)
   |(apply iV;rfl;exact Zz)
   |(apply wJ;rfl;exact Zh)
   |(apply wJ;rfl;exact Zm)
   |(apply eP;rfl;exact Zab)
   |(apply AM;rfl;rfl)
   |(apply HK;rfl;rfl)
   |(apply HH;rfl;rfl;omega)
   |(apply HS;rfl;rfl;omega)
   |(apply HN;rfl;rfl;omega)
   |(apply HP;rfl;rfl;decide)
   |(apply mY;rfl;rfl;omega;exact Zz)
   |(apply AN;rfl;rfl;omega;exact Zz)
   |(apply oN;rfl;(focus (simp only[Z0,Value.cells,Qz,Nat.reduceEqDiff,↓reduceIte,eq_self,Nat.reduceAdd,Nat.reduceSub,Qy,Nat.reduceLeDiff,Qs,and_self,rep,jA]<;>rfl)))
   |(apply zr;rfl;rfl;(focus (simp only[Z0,Value.cells,Qz,Nat.reduceEqDiff,↓reduceIte,eq_self,Nat.reduceAdd,Nat.reduceSub,Qy,Nat.reduceLeDiff,Qs,and_self,rep,jA]<;>rfl));rfl;rfl;exact Zac)
   |(apply pA;rfl;rfl;rfl))
    |(apply VO.nil;simp only[V.aV,V.bh,V.look,V.au,V.bP,V.bK,Qz,Nat.reduceAdd,Nat.reduceEqDiff,↓reduceIte,eq_self])
    |apply VC.AJ
    |apply VC.pz
    |apply VC.pw
    |apply VC.sX
    |apply VC.oJ
    |apply VC.Ez
    |apply VC.block
    |(apply VC.skip;try simp only[V.aV,V.bh,V.look,V.au,V.bP,V.bK,Qz,Nat.reduceAdd,Nat.reduceEqDiff,↓reduceIte,eq_self])
    |(apply VC.exit;try simp only[V.aV,V.bh,V.look,V.au,V.bP,V.bK,Qz,Nat.reduceAdd,Nat.reduceEqDiff,↓reduceIte,eq_self])
    |(apply VC.ret;try simp only[V.bP,V.bK])
    |(apply VC.mW;rfl)
    |(apply VC.mV;rfl)
    |(apply VC.tT;rfl)
    |(apply VC.tS;rfl)))
 exact d.out):G:=h ⟨r⟩
structure Hd where
 cls:Nat
 fmt:Nat
 spare:Nat
 hash:Nat
 age:Nat
 slots:Nat
 marked:Bool
 CV:Bool
def b2n(b:Bool):Nat:=if b then 1 else 0
structure Hd.May (h:Hd):Prop where
 cls:h.cls<=4095
 hash:h.hash<=4194303
 age:h.age<=15
 slots:h.slots<=65536
 spare:h.spare<=7
 fmt:1<=h.fmt/\h.fmt<=6
 plain:h.fmt<=4->h.spare=0
 eph:h.fmt=3->0<h.slots
 meth:h.fmt=6->0<h.slots
 some:h.spare≠0->(if h.fmt=6 then 1 else 0)<h.slots
def pk(h:Hd):Nat:=h.cls+h.fmt*4096+h.spare*32768+h.hash*262144+h.age*1099511627776+b2n h.marked*17592186044416+b2n h.CV*35184372088832
structure Ob where
 at_:Nat
 hd:Hd
 body:List Nat
def Ob.stop(b:Ob):Nat:=b.at_+2+b.hd.slots
structure Ob.Ok (b:Ob):Prop where
 may:b.hd.May
 len:b.body.length=b.hd.slots
 small:∀x∈b.body,x<18446744073709551616
 meth:b.hd.fmt=6->∃n r,b.body=(8*n+1)::r/\n<=r.length
structure Lay (ws st:List Nat)(Xq:List Ob):Prop where
 small:∀x∈ws,x<18446744073709551616
 sts:∀x∈st,x<18446744073709551616
 stl:st.length=ws.length/64+1
 len:ws.length<4194304
 ok:∀b∈Xq,b.Ok
 low:∀b∈Xq,2<=b.at_
 high:∀b∈Xq,b.stop<=ws.length
 head:∀b∈Xq,ws[b.at_]? =some (pk b.hd)/\ws[b.at_+1]? =some b.hd.slots
 body:∀b∈Xq,∀i<b.hd.slots,ws[b.at_+2+i]? =b.body[i]?
 sort:Xq.Pairwise λa b=>a.stop<=b.at_
 bits:∀w,w<ws.length->(bitAt st w=true↔∃b∈Xq,b.at_=w)
def kU:OY Nat:=⟨.int,uv,λa b=>by
 show some (decide (((a:Nat):Int)=((b:Nat):Int)))=some (decide (a=b))
 congr 1;rw[decide_eq_decide];omega⟩
structure AH where
 rm:List (Nat×Nat×Nat)
 Xq:List Ob
 sp:List Nat
 cl:List Nat
 stack:List Nat
 queue:List Nat
 CV:List Nat
 ahead:List (Nat×Nat)
 given:Nat
structure HW where
 a:AH
 ws:List Nat
 st:List Nat
 wb:Nat
 sb:Nat
 kv:Value
 qv:Value
 nv:Value
 ks:List Value
 qs:List Value
 ns:List Value
 mb:Nat
 es:Array MapEntry
 mc:Nat
def rmEnc(r:Nat×Nat×Nat):List Value:=[vi r.1,vi r.2.1,vi r.2.2]
def arrV(b:Nat)(l:List Nat):Value:=.slice (some ⟨b,0,none⟩) l.length l.length
def HMem(p:Nat)(x:HW):SH:=
 [kA p 0 [arrV x.wb x.ws,arrV x.sb x.st],kA p 4180 [x.kv,x.qv,x.nv,.map (some x.mb),vi x.a.given],kA p 2 (x.a.rm.flatMap rmEnc),kA p 20 (x.a.sp.map uv),kA p 84 (x.a.cl.map uv),
  kA x.wb 0 (x.ws.map uv),kA x.sb 0 (x.st.map uv),aj x.kv (x.a.stack.map uv) x.ks,aj x.qv (x.a.queue.map uv) x.qs,aj x.nv (x.a.CV.map uv) x.ns,[.obj x.mb (.map x.es x.mc)]]
def HA(p:Nat)(x:HW):List kC:=(HMem p x).flatten
structure RmOk (a:AH)(n:Nat):Prop where
 len:a.rm.length=6
 zero:a.rm[0]? =some (0,0,0)
 rng:∀(i:Nat) (r:Nat×Nat×Nat),a.rm[i]? =some r->r.1<=r.2.2/\r.2.2<=r.2.1/\r.2.1<=n
 low:∀(i:Nat) (r:Nat×Nat×Nat),1<=i->a.rm[i]? =some r->2<=r.1
 apart:∀(i j:Nat) (r s:Nat×Nat×Nat),i<j->a.rm[i]? =some r->a.rm[j]? =some s->1<=i->r.2.1<=s.1∨s.2.1<=r.1
 inn:∀b∈a.Xq,∃(i:Nat) (r:Nat×Nat×Nat),1<=i/\a.rm[i]? =some r/\r.1<=b.at_/\b.stop<=(if i=5 then r.2.1 else r.2.2)
structure HOk (x:HW):Prop where
 lay:Lay x.ws x.st x.a.Xq
 rm:RmOk x.a x.ws.length
 spl:x.a.sp.length=64
 cll:x.a.cl.length=4096
 sps:∀o∈x.a.sp,o<18446744073709551616
 cls:∀o∈x.a.cl,o<18446744073709551616
 stks:∀o∈x.a.stack,o<18446744073709551616
 ques:∀o∈x.a.queue,o<18446744073709551616
 nots:∀o∈x.a.CV,o<18446744073709551616
 stk:ke 1 x.kv x.a.stack.length (x.a.stack.map uv) x.ks
 que:ke 1 x.qv x.a.queue.length (x.a.queue.map uv) x.qs
 note:ke 1 x.nv x.a.CV.length (x.a.CV.map uv) x.ns
 map:yQ kU uv x.es x.mc x.a.ahead
 given:x.a.given<=4194303
 deep:x.a.stack.length<=4096
 few:x.a.queue.length<=1073741823/\x.a.CV.length<=1073741823
section
variable {P:Program} {n:Nat} {rs:List RO} {Γ:Env} {H:SH} {Z:List PanicEntry->Env->SH->Prop} {K:Env->SH->Prop}
end
structure Keep (f:Ob->Ob):Prop where
 at_:∀b,(f b).at_=b.at_
 slots:∀b,(f b).hd.slots=b.hd.slots
section
variable {ws st:List Nat} {Xq:List Ob}
end
section
variable {P:Program} {n:Nat} {rs:List RO} {Γ:Env} {H:SH} {Z:List PanicEntry->Env->SH->Prop} {K:Env->SH->Prop} {d:Option Nat}
end
section
variable {P:Program} {n:Nat} {rs:List RO} {Γ:Env} {H:SH} {Z:List PanicEntry->Env->SH->Prop} {K:Env->SH->Prop} {d:Option Nat}
def lQ {size len cap l b o:Nat}{x m:Operand}{j:IntKind}{h:Int}(B:ev Γ x=some (.slice (some ⟨b,o,none⟩) len cap))(q:ev Γ m=some (.int j h))(s:h=(l:Int))(hr:l<=len/\len<=cap)
 (k:VO P n rs (au d (.slice (some ⟨b,if cap=l then o else o+l*size,none⟩) (len-l) (cap-l)) Γ) H Z K):
 VO P n (⟨d,none,.tf size x (some m) none none⟩::rs) Γ H Z K:=by
 subst s;refine VO.pure rfl (λρ g=>?_) k;have A:bound (Value.int j (l:Int)) len=some l:=by simp[bound];omega
 simp[kb,g _ _ B,g _ _ q,yD,A,wX]
end
def Sat.alloc {w L}(h:Sat w L)(o):Sat (w.alloc o) L/\j9 w (w.alloc o):=by
 have:=h.push o [] (λx d=>by cases d) Zs;simpa using this
def Sat.set {w L R b off v u}(h:Sat w L)(p:L.Perm (.cell b off v::R)):Sat (w.setCell ⟨b,off,none⟩ u) (.cell b off u::R)/\j9 w (w.setCell ⟨b,off,none⟩ u):=(h.perm p).store
def Sat.allocs {L}:∀(d:List Obj) {w:World},Sat w L->Sat (d.foldl World.alloc w) L/\j9 w (d.foldl World.alloc w):=by
 intro d
 induction d with
 |nil=>intro w h;exact⟨h,.refl w⟩
 |cons o d ih=>
  intro w h;obtain⟨g,j⟩:=h.alloc o;obtain⟨m,q⟩:=ih g;exact⟨m,j.trans q⟩
def aq.MK {P f a5 A b o d new v}(B:wK P f=true)(h:∀w,(∀a∈A,a.holds w)->w.cell? ⟨b,o,none⟩=some d->w.frozen? ⟨b,o,none⟩=false->Calls P f a5.toArray w λe w'=>e=.returned v/\∃j:List Obj,w'=(j.foldl World.alloc w).setCell ⟨b,o,none⟩ new):
 aq P f a5 [A,[.cell b o d]] (λu dl=>u=v/\dl=[A,[.cell b o new]]):=by
 refine⟨B,λF w C=>?_⟩;have g:Sat w ((.cell b o d)::(A++F)):=C.perm (by simp only[Vd,Ve,vm,vj,vq,QV];exact Qd);obtain⟨m,q⟩:=g.cell (QL ..);refine(h w (λa s=>g.holds a (QK _ (Zw _ s))) m q).mono ?_
 rintro e w' ⟨rfl,j,rfl⟩
 obtain⟨G,D⟩:=g.allocs j;obtain⟨H,E⟩:=G.set (u:=new) (.refl _);refine⟨_,_,rfl,⟨rfl,rfl⟩,H.perm ?_,D.trans E⟩;simp only[Vd,Ve,vm,vj,vq,QV];exact Qd.symm
structure yj where
 name:ByteArray
 cg:Nat
 arg:Bool
 own:Int
structure wY where
 kind:Nat
 index:Int
 slot:Int
 name:ByteArray
inductive PN where
 |mk (kind:Nat) (name:ByteArray) (lit:Lt) (refs:List wY) (cg:Int) (super:Bool) (ak:List PN)
def PN.kind:PN->Nat|.mk k _ _ _ _ _ _=>k
def PN.name:PN->ByteArray|.mk _ s _ _ _ _ _=>s
def PN.lit:PN->Lt|.mk _ _ l _ _ _ _=>l
def PN.refs:PN->List wY|.mk _ _ _ r _ _ _=>r
def PN.cg:PN->Int|.mk _ _ _ _ u _ _=>u
def PN.super:PN->Bool|.mk _ _ _ _ _ b _=>b
def PN.ak:PN->List PN|.mk _ _ _ _ _ _ l=>l
def PN.sZ(b:Bool):PN->PN|.mk k s l r u _ ks=>.mk k s l r u b ks
structure ai where
 vars:List yj
 a7:List Int
 a5:List Nat
 dg:List (Nat×Nat)
 a8:List (List PN)
 f:Option (Nat×Int)
def e0:ByteArray:=⟨#[]⟩
def fD:Lt:=.mk 0 0 0 e0 []
def ai.wrong(st:ai)(e:Nat)(at_:Int):ai:=if st.f.isNone then {st with f:=some (e,at_)}else st
def nmIfT:ByteArray:=⟨#[105,102,84,114,117,101,58]⟩
def nmIfF:ByteArray:=⟨#[105,102,70,97,108,115,101,58]⟩
def nmAnd:ByteArray:=⟨#[97,110,100,58]⟩
def nmOr:ByteArray:=⟨#[111,114,58]⟩
def nmTF:ByteArray:=⟨#[105,102,84,114,117,101,58,105,102,70,97,108,115,101,58]⟩
def nmFT:ByteArray:=⟨#[105,102,70,97,108,115,101,58,105,102,84,114,117,101,58]⟩
def Xl:ByteArray:=⟨#[119,104,105,108,101,84,114,117,101,58]⟩
def Xk:ByteArray:=⟨#[119,104,105,108,101,70,97,108,115,101,58]⟩
def nmWT:ByteArray:=⟨#[119,104,105,108,101,84,114,117,101]⟩
def nmWF:ByteArray:=⟨#[119,104,105,108,101,70,97,108,115,101]⟩
def nmTo:ByteArray:=⟨#[116,111,58,100,111,58]⟩
def kd(s:ByteArray):Nat:=
 if s=nmIfT∨s=nmIfF∨s=nmAnd∨s=nmOr then 1
 else if s=nmTF∨s=nmFT then 2
 else if s=Xl∨s=Xk then 3
 else if s=nmWT∨s=nmWF then 4
 else if s=nmTo then 5 else 0
def jV(x:Nd):Bool:=decide (x.kind=7)&&decide (x.a5.length=0)
def jR:List Nd->Bool
 |r::_=>kg r
 |[]=>false
def yi(n:Nat)(ak:List Nd):Bool:=
 match n with
 |1=>match ak with|[_,b]=>jV b|_=>false
 |2=>match ak with|[_,b,c]=>jV b&&jV c|_=>false
 |3=>match ak with|[a,b]=>jV a&&jV b|_=>false
 |4=>match ak with|[a]=>jV a|_=>false
 |5=>match ak with|[_,_,b]=>decide (b.kind=7)&&decide (b.a5.length=1)|_=>false
 |_=>false
def fA(k:Nat)(s:ByteArray)(ak:List Nd):Bool:=decide (k=4)&&!jR ak&&yi (kd s) ak
def z5(x:Nd):Bool:=fA x.kind x.name x.ak
def zc(s:ByteArray)(i:Nat):Bool:=
 match kd s with
 |3=>true
 |4=>true
 |5=>decide (i=2)
 |_=>decide (0<i)
def zB(s:ByteArray):Nat:=match kd s with|3=>12|4=>12|5=>13|_=>11
def yA(s:ByteArray):ByteArray:=if kd s=5 then e0 else s
def CT:ByteArray:=⟨#[115,101,108,102]⟩
def o8:ByteArray:=⟨#[115,117,112,101,114]⟩
def JI:ByteArray:=⟨#[110,105,108]⟩
def CU:ByteArray:=⟨#[116,114,117,101]⟩
def sO:ByteArray:=⟨#[102,97,108,115,101]⟩
def wm(s:ByteArray):Nat:=if s=CT∨s=o8 then 1 else if s=JI then 2 else if s=CU then 3 else if s=sO then 4 else 0
def jQ(vs:List yj)(a6:List Nat)(nm:ByteArray):Option Nat:=a6.reverse.find? λv=>decide ((vs[v]?).map (·.name)=some nm)
def wM(v:Nat):wY:=⟨99,v,0,e0⟩
def kO(cg:Nat)(arg own:Bool)(at_:Int):List ByteArray->Nat->ai->List Nat->ai×List Nat
 |[],_,st,a6=>(st,a6)
 |nm::r,i,st,a6=>
  kO cg arg own at_ r (i+1) {(if(jQ st.vars a6 nm).isSome then st.wrong 180 at_ else st)with vars:=st.vars++[⟨nm,cg,arg,if arg&&own then i else -1⟩]} (a6++[st.vars.length])
def jx(F G:List ByteArray)(st:ai)(a6:List Nat)(nm:ByteArray)(u:Nat)(at_:Int)(put:Bool):wY×ai:=
 if wm nm≠0 then(⟨wm nm,0,0,e0⟩,st)
 else match jQ st.vars a6 nm with
  |some v=>(wM v,{(if put&&((st.vars[v]?).map (·.arg)).getD false then st.wrong 182 at_ else st)with dg:=st.dg++[(u,v)]})
  |none=>match F.findIdx? (λs=>decide (s=nm))with
   |some i=>(⟨7,i,0,e0⟩,st)
   |none=>(⟨8,0,0,nm⟩,if G.any (λs=>decide (s=nm))then st else st.wrong 181 at_)
def we(b:Bool):List PN->List PN
 |x::r=>x::r.map (PN.sZ b)
 |[]=>[]
mutual
def jF(F G:List ByteArray):Nd->ai->List Nat->Nat->PN×ai
 |.mk k s lit a5 ae ak p,st,a6,u=>
  if fA k s ak then
   match ku F G s ak 0 st a6 u with
   |(ks,rs,bx)=>(.mk (zB s) (yA s) fD rs 0 false ks,bx)
  else if k=1 then(.mk 1 e0 lit [] 0 false [],st)
  else if k=2 then
   match jx F G st a6 s u p false with
   |(r,bx)=>(.mk 2 e0 fD [r] 0 false [],bx)
  else if k=3 then
   match jx F G st a6 s u p true with
   |(r,bx)=>match kQ F G ak bx a6 u with
    |(ks,ff)=>(.mk 3 e0 fD [r] 0 false ks,ff)
  else if k=7 then
   match kO st.a7.length true true p a5 0 {st with a7:=st.a7++[(u:Int)],a5:=st.a5++[a5.length],a8:=st.a8++[[]]} a6 with
   |(bx,cG)=>match kO st.a7.length false true p ae 0 bx cG with
    |(ff,Uy)=>match kQ F G ak ff Uy st.a7.length with
     |(b,st3)=>(.mk 8 e0 fD [] st.a7.length false [],{st3 with a8:=st3.a8.set st.a7.length b})
  else if k=8 then match kQ F G ak st a6 u with|(ks,bx)=>(.mk 9 e0 fD [] 0 false ks,bx)
  else if k=9 then match kQ F G ak st a6 u with|(ks,bx)=>(.mk 10 e0 fD [] 0 false ks,bx)
  else if k=6 then match kQ F G ak st a6 u with|(ks,bx)=>(.mk 7 s fD [] 0 false ks,bx)
  else if k=5 then match kQ F G ak st a6 u with|(ks,bx)=>(.mk 6 e0 fD [] 0 false (we (jR ak) ks),bx)
  else if jR ak then match ak with
   |[]=>(.mk 5 s fD [] 0 false [],st)
   |_::r=>match kQ F G r st a6 u with|(ks,bx)=>(.mk 5 s fD [] 0 false ks,bx)
  else match kQ F G ak st a6 u with|(ks,bx)=>(.mk 4 s fD [] 0 false ks,bx)
def kQ(F G:List ByteArray):List Nd->ai->List Nat->Nat->List PN×ai
 |[],st,_,_=>([],st)
 |x::r,st,a6,u=>
  match jF F G x st a6 u with
  |(q,bx)=>match kQ F G r bx a6 u with
   |(qs,ff)=>(q::qs,ff)
def ku(F G:List ByteArray)(s:ByteArray):List Nd->Nat->ai->List Nat->Nat->List PN×List wY×ai
 |[],_,st,_,_=>([],[],st)
 |x::r,i,st,a6,u=>
  if zc s i then
   match zW F G x st a6 u with
   |(q,bx)=>match ku F G s r (i+1) bx a6 u with
    |(qs,fs,ff)=>(q::qs,(if kd s=5 then wM st.vars.length::fs else fs),ff)
  else match jF F G x st a6 u with
   |(q,bx)=>match ku F G s r (i+1) bx a6 u with
    |(qs,fs,ff)=>(q::qs,fs,ff)
def zW(F G:List ByteArray):Nd->ai->List Nat->Nat->PN×ai
 |.mk _ _ _ a5 ae ak p,st,a6,u=>
  match kO u true false p a5 0 st a6 with
  |(bx,cG)=>match kO u false false p ae 0 bx cG with
   |(ff,Uy)=>match kQ F G ak ff Uy u with
    |(ks,st3)=>(.mk 14 e0 fD ((List.range' bx.vars.length ae.length).map wM) 0 false ks,st3)
end
def iD(F G:List ByteArray)(a5 ae:List ByteArray)(ak:List Nd)(p:Int)(st:ai)(a6:List Nat)(o:Int):ai:=
 match kO st.a7.length true true p a5 0 {st with a7:=st.a7++[o],a5:=st.a5++[a5.length],a8:=st.a8++[[]]} a6 with
 |(bx,cG)=>match kO st.a7.length false true p ae 0 bx cG with
  |(ff,Uy)=>match kQ F G ak ff Uy st.a7.length with
   |(b,st3)=>{st3 with a8:=st3.a8.set st.a7.length b}
def iU:ai:=⟨[],[],[],[],[],none⟩
def lM(F G:List ByteArray)(a5 ae:List ByteArray)(ak:List Nd):ai:=iD F G a5 ae ak 0 iU [] (-1)
def Dj(a7:List Int):Nat->Int->List Nat
 |0,_=>[]
 |n+1,u=>if u<0 then []else u.toNat::Dj a7 n (a7.getD u.toNat (-1))
def ai.line(st:ai)(u:Nat):List Nat:=Dj st.a7 (st.a7.length+1) u
def ai.ah(st:ai)(v:Nat):Nat:=((st.vars[v]?).map (·.cg)).getD 0
def ai.aT(st:ai)(v:Nat):Int:=((st.vars[v]?).map (·.own)).getD 0
def ai.rem(st:ai)(v:Nat):Bool:=st.dg.any λq=>decide (q.2=v)&&decide (st.aT v<0)&&decide (st.ah v≠q.1)
def ai.way(st:ai)(u v:Nat):List Nat:=(st.line u).takeWhile λw=>decide (w≠st.ah v)
def ai.aD(st:ai)(u:Nat)(t:Nat×Int):Bool:=st.dg.any λq=>decide ((st.ah q.2,st.aT q.2)=t)&&decide (u∈st.way q.1 q.2)
def ai.things(st:ai)(o:Nat):List (Nat×Int):=(List.range (st.a5.getD o 0+1)).map λi:Nat=>(o,(i:Int)-1)
def ai.a9(st:ai)(u:Nat):List (Nat×Int):=((st.line u).drop 1).reverse.flatMap λo=>(st.things o).filter (st.aD u)
def ai.bi(st:ai)(u:Nat)(r:Bool):List Nat:=(List.range st.vars.length).filter λv=>decide (st.ah v=u)&&decide (st.aT v<0)&&decide (st.rem v=r)
def dC {α:Type}[DecidableEq α](l:List α)(x:α):Int:=match l.findIdx? (λy=>decide (y=x))with|some i=>i|none=>-1
def ai.place(st:ai)(u:Nat)(t:Nat×Int):Int:=
 if t.1=u then(if 0<=t.2 then t.2 else st.a5.getD u 0+(st.a9 u).length+(st.bi u false).length)
 else match(st.a9 u).findIdx? (λy=>decide (y=t))with
  |some i=>st.a5.getD u 0+i
  |none=>-1
def ai.known(st:ai)(u v:Nat):wY:=
 if 0<=st.aT v then⟨5,st.place u (st.ah v,st.aT v),0,e0⟩
 else if st.rem v then⟨6,st.place u (st.ah v,-1),dC (st.bi (st.ah v) true) v,e0⟩
 else⟨5,st.a5.getD u 0+(st.a9 u).length+dC (st.bi u false) v,0,e0⟩
def ai.fix(st:ai)(u:Nat)(r:wY):wY:=if r.kind=99 then st.known u r.index.toNat else r
mutual
def eW(st:ai)(u:Nat):PN->PN
 |.mk k s l rs n b ak=>.mk k s l (rs.map (st.fix u)) n b (eu st u ak)
def eu(st:ai)(u:Nat):List PN->List PN
 |[]=>[]
 |x::r=>eW st u x::eu st u r
end
structure zM where
 a7:Int
 a5:Int
 a9:List wY
 bi:Int
 aA:Int
 body:List PN
def ai.aG(st:ai)(u:Nat):zM:=
 ⟨st.a7.getD u (-1),st.a5.getD u 0,(st.a9 u).map λt=>⟨5,st.place (st.a7.getD u (-1)).toNat t,0,e0⟩,(st.bi u false).length,(st.bi u true).length,eu st u (st.a8.getD u [])⟩
def zM.frame(x:zM):Int:=x.a5+x.a9.length+x.bi+(if 0<x.aA then 1 else 0)
def zM.SU(x:zM):Bool:=decide (63<x.frame)||decide (63<x.aA)
def ai.answer(st:ai):List zM×Nat×Int:=
 match st.f with
 |some f=>([],f)
 |none=>if 255<st.a7.length then([],183,0)
  else if((List.range st.a7.length).map st.aG).any zM.SU then([],183,0)
  else((List.range st.a7.length).map st.aG,0,0)
def errW(e:Nat):Prop:=e=180∨e=181∨e=182
structure Gr (a b:ai):Prop where
 f:∀e,a.f=some e->b.f=some e
 vars:a.vars <+:b.vars
 a7:a.a7 <+:b.a7
 a5:a.a5 <+:b.a5
 dg:a.dg <+:b.dg
 bod:b.a8.length=b.a7.length↔a.a8.length=a.a7.length
 err:∀e,b.f=some e->a.f=some e∨errW e.1
def Gr.refl(a):Gr a a:=⟨λ_ h=>h,Qf _,Qf _,Qf _,Qf _,Iff.rfl,λ_ h=>.inl h⟩
def Gr.trans {a b c}(h:Gr a b)(k:Gr b c):Gr a c:=
 ⟨λe d=>k.f e (h.f e d),h.vars.trans k.vars,h.a7.trans k.a7,h.a5.trans k.a5,h.dg.trans k.dg,k.bod.trans h.bod,λe d=>(k.err e d).elim (h.err e) .inr⟩
def Bz(a e p)(he:errW e):Gr a (a.wrong e p):=by
 unfold ai.wrong;split
 .rename_i h;refine⟨λx d=>?_,Qf _,Qf _,Qf _,Qf _,Iff.rfl,λx d=>.inr (by cases d;exact he)⟩;rw[d]at h;cases h
 .exact Gr.refl a
def Gn(a l):Gr a {a with vars:=a.vars++l}:=⟨λ_ h=>h,Qe _ _,Qf _,Qf _,Qf _,Iff.rfl,λ_ h=>.inl h⟩
def Gm(a l):Gr a {a with dg:=a.dg++l}:=⟨λ_ h=>h,Qf _,Qf _,Qf _,Qe _ _,Iff.rfl,λ_ h=>.inl h⟩
def NS(a o n):Gr a {a with a7:=a.a7++[o],a5:=a.a5++[n],a8:=a.a8++[[]]}:=
 ⟨λ_ h=>h,Qf _,Qe _ _,Qe _ _,Qf _,Zs,λ_ h=>.inl h⟩
def aae(a i b):Gr a {a with a8:=a.a8.set i b}:=
 ⟨λ_ h=>h,Qf _,Qf _,Qf _,Qf _,Zs,λ_ h=>.inl h⟩
def dT(a:ai)(e:Nat)(p:Int):(a.wrong e p).vars=a.vars:=by unfold ai.wrong;split<;>rfl
def Dr(a:ai)(e:Nat)(p:Int):(a.wrong e p).dg=a.dg:=by unfold ai.wrong;split<;>rfl
def eR(a:ai)(e:Nat)(p:Int):(a.wrong e p).a7=a.a7:=by unfold ai.wrong;split<;>rfl
def zv(cg:Nat)(arg own:Bool)(p:Int):∀(l:List ByteArray) (i:Nat) (st:ai) (a6:List Nat),Gr st (kO cg arg own p l i st a6).1
 |[],_,st,_=>Gr.refl st
 |nm::r,i,st,a6=>by
  unfold kO;refine Gr.trans ?_ (zv cg arg own p r _ _ _);split
  .refine Gr.trans (Bz st 180 p (.inl rfl)) ?_;have:=Gn (st.wrong 180 p) [⟨nm,cg,arg,if arg&&own then i else -1⟩];rw[dT]at this;exact this
  .exact Gn st _
def uk(F G st a6 nm u p put):Gr st (jx F G st a6 nm u p put).2:=by
 unfold jx;split
 .exact Gr.refl st
 .split
  .rename_i v _;simp only;split
   .refine Gr.trans (Bz st 182 p (.inr (.inr rfl))) ?_;have:=Gm (st.wrong 182 p) [(u,v)];rw[Dr]at this;exact this
   .exact Gm st _
  .split
   .exact Gr.refl st
   .simp only;split
    .exact Gr.refl st
    .exact Bz st 181 p (.inr (.inl rfl))
section
variable (F G:List ByteArray) (k:Nat) (s:ByteArray) (lit:Lt) (a5 ae:List ByteArray) (ak:List Nd) (p:Int) (st:ai) (a6:List Nat) (u:Nat)
def wE(x:Nd)(r:List Nd):kQ F G (x::r) st a6 u=((jF F G x st a6 u).1::(kQ F G r (jF F G x st a6 u).2 a6 u).1,(kQ F G r (jF F G x st a6 u).2 a6 u).2):=by rw[kQ]
def yF(x:Nd)(r:List Nd)(i:Nat)(h:zc s i=true):ku F G s (x::r) i st a6 u=((zW F G x st a6 u).1::(ku F G s r (i+1) (zW F G x st a6 u).2 a6 u).1,
 (if kd s=5 then wM st.vars.length::(ku F G s r (i+1) (zW F G x st a6 u).2 a6 u).2.1 else(ku F G s r (i+1) (zW F G x st a6 u).2 a6 u).2.1),(ku F G s r (i+1) (zW F G x st a6 u).2 a6 u).2.2):=by rw[ku,if_pos h]
def zP(x:Nd)(r:List Nd)(i:Nat)(h:zc s i=false):ku F G s (x::r) i st a6 u=((jF F G x st a6 u).1::(ku F G s r (i+1) (jF F G x st a6 u).2 a6 u).1,
 (ku F G s r (i+1) (jF F G x st a6 u).2 a6 u).2.1,(ku F G s r (i+1) (jF F G x st a6 u).2 a6 u).2.2):=by rw[ku,if_neg (by rw[h];simp)]
def yf(h:fA k s ak=true):jF F G (.mk k s lit a5 ae ak p) st a6 u=(.mk (zB s) (yA s) fD (ku F G s ak 0 st a6 u).2.1 0 false (ku F G s ak 0 st a6 u).1,(ku F G s ak 0 st a6 u).2.2):=by
 unfold jF;rw[if_pos h]
def bq(o:Int):ai×List Nat:=
 kO st.a7.length false true p ae 0 (kO st.a7.length true true p a5 0 (({st with a7:=st.a7++[o],a5:=st.a5++[a5.length],a8:=st.a8++[[]]}:ai)) a6).1 (kO st.a7.length true true p a5 0 (({st with a7:=st.a7++[o],a5:=st.a5++[a5.length],a8:=st.a8++[[]]}:ai)) a6).2
def wu(o:Int):iD F G a5 ae ak p st a6 o={(kQ F G ak (bq a5 ae p st a6 o).1 (bq a5 ae p st a6 o).2 st.a7.length).2 with a8:=(kQ F G ak (bq a5 ae p st a6 o).1 (bq a5 ae p st a6 o).2 st.a7.length).2.a8.set st.a7.length (kQ F G ak (bq a5 ae p st a6 o).1 (bq a5 ae p st a6 o).2 st.a7.length).1}:=by
 unfold iD bq;rfl
section
variable (h:fA k s ak=false)
include h
def ig(d:k=1):jF F G (.mk k s lit a5 ae ak p) st a6 u=(.mk 1 e0 lit [] 0 false [],st):=by
 unfold jF;rw[if_neg (by rw[h];simp),if_pos d]
def ii(d:k=2):jF F G (.mk k s lit a5 ae ak p) st a6 u=(.mk 2 e0 fD [(jx F G st a6 s u p false).1] 0 false [],(jx F G st a6 s u p false).2):=by
 unfold jF;rw[if_neg (by rw[h];simp),if_neg Zo,if_pos d]
def ij(d:k=3):jF F G (.mk k s lit a5 ae ak p) st a6 u=(.mk 3 e0 fD [(jx F G st a6 s u p true).1] 0 false (kQ F G ak (jx F G st a6 s u p true).2 a6 u).1,(kQ F G ak (jx F G st a6 s u p true).2 a6 u).2):=by
 unfold jF;rw[if_neg (by rw[h];simp),if_neg Zo,if_neg Zo,if_pos d]
def iq(d:k=7):jF F G (.mk k s lit a5 ae ak p) st a6 u=(.mk 8 e0 fD [] st.a7.length false [],iD F G a5 ae ak p st a6 u):=by
 unfold jF;rw[if_neg (by rw[h];simp),if_neg Zo,if_neg Zo,if_neg Zo,if_pos d];rfl
def ir(d:k=8):jF F G (.mk k s lit a5 ae ak p) st a6 u=(.mk 9 e0 fD [] 0 false (kQ F G ak st a6 u).1,(kQ F G ak st a6 u).2):=by
 unfold jF;rw[if_neg (by rw[h];simp),if_neg Zo,if_neg Zo,if_neg Zo,if_neg Zo,if_pos d]
def iu(d:k=9):jF F G (.mk k s lit a5 ae ak p) st a6 u=(.mk 10 e0 fD [] 0 false (kQ F G ak st a6 u).1,(kQ F G ak st a6 u).2):=by
 unfold jF;rw[if_neg (by rw[h];simp),if_neg Zo,if_neg Zo,if_neg Zo,if_neg Zo,if_neg Zo,if_pos d]
def io(d:k=6):jF F G (.mk k s lit a5 ae ak p) st a6 u=(.mk 7 s fD [] 0 false (kQ F G ak st a6 u).1,(kQ F G ak st a6 u).2):=by
 unfold jF;rw[if_neg (by rw[h];simp),if_neg Zo,if_neg Zo,if_neg Zo,if_neg Zo,if_neg Zo,if_neg Zo,if_pos d]
def im(d:k=5):jF F G (.mk k s lit a5 ae ak p) st a6 u=(.mk 6 e0 fD [] 0 false (we (jR ak) (kQ F G ak st a6 u).1),(kQ F G ak st a6 u).2):=by
 unfold jF;rw[if_neg (by rw[h];simp),if_neg Zo,if_neg Zo,if_neg Zo,if_neg Zo,if_neg Zo,if_neg Zo,if_neg Zo,if_pos d]
def eI(E:k≠1/\k≠2/\k≠3/\k≠5/\k≠6/\k≠7/\k≠8/\k≠9)(d:jR ak=true):jF F G (.mk k s lit a5 ae ak p) st a6 u=(.mk 5 s fD [] 0 false (kQ F G ak.tail st a6 u).1,(kQ F G ak.tail st a6 u).2):=by
 obtain⟨g,j,m,q,A,B,C,D⟩:=E;unfold jF;rw[if_neg (by rw[h];simp),if_neg g,if_neg j,if_neg m,if_neg B,if_neg C,if_neg D,if_neg A,if_neg q,if_pos d];cases ak with
 |nil=>cases d
 |cons x r=>rfl
def il(D:k≠1/\k≠2/\k≠3/\k≠5/\k≠6/\k≠7/\k≠8/\k≠9)(E:jR ak=false):jF F G (.mk k s lit a5 ae ak p) st a6 u=(.mk 4 s fD [] 0 false (kQ F G ak st a6 u).1,(kQ F G ak st a6 u).2):=by
 obtain⟨d,g,j,m,q,A,B,C⟩:=D;unfold jF;rw[if_neg (by rw[h];simp),if_neg d,if_neg g,if_neg j,if_neg A,if_neg B,if_neg C,if_neg q,if_neg m,if_neg (by rw[E];simp)]
end
def fB:zW F G (.mk k s lit a5 ae ak p) st a6 u=
 (.mk 14 e0 fD ((List.range' (kO u true false p a5 0 st a6).1.vars.length ae.length).map wM) 0 false
   (kQ F G ak (kO u false false p ae 0 (kO u true false p a5 0 st a6).1 (kO u true false p a5 0 st a6).2).1 (kO u false false p ae 0 (kO u true false p a5 0 st a6).1 (kO u true false p a5 0 st a6).2).2 u).1,
  (kQ F G ak (kO u false false p ae 0 (kO u true false p a5 0 st a6).1 (kO u true false p a5 0 st a6).2).1 (kO u false false p ae 0 (kO u true false p a5 0 st a6).1 (kO u true false p a5 0 st a6).2).2 u).2):=by rw[zW]
end
def wt(F G):∀(N:Nat) (x:Nd),x.size<=N->∀st a6 u,Gr st (jF F G x st a6 u).2/\Gr st (zW F G x st a6 u).2:=by
 intro N
 induction N with
 |zero=>intro x g;have:=x.size_pos;omega
 |succ N ih=>
  have d:∀l:List Nd,Nd.ay l<=N->∀st a6 u,Gr st (kQ F G l st a6 u).2:=by
   intro l
   induction l with
   |nil=>intro _ st a6 u;rw[kQ];exact Gr.refl st
   |cons x r tC=>
    exact zFJ
  have j:∀(s:ByteArray) (l:List Nd),Nd.ay l<=N->∀i st a6 u,Gr st (ku F G s l i st a6 u).2.2:=by
   intro s l
   induction l with
   |nil=>intro _ i st a6 u;rw[ku];exact Gr.refl st
   |cons x r tC=>
    exact zCM
  intro x g st a6 u;cases x with
  |mk k s lit a5 ae ak p=>
  simp only[Nd.size]at g;have hk:Nd.ay ak<=N:=by omega
  refine⟨?_,?_⟩
  .cases h:fA k s ak with
   |true=>rw[yf _ _ _ _ _ _ _ _ _ _ _ _ h];exact j s ak hk 0 st a6 u
   |false=>
    by_cases h1:k=1
    .rw[ig _ _ _ _ _ _ _ _ _ _ _ _ h h1];exact Gr.refl st
    by_cases h2:k=2
    .rw[ii _ _ _ _ _ _ _ _ _ _ _ _ h h2];exact uk F G st a6 s u p false
    by_cases h3:k=3
    .rw[ij _ _ _ _ _ _ _ _ _ _ _ _ h h3];exact(uk F G st a6 s u p true).trans (d ak hk _ a6 u)
    by_cases h7:k=7
    .rw[iq _ _ _ _ _ _ _ _ _ _ _ _ h h7];simp only;rw[wu];refine Gr.trans ?_ (Gr.trans (d ak hk _ _ _) (aae _ _ _));exact Gr.trans (NS st _ _) (Gr.trans (zv _ _ _ _ _ _ _ _) (zv _ _ _ _ _ _ _ _))
    by_cases h8:k=8
    .rw[ir _ _ _ _ _ _ _ _ _ _ _ _ h h8];exact d ak hk st a6 u
    by_cases h9:k=9
    .rw[iu _ _ _ _ _ _ _ _ _ _ _ _ h h9];exact d ak hk st a6 u
    by_cases h6:k=6
    .rw[io _ _ _ _ _ _ _ _ _ _ _ _ h h6];exact d ak hk st a6 u
    by_cases h5:k=5
    .rw[im _ _ _ _ _ _ _ _ _ _ _ _ h h5];exact d ak hk st a6 u
    cases hs:jR ak with
    |true=>
     rw[eI _ _ _ _ _ _ _ _ _ _ _ _ h ⟨h1,h2,h3,h5,h6,h7,h8,h9⟩ hs];refine d ak.tail ?_ st a6 u;exact zDB
    |false=>rw[il _ _ _ _ _ _ _ _ _ _ _ _ h ⟨h1,h2,h3,h5,h6,h7,h8,h9⟩ hs];exact d ak hk st a6 u
  .rw[fB];exact Gr.trans (zv _ _ _ _ _ _ _ _) (Gr.trans (zv _ _ _ _ _ _ _ _) (d ak hk _ _ _))
structure Wf (st:ai):Prop where
 al:st.a5.length=st.a7.length
 bl:st.a8.length=st.a7.length
 low:∀(i:Nat) o,st.a7[i]? =some o->-1<=o/\o<i
 vu:∀(v:Nat) x,st.vars[v]? =some x->x.cg<st.a7.length/\-1<=x.own/\x.own<st.a5.getD x.cg 0
 uu:∀q∈st.dg,q.1<st.a7.length/\q.2<st.vars.length
def Wf.gk {st}(h:Wf st)(i):st.a7.getD i (-1)<i:=by
 rw[Vh];cases e:st.a7[i]? with
 |none=>simp only[Option.getD_none];omega
 |some o=>exact(h.low i o e).2
def HV(o n){u}(h:u < 0):Dj o n u=[]:=by
 cases n with
 |zero=>rfl
 |succ n=>simp only[Dj];rw[if_pos h]
def Y3 {o:List Int}(h:∀i,o.getD i (-1) < (i:Int)):∀(u n m:Nat),u<n->u<m->Dj o n u=Dj o m u:=by
 intro u
 induction u using Nat.strongRecOn with
 |_ u ih=>
  intro n m hn hm;cases n with
  |zero=>omega
  |succ n=>
   cases m with
   |zero=>omega
   |succ m=>
    simp only[Dj];rw[if_neg Zo,if_neg Zo]
    congr 1
    rw[vW];have hl:=h u;by_cases c:o.getD u (-1)<0
    .rw[HV o n c,HV o m c]
    .have e:o.getD u (-1)=((o.getD u (-1)).toNat:Int):=by omega
     rw[e];exact ih _ Zo n m Zo Zo
def Wf.line {st}(h:Wf st){u}(hu:u<=st.a7.length):st.line u=u::(if st.a7.getD u (-1)<0 then []else st.line (st.a7.getD u (-1)).toNat):=by
 unfold ai.line;have hl:=h.gk u;rw[Dj,if_neg Zo,vW]
 congr 1
 by_cases c:st.a7.getD u (-1)<0
 .rw[if_pos c,HV _ _ c]
 .rw[if_neg c];have e:st.a7.getD u (-1)=((st.a7.getD u (-1)).toNat:Int):=by omega
  have:=Y3 h.gk (st.a7.getD u (-1)).toNat st.a7.length (st.a7.length+1) Zo Zo;rw[<- e]at this;rw[<- e];exact this
def Wf.oO {st}(h:Wf st){u v}(d:u<=st.a7.length)(e:u=st.ah v):st.way u v=[]:=by
 unfold ai.way;rw[h.line d,List.takeWhile_cons,if_neg (by simp[e])]
def Wf.oP {st}(h:Wf st){u v}(d:u<=st.a7.length)(e:u≠st.ah v):st.way u v=u::(if st.a7.getD u (-1)<0 then []else st.way (st.a7.getD u (-1)).toNat v):=by
 unfold ai.way;rw[h.line d,List.takeWhile_cons,if_pos (by simp[e])]
 congr 1
 split<;>rfl
def Wf.sG {st}(h:Wf st):∀(u:Nat),u<=st.a7.length->∀w∈st.line u,w<=u:=by
 intro u
 induction u using Nat.strongRecOn with
 |_ u ih=>
  intro d w hw;rw[h.line d]at hw;rcases QJ.1 hw with rfl|hw
  .exact Qs _
  .have hl:=h.gk u;split at hw
   .cases hw
   .have:=ih (st.a7.getD u (-1)).toNat Zo Zo w hw;omega
def ai.use(st:ai)(u v:Nat):ai:={st with dg:=st.dg++[(u,v)]}
def Hv(st:ai)(u v w:Nat):(st.use u v).rem w=(st.rem w||(decide (v=w)&&decide (st.aT w < 0)&&decide (st.ah w≠u))):=by
 unfold ai.rem ai.use;simp only[List.any_append,vg,List.any_nil,vU];rfl
def CR(st:ai)(u v j:Nat)(t:Nat×Int):(st.use u v).aD j t=(st.aD j t||(decide ((st.ah v,st.aT v)=t)&&decide (j∈st.way u v))):=by
 unfold ai.aD ai.use;simp only[List.any_append,vg,List.any_nil,vU];rfl
def Wf.use {st}(h:Wf st){u v}(d:u < st.a7.length)(g:v < st.vars.length):Wf (st.use u v):=
 ⟨h.al,h.bl,h.low,h.vu,λq hq=>by
   rcases QH.1 hq with hq|hq
   .exact h.uu q hq
   .obtain rfl:=QU.1 hq;exact⟨d,g⟩⟩
def ai.bu(st:ai)(x:yj):ai:={st with vars:=st.vars++[x]}
def dQ(st:ai)(x:yj){v:Nat}(d:v < st.vars.length):(st.bu x).ah v=st.ah v:=by
 unfold ai.ah ai.bu;simp only;rw[Vj d]
def uM(st:ai)(x:yj){v:Nat}(d:v < st.vars.length):(st.bu x).aT v=st.aT v:=by
 unfold ai.aT ai.bu;simp only;rw[Vj d]
def any_congr {α:Type}{l:List α}{p q:α->Bool}(h:∀x∈l,p x=q x):l.any p=l.any q:=by
 induction l with
 |nil=>rfl
 |cons x l ih=>rw[vg,vg,h x Zs,ih (λy d=>h y (by simp[d]))]
def way_add(st:ai)(x:yj)(u:Nat){v:Nat}(d:v < st.vars.length):(st.bu x).way u v=st.way u v:=by
 unfold ai.way;rw[dQ st x d];rfl
def Wf.Xg {st}(h:Wf st)(x j t):(st.bu x).aD j t=st.aD j t:=by
 unfold ai.aD;refine any_congr (l:=st.dg) (λq d=>?_);have:=(h.uu q d).2;rw[dQ st x this,uM st x this,way_add st x _ this]
def Wf.rem_add {st}(h:Wf st)(x){v}(d:v < st.vars.length):(st.bu x).rem v=st.rem v:=by
 unfold ai.rem;refine any_congr (l:=st.dg) (λq hq=>?_);rw[dQ st x d,uM st x d]
def Wf.rem_new {st}(h:Wf st)(x):(st.bu x).rem st.vars.length=false:=by
 unfold ai.rem;rw[List.any_eq_false];intro q d;have:=(h.uu q d).2;simp only[vG,decide_eq_true_eq,not_and];intro e;omega
def Wf.bu {st:ai}(h:Wf st){x:yj}(m:x.cg < st.a7.length)(j:-1<=x.own/\x.own < st.a5.getD x.cg 0):Wf (st.bu x):=
 ⟨h.al,h.bl,h.low,λv y d=>by
   unfold ai.bu at d;simp only at d;rw[Vi]at d;split at d
   .exact h.vu v y d
   .have:=(Vt.1 d).1;simp only[QA]at this;have e:v-st.vars.length=0:=by omega
    rw[e]at d;obtain rfl:x=y:=by simpa using d
    exact⟨m,j⟩,λq g=>⟨(h.uu q g).1,by have:=(h.uu q g).2;show q.2<(st.vars++[x]).length;rw[Vz];omega⟩⟩
def ai.aF(st:ai)(o:Int)(n:Nat):ai:={st with a7:=st.a7++[o],a5:=st.a5++[n],a8:=st.a8++[[]]}
def dt {α:Type}{l:List α}{x d:α}{i}(h:i < l.length):(l++[x]).getD i d=l.getD i d:=by
 rw[Vh,Vh,Vj h]
def Wf.aF {st:ai}(h:Wf st){o:Int}{n:Nat}(ho:-1<=o/\o < st.a7.length):Wf (st.aF o n):=by
 refine⟨?_,?_,λi p d=>?_,λv x A=>?_,λq s=>?_⟩
 .unfold ai.aF;simp only[Vz,QA];rw[h.al]
 .unfold ai.aF;simp only[Vz,QA];rw[h.bl]
 .unfold ai.aF at d;simp only at d;rw[Vi]at d;split at d
  .exact h.low i p d
  .have:=(Vt.1 d).1;simp only[QA]at this;have e:i-st.a7.length=0:=by omega
   rw[e]at d;obtain rfl:o=p:=by simpa using d
   omega
 .obtain⟨j,g,m⟩:=h.vu v x A;refine⟨?_,g,?_⟩
  .show x.cg<(st.a7++[o]).length;rw[Vz];omega
  .show x.own<(st.a5++[n]).getD x.cg 0;rw[dt (by rw[h.al];exact j)];exact m
 .obtain⟨j,g⟩:=h.uu q s;refine⟨?_,g⟩;show q.1<(st.a7++[o]).length;rw[Vz];omega
def Wf.sF {st:ai}(h:Wf st){o:Int}{n:Nat}(g:-1<=o/\o < st.a7.length):∀(u:Nat),u < st.a7.length->(st.aF o n).line u=st.line u:=by
 intro u
 induction u using Nat.strongRecOn with
 |_ u ih=>
  intro j;have d:=h.aF (n:=n) g;have e:(st.aF o n).a7.getD u (-1)=st.a7.getD u (-1):=dt j;have hl:=h.gk u;rw[d.line (by show u<=(st.a7++[o]).length;rw[Vz];omega),h.line Zo,e]
  congr 1
  split
  .rfl
  .exact ih _ Zo Zo
def Wf.Za {st:ai}(h:Wf st){o:Int}{n:Nat}(d:-1<=o/\o < st.a7.length){u v:Nat}(g:u < st.a7.length):(st.aF o n).way u v=st.way u v:=by
 unfold ai.way;rw[h.sF d u g];rfl
def Wf.E4 {st:ai}(h:Wf st){o:Int}{n:Nat}(d:-1<=o/\o < st.a7.length)(j:Nat)(t:Nat×Int):(st.aF o n).aD j t=st.aD j t:=by
 unfold ai.aD;refine any_congr (l:=st.dg) (λq g=>?_);rw[h.Za d (h.uu q g).1];rfl
def Wf.Xi {st}(h:Wf st)(j)(hj:st.a7.length<=j)(t):st.aD j t=false:=by
 unfold ai.aD;rw[List.any_eq_false];intro q g;simp only[vG,decide_eq_true_eq,not_and];intro _ d;have h1:=(h.uu q g).1;have:=h.sG q.1 Zo j ((List.takeWhile_prefix _).subset d);omega
def z7(L:List kC)(b:Nat):Prop:=(∃n,kC.own b n∈L)/\∃v,kC.cell b 0 v∈L
def z7.more {L M b}(h:z7 L b)(d:∀x∈L,x∈M):z7 M b:=⟨h.1.imp λ_ k=>d _ k,h.2.imp λ_ k=>d _ k⟩
section
variable {P:Program} {w:World} {L:List kC}
def J5(q:Sat w L){b:Nat}(h:z7 L b):(frozen ⟨b,0,none⟩).run P w=.ok false w/\(noView ⟨b,0,none⟩).run P w=.ok () w/\(stringish ⟨b,0,none⟩).run P w=.ok false w/\∃r:Bool,(do pure ((<- shape b) matches some (_,0)):Sem Bool).run P w=.ok r w:=by
 obtain⟨⟨n,B⟩,⟨v,C⟩⟩:=h;obtain⟨c,t,E,hi,m,hn,D⟩:=q.holds _ B;obtain⟨_,s⟩:=q.cell C;have j:(frozen ⟨b,0,none⟩).run P w=.ok false w:=by
  simp only[frozen,Sem.run,s]
 have g:w.shape? b=some (t,c.size):=by simp[World.shape?,m]
 have d:(shape b).run P w=.ok (some (t,c.size)) w:=by simp only[shape,Sem.run,g]
 have A:w.frozen? ⟨b,c.size,none⟩=false:=by
  simp only[World.frozen?,m];simp only[vF,decide_eq_false_iff_not];by_cases h:E<=n
  .right;intro h';exact D ⟨h,Zo⟩
  .left;omega
 refine⟨j,?_,?_,?_⟩
 .simp[noView,viewAt,d]
 .simp only[stringish,Sem.run_bind,j,Result.andThen_ok];simp only[vN,if_false,Sem.run_bind,d,Result.andThen_ok];simp only[frozen,Sem.run,A]
 .simp only[Sem.run_bind,d,Result.andThen_ok];exact⟨_,rfl⟩
def Hy(d:Sat w L){a b:Nat}(C:z7 L a)(D:z7 L b):(sameAddr ⟨a,0,none⟩ ⟨b,0,none⟩).run P w=.ok (decide (a=b)) w:=by
 unfold sameAddr;by_cases h:a=b
 .subst h;simp
 .obtain⟨g,j,m,ra,a4⟩:=J5 (P:=P) d C;obtain⟨q,s,A,rb,b4⟩:=J5 (P:=P) d D;have B:(a==b)=false:=by simpa using h
  simp[B,g,q,j,s,mayBeOne,m,A,h]
def Fo(j:Sat w L){t e:TypeId}{i:TypeInfo}(m:P.underlying t=some (.pointer e))(h:P.info? e=some i)(q:i.size≠0){a b:Nat}(d:z7 L a)(g:z7 L b)(n:Nat):
 (Op.equalIn (n+1) t (.pointer (some ⟨a,0,none⟩)) (.pointer (some ⟨b,0,none⟩))).run P w=.ok (decide (a=b)) w:=by
 simp[Op.equalIn,kF m,kw h,q,Hy j d g]
end
structure ThP (P:Program)(t mt e:TypeId):Prop where
 fs : ∃ f0 f1 : Field, P.underlying t = some (.struct #[f0, f1]) ∧ f0.offset = 0 ∧ f1.offset = 1 ∧ f0.name ≠ "_" ∧ f1.name ≠ "_" ∧ P.underlying f0.type = some (.pointer e) ∧ P.underlying f1.type = some (.int .i64)
 sz:∃i,P.info? e=some i/\i.size≠0
 stood:P.stoodInHeld t=false
 guard:P.eqGuardType P.depth t=false
 map:∃it i,P.underlying mt=some (.map t it)/\P.info? it=some i/\i.zero=some (.int .i64 0)
def iC(k:Nat×Int):Value:=.agg #[.pointer (some ⟨k.1,0,none⟩),.int .i64 k.2]
def Dv(es:List MapEntry)(m:List ((Nat×Int)×Int)):Prop:=es.map (λe=>(e.key,e.val))=m.map λp=>(iC p.1,.int .i64 p.2)
def yn(k:Nat×Int):List ((Nat×Int)×Int)->Nat->Option (Nat×Value)
 |[],_=>none
 |p::r,i=>if k=p.1 then some (i,.int .i64 p.2)else yn k r (i+1)
section
variable {P:Program} {w:World} {L:List kC} {t mt e:TypeId}
def J4(H:Sat w L)(h:ThP P t mt e){k j:Nat×Int}(G:z7 L k.1)(F:z7 L j.1):(Op.equal t (iC k) (iC j)).run P w=.ok (decide (k=j)) w:=by
 obtain⟨g,d,q,M,o1,J,K,B,u1⟩:=h.fs;obtain⟨i,E,I⟩:=h.sz;have m:P.underlying t=some (.struct (P.fieldsOf t)):=by simp[Program.fieldsOf,q]
 have C:P.fieldsOf t=#[g,d]:=by simp[Program.fieldsOf,q]
 show(Op.equalIn (9999+1) t (iC k) (iC j)).run P w=_;unfold iC;rw[run_equalIn_struct w 9999 t _ _ m h.stood,C];have N:∀x y:Value,(part g.type #[x,y] g.offset).run P w=.ok x w:=λx y=>by
  simp[part,isAgg,kF B,M]
 have s:∀x y:Value,(part d.type #[x,y] d.offset).run P w=.ok y w:=λx y=>by
  simp[part,isAgg,kF u1,o1]
 have A:∀x y:Int,(Op.equalIn 9999 d.type (.int .i64 x) (.int .i64 y)).run P w=.ok (decide (x=y)) w:=λx y=>dP (n:=9998) u1 rfl rfl
 simp only[Op.eqFields,ne_eq,J,K,not_false_eq_true,if_true,Sem.run_bind,N,s,Result.andThen_ok,Fo (n:=9998) H B E I G F,A];have D:decide (k=j)=(decide (k.1=j.1)&&decide (k.2=j.2)):=by
  rw[<- vJ];exact decide_eq_decide.2 ⟨λh=>h ▸ ⟨rfl,rfl⟩,λh=>Prod.ext h.1 h.2⟩
 rw[D];by_cases c1:k.1=j.1<;>by_cases c2:k.2=j.2<;>simp[c1,c2,s,A]
def MT(D:Sat w L)(h:ThP P t mt e){k:Nat×Int}(B:z7 L k.1):∀(es:List MapEntry) (m:List ((Nat×Int)×Int)) (i:Nat),Dv es m->(∀p∈m,z7 L p.1.1)->(Instr.findAsking t (iC k) es i).run P w=.ok (yn k m i) w:=by
 intro es
 induction es with
 |nil=>
  intro m i d _;cases m with
  |nil=>simp[Instr.findAsking,yn]
  |cons p r=>simp[Dv]at d
 |cons q es ih=>
  intro m i d g;cases m with
  |nil=>simp[Dv]at d
  |cons p r=>
   simp only[Dv,QE,vp,XA]at d;obtain⟨⟨j,s⟩,A⟩:=d;simp only[Instr.findAsking,Sem.run_bind,j,J4 D h B (g p Zs),Result.andThen_ok,yn];by_cases c:k=p.1
   .simp[c,s]
   .simp only[c,decide_false,vN,if_false];exact ih r (i+1) A (λp C=>g p (by simp[C]))
def xR(C:Sat w L)(h:ThP P t mt e){k:Nat×Int}(A:z7 L k.1){es:List MapEntry}{m:List ((Nat×Int)×Int)}(d:Dv es m)(B:∀p∈m,z7 L p.1.1):(Instr.findKey t (iC k) es).run P w=.ok (yn k m 0) w:=by
 obtain⟨g,j,s,_⟩:=h.fs;unfold Instr.findKey;simp only[Sem.run_bind,kF s,Result.andThen_ok];cases es with
 |nil=>
  cases m with
  |nil=>simp[Instr.findNow,yn]
  |cons p r=>simp[Dv]at d
 |cons q es=>
  have:Instr.findNow (.struct #[g,j]) (iC k) (q::es) 0=none:=by simp[Instr.findNow,Instr.sameNow]
  rw[this];exact MT C h A _ _ _ d B
def xQ(h:ThP P t mt e)(b:Bool)(k:Nat×Int):(Instr.checkKey b 10000 t (iC k)).run P w=.ok () w:=by
 obtain⟨d,g,m,A,o1,q,s,j,u1⟩:=h.fs;have B:∀x y:Value,(part d.type #[x,y] d.offset).run P w=.ok x w:=λx y=>by
  simp[part,isAgg,kF j,A]
 have C:∀x y:Value,(part g.type #[x,y] g.offset).run P w=.ok y w:=λx y=>by
  simp[part,isAgg,kF u1,o1]
 show(Instr.checkKey b (9998+1+1) t (iC k)).run P w=_;unfold iC;generalize 9998=N;simp[Instr.checkKey,kF m,q,s,B,C,kF j,kF u1]
end
def rQ {k}:∀{m:List ((Nat×Int)×Int)} {i:Nat},(yn k m i).map (·.2)=(jI k m).map (Value.int .i64):=by
 intro m
 induction m with
 |nil=>intro i;rfl
 |cons p r ih=>
  intro i;obtain⟨a,v⟩:=p;simp only[yn,jI];by_cases h:k=a
  .rw[if_pos h,if_pos h.symm];rfl
  .rw[if_neg h,if_neg (λe=>h e.symm)];exact ih
def Nf {k v u q}(E:q.key=iC k)(F:q.val=.int .i64 v):∀{m:List ((Nat×Int)×Int)} {es:List MapEntry} {i j:Nat},Dv es m->yn k m i=some (j,u)->
 i<=j/\(∃x,es[j-i]? =some x/\x.key=iC k)/\Dv (es.set (j-i) q) (js k v m):=by
 intro m
 induction m with
 |nil=>intro es i j _ h;cases h
 |cons p r ih=>
  intro es i j d h;obtain⟨a,w⟩:=p;cases es with
  |nil=>simp[Dv]at d
  |cons x es=>
   simp only[Dv,QE,vp,XA]at d;obtain⟨⟨g,D⟩,s⟩:=d;simp only[yn]at h;by_cases c:k=a
   .rw[if_pos c]at h;simp only[X9,XA]at h;obtain⟨rfl,rfl⟩:=h;subst c;refine⟨Qs _,⟨x,Zs,g⟩,?_⟩;simp only[Qy,List.set_cons_zero,js,if_true,Dv,QE,E,F,s]
   .rw[if_neg c]at h;obtain⟨g1,⟨y,A,B⟩,C⟩:=ih s h;have e:j-i=(j-(i+1))+1:=by omega
    refine⟨Zo,⟨y,by rw[e];simpa using A,B⟩,?_⟩;rw[e];simp only[List.set_cons_succ,js];rw[if_neg (λe=>c e.symm)];simp only[Dv,QE,g,D,vp,true_and];exact C
def xY {k}:∀{m:List ((Nat×Int)×Int)} {i:Nat},yn k m i=none->jI k m=none:=λ{m i} h=>by
 have:=rQ (k:=k) (m:=m) (i:=i);rw[h]at this;cases e:jI k m with
 |none=>rfl
 |some x=>rw[e]at this;cases this
def aS.step {P}{α g:Type}{H}{K:g->List kC->Prop}{s:Sem α}{f:α->Sem g}{v:α}(h:∀F w,Sat w (H++F)->s.run P w=.ok v w)(k:aS P (f v) H K):aS P (s >>=f) H K:=
 aS.bind (λF w d=>⟨v,w,H,h F w d,k,d,.refl w⟩)
section
variable {P:Program} {n:Nat} {rs:List RO} {Γ:Env} {H R:SH} {Z:List PanicEntry->Env->SH->Prop} {K:Env->SH->Prop} {d:Option Nat} {t mt e:TypeId}
def st_eqp {x y:Operand}{a b:Nat}{i:TypeInfo}(ht:P.underlying t=some (.pointer e))(hi:P.info? e=some i)(hz:i.size≠0)(hx:ev Γ x=some (.pointer (some ⟨a,0,none⟩)))(hy:ev Γ y=some (.pointer (some ⟨b,0,none⟩)))(ha:z7 H.flatten a)(hb:z7 H.flatten b)
 (h:VO P n rs (au d (.bool (decide (a=b))) Γ) H Z K):VO P n (⟨d,none,.UD .eql t x y⟩::rs) Γ H Z K:=zBQ
def Yw {x y:Operand}{a b:Nat}{i:TypeInfo}(ht:P.underlying t=some (.pointer e))(hi:P.info? e=some i)(hz:i.size≠0)(hx:ev Γ x=some (.pointer (some ⟨a,0,none⟩)))(hy:ev Γ y=some (.pointer (some ⟨b,0,none⟩)))(ha:z7 H.flatten a)(hb:z7 H.flatten b)
 (h:VO P n rs (au d (.bool (!decide (a=b))) Γ) H Z K):VO P n (⟨d,none,.UD .neq t x y⟩::rs) Γ H Z K:=zBQ
def Yd {w:World}{d:TypeId}{i:TypeInfo}{g B:IntKind}{a b:Int}{C:Array (String×TypeId)}(s:P.underlying t=some (.interface C))(q:P.info? d=some i)(j:i.comparable=true)(A:P.underlying d=some (.int B))(m:Nat):(Op.equalIn (m+1+1) t (.iface d (.int g a)) (.iface d (.int g b))).run P w=.ok (decide (a=b)) w:=by
 have h:(Op.equalIn (m+1) d (.int g a) (.int g b)).run P w=.ok (decide (a=b)) w:=by
  simp[Op.equalIn,kF A];rfl
 rw[Op.equalIn];simp[kF s,wG q,j,h]
def st_eqif {x y:Operand}{g:TypeId}{i:TypeInfo}{j G:IntKind}{a b:Int}{I:Array (String×TypeId)}(B:P.underlying t=some (.interface I))(A:P.info? g=some i)(s:i.comparable=true)(C:P.underlying g=some (.int G))(D:ev Γ x=some (.iface g (.int j a)))(E:ev Γ y=some (.iface g (.int j b)))
 (h:VO P n rs (au d (.bool (decide (a=b))) Γ) H Z K):VO P n (⟨d,none,.UD .eql t x y⟩::rs) Γ H Z K:=by
 refine VO.read rfl rfl (λρ m=>⟨_,rfl,λF w hs=>?_⟩) h;rw[m _ _ D,m _ _ E];have q:(Op.equal t (.iface g (.int j a)) (.iface g (.int j b))).run P w=.ok (decide (a=b)) w:=Yd B A s C 9998;rw[Sem.run_bind,yo Zs Zs];simp[Go.binOp,q]
def st_eqth {x y:Operand}{k j:Nat×Int}(m:ThP P t mt e)(G:ev Γ x=some (iC k))(I:ev Γ y=some (iC j))(A:z7 H.flatten k.1)(B:z7 H.flatten j.1)
 (h:VO P n rs (au d (.bool (decide (k=j))) Γ) H Z K):VO P n (⟨d,none,.UD .eql t x y⟩::rs) Γ H Z K:=by
 refine VO.read rfl rfl (λρ g=>⟨_,rfl,λF w E=>?_⟩) h;rw[g _ _ G,g _ _ I];have q:∀c∈H.flatten,c∈H.flatten++F:=λc C=>Zw _ C
 have s:=J4 (P:=P) E m (A.more q) (B.more q);rw[Sem.run_bind];have D:(eqGuard .eql t x y (iC k) (iC j)).run P w=.ok () w:=run_eqGuard_agg w _ t x y _ _ m.guard;rw[D];simp only[Result.andThen_ok,Sem.run_bind,Go.binOp,iC]at*;simp[s]
def uW {m x:Operand}{b c:Nat}{es:Array MapEntry}{k:Nat×Int}{l:List ((Nat×Int)×Int)}(s:ThP P t mt e)(O:ev Γ m=some (.map (some b)))(T:ev Γ x=some (iC k))
 (Q:AU H b (.map es c)) (N:Dv es.toList l) (M:z7 H.flatten k.1) (U:∀p∈l,z7 H.flatten p.1.1) (h:VO P n rs (au d (.int .i64 ((jI k l).getD 0)) Γ) H Z K):VO P n (⟨d,none,.Jw mt false m x⟩::rs) Γ H Z K:=by
 refine VO.read rfl rfl (λρ C=>⟨_,rfl,λF w E=>?_⟩) h;rw[C _ _ O,C _ _ T];have D:∀c∈H.flatten,c∈H.flatten++F:=λc G=>Zw _ G
 obtain⟨it,i,B,L,A⟩:=s.map;have J:=iT (P:=P) Q.mem E;have I:=xR (P:=P) E s (M.more D) N (λp S=>(U p S).more D);have g:=rQ (k:=k) (m:=l) (i:=0);simp only[Instr.lookup,Sem.run_bind,kF B,Result.andThen_ok,J,Sem.run_pure,xQ s,I];cases L7:yn k l 0 with
 |none=>
  rw[xY L7];simp[ky L A]
 |some q=>
  obtain⟨j,u⟩:=q;rw[L7]at g;cases L9:jI k l with
  |none=>rw[L9]at g;cases g
  |some z=>
   rw[L9]at g;simp only[X7,X9]at g;simp[g]
def st_allocO {t:TypeId}{z:List Value}(h:∀b,VO P n rs (au d (.pointer (some ⟨b,0,none⟩)) Γ) ((.own b z.length::kA b 0 z)::H) Z K):VO P n (⟨d,none,.alloc t z⟩::rs) Γ H Z K:=by
 refine VO.act rfl rfl (λρ aU=>⟨_,rfl,?_⟩);intro F w j;refine⟨_,_,(.own w.heap.size z.length::kA w.heap.size 0 z)++H.flatten,rfl,⟨_,(.own w.heap.size z.length::kA w.heap.size 0 z)::H,.inl rfl,?_,h _⟩,?_⟩
 .simp
 .have g:=Sat.push j (.cells z.toArray t (0,0)) (.own w.heap.size z.length::kA w.heap.size 0 z) (λx hx=>?_) ?_
  .rw[vj];exact g
  .have hb:({w with heap:=w.heap.push (.cells z.toArray t (0,0))}:World).heap[w.heap.size]? =some (.cells z.toArray t (0,0)):=by simp
   exact zDL
  .rw[QE,QX];refine⟨λhm=>?_,?_⟩
   .exact zDA
   .exact dY _ _ _
structure iH (es:Array MapEntry)(c:Nat)(m:List ((Nat×Int)×Int)):Prop where
 of:Dv es.toList m
 born:es.toList.Pairwise λa b=>a.born<b.born
 clock:∀e∈es.toList,e.born<c
def iH.nil:iH #[] 0 []:=⟨rfl,.nil,Zs⟩
def iH.push {es:Array MapEntry}{c:Nat}{m:List ((Nat×Int)×Int)}(h:iH es c m){k:Nat×Int}{v:Int}(d:jI k m=none):iH (es.push {key:=iC k,val:=.int .i64 v,born:=c}) (c+1) (js k v m):=by
 refine⟨?_,?_,?_⟩
 .rw[gp d];have:=h.of;simp only[Dv]at this|-;simp[this]
 .exact zEL
 .exact zDV
def Tz(es:Array MapEntry)(s:Nat)(k:Nat×Int):Prop:=∃(i:Nat) (e:MapEntry),es[i]? =some e/\e.born=s/\e.key=iC k
def Su {es:Array MapEntry}{c:Nat}{m:List ((Nat×Int)×Int)}(h:iH es c m){s:Nat}{k:Nat×Int}(E:Tz es s k):∃(i:Nat) (e:MapEntry),es.findIdx? (λe=>((e.born:Int)==(s:Int)))=some i/\es[i]? =some e/\e.key=iC k:=by
 obtain⟨i,e,g,A,D⟩:=E;have q:=(v9.1 g).1;refine⟨i,e,?_,g,D⟩;rw[Array.findIdx?_eq_some_iff_getElem];have d:es[i]=e:=by rw[v8 q]at g;exact X8 g
 refine⟨q,by simp[d,A],λj B=>?_⟩;have C:=List.pairwise_iff_getElem.1 h.born j i (by simpa using Nat.lt_trans B q) (by simpa using q) B;simp only[Array.getElem_toList]at C;rw[d,A]at C;have:((es[j].born:Int)==(s:Int))=false:=by
  rw[beq_eq_false_iff_ne];omega
 simp[this]
def iH.at_ {es:Array MapEntry}{c:Nat}{m:List ((Nat×Int)×Int)}(h:iH es c m){k:Nat×Int}{v:Int}{i:Nat}{e:MapEntry}(B:es[i]? =some e)(K:e.key=iC k)(T:(m.map (·.1)).Nodup):
 iH (es.modify i λe=>{e with val:=.int .i64 v}) c (js k v m):=by
 have F:=(v9.1 B).1;have A:es[i]=e:=by rw[v8 F]at B;exact X8 B
 have s:(es.modify i λe=>{e with val:=.int .i64 v}).toList=es.toList.set i {e with val:=.int .i64 v}:=by
  apply vz;intro j;rw[vC,vA,Vx];by_cases hj:i=j
  .subst hj;simp[F,A]
  .simp[hj]
 have J:(es.toList.set i {e with val:=.int .i64 v}).map MapEntry.born=es.toList.map MapEntry.born:=by
  apply vz;intro j;simp only[Vu,Vx];by_cases hj:i=j
  .subst hj;simp[F,A]
  .simp[hj]
 have W:∀(es:List MapEntry) (m:List ((Nat×Int)×Int)) (i:Nat),Dv es m->es[i]? =some e->(m.map (·.1)).Nodup->Dv (es.set i {e with val:=.int .i64 v}) (js k v m):=by
  intro es
  induction es with
  |nil=>intro m i _ h;simp at h
  |cons x es ih=>
   intro m i G C H;cases m with
   |nil=>simp[Dv]at G
   |cons p r=>
    obtain⟨a,w⟩:=p;simp only[Dv,QE,vp,XA]at G;obtain⟨⟨D,Q⟩,E⟩:=G;have g:∀a b:Nat×Int,iC a=iC b->a=b:=λa b d=>by
     simp only[iC,Value.agg.injEq]at d;simp at d;exact Prod.ext d.1 d.2
    simp only[QE,QX]at H;cases i with
    |zero=>
     obtain rfl:x=e:=by simpa using C
     have:a=k:=g _ _ (D.symm.trans K);subst this;simp only[List.set_cons_zero,js,if_true,Dv,QE,D,E]
    |succ i=>
     have N:es[i]? =some e:=by simpa using C
     have O:a≠k:=by
      rintro rfl
      have:(e.key,e.val)∈es.map (λe=>(e.key,e.val)):=QO.2 ⟨e,Zv N,rfl⟩;rw[E]at this;obtain⟨q,S,M⟩:=QO.1 this;simp only[XA]at M;exact H.1 (QO.2 ⟨q,S,g _ _ (M.1.trans K)⟩)
     simp only[List.set_cons_succ,js];rw[if_neg O];simp only[Dv,QE,D,Q,vp,true_and];exact ih r i E N H.2
 refine⟨?_,?_,?_⟩
 .rw[s];exact W _ _ _ h.of (by simpa using B) T
 .rw[s];have L:=h.born;have P:∀l:List MapEntry,l.Pairwise (λa b=>a.born<b.born)↔(l.map MapEntry.born).Pairwise (·< ·):=λl=>List.pairwise_map.symm
  rw[P]at L|-;rw[J];exact L
 .rw[s];intro x C;have:x.born∈(es.toList.set i {e with val:=.int .i64 v}).map MapEntry.born:=QO.2 ⟨x,C,rfl⟩;rw[J]at this;obtain⟨y,U,I⟩:=QO.1 this;rw[<- I];exact h.clock y U
def OK {m x:Operand}{b c:Nat}{es:Array MapEntry}{k:Nat×Int}{l:List ((Nat×Int)×Int)}(J:ThP P t mt e)(X:ev Γ m=some (.map (some b)))(hx:ev Γ x=some (iC k))
 (ht:Tk H [.obj b (.map es c)] R) (E:iH es c l) (W:z7 R.flatten k.1) (xC:∀p∈l,z7 R.flatten p.1.1)
 (h:∀I g s,iH I g (if(jI k l).isSome then l else js k 0 l)->Tz I s k->g<=c+1->VO P n rs (au d (.tuple #[.int .i64 ((jI k l).getD 0),.int .i64 s]) Γ) ([.obj b (.map I g)]::R) Z K):VO P n (⟨d,none,.ment mt m x⟩::rs) Γ H Z K:=by
 refine VO.act rfl rfl (λρ Q=>⟨_,rfl,?_⟩);rw[Q _ _ X,Q _ _ hx];refine aS.perm ht.perm ?_;obtain⟨it,i,M,U,L⟩:=J.map;have S:∀(F:List kC) (g:kC),g∈R.flatten->g∈([kC.obj b (.map es c)]++R.flatten)++F:=λF g h'=>Zw _ (QI _ h')
 apply aS.bind;unfold Instr.mapEntry;refine aS.step (v:=.map t it) (λF w _=>kF M) ?_;simp only;refine aS.bind (aS.getObj (o:=.map es c) Zs ?_);simp only;refine aS.step (v:=()) (λF w _=>xQ J false k) ?_;refine aS.step (v:=yn k l 0) (λF w hs=>xR hs J (W.more (S F)) E.of (λp Y=>(xC p Y).more (S F))) ?_;have B:=rQ (k:=k) (m:=l) (i:=0);cases hf:yn k l 0 with
 |none=>
  have N:=xY hf;refine aS.step (v:=.int .i64 0) (λF w _=>ky U L) ?_;refine aS.bind (aS.setObj rfl (aS.pure (aS.pure ⟨_,[.obj b (.map (es.push {key:=iC k,val:=.int .i64 0,born:=c}) (c+1))]::R,.inl rfl,?_,?_⟩)))
  .simp
  .have:=h (es.push {key:=iC k,val:=.int .i64 0,born:=c}) (c+1) c (by rw[N];exact E.push N) ⟨es.size,{key:=iC k,val:=.int .i64 0,born:=c},Zs,rfl,rfl⟩ (Qs _);rw[N]at this;exact this
 |some q=>
  obtain⟨j,u⟩:=q;obtain⟨_,⟨z,O,A⟩,_⟩:=Nf (q:=⟨iC k,.int .i64 0,0⟩) rfl rfl E.of hf;simp only[Nat.sub_zero]at O;have G:es[j]? =some z:=by simpa using O
  rw[hf]at B;cases L9:jI k l with
  |none=>rw[L9]at B;cases B
  |some y=>
  rw[L9]at B;simp only[X7,X9]at B;have C:((es[j]?).map (·.key)).getD (iC k)=iC k:=by simp[G,A]
  refine aS.bind (OM _ _ (λkk iL=>?_));have D:kk=iC k:=by rcases iL with h'|h';rw[h',C];exact h'
  subst D;have pX:(es.modify j λe=>{e with key:=iC k})=es:=by
   apply Array.ext_getElem?;intro i;rw[vA];by_cases hij:j=i
   .subst hij;rw[G];simp;rw[<- A]
   .simp[hij]
  rw[pX];have hb:z.born<c:=E.clock z (by have:=Zv O;exact this);refine aS.bind (aS.setObj rfl (aS.pure (aS.pure ⟨_,[.obj b (.map es c)]::R,.inl rfl,?_,?_⟩)))
  .simp
  .have:=h es c z.born (by rw[L9];exact E) ⟨j,z,G,rfl,A⟩ (Qt _);rw[L9]at this;have T:goInt (((es[j]?).map (·.born)).getD 0)=.int .i64 (z.born:Int):=by
    rw[G];rfl
   rw[T,B];exact this
def Yu {m x y:Operand}{b c s:Nat}{es:Array MapEntry}{k:Nat×Int}{v:Int}{l:List ((Nat×Int)×Int)}(D:ev Γ m=some (.map (some b)))(J:ev Γ x=some (.int .i64 s))(L:ev Γ y=some (.int .i64 v))
 (G:Tk H [.obj b (.map es c)] R) (q:iH es c l) (E:Tz es s k) (I:(l.map (·.1)).Nodup)
 (h:∀j,iH j c (js k v l)->VO P n rs (au d undef Γ) ([.obj b (.map j c)]::R) Z K):VO P n (⟨d,none,.mst mt m x y⟩::rs) Γ H Z K:=by
 refine VO.act rfl rfl (λρ g=>⟨_,rfl,?_⟩);rw[g _ _ D,g _ _ J,g _ _ L];refine aS.perm G.perm ?_;obtain⟨i,z,A,B,C⟩:=Su q E;apply aS.bind;unfold Instr.entryStore;simp only;refine aS.bind (aS.getObj (o:=.map es c) Zs ?_);simp only;refine aS.step (v:=(s:Int)) (λF w _=>by simp[asInt,asIntOf]) ?_;rw[A];refine(aS.setObj rfl (aS.pure ⟨undef,[.obj b (.map (es.modify i λe=>{e with val:=.int .i64 v}) c)]::R,.inr ⟨rfl,rfl⟩,?_,h _ (q.at_ B C I)⟩));simp
def st_boxO {t:TypeId}{x:Operand}{u:Value}(hx:ev Γ x=some u)(h:∀b,VO P n rs (au d (.pointer (some ⟨b,0,none⟩)) Γ) ((.own b u.cells.toList.length::kA b 0 u.cells.toList)::H) Z K):VO P n (⟨d,none,.box t x⟩::rs) Γ H Z K:=by
 refine VO.act rfl rfl (λρ g=>⟨_,rfl,?_⟩);rw[g _ _ hx];intro F w m;refine⟨_,_,(.own w.heap.size u.cells.toList.length::kA w.heap.size 0 u.cells.toList)++H.flatten,rfl,⟨_,(.own w.heap.size u.cells.toList.length::kA w.heap.size 0 u.cells.toList)::H,.inl rfl,?_,h _⟩,?_⟩
 .simp
 .have j:=Sat.push m (.cells u.cells t (0,0)) (.own w.heap.size u.cells.toList.length::kA w.heap.size 0 u.cells.toList) (λx hx=>?_) ?_
  .rw[vj];exact j
  .have hb:({w with heap:=w.heap.push (.cells u.cells t (0,0))}:World).heap[w.heap.size]? =some (.cells u.cells t (0,0)):=by simp
   exact zDL
  .rw[QE,QX];refine⟨λhm=>?_,dY _ _ _⟩;exact zDA
end
end Go.V

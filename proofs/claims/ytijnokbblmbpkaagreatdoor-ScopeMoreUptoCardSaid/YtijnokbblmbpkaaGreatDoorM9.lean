/-
  What the evaluator finds is so: code, functions.
-/
import Derived.Test.YtijnokbblmbpkaaGreatDoorM8
import Derived.Test.YtijnokbblmbpkaaGreatDoorM7
import Derived.Test.YtijnokbblmbpkaaGreatDoorM6
import Derived.KernelRfl
import Derived.Test.YtijnokbblmbpkaaGreatDoorProg
import Derived.Below
import Derived.Lib.Bytealg
import Derived.Shelf.Strings.Search2
import Derived.Shelf.Lay
set_option linter.all false
namespace Go.V
open Go
set_option maxHeartbeats 1600000
variable {A:List kC}
section
variable {P:Program} {N0 nx n:Nat} {σ:Sg} {Γ:Env} {h:Mp} {rs:List RO} {d:Option Nat} {Z:List PanicEntry->Env->SH->Prop} {K:Env->SH->Prop}
theorem Dc(g:ku N0 σ (Γ.map (·.2)) h nx){v:Value}(hv:bT nx v):ku N0 σ (v::Γ.map (·.2)) h nx:=g.with fun u hu=>by
 rcases QH.1 hu with rfl|hu
 ·exact hv
 ·exact g.bu u hu
theorem Cc(g:ku N0 σ (Γ.map (·.2)) h nx){d y:Nat}{x:Option Operand}{l:Nat}{dd:Option Nat}(hd:dd=some d)(e:Ol N0 Γ d x=some l)(hl:l<=y):wP y dd (x.map (AU (bU σ Γ)))=some l/\∀o∈ot x,known (bU σ Γ) o=true:=by
 cases x with
 |none=>simp only[Ol,X4]at e;subst e;exact⟨hd,fun o ho=>by cases ho⟩
 |some x=>
  simp only[Ol]at e;split at e
  case h_2=>cases e
  rename_i k z hz;cases e;have h1:=(iq g hz).1;rw[cw]at h1;refine⟨?_,fun o ho=>?_⟩
  ·have h2:AU (bU σ Γ) x=.int k (Int.ofNat l):=by simp[AU,h1]
   have h3:(0:Int)<=Int.ofNat l/\Int.ofNat l<=(y:Int):=⟨Int.natCast_nonneg _,Int.ofNat_le.2 hl⟩;simp only[X2,wP,h2,bound,if_pos h3];rfl
  ·simp only[ot,Option.toList_some,QR]at ho;subst ho;simp[known,h1]
theorem Xz {size b o k c:Nat}{x:Operand}{lo hi:Option Operand}{v:Value}(g:ku N0 σ (Γ.map (·.2)) h nx)(hx:tj N0 Γ x=some (.slice (some ⟨b,o,none⟩) k c))(hc:Nat.blt c lM=false)(hs:slcU N0 Γ h size lo hi b o k c=some v)
 (aP:bT nx v->VO P n rs (ap d (rn σ v) (bU σ Γ)) [kY A σ h] Z K):VO P n (⟨d,none,.rj size x lo hi none⟩::rs) (bU σ Γ) [kY A σ h] Z K:=by
 unfold slcU at hs;split at hs
 case h_2=>cases hs
 rename_i s vs hb;split at hs
 case h_2=>cases hs
 rename_i l m hl hm;split at hs
 case h_2=>cases hs
 rename_i gk;simp only[vF]at gk;obtain⟨c1,c2,c3,c4,c5,c6,c7⟩:=gk;cases hs;have e1:=yR c1;have e2:=Du c2;have e3:=yR c3;have e4:=iR c4;have e5:=iR c5;have e6:=iR c6;have hcB:¬c < lM:=fun hh=>by have:Nat.blt c lM=true:=Nat.ble_eq_true_of_le hh;rw[hc]at this;cases this
 have hg:=g.grow _ (zp hb);simp only[N1]at hg;have Gh:(c - lM+k)*size<=σ.cap b*size:=by rw[e1]at hg;omega
 have hcap2:c - lM+k<=σ.cap b:=Nat.le_of_mul_le_mul_right Gh e2;have hid:=g.ids _ (zp hb);have oE:=(iq g hx).1;have hxe:AU (bU σ Γ) x=.slice (some ⟨σ.rG b,σ.off b+o,none⟩) k (σ.cap b - (c - lM)):=by
  simp only[AU,oE,Qy,bn,qX,Ho,if_neg hcB]
 have DK:=Cc (y:=m) (dd:=some 0) g rfl hl e5;have hhi:=Cc (y:=σ.cap b - (c - lM)) (dd:=some k) g rfl hm Zo;refine nY rfl ?_ (v:=rn σ (.slice (some ⟨b,o+l*size,none⟩) (m - l) (c+l))) ?_ (aP (bT.slc hid))
 ·rw[ve];intro y hy;simp only[lB,QH,QF]at hy;rcases hy with rfl|(hy|hy)|hy
  ·simp[known,oE]
  ·exact DK.2 y hy
  ·exact hhi.2 y hy
  ·cases hy
 ·have hbd:zj k (σ.cap b - (c - lM)) (lo.map (AU (bU σ Γ))) (hi.map (AU (bU σ Γ))) none=some (l,m,σ.cap b - (c - lM)):=by
   have b0:wP (σ.cap b - (c - lM)) (some (σ.cap b - (c - lM))) none=some (σ.cap b - (c - lM)):=rfl;unfold zj;rw[b0,Option.bind_some];simp only[Option.isSome_none,vL,if_false];rw[hhi.1,Option.bind_some,DK.1];rfl
  simp only[kW,hxe,X1,hbd,X2,bn,qX,Ho,if_neg (show ¬c+l < lM by omega)];have oB:c+l - lM=c - lM+l:=by omega
  have haddr:(if σ.cap b - (c - lM)=l then σ.off b+o else σ.off b+o+l*size)=σ.off b+(o+l*size):=by
   split
   ·rename_i hh;rcases vS.1 c7 with q|q
    ·have:=Du q;omega
    ·have:=yR q;subst this;simp
   ·omega
  rw[haddr,oB,Nat.sub_sub]
theorem Sn {F:CF}(hF:oM A P N0 F){r:R}{bI:PR}(he:yP N0 F r Γ h nx=some bI)(g:ku N0 σ (Γ.map (·.2)) h nx)
 (aP:∀v h' aX aI,bI=.val v h' aX->Ag nx σ aI->nx<=aX->ku N0 aI (v::Γ.map (·.2)) h' aX->VO P n rs (ap d (rn aI v) (bU aI Γ)) [kY A aI h'] Z K)
 (qd:∀ch h' aX aI,bI=.uL ch h' aX->Ag nx σ aI->nx<=aX->ku N0 aI (ch.map (·.v)) h' aX->Z (Hp aI ch) (bU σ Γ) [kY A aI h']):
 VO P n (⟨d,none,r⟩::rs) (bU σ Γ) [kY A σ h] Z K:=by
 have same:∀v,bI=.val v h nx->bT nx v->VO P n rs (ap d (rn σ v) (bU σ Γ)) [kY A σ h] Z K:=fun v e hs=>aP v h nx σ e (.refl _ _) (Qn _) (Dc g hs)
 have pur:kd r=true->CY N0 r Γ h nx=some bI->VO P n (⟨d,none,r⟩::rs) (bU σ Γ) [kY A σ h] Z K:=fun hp he=>by
  unfold CY at he;split at he
  case h_2=>cases he
  rename_i hb;simp only[vF]at hb;split at he
  case h_2=>cases he
  rename_i v hv;cases he;exact Xy g hp hb.2.1 hb.2.2.1 hb.2.2.2 hv (same v rfl)
 cases r
 case qE x=>
  simp only[yP]at he;split at he
  case h_2=>cases he
  rename_i b o hx;split at he
  case h_2=>cases he
  rename_i v hr;cases he;exact Sl g hx hr (same v rfl)
 case iB m x=>
  simp only[yP]at he;split at he
  case h_2=>cases he
  rename_i b o hx;split at he
  case h_2=>cases he
  rename_i us hr;cases he;exact Sm g hx hr (same _ rfl)
 case alloc t z=>
  simp only[yP]at he;split at he
  case h_2=>cases he
  rename_i hz;cases he;exact Sk g hz fun aI a g'=>aP _ _ _ aI rfl a (Qo _) g'
 case box t x=>
  simp only[yP]at he;split at he
  case h_2=>cases he
  rename_i v hx;cases he;exact op_box g hx fun aI a g'=>aP _ _ _ aI rfl a (Qo _) g'
 case gM t len z ps=>
  simp only[yP]at he;split at he
  case h_2=>cases he
  rename_i hb;simp only[vF]at hb;split at he
  case h_2=>cases he
  rename_i out ho;cases he;exact MH g hb.1 hb.2.1 ho (Du hb.2.2) fun aI a g'=>aP _ _ _ aI rfl a (Qo _) g'
 case store m x y=>
  simp only[yP]at he;split at he
  case h_2=>cases he
  rename_i b o u hx hy;split at he
  case h_2=>cases he
  rename_i hm;split at he
  case h_2=>cases he
  rename_i h' hw;cases he;exact So g hx hy (yR hm) hw fun g'=>aP _ _ _ σ rfl (.refl _ _) (Qn _) g'
 case append t size bytes zero s x=>
  simp only[yP]at he;split at he
  case h_2=>cases he
  rename_i sv xv hs hx;split at he
  case h_2=>cases he
  rename_i xs h' ht;split at he
  case h_2=>cases he
  rename_i m ys hy;split at he
  case h_2=>cases he
  rename_i hb;simp only[vF,vN]at hb;cases he;exact MG g hs hx ht hy hb.1 (yR hb.2.1) (ξ hb.2.2.1) (iR hb.2.2.2.1) (iR hb.2.2.2.2.1) (Du hb.2.2.2.2.2.1) (ξ hb.2.2.2.2.2.2) fun aI a g'=>aP _ _ _ aI rfl a (Qo _) g'
 case call f xs=>
  simp only[yP]at he;split at he
  case h_2=>cases he
  rename_i args ha;exact Xx hF g ha he aP qd
 case rj size x lo hi mx=>
  simp only[yP]at he;split at he
  ·rename_i b o k c hx;split at he
   ·exact pur rfl he
   ·rename_i hc;split at he
    case h_2=>cases he
    rename_i v hs;cases he;exact Xz g hx hc hs (same v rfl)
  ·exact pur rfl he
 all_goals first
  |exact pur rfl he
  |(simp only[yP,CY,kd,vK]at he;cases he;done)
theorem sP {F:CF}(hF:oM A P N0 F):∀{rs:List RO} {Γ:Env} {h:Mp} {nx:Nat} {σ:Sg} {bI:OR},z4 N0 F rs Γ h nx=some bI->ku N0 σ (Γ.map (·.2)) h nx->
 (∀ay h' aX aI,bI=.ok ay h' aX->Ag nx σ aI->nx<=aX->ku N0 aI (ay.map (·.2)) h' aX->K (bU aI ay) [kY A aI h'])->
 (∀ay ch h' aX aI,bI=.uL ch ay h' aX->Ag nx σ aI->nx<=aX->ku N0 aI (ch.map (·.v)++ay.map (·.2)) h' aX->Z (Hp aI ch) (bU aI ay) [kY A aI h'])->VO P n rs (bU σ Γ) [kY A σ h] Z K:=by
 intro rs
 induction rs with
 |nil=>
  intro Γ h nx σ bI he g aP qd;simp only[z4,X4]at he;exact VO.nil (aP Γ h nx σ he.symm (.refl _ _) (Qn _) g)
 |cons x rs ih=>
  intro Γ h nx σ bI he g aP qd;obtain⟨d,gd,r⟩:=x;have go:∀{bI:OR},(match yP N0 F r Γ h nx with
   |none=>none
   |some (.uL ch h' aX)=>some (.uL ch Γ h' aX)
   |some (.val v h' aX)=>z4 N0 F rs (ap d v Γ) h' aX)=some bI->
   (∀ay h' aX aI,bI=.ok ay h' aX->Ag nx σ aI->nx<=aX->ku N0 aI (ay.map (·.2)) h' aX->K (bU aI ay) [kY A aI h'])->
   (∀ay ch h' aX aI,bI=.uL ch ay h' aX->Ag nx σ aI->nx<=aX->ku N0 aI (ch.map (·.v)++ay.map (·.2)) h' aX->Z (Hp aI ch) (bU aI ay) [kY A aI h'])->VO P n (⟨d,none,r⟩::rs) (bU σ Γ) [kY A σ h] Z K:=by
   intro bI he aP qd;cases hr:yP N0 F r Γ h nx with
   |none=>rw[hr]at he;cases he
   |some pr=>
    rw[hr]at he;refine Sn hF hr g ?_ ?_
    ·rintro v h' aX aI rfl a le g'
     simp only at he;rw[<- KX];refine ih he ⟨g'.fix,g'.le,g'.ids,g'.grow,g'.cells,He g'.bu⟩ ?_ ?_
     ·intro cu h2 Sa NT e a2 le2 g2;exact aP cu h2 Sa NT e (a.trans a2 le) (Qp le le2) g2
     ·intro cu ch h2 Sa NT e a2 le2 g2;exact qd cu ch h2 Sa NT e (a.trans a2 le) (Qp le le2) g2
    ·rintro ch h' aX aI rfl a le g'
     simp only[X4]at he;rw[sU a g.bu];exact qd Γ ch h' aX aI he.symm a le (g'.with fun u hu=>by
      rcases QF.1 hu with hu|hu
      ·exact g'.bu u hu
      ·exact(g.bu u hu).mono le)
  have skip:∀{bI:OR},z4 N0 F rs (ap d undef Γ) h nx=some bI->
   (∀ay h' aX aI,bI=.ok ay h' aX->Ag nx σ aI->nx<=aX->ku N0 aI (ay.map (·.2)) h' aX->K (bU aI ay) [kY A aI h'])->
   (∀ay ch h' aX aI,bI=.uL ch ay h' aX->Ag nx σ aI->nx<=aX->ku N0 aI (ch.map (·.v)++ay.map (·.2)) h' aX->Z (Hp aI ch) (bU aI ay) [kY A aI h'])->VO P n rs (ap d undef (bU σ Γ)) [kY A σ h] Z K:=by
   intro bI he aP qd;have hu:rn σ undef=undef:=dT rfl;have:=ih (σ:=σ) he (g.with (He (Dc g (bT.plain rfl)).bu)) aP qd;rw[KX,hu]at this;exact this
  cases gd with
  |none=>
   simp only[z4,IN]at he;exact go he aP qd
  |some sb=>
   obtain⟨s,b⟩:=sb;simp only[z4,IN]at he;cases hl:look Γ s with
   |none=>rw[hl]at he;cases he
   |some u=>
    rw[hl]at he;cases u <;> try (cases he;done)
    case tuple vs=>
     simp only at he;cases hv:vs.toList with
     |cons x l=>rw[hv]at he;cases he
     |nil=>
      rw[hv]at he;have e:vs=#[]:=vC.1 (by rw[hv]);subst e;exact Hx (by rw[lh,hl];simp[undef]) (skip he aP qd)
    rename_i c;have fQ:look (bU σ Γ) s=some (.bool c):=by rw[lh,hl];simp
    simp only at he;cases IU:(c==b)with
    |true=>
     rw[IU]at he;have e:c=b:=by simpa using IU
     subst e;exact rq fQ (go he aP qd)
    |false=>
     rw[IU]at he;exact Dh fQ IU (skip he aP qd)
end
def rnX(σ:Sg):Ex->Exit
 |.normal=>.normal
 |.exit i=>.exit i
 |.ret=>.ret
 |.uL ch=>.panic (Hp σ ch)
def yO:Ex->List Value
 |.uL ch=>ch.map (·.v)
 |_=>[]
section
variable {P:Program} {N0 n L:Nat}
def Il(A:List kC)(P:Program)(N0 n:Nat)(c:IC)(f:Env->Mp->Nat->IR):Prop:=∀Γ h nx e ay h' aX,f Γ h nx=some (e,ay,h',aX)->∀σ,ku N0 σ (Γ.map (·.2)) h nx->∀Q:Exit->Env->SH->Prop,
 (∀aI,Ag nx σ aI->nx<=aX->ku N0 aI (yO e++ay.map (·.2)) h' aX->Q (rnX aI e) (bU aI ay) [kY A aI h'])->VC P n c (bU σ Γ) [kY A σ h] Q
theorem Jo {c:IC}{f:Env->Mp->Nat->IR}(hc:Il A P N0 n c f):∀k,Il A P N0 n (.loop c) (GN f k):=by
 intro k Γ h nx e ay h' aX he σ g Q hq;refine VC.loop (α:=Nat×Env×Mp×Nat×Sg) (bi:=fun s=>bU s.2.2.2.2 s.2.1) (Hf:=fun s=>[kY A s.2.2.2.2 s.2.2.1])
  (I:=fun s=>GN f s.1 s.2.1 s.2.2.1 s.2.2.2.1=some (e,ay,h',aX)/\Ag nx σ s.2.2.2.2/\nx<=s.2.2.2.1/\ku N0 s.2.2.2.2 (s.2.1.map (·.2)) s.2.2.1 s.2.2.2.1) (μ:=fun s=>s.1) (k,Γ,h,nx,σ)
  ⟨he,.refl _ _,Qn _,g⟩ Sub.refl (ao.refl _) ?_
 rintro⟨j,ZO,h1,nx1,σ1⟩ ⟨e1,a1,WT,g1⟩
 simp only at e1 a1 WT g1|-;cases j with
 |zero=>cases e1
 |succ j=>
  simp only[GN]at e1;cases hb:f ZO h1 nx1 with
  |none=>rw[hb]at e1;cases e1
  |some r=>
   obtain⟨x,cu,h2,Sa⟩:=r;rw[hb]at e1;refine hc _ _ _ _ _ _ _ hb σ1 g1 _ fun aI a le g'=>?_
   cases x with
   |normal=>
    simp only at e1;exact⟨(j,cu,h2,Sa,aI),⟨e1,a1.trans a WT,Qp WT le,by simpa[yO]using g'⟩,Qr _,Sub.refl,ao.refl _⟩
   |exit i=>cases e1;exact hq aI (a1.trans a WT) (Qp WT le) g'
   |ret=>cases e1;exact hq aI (a1.trans a WT) (Qp WT le) g'
   |uL ch=>cases e1;exact hq aI (a1.trans a WT) (Qp WT le) g'
theorem im {e:Value->Value->Bool}(he:∀a b,e a b=true->a=b):∀{l m:List Value},OO e l m=true->l=m:=by
 intro l
 induction l with
 |nil=>intro m h;cases m with
  |nil=>rfl
  |cons=>simp[OO]at h
 |cons a l ih=>intro m h;cases m with
  |nil=>simp[OO]at h
  |cons b m=>
   simp only[OO,vF]at h;rw[he _ _ h.1,ih h.2]
theorem io:∀(k:Nat) {a b:Value},LK k a b=true->a=b:=by
 intro k
 induction k with
 |zero=>intro a b h;simp[LK]at h
 |succ k ih=>
  intro a b h;unfold LK at h;split at h <;> (try simp only[vF,beq_iff_eq,decide_eq_true_eq]at h)
  all_goals first
   |rfl
   |(cases h;done)
   |(obtain⟨h1,h2⟩:=h;subst h1;subst h2;rfl)
   |(subst h;rfl)
   |(obtain⟨h1,h2⟩:=h;rw[yR h1,yR h2])
   |(obtain⟨h1,h2,h3⟩:=h;rw[h1,yR h2,yR h3])
   |(rw[yR h])
   |(obtain⟨h1,h2⟩:=h;rw[h1,ih h2])
   |(rw[vC.1 (im (fun _ _=>ih) h)])
   |(obtain⟨h1,h2,h3⟩:=h;rw[h1,vC.1 (im (fun _ _=>ih) h2),vC.1 (im (fun _ _=>ih) h3)])
theorem LH:∀{Γ Δ:Env},eqE Γ Δ=true->Γ=Δ:=by
 intro Γ
 induction Γ with
 |nil=>intro Δ h;cases Δ with
  |nil=>rfl
  |cons=>simp[eqE]at h
 |cons p Γ ih=>
  intro Δ h;obtain⟨s,x⟩:=p;cases Δ with
  |nil=>simp[eqE]at h
  |cons q Δ=>
   obtain⟨t,y⟩:=q;simp only[eqE,vF]at h;rw[yR h.1,io 20 h.2.1,ih h.2.2]
theorem LJ:∀{l m:List MapEntry},eqM l m=true->l=m:=by
 intro l
 induction l with
 |nil=>intro m h;cases m with
  |nil=>rfl
  |cons=>simp[eqM]at h
 |cons a l ih=>intro m h;cases m with
  |nil=>simp[eqM]at h
  |cons b m=>
   simp only[eqM,vF]at h;obtain⟨⟨h1,h2⟩,h3,h4⟩:=h;cases a;cases b;simp only at h1 h2 h3;rw[io 20 h1,io 20 h2,yR h3,ih h4]
theorem LG {a b:uC}(h:eqB a b=true):a=b:=by
 unfold eqB at h;split at h <;> (try simp only[vF,decide_eq_true_eq]at h)
 ·rw[im (fun _ _=>io 20) h]
 ·rw[yR h.1,im (fun _ _=>io 20) h.2]
 ·rw[yR h.2,vC.1 (LJ h.1)]
 ·rw[h.1,yR h.2]
 ·cases h
theorem LI:∀{Γ Δ:Mp},eqH Γ Δ=true->Γ=Δ:=by
 intro Γ
 induction Γ with
 |nil=>intro Δ h;cases Δ with
  |nil=>rfl
  |cons=>simp[eqH]at h
 |cons p Γ ih=>
  intro Δ h;obtain⟨s,x⟩:=p;cases Δ with
  |nil=>simp[eqH]at h
  |cons q Δ=>
   obtain⟨t,y⟩:=q;simp only[eqH,vF]at h;rw[yR h.1,LG h.2.1,ih h.2.2]
theorem LB {F:CF}{aV:List Nat}{Γ Δ:Env}{h h1:Mp}{nx n1:Nat}:∀{r:List (List RO)},Kl N0 F aV Γ h nx Δ h1 n1 r=true->∀rs∈r,∃cu,z4 N0 F rs Γ h nx=some (.ok cu h1 n1)/\aR aV cu=Δ:=by
 intro r
 induction r with
 |nil=>intro _ rs h;cases h
 |cons x r ih=>
  intro he rs dK;simp only[Kl]at he;split at he
  case h_2=>cases he
  rename_i ay h' aX ho;split at he
  case h_2=>cases he
  rename_i hE;simp only[vF]at hE;rcases QH.1 dK with rfl|dK
  ·exact⟨ay,by rw[ho,yR hE.2.1,LI hE.2.2],LH hE.1⟩
  ·exact ih he rs dK
theorem PK {F:CF}(hF:oM A P N0 F)(L:Nat):∀c:IC,Il A P N0 n c (wJ N0 F L c):=by
 intro c
 induction c with
 |skip=>
  intro Γ h nx e ay h' aX he σ g Q hq;simp only[wJ,X4,X5]at he;obtain⟨rfl,rfl,rfl,rfl⟩:=he;exact VC.skip (hq σ (.refl _ _) (Qn _) (by simpa[yO]using g))
 |lU rs aV=>
  intro Γ h nx e ay h' aX he σ g Q hq;simp only[wJ]at he;cases ho:z4 N0 F rs Γ h nx with
  |none=>rw[ho]at he;cases he
  |some r=>
   rw[ho]at he;refine VC.lU (sP hF ho g ?_ ?_)
   ·rintro cu h2 Sa NT rfl a le g2
    simp only[X4,X5]at he;obtain⟨rfl,rfl,rfl,rfl⟩:=he;have:=hq NT a le (by simpa[yO]using g2.with (pB g2.bu));rw[sV]at this;exact this
   ·rintro cu ch h2 Sa NT rfl a le g2
    simp only[X4,X5]at he;obtain⟨rfl,rfl,rfl,rfl⟩:=he;exact hq NT a le (by simpa[yO]using g2)
 |draw rL aV=>
  intro Γ h nx e ay h' aX he σ g Q hq;simp only[wJ]at he;split at he
  case h_1=>cases he
  rename_i rs r;cases ho:z4 N0 F rs Γ h nx with
  |none=>rw[ho]at he;cases he
  |some bI=>
   rw[ho]at he;cases bI with
   |uL ch ZO h1 n1=>
    cases he
   |ok ZO h1 n1=>
    simp only at he;have first:∀Q2:Env->SH->Prop,(∀aI,Ag nx σ aI->nx<=n1->ku N0 aI (ZO.map (·.2)) h1 n1->Q2 (aR aV (bU aI ZO)) [kY A aI h1])->VO P n rs (bU σ Γ) [kY A σ h] (fun _ _ _=>False) fun ay H'=>Q2 (aR aV ay) H':=fun Q2 iN=>by
     refine sP hF ho g ?_ ?_
     ·rintro cu h2 Sa NT e2 a le g2
      cases e2;exact iN NT a le g2
     ·rintro cu ch h2 Sa NT e2
      cases e2
    cases r with
    |nil=>
     simp only[X4,X5]at he;obtain⟨rfl,rfl,rfl,rfl⟩:=he;exact VC.Cg (first (fun Γ H=>Q .normal Γ H) fun aI a le g2=>by have:=hq aI a le (by simpa[yO]using g2.with (pB g2.bu));rw[sV]at this;exact this)
    |cons r0 r1=>
     simp only at he;split at he
     case h_2=>cases he
     rename_i hb;simp only[X4,X5]at he;obtain⟨rfl,rfl,rfl,rfl⟩:=he;refine VC.draw fun rs2 hrs2=>?_
     have go:∀cu,z4 N0 F rs2 Γ h nx=some (.ok cu h1 n1)->aR aV cu=aR aV ZO->VO P n rs2 (bU σ Γ) [kY A σ h] (fun _ _ _=>False) fun ay H'=>Q .normal (aR aV ay) H':=fun cu ho2 e2=>by
      refine sP hF ho2 g ?_ ?_
      ·rintro Γ3 h3 nx3 σ3 e3 a le g3
       cases e3;have:=hq σ3 a le (by rw[<- e2];simpa[yO]using g3.with (pB g3.bu));rw[<- e2,sV]at this;exact this
      ·rintro Γ3 ch h3 nx3 σ3 e3
       cases e3
     rcases QH.1 hrs2 with rfl|hrs2
     ·exact go ZO ho rfl
     ·obtain⟨cu,o1,o2⟩:=LB hb _ hrs2;exact go cu o1 o2
 |seq x y ihx ihy=>
  intro Γ h nx e ay h' aX he σ g Q hq;simp only[wJ]at he;cases hb:wJ N0 F L x Γ h nx with
  |none=>rw[hb]at he;cases he
  |some r=>
   obtain⟨e2,cu,h2,Sa⟩:=r;rw[hb]at he;refine VC.seq (ihx _ _ _ _ _ _ _ hb σ g _ fun aI a le g'=>?_);cases e2 with
   |normal=>
    exact ihy _ _ _ _ _ _ _ he aI (by simpa[yO]using g') Q fun NT a2 le2 g2=>hq NT (a.trans a2 le) (Qp le le2) g2
   |exit i=>cases he;exact hq aI a le g'
   |ret=>cases he;exact hq aI a le g'
   |uL ch=>cases he;exact hq aI a le g'
 |cond c x y ihx ihy=>
  intro Γ h nx e ay h' aX he σ g Q hq;simp only[wJ]at he;split at he
  ·rename_i hc;have H8:=(iq g hc).1;rw[qY]at H8;exact VC.rZ H8 (ihx _ _ _ _ _ _ _ he σ g Q hq)
  ·rename_i hc;have H8:=(iq g hc).1;rw[qY]at H8;exact VC.rY H8 (ihy _ _ _ _ _ _ _ he σ g Q hq)
  ·cases he
 |block id x ih=>
  intro Γ h nx e ay h' aX he σ g Q hq;simp only[wJ]at he;cases hb:wJ N0 F L x Γ h nx with
  |none=>rw[hb]at he;cases he
  |some r=>
   obtain⟨e2,cu,h2,Sa⟩:=r;rw[hb]at he;refine VC.block (ih _ _ _ _ _ _ _ hb σ g _ fun aI a le g'=>?_);cases e2 with
   |normal=>cases he;exact hq aI a le g'
   |exit i=>
    simp only at he;cases hi:Nat.beq i id with
    |true=>
     rw[hi]at he;cases he;show bx id Q (.exit i) _ _;simp only[bx,yR hi,if_true];exact hq aI a le (by simpa[yO]using g')
    |false=>
     rw[hi]at he;cases he;show bx id Q (.exit i) _ _;simp only[bx,if_neg (ξ hi)];exact hq aI a le g'
   |ret=>cases he;exact hq aI a le g'
   |uL ch=>cases he;exact hq aI a le g'
 |loop x ih=>exact Jo ih L
 |exit id=>
  intro Γ h nx e ay h' aX he σ g Q hq;simp only[wJ,X4,X5]at he;obtain⟨rfl,rfl,rfl,rfl⟩:=he;exact VC.exit (hq σ (.refl _ _) (Qn _) (by simpa[yO]using g))
 |ret=>
  intro Γ h nx e ay h' aX he σ g Q hq;simp only[wJ,X4,X5]at he;obtain⟨rfl,rfl,rfl,rfl⟩:=he;exact VC.ret (hq σ (.refl _ _) (Qn _) (by simpa[yO]using g))
 |scope x ih=>
  intro Γ h nx e ay h' aX he σ g Q hq;simp only[wJ]at he;refine VC.scope (ih _ _ _ _ _ _ _ he σ g _ fun aI a le g'=>⟨fun l=>?_,hq aI a le g'⟩);cases e <;> simp[rnX]
 |label l=>
  intro Γ h nx e ay h' aX he σ g Q hq;simp only[wJ,X4,X5]at he;obtain⟨rfl,rfl,rfl,rfl⟩:=he;exact VC.label (hq σ (.refl _ _) (Qn _) (by simpa[yO]using g))
 |hK g ps x y ihx ihy=>intro Γ h nx e ay h' aX he;simp only[wJ]at he;cases he
 |free rs an aV=>intro Γ h nx e ay h' aX he;simp only[wJ]at he;cases he
theorem MV {nx:Nat}{σ:Sg}{Γ:Env}{h:Mp}{bu:List Value}(g:ku N0 σ bu h nx)(hv:∀v∈Γ.map (·.2),bT nx v):∀{r:List RV} {vs:List Value},Ad Γ h r=some vs->Ns (bU σ Γ) [kY A σ h] r (vs.map (rn σ))/\∀v∈vs,bT nx v:=by
 intro r
 induction r with
 |nil=>intro vs e;simp only[Ad,X4]at e;subst e;exact⟨.nil,fun v hv=>by cases hv⟩
 |cons x r ih=>
  intro vs e;cases x with
  |tmp t=>
   simp only[Ad]at e;split at e
   case h_2=>cases e
   rename_i v l hl hr;cases e;obtain⟨i1,i2⟩:=ih hr;refine⟨.tmp (by rw[lh,hl];rfl) i1,fun u hu=>?_⟩;rcases QH.1 hu with rfl|hu
   ·exact hv _ (yf hl)
   ·exact i2 u hu
  |bV t=>
   simp only[Ad]at e;split at e
   case h_2=>cases e
   rename_i b o hl;split at e
   case h_2=>cases e
   rename_i v l hr du;cases e;obtain⟨i1,i2⟩:=ih du;refine⟨.bV (b:=σ.rG b) (o:=σ.off b+o) (by rw[lh,hl];simp[qX]) ?_ i1,fun u hu=>?_⟩
   ·simp only[Vd,Ve,vm];exact eR hr _ Ka
   ·rcases QH.1 hu with rfl|hu
    ·exact nq g hr _ Zs
    ·exact i2 u hu
  |aN t m=>
   simp only[Ad]at e;split at e
   case h_2=>cases e
   rename_i b o hl;split at e
   case h_2=>cases e
   rename_i us l hr du;cases e;obtain⟨i1,i2⟩:=ih du;refine⟨?_,fun u hu=>?_⟩
   ·have he:rn σ (.agg us.toArray)=.agg (us.map (rn σ)).toArray:=by simp
    rw[QC,he];refine .aN (b:=σ.rG b) (o:=σ.off b+o) (by rw[lh,hl];simp[qX]) (by rw[Q5];exact nS hr) ?_ i1;simp only[Vd,Ve,vm];exact eR hr
   ·rcases QH.1 hu with rfl|hu
    ·exact bT.agg (nq g hr)
    ·exact i2 u hu
def FeOk(P:Program)(f:Nat):FE->Prop
 |.fir F=>∃kp od,oq P kp od f=some F
def s8(P:Program)(Di:List (Nat×FE)):Prop:=∀p∈Di,FeOk P p.1 p.2
theorem s8.nil:s8 P []:=fun p hp=>by cases hp
theorem s8.cons {f:Nat}{R:aQ}{kp:Nat->List Nat}{od:Nat->List (List Nat)}{Di:List (Nat×FE)}(h:oq P kp od f=some R)(t:s8 P Di):s8 P ((f,.fir R)::Di):=fun p hp=>by
 rcases QH.1 hp with rfl|hp
 ·exact⟨kp,od,h⟩
 ·exact t p hp
theorem Yf {Di:List (Nat×FE)}{f:Nat}{R:FE}(e:Tg Di f=some R):(f,R)∈Di:=by
 induction Di with
 |nil=>cases e
 |cons p Di ih=>
  obtain⟨i,b⟩:=p;simp only[Tg]at e;split at e
  ·rename_i hb;cases e;rw[yR hb];simp
  ·simp[ih e]
theorem Ll:∀{vs:List Value} {k:Nat},(aM k vs).map (·.2)=vs:=by
 intro vs
 induction vs with
 |nil=>intro k;rfl
 |cons v vs ih=>intro k;simp only[aM,QC,ih]
theorem UG(σ:Sg):∀{vs:List Value} {k:Nat},bU σ (aM k vs)=aM k (vs.map (rn σ)):=by
 intro vs
 induction vs with
 |nil=>intro k;rfl
 |cons v vs ih=>intro k;simp only[aM,QC,<- ih];rfl
theorem UT {Di:List (Nat×FE)}{Ut:CF}(ht:s8 P Di)(ho:oM A P N0 Ut)(L:Nat):∀k,oM A P N0 (xE N0 Di Ut L k):=by
 intro k
 induction k with
 |zero=>intro f args h nx bI he;simp only[xE]at he;cases he
 |succ k ih=>
  intro f args h nx bI he σ g;simp only[xE]at he;cases hor:Ut f args h nx with
  |some v=>
   rw[hor]at he;cases he;exact ho f args h nx _ hor σ g
  |none=>
   rw[hor]at he;simp only at he;cases hta:Tg Di f with
   |none=>rw[hta]at he;cases he
   |some E=>
    have IY:=ht _ (Yf hta);rw[hta]at he;cases E with
    |fir R=>
     simp only at he;split at he
     case h_1=>cases he
     rename_i hn;obtain⟨kp,od,hl⟩:=IY;refine ji.intro hl (by rw[Q5];exact iR hn) ?_;rw[<- UG];cases hb:wJ N0 (xE N0 Di Ut L k) L R.body (aM 0 args) h nx with
     |none=>rw[hb]at he;cases he
     |some r=>
      obtain⟨e,ay,h',aX⟩:=r;rw[hb]at he;refine PK ih L R.body _ _ _ _ _ _ _ hb σ (g.with (by rw[Ll];exact g.bu)) _ fun aI a le g'=>?_
      have fin:∀x:Exit,(x=.normal∨x=.ret)->(match Ad ay h' R.bI with|some vs=>some (PR.val (bH vs) h' aX)|none=>none)=some bI->ku N0 aI (ay.map (·.2)) h' aX->
       US R.bI (fun v Post=>∃v0 h' aX aI,bI=.val v0 h' aX/\Ag nx σ aI/\nx<=aX/\ku N0 aI [v0] h' aX/\v=rn aI v0/\Post=[kY A aI h'])
        (fun ch Post=>∃YA h' aX aI,bI=.uL YA h' aX/\Ag nx σ aI/\nx<=aX/\ku N0 aI (YA.map (·.v)) h' aX/\ch=Hp aI YA/\Post=[kY A aI h']) x (bU aI ay) [kY A aI h']:=by
       intro x hx he g2;split at he
       case h_2=>cases he
       rename_i vs ma;cases he;obtain⟨r1,r2⟩:=MV g2 g2.bu ma;refine jL ⟨hx,_,_,r1,ao.refl _,V.bH vs,h',aX,aI,rfl,a,le,g2.with (fun w hw=>by rw[QR.1 hw];exact bT.bH r2),(rn_tup aI vs).symm,rfl⟩
      cases e with
      |normal=>exact fin .normal (.inl rfl) he (by simpa[yO]using g')
      |ret=>exact fin .ret (.inr rfl) he (by simpa[yO]using g')
      |exit i=>cases he
      |uL ch=>
       cases he;exact⟨_,ao.refl _,ch,h',aX,aI,rfl,a,le,g'.with (fun u hu=>g'.bu u (Zw _ hu)),rfl,rfl⟩
end
def qm(d a:Nat):RO:=⟨some d,none,.mv (.tmp a)⟩
def qk(d:Nat)(v:Int):RO:=⟨some d,none,.mv (.const (.int .i64 v))⟩
def qz(d:Nat)(b:Bool):RO:=⟨some d,none,.mv (.const (.bool b))⟩
def qo(d:Nat)(r:R):RO:=⟨some d,none,r⟩
def ql(d a:Nat):RO:=⟨some d,none,.qE (.tmp a)⟩
def qf(d o a:Nat):RO:=⟨some d,none,.fld o (.tmp a)⟩
def qi(d s a b:Nat):RO:=⟨some d,none,.Jb s (.tmp a) (.tmp b)⟩
def qb(d:Nat)(o:BinOp)(a b:Nat):RO:=⟨some d,none,.bin o (.tmp a) (.tmp b)⟩
def qc(d:Nat)(o:BinOp)(a:Nat)(v:Int):RO:=⟨some d,none,.bin o (.tmp a) (.const (.int .i64 v))⟩
def qn(d a:Nat):RO:=⟨some d,none,.tD (.tmp a)⟩
def qs(n a b:Nat):RO:=⟨none,none,.store n (.tmp a) (.tmp b)⟩
def qp(d c a b:Nat):RO:=⟨some d,none,.pick (.tmp c) (.tmp a) (.tmp b)⟩
def qa(d c a:Nat):RO:=⟨some d,none,.pick (.tmp c) (.tmp a) (.const (.bool false))⟩
def qr(d c b:Nat):RO:=⟨some d,none,.pick (.tmp c) (.const (.bool true)) (.tmp b)⟩
def qe(d a i:Nat):RO:=⟨some d,none,.ext (.tmp a) i⟩
def tmps:List Nat->List Operand
 |[]=>[]
 |a::r=>.tmp a::tmps r
def qx(d f:Nat)(l:List Nat):RO:=⟨some d,none,.call f (tmps l)⟩
def qL(d a:Nat):RO:=⟨some d,none,.Jj (.tmp a)⟩
def qN(d n a:Nat):RO:=⟨some d,none,.iB n (.tmp a)⟩
def qB(d t a:Nat):RO:=⟨some d,none,.box t (.tmp a)⟩
def qt(g:Nat)(x:RO):RO:=⟨x.dst,some (g,true),x.op⟩
def qu(g:Nat)(x:RO):RO:=⟨x.dst,some (g,false),x.op⟩
def qS(rs:List RO)(k:List Nat)(r:IC):IC:=.seq (.lU rs k) r
def qC(c:Nat)(a b:IC):IC:=.cond (.tmp c) a b
def Xu:List RO->Nat->RO
 |[],_=>default
 |x::_,0=>x
 |_::r,n+1=>Xu r n
def XA(l:List RO):List Nat->List RO
 |[]=>[]
 |i::r=>Xu l i::XA l r
def G7(l:List RO):List (List Nat)->List (List RO)
 |[]=>[]
 |p::r=>XA l p::G7 l r
def qD(l:List RO)(ps:List (List Nat))(k:List Nat):IC:=.draw (G7 l ps) k
def o7:IC->List (List Nat)
 |.skip|.exit _|.ret|.label _=>[]
 |.lU _ k|.draw _ k|.free _ _ k=>[k]
 |.seq a b|.cond _ a b|.hK _ _ a b=>o7 a++o7 b
 |.loop (.seq a (.seq b c))=>o7 a++(o7 c++o7 b)
 |.block _ b|.loop b|.scope b=>o7 b
def Zn(F:aQ)(i:Nat):List Nat:=(o7 F.body).getD i []
def laid {X F:aQ}(_h:F=X:=by(dsimp only[qm,qk,qz,qo,ql,qf,qi,qb,qc,qn,qs,qp,qa,qr,qe,tmps,qx,qL,qN,qB,qt,qu,qS,qC,Xu,XA,G7,qD] <;> exact rfl)):aQ:=F
theorem TKx {H R:SH}{A:List kC}(h:Tk H A R:=by(focus ((repeat (first|with_reducible exact Tk.here|apply Tk.there));done))):Tk H A R:=h
theorem bS {H D:SH}(h:ao H D:=by(first|with_reducible exact ao.refl|with_reducible exact ao.left|(focus ((try simp only[QS]);(repeat (first|exact ao.nil|(apply ao.cons;(focus ((repeat (first|with_reducible exact Tk.here|apply Tk.there));done)))));done)))):ao H D:=h
theorem SPx {H D R:SH}(h:eo H D R:=by(focus ((repeat (first|exact eo.nil|(apply eo.cons;(focus ((repeat (first|with_reducible exact Tk.here|apply Tk.there));done)))));done))):eo H D R:=h
theorem AO {G D:Env}(h:Sub G D:=by(repeat (first|exact Sub.nil|(apply Sub.cons;rfl)))):Sub G D:=h
theorem aJ {α:Type}:(∀(a:α) (l r:List α),(a::l)++r=a::(l++r))/\(∀r:List α,([]:List α)++r=r):=⟨fun _ _ _=>rfl,fun _=>rfl⟩
theorem XX {A:List kC}{P:Program}{N0:Nat}{Di:List (Nat×FE)}{Ut:CF}(ht:s8 P Di)(ho:oM A P N0 Ut){L k f:Nat}{args:List Value}{v0:Value}{h1:Mp}{n1:Nat}(ha:args.all pw=true)(he:xE N0 Di Ut L k f args [] N0=some (.val v0 h1 n1)):
 aw P f args [A] (fun u Post=>∃σ,ku N0 σ [v0] h1 n1/\u=rn σ v0/\Post=[A,kY [] σ h1]):=by
 have g:ku N0 ⟨fun i=>i,fun _=>0,fun _=>0,fun _=>[]⟩ args [] N0:=⟨fun _ _=>⟨rfl,rfl⟩,Qn _,(fun p hp=>by cases hp),(fun p hp=>by cases hp),(fun p hp=>by cases hp),fun u hu=>bT.plain (ve.1 ha u hu)⟩;have hs:=UT ht ho L k f args [] N0 _ he _ g;have cp:args.map (rn ⟨fun i=>i,fun _=>0,fun _=>0,fun _=>[]⟩)=args:=by
  conv=>rhs;rw[<- List.map_id args]
  exact QB fun u hu=>dT (ve.1 ha u hu)
 rw[cp]at hs;have rK:=hs.conv (H:=[A]) (R:=[]) (Q':=fun u Post=>∃σ,ku N0 σ [v0] h1 n1/\u=rn σ v0/\Post=[A,kY [] σ h1]) (Z':=fun _ _=>False) (by simp[eo,kY]) ?_ ?_
 ·exact rK.fun
 ·rintro u Post ⟨v1,h2,n2,σ1,e,_,_,g1,rfl,rfl⟩
  cases e;exact⟨[A,kY [] σ1 h1],⟨σ1,g1,rfl,rfl⟩,ao.perm (by simpa using GA)⟩
 ·rintro ch Post ⟨YA,h2,n2,σ1,e,_⟩
  cases e
def Ot(h:Mp)(w:Nat)(b n c:Nat):Bool:=match Nat.blt c lM with
 |true=>Nat.ble n c
 |false=>match sj h b with
  |some (.grow s vs)=>Nat.beq s w&&Nat.beq c lM&&Nat.blt 0 w&&Nat.ble (n*w) vs.length
  |_=>false
theorem Fs {N0 nx:Nat}{σ:Sg}{bu:List Value}{h:Mp}(g:ku N0 σ bu h nx){w b n c:Nat}(hc:Ot h w b n c=true):n<=Ho σ b c:=by
 unfold Ot at hc;unfold Ho;split at hc
 ·rename_i aS;rw[if_pos (Du aS)];exact iR hc
 ·rename_i aS;split at hc
  case h_2=>cases hc
  rename_i s vs hb;simp only[vF]at hc;obtain⟨⟨⟨h1,h2⟩,h3⟩,h4⟩:=hc;obtain rfl:=yR h1;obtain rfl:=yR h2;rw[if_neg (Nat.lt_irrefl _),Qt,Nat.sub_zero];have hg:=g.grow _ (zp hb);have hg:vs.length+(σ.tl b).length=σ.cap b*s:=hg;have h5:=iR h4;have h6:=Du h3;exact Nat.le_of_mul_le_mul_right (Qp h5 Zo) h6
def Ep {α:Type}(f:List Value->Option α)(w:Nat):Nat->List Value->Option (List α)
 |0,_=>some []
 |n+1,us=>match f (us.take w)with
  |some x=>match Ep f w n (us.drop w)with
   |some l=>some (x::l)
   |none=>none
  |none=>none
theorem qV {α:Type}{f:List Value->Option α}{w:Nat}:∀{n:Nat} {us:List Value} {l:List α},Ep f w n us=some l->l.length=n/\∀i x,l[i]? =some x->f ((us.drop (i*w)).take w)=some x
 |0,us,l,h=>by
  obtain rfl:[]=l:=X3 h;exact⟨rfl,fun i x hx=>by simp at hx⟩
 |n+1,us,l,h=>by
  rw[Ep]at h;split at h
  case h_2=>cases h
  rename_i x hx;split at h
  case h_2=>cases h
  rename_i r hr;obtain rfl:=X3 h;obtain⟨h1,h2⟩:=qV hr;refine⟨by rw[Vz,h1],fun i y hy=>?_⟩;cases i with
  |zero=>
   obtain rfl:x=y:=by simpa using hy
   simpa using hx
  |succ i=>
   have:=h2 i y (by simpa using hy);rw[List.drop_drop]at this;rw[Nat.succ_mul,Nat.add_comm];exact this
def XL {α:Type}(h:Mp)(w:Nat)(f:List Value->Option α):Value->Option (List α)
 |.slice none 0 _=>some []
 |.slice (some ⟨b,o,none⟩) n c=>match Nat.beq o 0&&Ot h w b n c with
  |true=>match iE h b 0 (n*w)with
   |some us=>Ep f w n us
   |none=>none
  |false=>none
 |_=>none
theorem Aa {N0 nx:Nat}{σ:Sg}{bu:List Value}{h:Mp}(g:ku N0 σ bu h nx){α:Type}{w:Nat}{f:List Value->Option α}{v:Value}{l:List α}(hr:XL h w f v=some l):
 ∃(a:Option Addr) (c bk o:Nat) (us:Nat->List Value),rn σ v=.slice a l.length c/\(0 < l.length->a=some ⟨bk,o,none⟩/\l.length<=c)/\(∀i,i < l.length->∀y∈kA bk (o+i*w) (us i),y∈kY [] σ h)/\∀i x,l[i]? =some x->∃ws,us i=ws.map (rn σ)/\f ws=some x:=by
 unfold XL at hr;split at hr
 ·obtain rfl:[]=l:=X3 hr;exact⟨none,_,0,0,fun _=>[],by simp;rfl,fun h=>absurd h Zs,fun i hi=>absurd hi Zs,fun i x hx=>by simp at hx⟩
 ·rename_i b o n c;split at hr
  case h_2=>cases hr
  rename_i hc;rw[vF]at hc;obtain rfl:=yR hc.1;split at hr
  case h_2=>cases hr
  rename_i us x4;obtain⟨h1,h2⟩:=qV hr;have Gh:=Fs g hc.2;have hm:=eR (σ:=σ) (A:=[]) x4;have hl:=nS x4;refine⟨some ⟨σ.rG b,σ.off b,none⟩,Ho σ b c,σ.rG b,σ.off b,fun i=>((us.drop (i*w)).take w).map (rn σ),?_,fun _=>⟨rfl,Zo⟩,fun i hi y hy=>?_,fun i x hx=>⟨_,rfl,h2 i x hx⟩⟩
  ·rw[h1,bn];rfl
  ·refine hm y ?_;rw[Qj];refine lQ (i:=i*w) (m:=w) ?_ y hy;show((us.drop (i*w)).take w).map (rn σ)=((us.map (rn σ)).drop (i*w)).take w;rw[List.map_take,List.map_drop]
 ·cases hr
def rdStr:List Value->Option ByteArray
 |[.string s]=>match Nat.ble s.size 1000 with|true=>some s|false=>none
 |_=>none
def sR(h:Mp)(v:Value):Option (List ByteArray):=match XL h 1 rdStr v with
 |some l=>match Nat.ble l.length 1000 with|true=>some l|false=>none
 |none=>none
theorem eO {N0 nx:Nat}{σ:Sg}{bu:List Value}{h:Mp}(g:ku N0 σ bu h nx){v:Value}{l:List ByteArray}(hr:sR h v=some l):dG (kY [] σ h) (rn σ v) l:=by
 unfold sR at hr;split at hr
 case h_2=>cases hr
 rename_i l' hl;split at hr
 case h_2=>cases hr
 rename_i hb;obtain rfl:=X3 hr;have hb:=iR hb;obtain⟨a,c,bk,o,us,h1,h2,h3,h4⟩:=Aa g hl;refine⟨a,c,h1,Zo,fun i t ht=>?_⟩;have hi:=(Vt.1 ht).1;obtain⟨ws,e1,e2⟩:=h4 i t ht;unfold rdStr at e2;split at e2
 case h_2=>cases e2
 rename_i s;split at e2
 case h_2=>cases e2
 rename_i hs;obtain rfl:=X3 e2;refine⟨bk,o,(h2 Zo).1,?_,by have:=iR hs;omega⟩;refine h3 i hi _ ?_;rw[e1,Nat.mul_one];exact kJ.2 ⟨0,.string s,Zs,rfl⟩
def ZA(k lk ln lb p:Int)(s lt:ByteArray)(n:Nat):Bool:=decide (0<=k/\k < 256/\0<=lk/\lk < 256/\0<=lb/\lb < 18446744073709551616)&&decide (-9223372036854775808<=ln/\ln<=9223372036854775807/\-9223372036854775808<=p/\p<=9223372036854775807)&&(Nat.ble s.size 1000&&Nat.ble lt.size 1000&&Nat.ble n 1000)
def ZD(kr:Value->Option (List Nd))(h:Mp):List Value->Option Nd
 |[.int .u8 k,.string s,.int .u8 lk,.int .i64 ln,.int .u64 lb,.string lt,.slice none 0 _,av,tv,kv,.int .i64 p]=>match sR h av with
  |some a=>match sR h tv with
   |some t=>match kr kv with
    |some ks=>match ZA k lk ln lb p s lt ks.length with
     |true=>some (.mk k.toNat s (.mk lk.toNat ln lb.toNat lt []) a t ks p)
     |false=>none
    |none=>none
   |none=>none
  |none=>none
 |_=>none
def SB:Nat->Mp->Value->Option (List Nd)
 |0,_,_=>none
 |f+1,h,v=>XL h 11 (ZD (SB f h) h) v
theorem Hh {N0 nx:Nat}{σ:Sg}{bu:List Value}{h:Mp}(g:ku N0 σ bu h nx):∀(f:Nat) (v:Value) (l:List Nd),SB f h v=some l->
 ∃(a:Option Addr) (c bk o:Nat) (us:Nat->List Value),rn σ v=.slice a l.length c/\(0 < l.length->a=some ⟨bk,o,none⟩/\l.length<=c)/\(∀i,i < l.length->∀y∈kA bk (o+i*11) (us i),y∈kY [] σ h)/\∀i x,l[i]? =some x->jJ (kY [] σ h) x (us i):=by
 intro f
 induction f with
 |zero=>intro v l h;cases h
 |succ f ih=>
  intro v l hr;obtain⟨a,c,bk,o,us,h1,h2,h3,h4⟩:=Aa g hr;refine⟨a,c,bk,o,us,h1,h2,h3,fun i x hx=>?_⟩;obtain⟨ws,e1,e2⟩:=h4 i x hx;rw[e1];unfold ZD at e2;split at e2
  case h_2=>cases e2
  rename_i k s lk ln lb lt lc av tv kv p;split at e2
  case h_2=>cases e2
  rename_i A hA;split at e2
  case h_2=>cases e2
  rename_i T hT;split at e2
  case h_2=>cases e2
  rename_i ks AX;split at e2
  case h_2=>cases e2
  rename_i aP;obtain rfl:=X3 e2;unfold ZA at aP;simp only[vF,decide_eq_true_eq]at aP;obtain⟨⟨⟨b1,b2,b3,b4,b5,b6⟩,b7,b8,b9,b10⟩,⟨b11,b12⟩,b13⟩:=aP;have b11:=iR b11;have b12:=iR b12;have b13:=iR b13;obtain⟨a',c',Yy,o',K8,k1,k2,k3,k4⟩:=ih kv ks AX;have aS:zk (kY [] σ h) (.mk lk.toNat ln lb.toNat lt []) [cv lk.toNat,vi ln,uv lb.toNat,.string lt,.slice none 0 lc]:=.mk (a:=none) (c:=lc) (bk:=0) (o:=0) (us:=fun _=>[]) ⟨Zo,Zo,Zo,Zo,Zd⟩ (fun h=>absurd h Zs) (fun i hi=>absurd hi Zs) (fun i x hx=>by simp at hx);have bJ:=eO g hA;have bF:=eO g hT;by_cases Ct:0 < ks.length
  ·obtain⟨k5,k6⟩:=k2 Ct;have:=jJ.mk (k:=k.toNat) (s:=s) (p:=p) (a:=a') (c:=c') (bk:=Yy) (o:=o') (us:=K8) (kids:=ks) ⟨Zo,Zo,Zo,Zo⟩ aS bJ bF (fun _=>k5) k3 k4 k6;have e:([Value.int .u8 k,.string s,.int .u8 lk,.int .i64 ln,.int .u64 lb,.string lt,.slice none 0 lc,av,tv,kv,.int .i64 p]).map (rn σ)=[cv k.toNat,.string s]++[cv lk.toNat,vi ln,uv lb.toNat,.string lt,.slice none 0 lc]++[rn σ av,rn σ tv,.slice a' ks.length c',vi p]:=by
    exact zC2
   rw[e];exact this
  ·have Uh:ks=[]:=vz Zo;subst Uh;have:=jJ.mk (k:=k.toNat) (s:=s) (p:=p) (a:=a') (c:=c') (bk:=Yy) (o:=o') (us:=K8) (kids:=[]) ⟨Zo,Zo,Zs,Zo⟩ aS bJ bF (fun h=>absurd h Zs) k3 k4 (Qv _);have e:([Value.int .u8 k,.string s,.int .u8 lk,.int .i64 ln,.int .u64 lb,.string lt,.slice none 0 lc,av,tv,kv,.int .i64 p]).map (rn σ)=[cv k.toNat,.string s]++[cv lk.toNat,vi ln,uv lb.toNat,.string lt,.slice none 0 lc]++[rn σ av,rn σ tv,.slice a' ([]:List Nd).length c',vi p]:=by
    exact zC2
   rw[e];exact this
def Cz {α:Type}{X F:α}(_h:F=X:=by(dsimp only[qm,qk,qz,qo,ql,qf,qi,qb,qc,qn,qs,qp,qa,qr,qe,tmps,qx,qL,qN,qB,qt,qu,qS,qC,Xu,XA,G7,qD] <;> exact rfl)):α:=F
def WL(x:Nat):List Nat->List Nat
 |[]=>[x]
 |y::r=>if x < y then x::y::r else if x=y then y::r else y::WL x r
def Bu(a b:List Nat):List Nat:=b.foldr WL a
def tmN:List Operand->List Nat
 |[]=>[]
 |.tmp t::r=>t::tmN r
 |_::r=>tmN r
def ψ(d:Nat):List Nat->List Nat
 |[]=>[]
 |y::r=>if d=y then ψ d r else y::ψ d r
def XN:List Oper->List Nat->List Nat
 |[],a=>a
 |o::r,a=>Bu (match o.dst with|some d=>ψ d (XN r a)|none=>XN r a) (tmN o.op.operands.toList)
def itN(f:List Nat->List Nat):Nat->List Nat->List Nat
 |0,l=>l
 |n+1,l=>match Bu l (f l)with|m=>if m.length=l.length then l else itN f n m
def Kk(ps:List Nat):List Nat->List Nat
 |[]=>[]
 |y::r=>if ps.contains y then Kk ps r else y::Kk ps r
def Ms(rt:List Nat):Code->List Nat->List (Nat×List Nat)->List Nat
 |.region _ ops _,a,_=>XN ops.toList a
 |.seq x y,a,ex=>Ms rt x (Ms rt y a ex) ex
 |.cond c x y,a,ex=>Bu (Bu (Ms rt x a ex) (Ms rt y a ex)) (tmN [c])
 |.block id b,a,ex=>Ms rt b a ((id,a)::ex)
 |.loop b,_,ex=>itN (fun l=>Ms rt b l ex) 20 []
 |.exit id,_,ex=>zK ex id
 |.ret,_,_=>rt
 |.scope b,a,ex=>Ms rt b a ex
 |.rangeFunc g ps x b,a,ex=>Bu (Bu (Kk ps.toList (Ms rt x (Ms rt b [] ex) ex)) a) (tmN [g])
 |_,a,_=>a
def Us(rt:List Nat):Code->List Nat->List (Nat×List Nat)->List (Nat×List Nat)
 |.region id _ _,a,_=>[(id,a)]
 |.seq x y,a,ex=>Us rt x (Ms rt y a ex) ex++Us rt y a ex
 |.cond _ x y,a,ex=>Us rt x a ex++Us rt y a ex
 |.block id b,a,ex=>Us rt b a ((id,a)::ex)
 |.loop b,_,ex=>Us rt b (itN (fun l=>Ms rt b l ex) 20 []) ex
 |.scope b,a,ex=>Us rt b a ex
 |.rangeFunc _ _ x b,_,ex=>Us rt x (Ms rt b [] ex) ex++Us rt b [] ex
 |_,_,_=>[]
def MU:List ResultVar->List Nat
 |[]=>[]
 |.tmp t::r=>WL t (MU r)
 |.cell a _::r=>WL a (MU r)
def keepN(P:Program)(f:Nat):List (Nat×List Nat):=match P.funcs[f]? with
 |some fn=>match fn.body with
  |some c=>Us (MU fn.results.toList) c (MU fn.results.toList) []
  |none=>[]
 |none=>[]
def gOp(P:Program):Op->Option R
 |.call c=>match c.callee with
  |.value (.func f)=>some (.call f c.args.toList)
  |_=>j7 P (.call c)
 |o=>j7 P o
def gL(P:Program)(ops:Array Oper):List Oper->List RO
 |[]=>[]
 |o::r=>match gOp P o.op with
  |none=>gL P ops r
  |some x=>match o.guard with
   |none=>⟨o.dst,none,x⟩::gL P ops r
   |some (j,b)=>⟨o.dst,((ops[j]?).bind (·.dst)).map (·,b),x⟩::gL P ops r
def gR(P:Program)(od:List (Nat×List (List Nat)))(id:Nat)(ops:Array Oper)(a:List Nat):Bool->IC
 |false=>.lU (gL P ops ops.toList) a
 |true=>match zK od id with
  |[]=>.free (gL P ops ops.toList) (ij ops) a
  |o::r=>.draw (G7 (gL P ops ops.toList) (o::r)) a
def gC(P:Program)(od:List (Nat×List (List Nat)))(rt:List Nat):Code->List Nat->List (Nat×List Nat)->List Nat×IC
 |.region id ops d,a,_=>(XN ops.toList a,gR P od id ops a d)
 |.seq x y,a,ex=>match gC P od rt y a ex with|(l,p)=>match gC P od rt x l ex with|(m,q)=>(m,.seq q p)
 |.cond c x y,a,ex=>match gC P od rt x a ex with|(l,p)=>match gC P od rt y a ex with|(m,q)=>(Bu (Bu l m) (tmN [c]),.cond c p q)
 |.block id b,a,ex=>match gC P od rt b a ((id,a)::ex)with|(l,p)=>(l,.block id p)
 |.loop b,_,ex=>match itN (fun l=>Ms rt b l ex) 20 []with|l=>match gC P od rt b l ex with|(m,p)=>(m,.loop p)
 |.exit id,_,ex=>(zK ex id,.exit id)
 |.ret,_,_=>(rt,.ret)
 |.scope b,a,ex=>match gC P od rt b a ex with|(l,p)=>(l,.scope p)
 |.rangeFunc g ps x b,a,ex=>match gC P od rt b [] ex with|(l,p)=>match gC P od rt x l ex with|(m,q)=>(Bu (Bu (Kk ps.toList m) a) (tmN [g]),.hK g ps.toList q p)
 |.label l,a,_=>(a,.label l)
 |_,a,_=>(a,.skip)
def gF(P:Program)(fn:Func)(od:List (Nat×List (List Nat))):Option aQ:=match fn.body,ww P fn.results.toList with
 |some c,some r=>some ⟨fn.ntmps,r,(gC P od (MU fn.results.toList) c (MU fn.results.toList) []).2⟩
 |_,_=>none
def aY(P:Program)(f:Nat)(od:List (Nat×List (List Nat))):Option aQ:=oq P (zK (keepN P f)) (zK od) f
theorem mkA {α:Type}(l:List α):Array.mk l=l.toArray:=rfl
def bb {o:Option aQ}{F:aQ}(_h:o=some F:=by(apply Eq.trans;cbv;dsimp only[mkA] <;> exact rfl)):aQ:=F
end Go.V
namespace Go.Proofs.YtijnokbblmbpkaaGreatDoor
open Go Go.V
noncomputable def dq:TypeInfo:=Tryz.t3
noncomputable def pq:Program:=⟨{Tryz.progTables with types:=#[dq,dq,Tryz.t2,Tryz.t3,Tryz.t4,Tryz.t5,dq,dq,dq,Tryz.t9,dq,dq,dq,dq,dq,dq,dq,dq,dq,dq,dq,dq,Tryz.t22,Tryz.t23,Tryz.t24,Tryz.t25,dq,dq,dq,dq,Tryz.t30,dq,dq,Tryz.t33,Tryz.t34,Tryz.t35,Tryz.t36,Tryz.t37,Tryz.t38,dq,dq,Tryz.t41,Tryz.t42,Tryz.t43,Tryz.t44,Tryz.t45,Tryz.t46,dq,dq,Tryz.t49,Tryz.t50,dq,dq,dq,dq,dq,dq,dq,dq,dq,Tryz.t60,Tryz.t61,dq,dq,dq,Tryz.t65,Tryz.t66,Tryz.t67,Tryz.t68,Tryz.t69,Tryz.t70,Tryz.t71,Tryz.t72,dq,dq,dq,dq,dq,dq,dq,Tryz.t80,dq,dq,Tryz.t83,Tryz.t84,dq,dq,dq,dq,dq,Tryz.t90,Tryz.t91,Tryz.t92,Tryz.t93,dq,Tryz.t95,Tryz.t96,Tryz.t97,dq,dq,Tryz.t100,Tryz.t101,Tryz.t102,dq,dq,dq,dq,dq,Tryz.t108,Tryz.t109,Tryz.t110,Tryz.t111,Tryz.t112,Tryz.t113,Tryz.t114,dq,dq,dq,dq,Tryz.t119,Tryz.t120,Tryz.t121,Tryz.t122,dq,Tryz.t124,dq,Tryz.t126,Tryz.t127,dq,dq,dq,dq,dq,dq,dq,dq,dq,dq,dq,dq,dq,dq,dq,dq,Tryz.t144,Tryz.t145,Tryz.t146,dq,dq,dq,dq,dq,Tryz.t152,dq,dq,dq,dq,dq,dq,dq,dq,dq,dq,dq,dq,dq,dq,dq,dq,dq,dq,dq,dq,dq,dq,dq,dq,dq,dq,Tryz.t179,Tryz.t180,Tryz.t181,Tryz.t182,Tryz.t183,dq,Tryz.t185,Tryz.t186,dq,dq,dq,dq,dq,dq,dq,dq,dq,Tryz.t196,Tryz.t197,dq,Tryz.t199,Tryz.t200,Tryz.t201,Tryz.t202,Tryz.t203,Tryz.t204,Tryz.t205,Tryz.t206,dq,Tryz.t208,Tryz.t209,Tryz.t210,dq,dq,dq,dq,dq,Tryz.t216,Tryz.t217,dq,Tryz.t219,Tryz.t220,dq,dq,dq,dq,dq,dq,dq,Tryz.t228,Tryz.t229,Tryz.t230,dq,dq,dq,dq,dq,dq,dq,dq,dq,dq,dq,dq,dq,dq,dq,dq,dq,dq,dq,dq,dq,dq,dq,dq,dq,dq,dq,dq,dq,dq,Tryz.t261,Tryz.t262,dq,dq,dq,dq,dq,dq,dq,dq,dq,dq,dq,dq,dq,dq,dq,dq,dq,Tryz.t280,dq,dq,dq,dq,dq,dq,dq,dq,dq,dq,dq,dq,dq,dq,dq,dq,dq,dq,dq,dq,dq,dq,dq,dq,dq,dq,dq,dq,dq,dq,dq,dq,dq,dq,dq,dq,dq,dq,dq,dq,dq,dq,dq,dq,dq,dq,dq,dq,dq,dq,dq,dq,dq,dq,dq,dq,dq,dq,dq,dq,dq,dq,dq,dq,dq,dq,dq,dq,dq,dq,Tryz.t351,dq,dq,dq,dq,dq,dq,dq,dq,dq,dq,dq,dq,dq,dq,dq,dq,dq,dq,dq,dq,dq,dq,dq,dq,dq,dq,dq,dq,dq,dq,dq,dq,dq,dq,dq,dq,dq,dq,dq,dq,dq,dq,dq,dq,dq,dq,dq,dq,dq,dq,Tryz.t402,Tryz.t403]},#[]⟩
set_option maxRecDepth 100000
noncomputable def F192:aQ:=bb (o:=gF pq Tryz.f192 [])
theorem n192:F192.n=21:=rfl
theorem low192:aY Tryz.prog 192 []=some F192:=by kernel_rfl
noncomputable def F197:aQ:=bb (o:=gF pq Tryz.f197 [])
theorem n197:F197.n=9:=rfl
theorem low197:aY Tryz.prog 197 []=some F197:=by kernel_rfl
noncomputable def F194:aQ:=bb (o:=gF pq Tryz.f194 [])
theorem n194:F194.n=9:=rfl
theorem low194:aY Tryz.prog 194 []=some F194:=by kernel_rfl
noncomputable def F193:aQ:=bb (o:=gF pq Tryz.f193 [])
theorem n193:F193.n=21:=rfl
theorem low193:aY Tryz.prog 193 []=some F193:=by kernel_rfl
noncomputable def F161:aQ:=bb (o:=gF pq Tryz.f161 [])
theorem n161:F161.n=22:=rfl
theorem low161:aY Tryz.prog 161 []=some F161:=by kernel_rfl
noncomputable def F162:aQ:=bb (o:=gF pq Tryz.f162 [])
theorem n162:F162.n=6:=rfl
theorem low162:aY Tryz.prog 162 []=some F162:=by kernel_rfl
noncomputable def F198:aQ:=bb (o:=gF pq Tryz.f198 [])
theorem n198:F198.n=12:=rfl
theorem low198:aY Tryz.prog 198 []=some F198:=by kernel_rfl
noncomputable def F163:aQ:=bb (o:=gF pq Tryz.f163 [])
theorem n163:F163.n=17:=rfl
theorem low163:aY Tryz.prog 163 []=some F163:=by kernel_rfl
noncomputable def F196:aQ:=bb (o:=gF pq Tryz.f196 [])
theorem n196:F196.n=29:=rfl
theorem low196:aY Tryz.prog 196 []=some F196:=by kernel_rfl
noncomputable def F195:aQ:=bb (o:=gF pq Tryz.f195 [])
theorem n195:F195.n=8:=rfl
theorem low195:aY Tryz.prog 195 []=some F195:=by kernel_rfl
noncomputable def F164:aQ:=bb (o:=gF pq Tryz.f164 [])
theorem n164:F164.n=10:=rfl
theorem low164:aY Tryz.prog 164 []=some F164:=by kernel_rfl
noncomputable def F199:aQ:=bb (o:=gF pq Tryz.f199 [])
theorem n199:F199.n=8:=rfl
theorem low199:aY Tryz.prog 199 []=some F199:=by kernel_rfl
noncomputable def F223:aQ:=bb (o:=gF pq Tryz.f223 [])
theorem n223:F223.n=52:=rfl
theorem low223:aY Tryz.prog 223 []=some F223:=by kernel_rfl
noncomputable def F225:aQ:=bb (o:=gF pq Tryz.f225 [])
theorem n225:F225.n=8:=rfl
theorem low225:aY Tryz.prog 225 []=some F225:=by kernel_rfl
noncomputable def F165:aQ:=bb (o:=gF pq Tryz.f165 [])
theorem n165:F165.n=11:=rfl
theorem low165:aY Tryz.prog 165 []=some F165:=by kernel_rfl
noncomputable def F200:aQ:=bb (o:=gF pq Tryz.f200 [])
theorem n200:F200.n=18:=rfl
theorem low200:aY Tryz.prog 200 []=some F200:=by kernel_rfl
noncomputable def F226:aQ:=bb (o:=gF pq Tryz.f226 [])
theorem n226:F226.n=21:=rfl
theorem low226:aY Tryz.prog 226 []=some F226:=by kernel_rfl
noncomputable def F105:aQ:=bb (o:=gF pq Tryz.f105 [])
theorem n105:F105.n=47:=rfl
theorem low105:aY Tryz.prog 105 []=some F105:=by kernel_rfl
end Go.Proofs.YtijnokbblmbpkaaGreatDoor
namespace Go.V
open Go
theorem Sat.below {w w':World}{L:List kC}(h:RowKit.Below w.heap.size w w')(hs:Sat w L):Sat w' L:=by
 refine⟨fun x hx=>?_,hs.nodup⟩;have hl:=hs.lt hx;have hh:=hs.holds x hx;cases x with
 |cell b off v=>
  obtain⟨c,t,lo,hi,hb,r⟩:=hh;exact⟨c,t,lo,hi,by rw[h.block b hl];exact hb,r⟩
 |obj b o=>exact⟨by rw[h.block b hl];exact hh.1,hh.2⟩
 |row b n=>
  exact zEW
 |own b n=>
  exact zEW
theorem kg.below {w w':World}(h:RowKit.Below w.heap.size w w'):kg w w':=
 ⟨h.os,h.output,h.size,fun i c t lo hi bQ=>⟨c,by rw[h.block i (v8.1 bQ).1];exact bQ,rfl,fun _ _=>rfl⟩⟩
theorem aw.G5 {P:Program}{f:Nat}{args:List Value}{Q:Value->Prop}(hc:wE P f=true)(h:∀w,Calls P f args.toArray w fun e w'=>∃v,e=.returned v/\Q v/\w'=w):aw P f args [] (fun v Post=>Q v/\Post=[]):=
 ⟨hc,fun F w hs=>(h w).mono fun e w' ⟨v,h1,h2,h3⟩=>by subst h3;exact⟨v,[],h1,⟨h2,rfl⟩,hs,.refl _⟩⟩
theorem aw.CU {P:Program}{f:Nat}{args:List Value}{Q:Value->Prop}{A:List kC}(hc:wE P f=true)(h:∀w F,Sat w (A++F)->Calls P f args.toArray w fun e w'=>∃v,e=.returned v/\Q v/\RowKit.Below w.heap.size w w'):aw P f args [A] (fun v Post=>Q v/\Post=[A]):=
 ⟨hc,fun F w hs=>(h w F (by simpa using hs)).mono fun e w' ⟨v,h1,h2,h3⟩=>⟨v,[A],h1,⟨h2,rfl⟩,hs.below h3,.below h3⟩⟩
theorem kV(s:ByteArray):(kB s).length=s.size:=by simp[kB]
theorem Iu {s:ByteArray}{i:Nat}{c:UInt8}(h:s[i]? =some c):(kB s)[i]? =some c.toNat:=by
 have hi:i < s.size:=by
  by_cases hi:i < s.size
  ·exact hi
  ·simp[hi]at h
 have h2:s.data[i]? =some c:=by
  have h3:s[i]? =some s[i]:=by simp[hi]
  rw[h3]at h;rw[<- h];exact v7 (xs:=s.data) hi
 simp[kB,h2]
theorem zg(s:ByteArray):∀c∈kB s,c < 256:=by
 intro c hc;obtain⟨x,_,rfl⟩:=QM.1 hc;exact x.toNat_lt
theorem jU {s t:ByteArray}(h:kB s=kB t):s=t:=by
 have h2:s.data.toList=t.data.toList:=by
  have hm:∀l m:List UInt8,l.map UInt8.toNat=m.map UInt8.toNat->l=m:=by
   intro l
   induction l with
   |nil=>intro m e;cases m with|nil=>rfl|cons=>cases e
   |cons a l ih=>
    intro m e;cases m with
    |nil=>cases e
    |cons b m=>
     simp only[QC,vq]at e;rw[UInt8.toNat_inj.1 e.1,ih m e.2]
  exact hm _ _ h
 exact ByteArray.ext (vC.1 h2)
theorem w7 {s:ByteArray}{i:Nat}(h:i < s.size):∃c:UInt8,s[i]? =some c/\(kB s)[i]? =some c.toNat:=⟨s[i],by simp[h],Iu (by simp[h])⟩
def Ig:List Nat->Nat->Int
 |[],_=>-1
 |b::l,c=>if b=c then 0 else if Ig l c=-1 then -1 else Ig l c+1
theorem Zk(l:List UInt8)(c:UInt8):Lib.indexByte l c=Ig (l.map UInt8.toNat) c.toNat:=by
 induction l with
 |nil=>rfl
 |cons b l ih=>
  simp only[Lib.indexByte,QC,Ig,ih];by_cases h:b=c
  ·subst h;simp
  ·have:b.toNat≠c.toNat:=fun e=>h (UInt8.toNat_inj.1 e)
   simp[h,this]
theorem WS {c:Nat}(h:c < 256):decide (0<=Ig [43,45,42,47,92,126,60,62,61,64,37,38,63,44,33] c)=cA c:=by
 have h2:∀c:Fin 256,decide (0<=Ig [43,45,42,47,92,126,60,62,61,64,37,38,63,44,33] c.val)=cA c.val:=by decide+kernel
 exact h2 ⟨c,h⟩
theorem Ml(l:List Nat)(c:Nat):(Ig l c=-1/\c∉l)∨∃p r:List Nat,l=p++c::r/\c∉p/\Ig l c=p.length:=by
 induction l with
 |nil=>exact .inl ⟨rfl,Zs⟩
 |cons b l ih=>
  by_cases h:b=c
  ·subst h;exact .inr ⟨[],l,rfl,Zs,by simp[Ig]⟩
  ·rcases ih with⟨h1,h2⟩|⟨p,r,h1,h2,h3⟩
   ·exact .inl ⟨by simp[Ig,h,h1],by simp[h2,Ne.symm h]⟩
   ·refine .inr ⟨b::p,r,by simp[h1],by simp[h2,Ne.symm h],?_⟩;have bZ:¬((p.length:Int)=-1):=by omega
    simp[Ig,h,h3,bZ]
theorem tI:∀{l:List Nat},58∉l->kq l=[l]:=by
 intro l
 induction l with
 |nil=>intro _;rfl
 |cons b l ih=>
  intro h;simp only[QH,not_or]at h;simp only[kq,if_neg (Ne.symm h.1),ih h.2]
theorem nk:∀{p r:List Nat},58∉p->kq (p++58::r)=(p++[58])::kq r:=by
 intro p r
 induction p with
 |nil=>intro _;simp[kq]
 |cons b p ih=>
  intro h;simp only[QH,not_or]at h;simp only[vr,kq,if_neg (Ne.symm h.1),ih h.2]
theorem Kc {l:List Nat}{p:Nat->Bool}{e:Nat}(h1:e<=l.length)(h2:∀k,k < e->p (l.getD k 0)=true)(h3:e < l.length->p (l.getD e 0)=false):l.all p=decide (e=l.length):=by
 by_cases h:e=l.length
 ·rw[Zt h,ve];intro x hx;obtain⟨i,hi,rfl⟩:=List.getElem_of_mem hx;have:=h2 i Zo
  rwa [Vh,Zg hi]at this
 ·rw[Zf h,List.all_eq_false];have aS:e < l.length:=by omega
  have:=h3 aS;rw[Vh,Zg aS]at this;exact⟨_,List.getElem_mem aS,by simpa using this⟩
theorem dH {s:ByteArray}(h:s≠⟨#[]⟩):∃(c:UInt8) (r:List Nat),s[0]? =some c/\kB s=c.toNat::r/\c.toNat < 256/\0 < s.size:=by
 have iv:0 < s.size:=by
  rcases Ql s.size with h2|h2
  ·exact absurd (ByteArray.ext (v6 h2)) h
  ·exact h2
 obtain⟨c,hc,oA⟩:=w7 iv;refine⟨c,(kB s).tail,hc,?_,c.toNat_lt,iv⟩;cases hb:kB s with
 |nil=>rw[hb]at oA;cases oA
 |cons a r=>rw[hb]at oA;cases oA;rfl
theorem jb(s:ByteArray)(a b:Nat):kB (s.extract a b)=((kB s).take b).drop a:=by
 simp only[kB,ByteArray.data_extract,Array.toList_extract,List.extract_eq_take_drop,List.map_take,List.map_drop,List.drop_take]
def ofN(l:List Nat):ByteArray:=⟨(l.map Nat.toUInt8).toArray⟩
theorem Iv {l:List Nat}(h:∀c∈l,c < 256):kB (ofN l)=l:=by
 simp only[kB,ofN,QD]
 conv=>rhs;rw[<- List.map_id l]
 refine QB fun c hc=>?_
 exact Nat.mod_eq_of_lt (h c hc)
theorem tH(l:List Nat):(kq l).flatten=l:=by
 induction l with
 |nil=>rfl
 |cons c r ih=>
  simp only[kq];split
  ·rename_i h;simp[ih,h]
  ·cases h:kq r with
   |nil=>rw[h]at ih;simp at ih;simp[<- ih]
   |cons p ps=>rw[h]at ih;simp at ih|-;exact ih
theorem MO(t:ByteArray):∃full:List ByteArray,full.map kB=kq (kB t):=by
 have h:∀p∈kq (kB t),∀c∈p,c < 256:=fun p hp c hc=>zg t c (by rw[<- tH (kB t)];exact List.mem_flatten.2 ⟨p,hp,hc⟩)
 generalize kq (kB t)=l at h;refine⟨l.map ofN,?_⟩;rw[QD]
 conv=>rhs;rw[<- List.map_id l]
 exact QB fun p hp=>Iv (h p hp)
theorem XS {on:List Nat->Bool}:∀{l:List Nat} {e:Nat},e<=l.length->(∀k,k < e->on (l.drop k)=true)->(e < l.length->on (l.drop e)=false)->Bo on l=e:=by
 intro l
 induction l with
 |nil=>intro e h _ _;simp at h;simp[Bo,h]
 |cons c r ih=>
  intro e h h2 h3;cases e with
  |zero=>
   have:=h3 Zs;simp only[vy]at this;simp[Bo,this]
  |succ e=>
   have h0:=h2 0 Zo;simp only[vy]at h0;have:=ih (e:=e) (by simpa using h) (fun k hk=>by simpa using h2 (k+1) Zo) (fun hk=>by simpa using h3 (by simpa using hk));simp[Bo,h0,this];omega
theorem tP {l:List Nat}{k:Nat}{c:Nat}(h:l[k]? =some c):fK (l.drop k)=(cA c&&(decide (c≠45)||!wM (l.getD (k+1) 0))):=by
 obtain⟨hk,rfl⟩:=Vt.1 h;rw[vw hk];simp only[fK]
 congr 2
 rw[Vh];by_cases h2:k+1 < l.length
 ·rw[vw h2];simp[h2]
 ·rw[vx Zo,Vp Zo];rfl
theorem SR {c:Nat}{r:List Nat}{e:Nat}(h0:c≠124)(hb:cA c=true)(h1:e<=(c::r).length)(h2:∀k,k < e->1<=k->fK ((c::r).drop k)=true)(h3:e < (c::r).length->1<=e/\fK ((c::r).drop e)=false):ew (c::r)=e∨(e=0):=by
 cases e with
 |zero=>exact .inr rfl
 |succ e=>
  left;simp only[ew,if_neg h0,hb,if_true];have:=XS (on:=fK) (l:=r) (e:=e) (by simpa using h1) (fun k hk=>by simpa using h2 (k+1) Zo Zo) (fun hk=>by simpa using(h3 (by simpa using hk)).2);omega
theorem oy(s t:ByteArray):kB (s++t)=kB s++kB t:=by
 simp[kB]
end Go.V
namespace Go.Proofs.YtijnokbblmbpkaaGreatDoor
open Go Go.V Go.Shelf
set_option maxHeartbeats 3200000
set_option maxRecDepth 100000
shelf_lay Lays.n217 Nm 217 at Tryz as Tryz.sl217
shelf_lay Lays.n219 Nm 219 at Tryz as Tryz.sl219
theorem P6(s:ByteArray)(c:Nat)(hc:c < 256):aw Tryz.prog 222 [.string s,cv c] [] (fun v Post=>v=vi (Ig (kB s) c)/\Post=[]):=by
 refine aw.G5 (by kernel_rfl) (fun w=>(Any.stringslite_IndexByte Tryz.sl217 s c w).mono ?_)
 rintro e w' ⟨rfl,rfl⟩
 refine⟨_,rfl,?_,rfl⟩;have hx:((c:Int).toNat.toUInt8).toNat=c:=by
  rw[vV];exact Nat.mod_eq_of_lt hc
 rw[Zk,hx];rfl
theorem P7(s:ByteArray):aw Tryz.prog 246 [.string s,.string ⟨#[58]⟩] [] (fun v Post=>v=vi (Ig (kB s) 58)/\Post=[]):=by
 refine aw.G5 (by kernel_rfl) (fun w=>(Any.stringslite_Index_one Tryz.sl219 s 58 w).mono ?_)
 rintro e w' ⟨rfl,rfl⟩
 exact⟨_,rfl,by rw[Zk];rfl,rfl⟩
theorem tA(c:Nat)(hc:c < 256):aw Tryz.prog 192 [cv c] [] (fun v Post=>v=.bool (A8 c)/\Post=[]):=by
 refine aw.intro low192 (by simp[n192]) ?_
 (repeat' (first|refine Uy ?_|refine rp Zr (fun _=>?_) (fun _=>?_)|refine ry Zr (fun _=>?_) (fun _=>?_)|refine VC.re Zr (fun _=>?_) (fun _=>?_)|refine VC.cond Zr (fun _=>?_) (fun _=>?_)))
 all_goals refine⟨.inr rfl,_,_,.tmp Zr .nil,ZI,?_,rfl⟩
 all_goals (simp only[bH,A8,Value.bool.injEq,decide_eq_true_eq,decide_eq_false_iff_not]at*)
 all_goals (rw[vJ];simp only[vR,vF,vN,decide_eq_true_eq,decide_eq_false_iff_not,true_iff,iff_true,reduceCtorEq,false_iff,iff_false];omega)
theorem oV(c:Nat)(hc:c < 256):aw Tryz.prog 197 [cv c] [] (fun v Post=>v=.bool (wM c)/\Post=[]):=by
 refine aw.intro low197 (by simp[n197]) ?_
 (repeat' (first|refine Uy ?_|refine rp Zr (fun _=>?_) (fun _=>?_)|refine ry Zr (fun _=>?_) (fun _=>?_)|refine VC.re Zr (fun _=>?_) (fun _=>?_)|refine VC.cond Zr (fun _=>?_) (fun _=>?_)))
 all_goals refine⟨.inr rfl,_,_,.tmp Zr .nil,ZI,?_,rfl⟩
 all_goals (simp only[bH,wM,Value.bool.injEq,decide_eq_true_eq,decide_eq_false_iff_not]at*)
 all_goals (rw[vJ];simp only[vR,vF,vN,decide_eq_true_eq,decide_eq_false_iff_not,true_iff,iff_true,reduceCtorEq,false_iff,iff_false];omega)
theorem Jf(c:Nat)(hc:c < 256):aw Tryz.prog 194 [cv c] [] (fun v Post=>v=.bool (om c)/\Post=[]):=by
 refine aw.intro low194 (by simp[n194]) ?_;refine ae ?_;refine kK (tA c hc) Zr ?_;cases hl:A8 c with
 |true=>
  exact zCB
 |false=>
  refine ae ?_;refine kK (oV c hc) Zr ?_;exact zCB
theorem s9(c:Nat)(hc:c < 256):aw Tryz.prog 162 [cv c] [] (fun v Post=>v=.bool (cA c)/\Post=[]):=by
 refine aw.intro low162 (by simp[n162]) ?_;have hb:=WS hc;have h:aw Tryz.prog 195 [.string ⟨#[43,45,42,47,92,126,60,62,61,64,37,38,63,44,33]⟩,cv c] [] (fun v Post=>v=vi (Ig [43,45,42,47,92,126,60,62,61,64,37,38,63,44,33] c)/\Post=[]):=by
  refine aw.intro low195 (by simp[n195]) ?_;refine ae ?_;refine kK (P6 _ c hc) Zr ?_;exact zCA
 generalize Ig [43,45,42,47,92,126,60,62,61,64,37,38,63,44,33] c=z at h hb;refine ae ?_;refine kK h Zr ?_;refine ae ?_;refine⟨.inr rfl,_,_,.tmp Zr .nil,ZI,?_,rfl⟩;simp only[bH,<- hb]
theorem MN(s:ByteArray)(hs:s.size<=140737488355328)(k:Nat):aw Tryz.prog 198 [.string s,vi k] [] (fun v Post=>v=cv ((kB s).getD k 0)/\Post=[]):=by
 refine aw.intro low198 (by simp[n198]) ?_;exact zB0
theorem Ai(s:ByteArray)(hs:s.size<=140737488355328)(a:Nat)(ha:a<=s.size)(fv:Value)(I:Nat->SH)(on:Nat->Bool)
 (h:∀k c,a<=k->(kB s)[k]? =some c->dE Tryz.prog fv [cv c] (I k) (fun v Post=>v=.bool (on k)/\Post=I (k+1))):
 aw Tryz.prog 193 [.string s,vi a,fv] (I a) (fun v Post=>∃e j:Nat,v=vi e/\a<=e/\e<=s.size/\(∀k,a<=k->k < e->on k=true)/\(e < s.size->on e=false)/\Post=I j):=by
 refine aw.intro low193 (by simp[n193]) ?_;refine ae ?_;refine VC.loop (α:=Nat) (bi:=fun k=>[(0,.string s),(1,vi k),(2,fv)]) (Hf:=fun k=>I k) (I:=fun k=>a<=k/\k<=s.size/\∀i,a<=i->i < k->on i=true) (μ:=fun k=>s.size - k) a ⟨Qn _,ha,fun i _ _=>by omega⟩ ZU (ao.refl _) ?_
 rintro k ⟨i1,i2,i3⟩
 refine ae ?_;by_cases hk:k < s.size
 ·rw[Zt Zo];obtain⟨c,hc,oA⟩:=w7 hk;refine ae ?_;refine wF Zr Zr (j:=k) rfl hc ?_;refine ae ?_;refine dX Zr (h k _ i1 oA) Zr (R:=[]) (by simp[V.eo]) ?_
  rintro v Post ⟨rfl,rfl⟩
  rw[vm];cases ho:on k with
  |true=>
   refine ae ?_;refine⟨k+1,⟨Zo,Zo,fun i g1 g2=>?_⟩,Zo,ZU,ao.refl _⟩;by_cases e:i=k
   ·subst e;exact ho
   ·exact i3 i g1 Zo
  |false=>
   refine ae ?_;exact kG (Post:=I (k+1)) (.inr rfl) (.tmp Zr .nil) ⟨k,k+1,rfl,i1,i2,i3,fun _=>ho,rfl⟩ (ao.refl _)
 ·rw[Zf Zo];refine ae ?_;exact kG (Post:=I k) (.inr rfl) (.tmp Zr .nil) ⟨k,k,rfl,i1,i2,i3,fun hh=>absurd hh hk,rfl⟩ (ao.refl _)
theorem nN(s:ByteArray)(hs:s.size<=140737488355328):aw Tryz.prog 161 [.string s] [] (fun v Post=>v=.bool (zn s)/\Post=[]):=by
 refine aw.intro low161 (by simp[n161]) ?_;have hlen:=kV s;unfold zn gp;refine ae ?_;by_cases h0:s=⟨#[]⟩
 ·subst h0;exact zCA
 obtain⟨c,r,hc,hr,tw,iv⟩:=dH h0;rw[Zf h0,vO];refine ae ?_;by_cases h40:s.size<=40;rotate_left
 ·exact zCY
 rw[Zt Zo];refine ae ?_;refine wF Zr Zr (j:=0) rfl hc ?_;refine ae ?_;refine kK (tA _ tw) Zr ?_;cases hl:A8 c.toNat with
 |false=>
  refine ae ?_;refine⟨.inr rfl,_,_,.tmp Zr .nil,ZI,?_,rfl⟩;simp[bH,hr,hl]
 |true=>
  refine ae ?_;refine kH (Ai s hs 0 Zo (.func (.func 194) #[] #[]) (fun _=>[]) (fun k=>om ((kB s).getD k 0)) (fun k x _ hx=>dE.ck ?_)) Zr ZP (fun v Post hv=>?_)
  ·rw[Vh,hx];exact Jf _ (zg s _ (Zv hx))
  obtain⟨e,j,rfl,e1,e2,e3,e4,rfl⟩:=hv;have au:=Kc (l:=kB s) (p:=om) (e:=e) Zo (fun k hk=>e3 k Zo hk) (fun hk=>e4 Zo);have h2:(c.toNat::r).length<=40:=by rw[<- hr];omega
  simp only[QS];refine ae ?_;refine⟨.inr rfl,_,_,.tmp Zr .nil,ZI,?_,rfl⟩;exact zBX
end Go.Proofs.YtijnokbblmbpkaaGreatDoor

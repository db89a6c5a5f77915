/-
  What the evaluator finds is so: code, functions.
-/
import Derived.Test.YtijnokbblmbpkaaGreatDoorS8
import Derived.Test.YtijnokbblmbpkaaGreatDoorS7
import Derived.Test.YtijnokbblmbpkaaGreatDoorS6
import Derived.KernelRfl
import Derived.Test.YtijnokbblmbpkaaGreatDoorProg
import Derived.Below
import Derived.Lib.Bytealg
import Derived.Shelf.Strings.Search2
import Derived.Shelf.Lay
set_option linter.all false
namespace Go.V
open Go
set_option maxHeartbeats 1600000
variable {A:List kC}
section
variable {P:Program} {N0 nx n:Nat} {σ:Sg} {Γ:Env} {h:Mp} {rs:List RO} {d:Option Nat} {Z:List PanicEntry->Env->SH->Prop} {K:Env->SH->Prop}
theorem Cf(g:ki N0 σ (Γ.map (·.2)) h nx){v:Value}(hv:bR nx v):ki N0 σ (v::Γ.map (·.2)) h nx:=g.with fun u hu=>by
 rcases QC.1 hu with rfl|hu
 ·exact hv
 ·exact g.bu u hu
theorem AQ(g:ki N0 σ (Γ.map (·.2)) h nx){d y:Nat}{x:Option Operand}{l:Nat}{dd:Option Nat}(hd:dd=some d)(e:M3 N0 Γ d x=some l)(hl:l<=y):wH y dd (x.map (DV (bS σ Γ)))=some l/\∀o∈nV x,known (bS σ Γ) o=true:=by
 cases x with
 |none=>simp only[M3,Qy]at e;subst e;exact⟨hd,fun o ho=>by cases ho⟩
 |some x=>
  simp only[M3]at e;split at e
  case h_2=>cases e
  rename_i k z hz;cases e;have h1:=(gS g hz).1;rw[cm]at h1;refine⟨?_,fun o ho=>?_⟩
  ·have h2:DV (bS σ Γ) x=.int k (Int.ofNat l):=by simp[DV,h1]
   have h3:(0:Int)<=Int.ofNat l/\Int.ofNat l<=(y:Int):=⟨Int.natCast_nonneg _,Int.ofNat_le.2 hl⟩;simp only[Qw,wH,h2,bound,if_pos h3];rfl
  ·simp only[nV,Option.toList_some,QK]at ho;subst ho;simp[known,h1]
theorem UX {size b o k c:Nat}{x:Operand}{lo hi:Option Operand}{v:Value}(g:ki N0 σ (Γ.map (·.2)) h nx)(hx:sN N0 Γ x=some (.slice (some ⟨b,o,none⟩) k c))(hc:Nat.blt c iZ=false)(hs:slcU N0 Γ h size lo hi b o k c=some v)
 (aM:bR nx v->VO P n rs (ap d (rn σ v) (bS σ Γ)) [kW A σ h] Z K):VO P n (⟨d,none,.qI size x lo hi none⟩::rs) (bS σ Γ) [kW A σ h] Z K:=by
 unfold slcU at hs;split at hs
 case h_2=>cases hs
 rename_i s vs hb;split at hs
 case h_2=>cases hs
 rename_i l m hl hm;split at hs
 case h_2=>cases hs
 rename_i fO;simp only[vF]at fO;obtain⟨c1,c2,c3,c4,c5,c6,c7⟩:=fO;cases hs;have e1:=yI c1;have e2:=Cy c2;have e3:=yI c3;have e4:=iu c4;have e5:=iu c5;have e6:=iu c6;have hcB:¬c < iZ:=fun hh=>by have:Nat.blt c iZ=true:=Nat.ble_eq_true_of_le hh;rw[hc]at this;cases this
 have hg:=g.grow _ (ze hb);simp only[MN]at hg;have EV:(c - iZ+k)*size<=σ.cap b*size:=by rw[e1]at hg;omega
 have hcap2:c - iZ+k<=σ.cap b:=Nat.le_of_mul_le_mul_right EV e2;have hid:=g.ids _ (ze hb);have oh:=(gS g hx).1;have hxe:DV (bS σ Γ) x=.slice (some ⟨σ.qZ b,σ.off b+o,none⟩) k (σ.cap b - (c - iZ)):=by
  simp only[DV,oh,Qs,bp,qw,Gi,if_neg hcB]
 have CW:=AQ (y:=m) (dd:=some 0) g rfl hl e5;have hhi:=AQ (y:=σ.cap b - (c - iZ)) (dd:=some k) g rfl hm Zo;refine nI rfl ?_ (v:=rn σ (.slice (some ⟨b,o+l*size,none⟩) (m - l) (c+l))) ?_ (aM (bR.slc hid))
 ·rw[vZ];intro y hy;simp only[iN,QC,QA]at hy;rcases hy with rfl|(hy|hy)|hy
  ·simp[known,oh]
  ·exact CW.2 y hy
  ·exact hhi.2 y hy
  ·cases hy
 ·have hbd:za k (σ.cap b - (c - iZ)) (lo.map (DV (bS σ Γ))) (hi.map (DV (bS σ Γ))) none=some (l,m,σ.cap b - (c - iZ)):=by
   have b0:wH (σ.cap b - (c - iZ)) (some (σ.cap b - (c - iZ))) none=some (σ.cap b - (c - iZ)):=rfl;unfold za;rw[b0,Option.bind_some];simp only[Option.isSome_none,vK,if_false];rw[hhi.1,Option.bind_some,CW.1];rfl
  simp only[kT,hxe,Qv,hbd,Qw,bp,qw,Gi,if_neg (show ¬c+l < iZ by omega)];have ob:c+l - iZ=c - iZ+l:=by omega
  have haddr:(if σ.cap b - (c - iZ)=l then σ.off b+o else σ.off b+o+l*size)=σ.off b+(o+l*size):=by
   split
   ·rename_i hh;rcases vQ.1 c7 with q|q
    ·have:=Cy q;omega
    ·have:=yI q;subst this;simp
   ·omega
  rw[haddr,ob,Nat.sub_sub]
theorem Pg {F:CF}(hF:ov A P N0 F){r:R}{bH:PR}(he:yG N0 F r Γ h nx=some bH)(g:ki N0 σ (Γ.map (·.2)) h nx)
 (aM:∀v h' aV aF,bH=.val v h' aV->Ag nx σ aF->nx<=aV->ki N0 aF (v::Γ.map (·.2)) h' aV->VO P n rs (ap d (rn aF v) (bS aF Γ)) [kW A aF h'] Z K)
 (pJ:∀ch h' aV aF,bH=.uk ch h' aV->Ag nx σ aF->nx<=aV->ki N0 aF (ch.map (·.v)) h' aV->Z (Gj aF ch) (bS σ Γ) [kW A aF h']):
 VO P n (⟨d,none,r⟩::rs) (bS σ Γ) [kW A σ h] Z K:=by
 have same:∀v,bH=.val v h nx->bR nx v->VO P n rs (ap d (rn σ v) (bS σ Γ)) [kW A σ h] Z K:=fun v e hs=>aM v h nx σ e (.refl _ _) (Qh _) (Cf g hs)
 have pur:kd r=true->By N0 r Γ h nx=some bH->VO P n (⟨d,none,r⟩::rs) (bS σ Γ) [kW A σ h] Z K:=fun hp he=>by
  unfold By at he;split at he
  case h_2=>cases he
  rename_i hb;simp only[vF]at hb;split at he
  case h_2=>cases he
  rename_i v hv;cases he;exact UW g hp hb.2.1 hb.2.2.1 hb.2.2.2 hv (same v rfl)
 cases r
 case pS x=>
  simp only[yG]at he;split at he
  case h_2=>cases he
  rename_i b o hx;split at he
  case h_2=>cases he
  rename_i v hr;cases he;exact Pe g hx hr (same v rfl)
 case lx m x=>
  simp only[yG]at he;split at he
  case h_2=>cases he
  rename_i b o hx;split at he
  case h_2=>cases he
  rename_i us hr;cases he;exact Pf g hx hr (same _ rfl)
 case alloc t z=>
  simp only[yG]at he;split at he
  case h_2=>cases he
  rename_i hz;cases he;exact Pd g hz fun aF a g'=>aM _ _ _ aF rfl a (Qi _) g'
 case box t x=>
  simp only[yG]at he;split at he
  case h_2=>cases he
  rename_i v hx;cases he;exact op_box g hx fun aF a g'=>aM _ _ _ aF rfl a (Qi _) g'
 case lN t len z ps=>
  simp only[yG]at he;split at he
  case h_2=>cases he
  rename_i hb;simp only[vF]at hb;split at he
  case h_2=>cases he
  rename_i out ho;cases he;exact LC g hb.1 hb.2.1 ho (Cy hb.2.2) fun aF a g'=>aM _ _ _ aF rfl a (Qi _) g'
 case store m x y=>
  simp only[yG]at he;split at he
  case h_2=>cases he
  rename_i b o u hx hy;split at he
  case h_2=>cases he
  rename_i hm;split at he
  case h_2=>cases he
  rename_i h' hw;cases he;exact Pj g hx hy (yI hm) hw fun g'=>aM _ _ _ σ rfl (.refl _ _) (Qh _) g'
 case append t size bytes zero s x=>
  simp only[yG]at he;split at he
  case h_2=>cases he
  rename_i sv xv hs hx;split at he
  case h_2=>cases he
  rename_i xs h' ht;split at he
  case h_2=>cases he
  rename_i m ys hy;split at he
  case h_2=>cases he
  rename_i hb;simp only[vF,vM]at hb;cases he;exact LB g hs hx ht hy hb.1 (yI hb.2.1) (Yu hb.2.2.1) (iu hb.2.2.2.1) (iu hb.2.2.2.2.1) (Cy hb.2.2.2.2.2.1) (Yu hb.2.2.2.2.2.2) fun aF a g'=>aM _ _ _ aF rfl a (Qi _) g'
 case call f xs=>
  simp only[yG]at he;split at he
  case h_2=>cases he
  rename_i args ha;exact UU hF g ha he aM pJ
 case qI size x lo hi mx=>
  simp only[yG]at he;split at he
  ·rename_i b o k c hx;split at he
   ·exact pur rfl he
   ·rename_i hc;split at he
    case h_2=>cases he
    rename_i v hs;cases he;exact UX g hx hc hs (same v rfl)
  ·exact pur rfl he
 all_goals first
  |exact pur rfl he
  |(simp only[yG,By,kd,vJ]at he;cases he;done)
theorem si {F:CF}(hF:ov A P N0 F):∀{rs:List RO} {Γ:Env} {h:Mp} {nx:Nat} {σ:Sg} {bH:OR},wo N0 F rs Γ h nx=some bH->ki N0 σ (Γ.map (·.2)) h nx->
 (∀ay h' aV aF,bH=.ok ay h' aV->Ag nx σ aF->nx<=aV->ki N0 aF (ay.map (·.2)) h' aV->K (bS aF ay) [kW A aF h'])->
 (∀ay ch h' aV aF,bH=.uk ch ay h' aV->Ag nx σ aF->nx<=aV->ki N0 aF (ch.map (·.v)++ay.map (·.2)) h' aV->Z (Gj aF ch) (bS aF ay) [kW A aF h'])->VO P n rs (bS σ Γ) [kW A σ h] Z K:=by
 intro rs
 induction rs with
 |nil=>
  intro Γ h nx σ bH he g aM pJ;simp only[wo,Qy]at he;exact VO.nil (aM Γ h nx σ he.symm (.refl _ _) (Qh _) g)
 |cons x rs ih=>
  intro Γ h nx σ bH he g aM pJ;obtain⟨d,gd,r⟩:=x;have go:∀{bH:OR},(match yG N0 F r Γ h nx with
   |none=>none
   |some (.uk ch h' aV)=>some (.uk ch Γ h' aV)
   |some (.val v h' aV)=>wo N0 F rs (ap d v Γ) h' aV)=some bH->
   (∀ay h' aV aF,bH=.ok ay h' aV->Ag nx σ aF->nx<=aV->ki N0 aF (ay.map (·.2)) h' aV->K (bS aF ay) [kW A aF h'])->
   (∀ay ch h' aV aF,bH=.uk ch ay h' aV->Ag nx σ aF->nx<=aV->ki N0 aF (ch.map (·.v)++ay.map (·.2)) h' aV->Z (Gj aF ch) (bS aF ay) [kW A aF h'])->VO P n (⟨d,none,r⟩::rs) (bS σ Γ) [kW A σ h] Z K:=by
   intro bH he aM pJ;cases hr:yG N0 F r Γ h nx with
   |none=>rw[hr]at he;cases he
   |some pr=>
    rw[hr]at he;refine Pg hF hr g ?_ ?_
    ·rintro v h' aV aF rfl a le g'
     simp only at he;rw[<- J2];refine ih he ⟨g'.fix,g'.le,g'.ids,g'.grow,g'.cells,Gb g'.bu⟩ ?_ ?_
     ·intro cY h2 O4 MH e a2 le2 g2;exact aM cY h2 O4 MH e (a.trans a2 le) (Qj le le2) g2
     ·intro cY ch h2 O4 MH e a2 le2 g2;exact pJ cY ch h2 O4 MH e (a.trans a2 le) (Qj le le2) g2
    ·rintro ch h' aV aF rfl a le g'
     simp only[Qy]at he;rw[ss a g.bu];exact pJ Γ ch h' aV aF he.symm a le (g'.with fun u hu=>by
      rcases QA.1 hu with hu|hu
      ·exact g'.bu u hu
      ·exact(g.bu u hu).mono le)
  have skip:∀{bH:OR},wo N0 F rs (ap d undef Γ) h nx=some bH->
   (∀ay h' aV aF,bH=.ok ay h' aV->Ag nx σ aF->nx<=aV->ki N0 aF (ay.map (·.2)) h' aV->K (bS aF ay) [kW A aF h'])->
   (∀ay ch h' aV aF,bH=.uk ch ay h' aV->Ag nx σ aF->nx<=aV->ki N0 aF (ch.map (·.v)++ay.map (·.2)) h' aV->Z (Gj aF ch) (bS aF ay) [kW A aF h'])->VO P n rs (ap d undef (bS σ Γ)) [kW A σ h] Z K:=by
   intro bH he aM pJ;have hu:rn σ undef=undef:=dJ rfl;have:=ih (σ:=σ) he (g.with (Gb (Cf g (bR.plain rfl)).bu)) aM pJ;rw[J2,hu]at this;exact this
  cases gd with
  |none=>
   simp only[wo,HN]at he;exact go he aM pJ
  |some sb=>
   obtain⟨s,b⟩:=sb;simp only[wo,HN]at he;cases hl:look Γ s with
   |none=>rw[hl]at he;cases he
   |some u=>
    rw[hl]at he;cases u <;> try (cases he;done)
    case tuple vs=>
     simp only at he;cases hv:vs.toList with
     |cons x l=>rw[hv]at he;cases he
     |nil=>
      rw[hv]at he;have e:vs=#[]:=vC.1 (by rw[hv]);subst e;exact Gs (by rw[iH,hl];simp[undef]) (skip he aM pJ)
    rename_i c;have fE:look (bS σ Γ) s=some (.bool c):=by rw[iH,hl];simp
    simp only at he;cases HR:(c==b)with
    |true=>
     rw[HR]at he;have e:c=b:=by simpa using HR
     subst e;exact qP fE (go he aM pJ)
    |false=>
     rw[HR]at he;exact Ck fE HR (skip he aM pJ)
end
def rnX(σ:Sg):Ex->Exit
 |.normal=>.normal
 |.exit i=>.exit i
 |.ret=>.ret
 |.uk ch=>.panic (Gj σ ch)
def yF:Ex->List Value
 |.uk ch=>ch.map (·.v)
 |_=>[]
section
variable {P:Program} {N0 n L:Nat}
def Hj(A:List kC)(P:Program)(N0 n:Nat)(c:IC)(f:Env->Mp->Nat->IR):Prop:=∀Γ h nx e ay h' aV,f Γ h nx=some (e,ay,h',aV)->∀σ,ki N0 σ (Γ.map (·.2)) h nx->∀Q:Exit->Env->SH->Prop,
 (∀aF,Ag nx σ aF->nx<=aV->ki N0 aF (yF e++ay.map (·.2)) h' aV->Q (rnX aF e) (bS aF ay) [kW A aF h'])->VC P n c (bS σ Γ) [kW A σ h] Q
theorem Ip {c:IC}{f:Env->Mp->Nat->IR}(hc:Hj A P N0 n c f):∀k,Hj A P N0 n (.loop c) (Fk f k):=by
 intro k Γ h nx e ay h' aV he σ g Q hq;refine VC.loop (α:=Nat×Env×Mp×Nat×Sg) (bn:=fun s=>bS s.2.2.2.2 s.2.1) (Hf:=fun s=>[kW A s.2.2.2.2 s.2.2.1])
  (I:=fun s=>Fk f s.1 s.2.1 s.2.2.1 s.2.2.2.1=some (e,ay,h',aV)/\Ag nx σ s.2.2.2.2/\nx<=s.2.2.2.1/\ki N0 s.2.2.2.2 (s.2.1.map (·.2)) s.2.2.1 s.2.2.2.1) (μ:=fun s=>s.1) (k,Γ,h,nx,σ)
  ⟨he,.refl _ _,Qh _,g⟩ Sub.refl (ao.refl _) ?_
 rintro⟨j,X5,h1,nx1,σ1⟩ ⟨e1,a1,Um,g1⟩
 simp only at e1 a1 Um g1|-;cases j with
 |zero=>cases e1
 |succ j=>
  simp only[Fk]at e1;cases hb:f X5 h1 nx1 with
  |none=>rw[hb]at e1;cases e1
  |some r=>
   obtain⟨x,cY,h2,O4⟩:=r;rw[hb]at e1;refine hc _ _ _ _ _ _ _ hb σ1 g1 _ fun aF a le g'=>?_
   cases x with
   |normal=>
    simp only at e1;exact⟨(j,cY,h2,O4,aF),⟨e1,a1.trans a Um,Qj Um le,by simpa[yF]using g'⟩,Ql _,Sub.refl,ao.refl _⟩
   |exit i=>cases e1;exact hq aF (a1.trans a Um) (Qj Um le) g'
   |ret=>cases e1;exact hq aF (a1.trans a Um) (Qj Um le) g'
   |uk ch=>cases e1;exact hq aF (a1.trans a Um) (Qj Um le) g'
theorem gP {e:Value->Value->Bool}(he:∀a b,e a b=true->a=b):∀{l m:List Value},Nl e l m=true->l=m:=by
 intro l
 induction l with
 |nil=>intro m h;cases m with
  |nil=>rfl
  |cons=>simp[Nl]at h
 |cons a l ih=>intro m h;cases m with
  |nil=>simp[Nl]at h
  |cons b m=>
   simp only[Nl,vF]at h;rw[he _ _ h.1,ih h.2]
theorem gQ:∀(k:Nat) {a b:Value},KG k a b=true->a=b:=by
 intro k
 induction k with
 |zero=>intro a b h;simp[KG]at h
 |succ k ih=>
  intro a b h;unfold KG at h;split at h <;> (try simp only[vF,beq_iff_eq,decide_eq_true_eq]at h)
  all_goals first
   |rfl
   |(cases h;done)
   |(obtain⟨h1,h2⟩:=h;subst h1;subst h2;rfl)
   |(subst h;rfl)
   |(obtain⟨h1,h2⟩:=h;rw[yI h1,yI h2])
   |(obtain⟨h1,h2,h3⟩:=h;rw[h1,yI h2,yI h3])
   |(rw[yI h])
   |(obtain⟨h1,h2⟩:=h;rw[h1,ih h2])
   |(rw[vC.1 (gP (fun _ _=>ih) h)])
   |(obtain⟨h1,h2,h3⟩:=h;rw[h1,vC.1 (gP (fun _ _=>ih) h2),vC.1 (gP (fun _ _=>ih) h3)])
theorem KD:∀{Γ Δ:Env},eqE Γ Δ=true->Γ=Δ:=by
 intro Γ
 induction Γ with
 |nil=>intro Δ h;cases Δ with
  |nil=>rfl
  |cons=>simp[eqE]at h
 |cons p Γ ih=>
  intro Δ h;obtain⟨s,x⟩:=p;cases Δ with
  |nil=>simp[eqE]at h
  |cons q Δ=>
   obtain⟨t,y⟩:=q;simp only[eqE,vF]at h;rw[yI h.1,gQ 20 h.2.1,ih h.2.2]
theorem KF:∀{l m:List MapEntry},eqM l m=true->l=m:=by
 intro l
 induction l with
 |nil=>intro m h;cases m with
  |nil=>rfl
  |cons=>simp[eqM]at h
 |cons a l ih=>intro m h;cases m with
  |nil=>simp[eqM]at h
  |cons b m=>
   simp only[eqM,vF]at h;obtain⟨⟨h1,h2⟩,h3,h4⟩:=h;cases a;cases b;simp only at h1 h2 h3;rw[gQ 20 h1,gQ 20 h2,yI h3,ih h4]
theorem KC {a b:tV}(h:eqB a b=true):a=b:=by
 unfold eqB at h;split at h <;> (try simp only[vF,decide_eq_true_eq]at h)
 ·rw[gP (fun _ _=>gQ 20) h]
 ·rw[yI h.1,gP (fun _ _=>gQ 20) h.2]
 ·rw[yI h.2,vC.1 (KF h.1)]
 ·rw[h.1,yI h.2]
 ·cases h
theorem KE:∀{Γ Δ:Mp},eqH Γ Δ=true->Γ=Δ:=by
 intro Γ
 induction Γ with
 |nil=>intro Δ h;cases Δ with
  |nil=>rfl
  |cons=>simp[eqH]at h
 |cons p Γ ih=>
  intro Δ h;obtain⟨s,x⟩:=p;cases Δ with
  |nil=>simp[eqH]at h
  |cons q Δ=>
   obtain⟨t,y⟩:=q;simp only[eqH,vF]at h;rw[yI h.1,KC h.2.1,ih h.2.2]
theorem Ky {F:CF}{aU:List Nat}{Γ Δ:Env}{h h1:Mp}{nx n1:Nat}:∀{r:List (List RO)},Jt N0 F aU Γ h nx Δ h1 n1 r=true->∀rs∈r,∃cY,wo N0 F rs Γ h nx=some (.ok cY h1 n1)/\aT aU cY=Δ:=by
 intro r
 induction r with
 |nil=>intro _ rs h;cases h
 |cons x r ih=>
  intro he rs dw;simp only[Jt]at he;split at he
  case h_2=>cases he
  rename_i ay h' aV ho;split at he
  case h_2=>cases he
  rename_i hE;simp only[vF]at hE;rcases QC.1 dw with rfl|dw
  ·exact⟨ay,by rw[ho,yI hE.2.1,KE hE.2.2],KD hE.1⟩
  ·exact ih he rs dw
theorem Oc {F:CF}(hF:ov A P N0 F)(L:Nat):∀c:IC,Hj A P N0 n c (w7 N0 F L c):=by
 intro c
 induction c with
 |skip=>
  intro Γ h nx e ay h' aV he σ g Q hq;simp only[w7,Qy,Qz]at he;obtain⟨rfl,rfl,rfl,rfl⟩:=he;exact VC.skip (hq σ (.refl _ _) (Qh _) (by simpa[yF]using g))
 |ly rs aU=>
  intro Γ h nx e ay h' aV he σ g Q hq;simp only[w7]at he;cases ho:wo N0 F rs Γ h nx with
  |none=>rw[ho]at he;cases he
  |some r=>
   rw[ho]at he;refine VC.ly (si hF ho g ?_ ?_)
   ·rintro cY h2 O4 MH rfl a le g2
    simp only[Qy,Qz]at he;obtain⟨rfl,rfl,rfl,rfl⟩:=he;have:=hq MH a le (by simpa[yF]using g2.with (oZ g2.bu));rw[sw]at this;exact this
   ·rintro cY ch h2 O4 MH rfl a le g2
    simp only[Qy,Qz]at he;obtain⟨rfl,rfl,rfl,rfl⟩:=he;exact hq MH a le (by simpa[yF]using g2)
 |draw rj aU=>
  intro Γ h nx e ay h' aV he σ g Q hq;simp only[w7]at he;split at he
  case h_1=>cases he
  rename_i rs r;cases ho:wo N0 F rs Γ h nx with
  |none=>rw[ho]at he;cases he
  |some bH=>
   rw[ho]at he;cases bH with
   |uk ch X5 h1 n1=>
    cases he
   |ok X5 h1 n1=>
    simp only at he;have first:∀Q2:Env->SH->Prop,(∀aF,Ag nx σ aF->nx<=n1->ki N0 aF (X5.map (·.2)) h1 n1->Q2 (aT aU (bS aF X5)) [kW A aF h1])->VO P n rs (bS σ Γ) [kW A σ h] (fun _ _ _=>False) fun ay H'=>Q2 (aT aU ay) H':=fun Q2 im=>by
     refine si hF ho g ?_ ?_
     ·rintro cY h2 O4 MH e2 a le g2
      cases e2;exact im MH a le g2
     ·rintro cY ch h2 O4 MH e2
      cases e2
    cases r with
    |nil=>
     simp only[Qy,Qz]at he;obtain⟨rfl,rfl,rfl,rfl⟩:=he;exact VC.AU (first (fun Γ H=>Q .normal Γ H) fun aF a le g2=>by have:=hq aF a le (by simpa[yF]using g2.with (oZ g2.bu));rw[sw]at this;exact this)
    |cons r0 r1=>
     simp only at he;split at he
     case h_2=>cases he
     rename_i hb;simp only[Qy,Qz]at he;obtain⟨rfl,rfl,rfl,rfl⟩:=he;refine VC.draw fun rs2 ZO=>?_
     have go:∀cY,wo N0 F rs2 Γ h nx=some (.ok cY h1 n1)->aT aU cY=aT aU X5->VO P n rs2 (bS σ Γ) [kW A σ h] (fun _ _ _=>False) fun ay H'=>Q .normal (aT aU ay) H':=fun cY ZF e2=>by
      refine si hF ZF g ?_ ?_
      ·rintro Γ3 h3 nx3 σ3 e3 a le g3
       cases e3;have:=hq σ3 a le (by rw[<- e2];simpa[yF]using g3.with (oZ g3.bu));rw[<- e2,sw]at this;exact this
      ·rintro Γ3 ch h3 nx3 σ3 e3
       cases e3
     rcases QC.1 ZO with rfl|ZO
     ·exact go X5 ho rfl
     ·obtain⟨cY,o1,o2⟩:=Ky hb _ ZO;exact go cY o1 o2
 |seq x y ihx ihy=>
  intro Γ h nx e ay h' aV he σ g Q hq;simp only[w7]at he;cases hb:w7 N0 F L x Γ h nx with
  |none=>rw[hb]at he;cases he
  |some r=>
   obtain⟨e2,cY,h2,O4⟩:=r;rw[hb]at he;refine VC.seq (ihx _ _ _ _ _ _ _ hb σ g _ fun aF a le g'=>?_);cases e2 with
   |normal=>
    exact ihy _ _ _ _ _ _ _ he aF (by simpa[yF]using g') Q fun MH a2 le2 g2=>hq MH (a.trans a2 le) (Qj le le2) g2
   |exit i=>cases he;exact hq aF a le g'
   |ret=>cases he;exact hq aF a le g'
   |uk ch=>cases he;exact hq aF a le g'
 |cond c x y ihx ihy=>
  intro Γ h nx e ay h' aV he σ g Q hq;simp only[w7]at he;split at he
  ·rename_i hc;have KU:=(gS g hc).1;rw[qA]at KU;exact VC.rG KU (ihx _ _ _ _ _ _ _ he σ g Q hq)
  ·rename_i hc;have KU:=(gS g hc).1;rw[qA]at KU;exact VC.rF KU (ihy _ _ _ _ _ _ _ he σ g Q hq)
  ·cases he
 |block id x ih=>
  intro Γ h nx e ay h' aV he σ g Q hq;simp only[w7]at he;cases hb:w7 N0 F L x Γ h nx with
  |none=>rw[hb]at he;cases he
  |some r=>
   obtain⟨e2,cY,h2,O4⟩:=r;rw[hb]at he;refine VC.block (ih _ _ _ _ _ _ _ hb σ g _ fun aF a le g'=>?_);cases e2 with
   |normal=>cases he;exact hq aF a le g'
   |exit i=>
    simp only at he;cases hi:Nat.beq i id with
    |true=>
     rw[hi]at he;cases he;show bx id Q (.exit i) _ _;simp only[bx,yI hi,if_true];exact hq aF a le (by simpa[yF]using g')
    |false=>
     rw[hi]at he;cases he;show bx id Q (.exit i) _ _;simp only[bx,if_neg (Yu hi)];exact hq aF a le g'
   |ret=>cases he;exact hq aF a le g'
   |uk ch=>cases he;exact hq aF a le g'
 |loop x ih=>exact Ip ih L
 |exit id=>
  intro Γ h nx e ay h' aV he σ g Q hq;simp only[w7,Qy,Qz]at he;obtain⟨rfl,rfl,rfl,rfl⟩:=he;exact VC.exit (hq σ (.refl _ _) (Qh _) (by simpa[yF]using g))
 |ret=>
  intro Γ h nx e ay h' aV he σ g Q hq;simp only[w7,Qy,Qz]at he;obtain⟨rfl,rfl,rfl,rfl⟩:=he;exact VC.ret (hq σ (.refl _ _) (Qh _) (by simpa[yF]using g))
 |scope x ih=>
  intro Γ h nx e ay h' aV he σ g Q hq;simp only[w7]at he;refine VC.scope (ih _ _ _ _ _ _ _ he σ g _ fun aF a le g'=>⟨fun l=>?_,hq aF a le g'⟩);cases e <;> simp[rnX]
 |label l=>
  intro Γ h nx e ay h' aV he σ g Q hq;simp only[w7,Qy,Qz]at he;obtain⟨rfl,rfl,rfl,rfl⟩:=he;exact VC.label (hq σ (.refl _ _) (Qh _) (by simpa[yF]using g))
 |gE g ps x y ihx ihy=>intro Γ h nx e ay h' aV he;simp only[w7]at he;cases he
 |free rs an aU=>intro Γ h nx e ay h' aV he;simp only[w7]at he;cases he
theorem LV {nx:Nat}{σ:Sg}{Γ:Env}{h:Mp}{bu:List Value}(g:ki N0 σ bu h nx)(hv:∀v∈Γ.map (·.2),bR nx v):∀{r:List RV} {vs:List Value},yk Γ h r=some vs->Mn (bS σ Γ) [kW A σ h] r (vs.map (rn σ))/\∀v∈vs,bR nx v:=by
 intro r
 induction r with
 |nil=>intro vs e;simp only[yk,Qy]at e;subst e;exact⟨.nil,fun v hv=>by cases hv⟩
 |cons x r ih=>
  intro vs e;cases x with
  |tmp t=>
   simp only[yk]at e;split at e
   case h_2=>cases e
   rename_i v l hl hr;cases e;obtain⟨i1,i2⟩:=ih hr;refine⟨.tmp (by rw[iH,hl];rfl) i1,fun u hu=>?_⟩;rcases QC.1 hu with rfl|hu
   ·exact hv _ (xQ hl)
   ·exact i2 u hu
  |bT t=>
   simp only[yk]at e;split at e
   case h_2=>cases e
   rename_i b o hl;split at e
   case h_2=>cases e
   rename_i v l hr dS;cases e;obtain⟨i1,i2⟩:=ih dS;refine⟨.bT (b:=σ.qZ b) (o:=σ.off b+o) (by rw[iH,hl];simp[qw]) ?_ i1,fun u hu=>?_⟩
   ·simp only[V9,VV,vg];exact eG hr _ Ji
   ·rcases QC.1 hu with rfl|hu
    ·exact mr g hr _ Zs
    ·exact i2 u hu
  |aJ t m=>
   simp only[yk]at e;split at e
   case h_2=>cases e
   rename_i b o hl;split at e
   case h_2=>cases e
   rename_i us l hr dS;cases e;obtain⟨i1,i2⟩:=ih dS;refine⟨?_,fun u hu=>?_⟩
   ·have he:rn σ (.agg us.toArray)=.agg (us.map (rn σ)).toArray:=by simp
    rw[Q7,he];refine .aJ (b:=σ.qZ b) (o:=σ.off b+o) (by rw[iH,hl];simp[qw]) (by rw[Vz];exact nC hr) ?_ i1;simp only[V9,VV,vg];exact eG hr
   ·rcases QC.1 hu with rfl|hu
    ·exact bR.agg (mr g hr)
    ·exact i2 u hu
def FeOk(P:Program)(f:Nat):FE->Prop
 |.fir F=>∃kp od,nU P kp od f=some F
def sI(P:Program)(Cm:List (Nat×FE)):Prop:=∀p∈Cm,FeOk P p.1 p.2
theorem sI.nil:sI P []:=fun p hp=>by cases hp
theorem sI.cons {f:Nat}{R:aQ}{kp:Nat->List Nat}{od:Nat->List (List Nat)}{Cm:List (Nat×FE)}(h:nU P kp od f=some R)(t:sI P Cm):sI P ((f,.fir R)::Cm):=fun p hp=>by
 rcases QC.1 hp with rfl|hp
 ·exact⟨kp,od,h⟩
 ·exact t p hp
theorem WW {Cm:List (Nat×FE)}{f:Nat}{R:FE}(e:RN Cm f=some R):(f,R)∈Cm:=by
 induction Cm with
 |nil=>cases e
 |cons p Cm ih=>
  obtain⟨i,b⟩:=p;simp only[RN]at e;split at e
  ·rename_i hb;cases e;rw[yI hb];simp
  ·simp[ih e]
theorem Km:∀{vs:List Value} {k:Nat},(aI k vs).map (·.2)=vs:=by
 intro vs
 induction vs with
 |nil=>intro k;rfl
 |cons v vs ih=>intro k;simp only[aI,Q7,ih]
theorem SW(σ:Sg):∀{vs:List Value} {k:Nat},bS σ (aI k vs)=aI k (vs.map (rn σ)):=by
 intro vs
 induction vs with
 |nil=>intro k;rfl
 |cons v vs ih=>intro k;simp only[aI,Q7,<- ih];rfl
theorem S8 {Cm:List (Nat×FE)}{SG:CF}(ht:sI P Cm)(ho:ov A P N0 SG)(L:Nat):∀k,ov A P N0 (xg N0 Cm SG L k):=by
 intro k
 induction k with
 |zero=>intro f args h nx bH he;simp only[xg]at he;cases he
 |succ k ih=>
  intro f args h nx bH he σ g;simp only[xg]at he;cases ZH:SG f args h nx with
  |some v=>
   rw[ZH]at he;cases he;exact ho f args h nx _ ZH σ g
  |none=>
   rw[ZH]at he;simp only at he;cases hta:RN Cm f with
   |none=>rw[hta]at he;cases he
   |some E=>
    have HT:=ht _ (WW hta);rw[hta]at he;cases E with
    |fir R=>
     simp only at he;split at he
     case h_1=>cases he
     rename_i hn;obtain⟨kp,od,hl⟩:=HT;refine jf.intro hl (by rw[Vz];exact iu hn) ?_;rw[<- SW];cases hb:w7 N0 (xg N0 Cm SG L k) L R.body (aI 0 args) h nx with
     |none=>rw[hb]at he;cases he
     |some r=>
      obtain⟨e,ay,h',aV⟩:=r;rw[hb]at he;refine Oc ih L R.body _ _ _ _ _ _ _ hb σ (g.with (by rw[Km];exact g.bu)) _ fun aF a le g'=>?_
      have fin:∀x:Exit,(x=.normal∨x=.ret)->(match yk ay h' R.bH with|some vs=>some (PR.val (bJ vs) h' aV)|none=>none)=some bH->ki N0 aF (ay.map (·.2)) h' aV->
       S7 R.bH (fun v Post=>∃v0 h' aV aF,bH=.val v0 h' aV/\Ag nx σ aF/\nx<=aV/\ki N0 aF [v0] h' aV/\v=rn aF v0/\Post=[kW A aF h'])
        (fun ch Post=>∃Xh h' aV aF,bH=.uk Xh h' aV/\Ag nx σ aF/\nx<=aV/\ki N0 aF (Xh.map (·.v)) h' aV/\ch=Gj aF Xh/\Post=[kW A aF h']) x (bS aF ay) [kW A aF h']:=by
       intro x hx he g2;split at he
       case h_2=>cases he
       rename_i vs lJ;cases he;obtain⟨r1,r2⟩:=LV g2 g2.bu lJ;refine jM ⟨hx,_,_,r1,ao.refl _,V.bJ vs,h',aV,aF,rfl,a,le,g2.with (fun w hw=>by rw[QK.1 hw];exact bR.bJ r2),(rn_tup aF vs).symm,rfl⟩
      cases e with
      |normal=>exact fin .normal (.inl rfl) he (by simpa[yF]using g')
      |ret=>exact fin .ret (.inr rfl) he (by simpa[yF]using g')
      |exit i=>cases he
      |uk ch=>
       cases he;exact⟨_,ao.refl _,ch,h',aV,aF,rfl,a,le,g'.with (fun u hu=>g'.bu u (Zw _ hu)),rfl,rfl⟩
end
def qm(d a:Nat):RO:=⟨some d,none,.mv (.tmp a)⟩
def qk(d:Nat)(v:Int):RO:=⟨some d,none,.mv (.const (.int .i64 v))⟩
def qz(d:Nat)(b:Bool):RO:=⟨some d,none,.mv (.const (.bool b))⟩
def qo(d:Nat)(r:R):RO:=⟨some d,none,r⟩
def ql(d a:Nat):RO:=⟨some d,none,.pS (.tmp a)⟩
def qf(d o a:Nat):RO:=⟨some d,none,.YT o (.tmp a)⟩
def qi(d s a b:Nat):RO:=⟨some d,none,.H8 s (.tmp a) (.tmp b)⟩
def qb(d:Nat)(o:BinOp)(a b:Nat):RO:=⟨some d,none,.bin o (.tmp a) (.tmp b)⟩
def qc(d:Nat)(o:BinOp)(a:Nat)(v:Int):RO:=⟨some d,none,.bin o (.tmp a) (.const (.int .i64 v))⟩
def qn(d a:Nat):RO:=⟨some d,none,.sZ (.tmp a)⟩
def qs(n a b:Nat):RO:=⟨none,none,.store n (.tmp a) (.tmp b)⟩
def qp(d c a b:Nat):RO:=⟨some d,none,.pick (.tmp c) (.tmp a) (.tmp b)⟩
def qa(d c a:Nat):RO:=⟨some d,none,.pick (.tmp c) (.tmp a) (.const (.bool false))⟩
def qr(d c b:Nat):RO:=⟨some d,none,.pick (.tmp c) (.const (.bool true)) (.tmp b)⟩
def qe(d a i:Nat):RO:=⟨some d,none,.ext (.tmp a) i⟩
def tmps:List Nat->List Operand
 |[]=>[]
 |a::r=>.tmp a::tmps r
def qx(d f:Nat)(l:List Nat):RO:=⟨some d,none,.call f (tmps l)⟩
def qL(d a:Nat):RO:=⟨some d,none,.Ii (.tmp a)⟩
def qN(d n a:Nat):RO:=⟨some d,none,.lx n (.tmp a)⟩
def qB(d t a:Nat):RO:=⟨some d,none,.box t (.tmp a)⟩
def qt(g:Nat)(x:RO):RO:=⟨x.dst,some (g,true),x.op⟩
def qu(g:Nat)(x:RO):RO:=⟨x.dst,some (g,false),x.op⟩
def qS(rs:List RO)(k:List Nat)(r:IC):IC:=.seq (.ly rs k) r
def qC(c:Nat)(a b:IC):IC:=.cond (.tmp c) a b
def UR:List RO->Nat->RO
 |[],_=>default
 |x::_,0=>x
 |_::r,n+1=>UR r n
def Wc(l:List RO):List Nat->List RO
 |[]=>[]
 |i::r=>UR l i::Wc l r
def F0(l:List RO):List (List Nat)->List (List RO)
 |[]=>[]
 |p::r=>Wc l p::F0 l r
def qD(l:List RO)(ps:List (List Nat))(k:List Nat):IC:=.draw (F0 l ps) k
def oM:IC->List (List Nat)
 |.skip|.exit _|.ret|.label _=>[]
 |.ly _ k|.draw _ k|.free _ _ k=>[k]
 |.seq a b|.cond _ a b|.gE _ _ a b=>oM a++oM b
 |.loop (.seq a (.seq b c))=>oM a++(oM c++oM b)
 |.block _ b|.loop b|.scope b=>oM b
def XL(F:aQ)(i:Nat):List Nat:=(oM F.body).getD i []
def laid {X F:aQ}(_h:F=X:=by(dsimp only[qm,qk,qz,qo,ql,qf,qi,qb,qc,qn,qs,qp,qa,qr,qe,tmps,qx,qL,qN,qB,qt,qu,qS,qC,UR,Wc,F0,qD] <;> exact rfl)):aQ:=F
theorem TKx {H R:SH}{A:List kC}(h:Tk H A R:=by(focus ((repeat (first|with_reducible exact Tk.here|apply Tk.there));done))):Tk H A R:=h
theorem bQ {H D:SH}(h:ao H D:=by(first|with_reducible exact ao.refl|with_reducible exact ao.left|(focus ((try simp only[QL]);(repeat (first|exact ao.nil|(apply ao.cons;(focus ((repeat (first|with_reducible exact Tk.here|apply Tk.there));done)))));done)))):ao H D:=h
theorem SPx {H D R:SH}(h:dX H D R:=by(focus ((repeat (first|exact dX.nil|(apply dX.cons;(focus ((repeat (first|with_reducible exact Tk.here|apply Tk.there));done)))));done))):dX H D R:=h
theorem tX {G D:Env}(h:Sub G D:=by(repeat (first|exact Sub.nil|(apply Sub.cons;rfl)))):Sub G D:=h
theorem aH {α:Type}:(∀(a:α) (l r:List α),(a::l)++r=a::(l++r))/\(∀r:List α,([]:List α)++r=r):=⟨fun _ _ _=>rfl,fun _=>rfl⟩
theorem Wz {A:List kC}{P:Program}{N0:Nat}{Cm:List (Nat×FE)}{SG:CF}(ht:sI P Cm)(ho:ov A P N0 SG){L k f:Nat}{args:List Value}{v0:Value}{h1:Mp}{n1:Nat}(ha:args.all oV=true)(he:xg N0 Cm SG L k f args [] N0=some (.val v0 h1 n1)):
 aq P f args [A] (fun u Post=>∃σ,ki N0 σ [v0] h1 n1/\u=rn σ v0/\Post=[A,kW [] σ h1]):=by
 have g:ki N0 ⟨fun i=>i,fun _=>0,fun _=>0,fun _=>[]⟩ args [] N0:=⟨fun _ _=>⟨rfl,rfl⟩,Qh _,(fun p hp=>by cases hp),(fun p hp=>by cases hp),(fun p hp=>by cases hp),fun u hu=>bR.plain (vZ.1 ha u hu)⟩;have hs:=S8 ht ho L k f args [] N0 _ he _ g;have cf:args.map (rn ⟨fun i=>i,fun _=>0,fun _=>0,fun _=>[]⟩)=args:=by
  conv=>rhs;rw[<- List.map_id args]
  exact Q6 fun u hu=>dJ (vZ.1 ha u hu)
 rw[cf]at hs;have xF:=hs.conv (H:=[A]) (R:=[]) (Q':=fun u Post=>∃σ,ki N0 σ [v0] h1 n1/\u=rn σ v0/\Post=[A,kW [] σ h1]) (Z':=fun _ _=>False) (by simp[dX,kW]) ?_ ?_
 ·exact xF.fun
 ·rintro u Post ⟨v1,h2,n2,σ1,e,_,_,g1,rfl,rfl⟩
  cases e;exact⟨[A,kW [] σ1 h1],⟨σ1,g1,rfl,rfl⟩,ao.perm (by simpa using Fc)⟩
 ·rintro ch Post ⟨Xh,h2,n2,σ1,e,_⟩
  cases e
def M8(h:Mp)(w:Nat)(b n c:Nat):Bool:=match Nat.blt c iZ with
 |true=>Nat.ble n c
 |false=>match rS h b with
  |some (.grow s vs)=>Nat.beq s w&&Nat.beq c iZ&&Nat.blt 0 w&&Nat.ble (n*w) vs.length
  |_=>false
theorem Eo {N0 nx:Nat}{σ:Sg}{bu:List Value}{h:Mp}(g:ki N0 σ bu h nx){w b n c:Nat}(hc:M8 h w b n c=true):n<=Gi σ b c:=by
 unfold M8 at hc;unfold Gi;split at hc
 ·rename_i aO;rw[if_pos (Cy aO)];exact iu hc
 ·rename_i aO;split at hc
  case h_2=>cases hc
  rename_i s vs hb;simp only[vF]at hc;obtain⟨⟨⟨h1,h2⟩,h3⟩,h4⟩:=hc;obtain rfl:=yI h1;obtain rfl:=yI h2;rw[if_neg (Nat.lt_irrefl _),Qn,Nat.sub_zero];have hg:=g.grow _ (ze hb);have hg:vs.length+(σ.tl b).length=σ.cap b*s:=hg;have h5:=iu h4;have h6:=Cy h3;exact Nat.le_of_mul_le_mul_right (Qj h5 Zo) h6
def Dx {α:Type}(f:List Value->Option α)(w:Nat):Nat->List Value->Option (List α)
 |0,_=>some []
 |n+1,us=>match f (us.take w)with
  |some x=>match Dx f w n (us.drop w)with
   |some l=>some (x::l)
   |none=>none
  |none=>none
theorem qj {α:Type}{f:List Value->Option α}{w:Nat}:∀{n:Nat} {us:List Value} {l:List α},Dx f w n us=some l->l.length=n/\∀i x,l[i]? =some x->f ((us.drop (i*w)).take w)=some x
 |0,us,l,h=>by
  obtain rfl:[]=l:=Qx h;exact⟨rfl,fun i x hx=>by simp at hx⟩
 |n+1,us,l,h=>by
  rw[Dx]at h;split at h
  case h_2=>cases h
  rename_i x hx;split at h
  case h_2=>cases h
  rename_i r hr;obtain rfl:=Qx h;obtain⟨h1,h2⟩:=qj hr;refine⟨by rw[Vu,h1],fun i y hy=>?_⟩;cases i with
  |zero=>
   obtain rfl:x=y:=by simpa using hy
   simpa using hx
  |succ i=>
   have:=h2 i y (by simpa using hy);rw[List.drop_drop]at this;rw[Nat.succ_mul,Nat.add_comm];exact this
def Wn {α:Type}(h:Mp)(w:Nat)(f:List Value->Option α):Value->Option (List α)
 |.slice none 0 _=>some []
 |.slice (some ⟨b,o,none⟩) n c=>match Nat.beq o 0&&M8 h w b n c with
  |true=>match hK h b 0 (n*w)with
   |some us=>Dx f w n us
   |none=>none
  |false=>none
 |_=>none
theorem yi {N0 nx:Nat}{σ:Sg}{bu:List Value}{h:Mp}(g:ki N0 σ bu h nx){α:Type}{w:Nat}{f:List Value->Option α}{v:Value}{l:List α}(hr:Wn h w f v=some l):
 ∃(a:Option Addr) (c bk o:Nat) (us:Nat->List Value),rn σ v=.slice a l.length c/\(0 < l.length->a=some ⟨bk,o,none⟩/\l.length<=c)/\(∀i,i < l.length->∀y∈kA bk (o+i*w) (us i),y∈kW [] σ h)/\∀i x,l[i]? =some x->∃ws,us i=ws.map (rn σ)/\f ws=some x:=by
 unfold Wn at hr;split at hr
 ·obtain rfl:[]=l:=Qx hr;exact⟨none,_,0,0,fun _=>[],by simp;rfl,fun h=>absurd h Zs,fun i hi=>absurd hi Zs,fun i x hx=>by simp at hx⟩
 ·rename_i b o n c;split at hr
  case h_2=>cases hr
  rename_i hc;rw[vF]at hc;obtain rfl:=yI hc.1;split at hr
  case h_2=>cases hr
  rename_i us C5;obtain⟨h1,h2⟩:=qj hr;have EV:=Eo g hc.2;have hm:=eG (σ:=σ) (A:=[]) C5;have hl:=nC C5;refine⟨some ⟨σ.qZ b,σ.off b,none⟩,Gi σ b c,σ.qZ b,σ.off b,fun i=>((us.drop (i*w)).take w).map (rn σ),?_,fun _=>⟨rfl,Zo⟩,fun i hi y hy=>?_,fun i x hx=>⟨_,rfl,h2 i x hx⟩⟩
  ·rw[h1,bp];rfl
  ·refine hm y ?_;rw[Qd];refine lj (i:=i*w) (m:=w) ?_ y hy;show((us.drop (i*w)).take w).map (rn σ)=((us.map (rn σ)).drop (i*w)).take w;rw[List.map_take,List.map_drop]
 ·cases hr
def rdStr:List Value->Option ByteArray
 |[.string s]=>match Nat.ble s.size 1000 with|true=>some s|false=>none
 |_=>none
def sn(h:Mp)(v:Value):Option (List ByteArray):=match Wn h 1 rdStr v with
 |some l=>match Nat.ble l.length 1000 with|true=>some l|false=>none
 |none=>none
theorem eA {N0 nx:Nat}{σ:Sg}{bu:List Value}{h:Mp}(g:ki N0 σ bu h nx){v:Value}{l:List ByteArray}(hr:sn h v=some l):eg (kW [] σ h) (rn σ v) l:=by
 unfold sn at hr;split at hr
 case h_2=>cases hr
 rename_i l' hl;split at hr
 case h_2=>cases hr
 rename_i hb;obtain rfl:=Qx hr;have hb:=iu hb;obtain⟨a,c,bk,o,us,h1,h2,h3,h4⟩:=yi g hl;refine⟨a,c,h1,Zo,fun i t ht=>?_⟩;have hi:=(Vm.1 ht).1;obtain⟨ws,e1,e2⟩:=h4 i t ht;unfold rdStr at e2;split at e2
 case h_2=>cases e2
 rename_i s;split at e2
 case h_2=>cases e2
 rename_i hs;obtain rfl:=Qx e2;refine⟨bk,o,(h2 Zo).1,?_,by have:=iu hs;omega⟩;refine h3 i hi _ ?_;rw[e1,Nat.mul_one];exact kI.2 ⟨0,.string s,Zs,rfl⟩
def XR(k lk ln lb p:Int)(s lt:ByteArray)(n:Nat):Bool:=decide (0<=k/\k < 256/\0<=lk/\lk < 256/\0<=lb/\lb < 18446744073709551616)&&decide (-9223372036854775808<=ln/\ln<=9223372036854775807/\-9223372036854775808<=p/\p<=9223372036854775807)&&(Nat.ble s.size 1000&&Nat.ble lt.size 1000&&Nat.ble n 1000)
def XW(kr:Value->Option (List Nd))(h:Mp):List Value->Option Nd
 |[.int .u8 k,.string s,.int .u8 lk,.int .i64 ln,.int .u64 lb,.string lt,.slice none 0 _,av,tv,kv,.int .i64 p]=>match sn h av with
  |some a=>match sn h tv with
   |some t=>match kr kv with
    |some ks=>match XR k lk ln lb p s lt ks.length with
     |true=>some (.mk k.toNat s (.mk lk.toNat ln lb.toNat lt []) a t ks p)
     |false=>none
    |none=>none
   |none=>none
  |none=>none
 |_=>none
def Rj:Nat->Mp->Value->Option (List Nd)
 |0,_,_=>none
 |f+1,h,v=>Wn h 11 (XW (Rj f h) h) v
theorem Gd {N0 nx:Nat}{σ:Sg}{bu:List Value}{h:Mp}(g:ki N0 σ bu h nx):∀(f:Nat) (v:Value) (l:List Nd),Rj f h v=some l->
 ∃(a:Option Addr) (c bk o:Nat) (us:Nat->List Value),rn σ v=.slice a l.length c/\(0 < l.length->a=some ⟨bk,o,none⟩/\l.length<=c)/\(∀i,i < l.length->∀y∈kA bk (o+i*11) (us i),y∈kW [] σ h)/\∀i x,l[i]? =some x->jJ (kW [] σ h) x (us i):=by
 intro f
 induction f with
 |zero=>intro v l h;cases h
 |succ f ih=>
  intro v l hr;obtain⟨a,c,bk,o,us,h1,h2,h3,h4⟩:=yi g hr;refine⟨a,c,bk,o,us,h1,h2,h3,fun i x hx=>?_⟩;obtain⟨ws,e1,e2⟩:=h4 i x hx;rw[e1];unfold XW at e2;split at e2
  case h_2=>cases e2
  rename_i k s lk ln lb lt lc av tv kv p;split at e2
  case h_2=>cases e2
  rename_i A hA;split at e2
  case h_2=>cases e2
  rename_i T hT;split at e2
  case h_2=>cases e2
  rename_i ks G3;split at e2
  case h_2=>cases e2
  rename_i aM;obtain rfl:=Qx e2;unfold XR at aM;simp only[vF,decide_eq_true_eq]at aM;obtain⟨⟨⟨b1,b2,b3,b4,b5,b6⟩,b7,b8,b9,b10⟩,⟨b11,b12⟩,b13⟩:=aM;have b11:=iu b11;have b12:=iu b12;have b13:=iu b13;obtain⟨a',c',bk',o',SJ,k1,k2,k3,k4⟩:=ih kv ks G3;have aO:zw (kW [] σ h) (.mk lk.toNat ln lb.toNat lt []) [cv lk.toNat,vi ln,uv lb.toNat,.string lt,.slice none 0 lc]:=.mk (a:=none) (c:=lc) (bk:=0) (o:=0) (us:=fun _=>[]) ⟨Zo,Zo,Zo,Zo,Zd⟩ (fun h=>absurd h Zs) (fun i hi=>absurd hi Zs) (fun i x hx=>by simp at hx);have bK:=eA g hA;have bG:=eA g hT;by_cases Bd:0 < ks.length
  ·obtain⟨k5,k6⟩:=k2 Bd;have:=jJ.mk (k:=k.toNat) (s:=s) (p:=p) (a:=a') (c:=c') (bk:=bk') (o:=o') (us:=SJ) (kids:=ks) ⟨Zo,Zo,Zo,Zo⟩ aO bK bG (fun _=>k5) k3 k4 k6;have e:([Value.int .u8 k,.string s,.int .u8 lk,.int .i64 ln,.int .u64 lb,.string lt,.slice none 0 lc,av,tv,kv,.int .i64 p]).map (rn σ)=[cv k.toNat,.string s]++[cv lk.toNat,vi ln,uv lb.toNat,.string lt,.slice none 0 lc]++[rn σ av,rn σ tv,.slice a' ks.length c',vi p]:=by
    exact zBY
   rw[e];exact this
  ·have Su:ks=[]:=vt Zo;subst Su;have:=jJ.mk (k:=k.toNat) (s:=s) (p:=p) (a:=a') (c:=c') (bk:=bk') (o:=o') (us:=SJ) (kids:=[]) ⟨Zo,Zo,Zs,Zo⟩ aO bK bG (fun h=>absurd h Zs) k3 k4 (Qp _);have e:([Value.int .u8 k,.string s,.int .u8 lk,.int .i64 ln,.int .u64 lb,.string lt,.slice none 0 lc,av,tv,kv,.int .i64 p]).map (rn σ)=[cv k.toNat,.string s]++[cv lk.toNat,vi ln,uv lb.toNat,.string lt,.slice none 0 lc]++[rn σ av,rn σ tv,.slice a' ([]:List Nd).length c',vi p]:=by
    exact zBY
   rw[e];exact this
def Bi {α:Type}{X F:α}(_h:F=X:=by(dsimp only[qm,qk,qz,qo,ql,qf,qi,qb,qc,qn,qs,qp,qa,qr,qe,tmps,qx,qL,qN,qB,qt,qu,qS,qC,UR,Wc,F0,qD] <;> exact rfl)):α:=F
def Ui(x:Nat):List Nat->List Nat
 |[]=>[x]
 |y::r=>if x < y then x::y::r else if x=y then y::r else y::Ui x r
def AG(a b:List Nat):List Nat:=b.foldr Ui a
def tmN:List Operand->List Nat
 |[]=>[]
 |.tmp t::r=>t::tmN r
 |_::r=>tmN r
def YC(d:Nat):List Nat->List Nat
 |[]=>[]
 |y::r=>if d=y then YC d r else y::YC d r
def Wp:List Oper->List Nat->List Nat
 |[],a=>a
 |o::r,a=>AG (match o.dst with|some d=>YC d (Wp r a)|none=>Wp r a) (tmN o.op.operands.toList)
def itN(f:List Nat->List Nat):Nat->List Nat->List Nat
 |0,l=>l
 |n+1,l=>match AG l (f l)with|m=>if m.length=l.length then l else itN f n m
def Js(ps:List Nat):List Nat->List Nat
 |[]=>[]
 |y::r=>if ps.contains y then Js ps r else y::Js ps r
def Ll(rt:List Nat):Code->List Nat->List (Nat×List Nat)->List Nat
 |.region _ ops _,a,_=>Wp ops.toList a
 |.seq x y,a,ex=>Ll rt x (Ll rt y a ex) ex
 |.cond c x y,a,ex=>AG (AG (Ll rt x a ex) (Ll rt y a ex)) (tmN [c])
 |.block id b,a,ex=>Ll rt b a ((id,a)::ex)
 |.loop b,_,ex=>itN (fun l=>Ll rt b l ex) 20 []
 |.exit id,_,ex=>zA ex id
 |.ret,_,_=>rt
 |.scope b,a,ex=>Ll rt b a ex
 |.rangeFunc g ps x b,a,ex=>AG (AG (Js ps.toList (Ll rt x (Ll rt b [] ex) ex)) a) (tmN [g])
 |_,a,_=>a
def SF(rt:List Nat):Code->List Nat->List (Nat×List Nat)->List (Nat×List Nat)
 |.region id _ _,a,_=>[(id,a)]
 |.seq x y,a,ex=>SF rt x (Ll rt y a ex) ex++SF rt y a ex
 |.cond _ x y,a,ex=>SF rt x a ex++SF rt y a ex
 |.block id b,a,ex=>SF rt b a ((id,a)::ex)
 |.loop b,_,ex=>SF rt b (itN (fun l=>Ll rt b l ex) 20 []) ex
 |.scope b,a,ex=>SF rt b a ex
 |.rangeFunc _ _ x b,_,ex=>SF rt x (Ll rt b [] ex) ex++SF rt b [] ex
 |_,_,_=>[]
def LU:List ResultVar->List Nat
 |[]=>[]
 |.tmp t::r=>Ui t (LU r)
 |.cell a _::r=>Ui a (LU r)
def keepN(P:Program)(f:Nat):List (Nat×List Nat):=match P.funcs[f]? with
 |some fn=>match fn.body with
  |some c=>SF (LU fn.results.toList) c (LU fn.results.toList) []
  |none=>[]
 |none=>[]
def gOp(P:Program):Op->Option R
 |.call c=>match c.callee with
  |.value (.func f)=>some (.call f c.args.toList)
  |_=>kz P (.call c)
 |o=>kz P o
def gL(P:Program)(ops:Array Oper):List Oper->List RO
 |[]=>[]
 |o::r=>match gOp P o.op with
  |none=>gL P ops r
  |some x=>match o.guard with
   |none=>⟨o.dst,none,x⟩::gL P ops r
   |some (j,b)=>⟨o.dst,((ops[j]?).bind (·.dst)).map (·,b),x⟩::gL P ops r
def gR(P:Program)(od:List (Nat×List (List Nat)))(id:Nat)(ops:Array Oper)(a:List Nat):Bool->IC
 |false=>.ly (gL P ops ops.toList) a
 |true=>match zA od id with
  |[]=>.free (gL P ops ops.toList) (nO ops) a
  |o::r=>.draw (F0 (gL P ops ops.toList) (o::r)) a
def gC(P:Program)(od:List (Nat×List (List Nat)))(rt:List Nat):Code->List Nat->List (Nat×List Nat)->List Nat×IC
 |.region id ops d,a,_=>(Wp ops.toList a,gR P od id ops a d)
 |.seq x y,a,ex=>match gC P od rt y a ex with|(l,p)=>match gC P od rt x l ex with|(m,q)=>(m,.seq q p)
 |.cond c x y,a,ex=>match gC P od rt x a ex with|(l,p)=>match gC P od rt y a ex with|(m,q)=>(AG (AG l m) (tmN [c]),.cond c p q)
 |.block id b,a,ex=>match gC P od rt b a ((id,a)::ex)with|(l,p)=>(l,.block id p)
 |.loop b,_,ex=>match itN (fun l=>Ll rt b l ex) 20 []with|l=>match gC P od rt b l ex with|(m,p)=>(m,.loop p)
 |.exit id,_,ex=>(zA ex id,.exit id)
 |.ret,_,_=>(rt,.ret)
 |.scope b,a,ex=>match gC P od rt b a ex with|(l,p)=>(l,.scope p)
 |.rangeFunc g ps x b,a,ex=>match gC P od rt b [] ex with|(l,p)=>match gC P od rt x l ex with|(m,q)=>(AG (AG (Js ps.toList m) a) (tmN [g]),.gE g ps.toList q p)
 |.label l,a,_=>(a,.label l)
 |_,a,_=>(a,.skip)
def gF(P:Program)(fn:Func)(od:List (Nat×List (List Nat))):Option aQ:=match fn.body,wi P fn.results.toList with
 |some c,some r=>some ⟨fn.ntmps,r,(gC P od (LU fn.results.toList) c (LU fn.results.toList) []).2⟩
 |_,_=>none
def aZ(P:Program)(f:Nat)(od:List (Nat×List (List Nat))):Option aQ:=nU P (zA (keepN P f)) (zA od) f
theorem mkA {α:Type}(l:List α):Array.mk l=l.toArray:=rfl
def bb {o:Option aQ}{F:aQ}(_h:o=some F:=by(apply Eq.trans;cbv;dsimp only[mkA] <;> exact rfl)):aQ:=F
end Go.V
namespace Go.Proofs.YtijnokbblmbpkaaGreatDoor
open Go Go.V
noncomputable def dq:TypeInfo:=Tryz.t3
noncomputable def pq:Program:=⟨{Tryz.progTables with types:=#[dq,dq,Tryz.t2,Tryz.t3,Tryz.t4,Tryz.t5,dq,dq,dq,Tryz.t9,dq,dq,dq,dq,dq,dq,dq,dq,dq,dq,dq,dq,Tryz.t22,Tryz.t23,Tryz.t24,Tryz.t25,dq,dq,dq,dq,Tryz.t30,dq,dq,Tryz.t33,Tryz.t34,Tryz.t35,Tryz.t36,Tryz.t37,Tryz.t38,dq,dq,Tryz.t41,Tryz.t42,Tryz.t43,Tryz.t44,Tryz.t45,Tryz.t46,dq,dq,Tryz.t49,Tryz.t50,dq,dq,dq,dq,dq,dq,dq,dq,dq,Tryz.t60,Tryz.t61,dq,dq,dq,Tryz.t65,Tryz.t66,Tryz.t67,Tryz.t68,Tryz.t69,Tryz.t70,Tryz.t71,Tryz.t72,dq,dq,dq,dq,dq,dq,dq,Tryz.t80,dq,dq,Tryz.t83,Tryz.t84,dq,dq,dq,dq,dq,Tryz.t90,Tryz.t91,Tryz.t92,Tryz.t93,dq,Tryz.t95,Tryz.t96,Tryz.t97,dq,dq,Tryz.t100,Tryz.t101,Tryz.t102,dq,dq,dq,dq,dq,Tryz.t108,Tryz.t109,Tryz.t110,Tryz.t111,Tryz.t112,Tryz.t113,Tryz.t114,dq,dq,dq,dq,Tryz.t119,Tryz.t120,Tryz.t121,Tryz.t122,dq,Tryz.t124,dq,Tryz.t126,Tryz.t127,dq,dq,dq,dq,dq,dq,dq,dq,dq,dq,dq,dq,dq,dq,dq,dq,Tryz.t144,Tryz.t145,Tryz.t146,dq,dq,dq,dq,dq,Tryz.t152,dq,dq,dq,dq,dq,dq,dq,dq,dq,dq,dq,dq,dq,dq,dq,dq,dq,dq,dq,dq,dq,dq,dq,dq,dq,dq,Tryz.t179,Tryz.t180,Tryz.t181,Tryz.t182,Tryz.t183,dq,Tryz.t185,Tryz.t186,dq,dq,dq,dq,dq,dq,dq,dq,dq,Tryz.t196,Tryz.t197,dq,Tryz.t199,Tryz.t200,Tryz.t201,Tryz.t202,Tryz.t203,Tryz.t204,Tryz.t205,Tryz.t206,dq,Tryz.t208,Tryz.t209,Tryz.t210,dq,dq,dq,dq,dq,Tryz.t216,Tryz.t217,dq,Tryz.t219,Tryz.t220,dq,dq,dq,dq,dq,dq,dq,Tryz.t228,Tryz.t229,Tryz.t230,dq,dq,dq,dq,dq,dq,dq,dq,dq,dq,dq,dq,dq,dq,dq,dq,dq,dq,dq,dq,dq,dq,dq,dq,dq,dq,dq,dq,dq,dq,Tryz.t261,Tryz.t262,dq,dq,dq,dq,dq,dq,dq,dq,dq,dq,dq,dq,dq,dq,dq,dq,dq,Tryz.t280,dq,dq,dq,dq,dq,dq,dq,dq,dq,dq,dq,dq,dq,dq,dq,dq,dq,dq,dq,dq,dq,dq,dq,dq,dq,dq,dq,dq,dq,dq,dq,dq,dq,dq,dq,dq,dq,dq,dq,dq,dq,dq,dq,dq,dq,dq,dq,dq,dq,dq,dq,dq,dq,dq,dq,dq,dq,dq,dq,dq,dq,dq,dq,dq,dq,dq,dq,dq,dq,dq,Tryz.t351,dq,dq,dq,dq,dq,dq,dq,dq,dq,dq,dq,dq,dq,dq,dq,dq,dq,dq,dq,dq,dq,dq,dq,dq,dq,dq,dq,dq,dq,dq,dq,dq,dq,dq,dq,dq,dq,dq,dq,dq,dq,dq,dq,dq,dq,dq,dq,dq,dq,dq,Tryz.t402,Tryz.t403]},#[]⟩
set_option maxRecDepth 100000
noncomputable def F192:aQ:=bb (o:=gF pq Tryz.f192 [])
theorem n192:F192.n=21:=rfl
theorem aaU:aZ Tryz.prog 192 []=some F192:=by kernel_rfl
noncomputable def F197:aQ:=bb (o:=gF pq Tryz.f197 [])
theorem n197:F197.n=9:=rfl
theorem aaZ:aZ Tryz.prog 197 []=some F197:=by kernel_rfl
noncomputable def F194:aQ:=bb (o:=gF pq Tryz.f194 [])
theorem n194:F194.n=9:=rfl
theorem aaW:aZ Tryz.prog 194 []=some F194:=by kernel_rfl
noncomputable def F193:aQ:=bb (o:=gF pq Tryz.f193 [])
theorem n193:F193.n=21:=rfl
theorem aaV:aZ Tryz.prog 193 []=some F193:=by kernel_rfl
noncomputable def F161:aQ:=bb (o:=gF pq Tryz.f161 [])
theorem n161:F161.n=22:=rfl
theorem aay:aZ Tryz.prog 161 []=some F161:=by kernel_rfl
noncomputable def F162:aQ:=bb (o:=gF pq Tryz.f162 [])
theorem n162:F162.n=6:=rfl
theorem aaz:aZ Tryz.prog 162 []=some F162:=by kernel_rfl
noncomputable def F198:aQ:=bb (o:=gF pq Tryz.f198 [])
theorem n198:F198.n=12:=rfl
theorem aa0:aZ Tryz.prog 198 []=some F198:=by kernel_rfl
noncomputable def F163:aQ:=bb (o:=gF pq Tryz.f163 [])
theorem n163:F163.n=17:=rfl
theorem aaA:aZ Tryz.prog 163 []=some F163:=by kernel_rfl
noncomputable def F196:aQ:=bb (o:=gF pq Tryz.f196 [])
theorem n196:F196.n=29:=rfl
theorem aaY:aZ Tryz.prog 196 []=some F196:=by kernel_rfl
noncomputable def F195:aQ:=bb (o:=gF pq Tryz.f195 [])
theorem n195:F195.n=8:=rfl
theorem aaX:aZ Tryz.prog 195 []=some F195:=by kernel_rfl
noncomputable def F164:aQ:=bb (o:=gF pq Tryz.f164 [])
theorem n164:F164.n=10:=rfl
theorem aaB:aZ Tryz.prog 164 []=some F164:=by kernel_rfl
noncomputable def F199:aQ:=bb (o:=gF pq Tryz.f199 [])
theorem n199:F199.n=8:=rfl
theorem aa1:aZ Tryz.prog 199 []=some F199:=by kernel_rfl
noncomputable def F223:aQ:=bb (o:=gF pq Tryz.f223 [])
theorem n223:F223.n=52:=rfl
theorem abi:aZ Tryz.prog 223 []=some F223:=by kernel_rfl
noncomputable def F225:aQ:=bb (o:=gF pq Tryz.f225 [])
theorem n225:F225.n=8:=rfl
theorem abj:aZ Tryz.prog 225 []=some F225:=by kernel_rfl
noncomputable def F165:aQ:=bb (o:=gF pq Tryz.f165 [])
theorem n165:F165.n=11:=rfl
theorem aaC:aZ Tryz.prog 165 []=some F165:=by kernel_rfl
noncomputable def F200:aQ:=bb (o:=gF pq Tryz.f200 [])
theorem n200:F200.n=18:=rfl
theorem aa3:aZ Tryz.prog 200 []=some F200:=by kernel_rfl
noncomputable def F226:aQ:=bb (o:=gF pq Tryz.f226 [])
theorem n226:F226.n=21:=rfl
theorem abk:aZ Tryz.prog 226 []=some F226:=by kernel_rfl
noncomputable def F105:aQ:=bb (o:=gF pq Tryz.f105 [])
theorem n105:F105.n=47:=rfl
theorem Ψ:aZ Tryz.prog 105 []=some F105:=by kernel_rfl
end Go.Proofs.YtijnokbblmbpkaaGreatDoor
namespace Go.V
open Go
theorem Sat.below {w w':World}{L:List kC}(h:RowKit.Below w.heap.size w w')(hs:Sat w L):Sat w' L:=by
 refine⟨fun x hx=>?_,hs.nodup⟩;have hl:=hs.lt hx;have hh:=hs.holds x hx;cases x with
 |cell b off v=>
  obtain⟨c,t,lo,hi,hb,r⟩:=hh;exact⟨c,t,lo,hi,by rw[h.block b hl];exact hb,r⟩
 |obj b o=>exact⟨by rw[h.block b hl];exact hh.1,hh.2⟩
 |row b n=>
  exact zEP
 |own b n=>
  exact zEP
theorem ku.below {w w':World}(h:RowKit.Below w.heap.size w w'):ku w w':=
 ⟨h.os,h.output,h.size,fun i c t lo hi cj=>⟨c,by rw[h.block i (v8.1 cj).1];exact cj,rfl,fun _ _=>rfl⟩⟩
theorem aq.Fx {P:Program}{f:Nat}{args:List Value}{Q:Value->Prop}(hc:jw P f=true)(h:∀w,Calls P f args.toArray w fun e w'=>∃v,e=.returned v/\Q v/\w'=w):aq P f args [] (fun v Post=>Q v/\Post=[]):=
 ⟨hc,fun F w hs=>(h w).mono fun e w' ⟨v,h1,h2,h3⟩=>by subst h3;exact⟨v,[],h1,⟨h2,rfl⟩,hs,.refl _⟩⟩
theorem aq.Bu {P:Program}{f:Nat}{args:List Value}{Q:Value->Prop}{A:List kC}(hc:jw P f=true)(h:∀w F,Sat w (A++F)->Calls P f args.toArray w fun e w'=>∃v,e=.returned v/\Q v/\RowKit.Below w.heap.size w w'):aq P f args [A] (fun v Post=>Q v/\Post=[A]):=
 ⟨hc,fun F w hs=>(h w F (by simpa using hs)).mono fun e w' ⟨v,h1,h2,h3⟩=>⟨v,[A],h1,⟨h2,rfl⟩,hs.below h3,.below h3⟩⟩
theorem kS(s:ByteArray):(kB s).length=s.size:=by simp[kB]
theorem Hp {s:ByteArray}{i:Nat}{c:UInt8}(h:s[i]? =some c):(kB s)[i]? =some c.toNat:=by
 have hi:i < s.size:=by
  by_cases hi:i < s.size
  ·exact hi
  ·simp[hi]at h
 have h2:s.data[i]? =some c:=by
  have h3:s[i]? =some s[i]:=by simp[hi]
  rw[h3]at h;rw[<- h];exact v7 (xs:=s.data) hi
 simp[kB,h2]
theorem zU(s:ByteArray):∀c∈kB s,c < 256:=by
 intro c hc;obtain⟨x,_,rfl⟩:=QH.1 hc;exact x.toNat_lt
theorem jS {s t:ByteArray}(h:kB s=kB t):s=t:=by
 have h2:s.data.toList=t.data.toList:=by
  have hm:∀l m:List UInt8,l.map UInt8.toNat=m.map UInt8.toNat->l=m:=by
   intro l
   induction l with
   |nil=>intro m e;cases m with|nil=>rfl|cons=>cases e
   |cons a l ih=>
    intro m e;cases m with
    |nil=>cases e
    |cons b m=>
     simp only[Q7,vh]at e;rw[UInt8.toNat_inj.1 e.1,ih m e.2]
  exact hm _ _ h
 exact ByteArray.ext (vC.1 h2)
theorem jt {s:ByteArray}{i:Nat}(h:i < s.size):∃c:UInt8,s[i]? =some c/\(kB s)[i]? =some c.toNat:=⟨s[i],by simp[h],Hp (by simp[h])⟩
def Hc:List Nat->Nat->Int
 |[],_=>-1
 |b::l,c=>if b=c then 0 else if Hc l c=-1 then -1 else Hc l c+1
theorem XK(l:List UInt8)(c:UInt8):Lib.indexByte l c=Hc (l.map UInt8.toNat) c.toNat:=by
 induction l with
 |nil=>rfl
 |cons b l ih=>
  simp only[Lib.indexByte,Q7,Hc,ih];by_cases h:b=c
  ·subst h;simp
  ·have:b.toNat≠c.toNat:=fun e=>h (UInt8.toNat_inj.1 e)
   simp[h,this]
theorem Ul {c:Nat}(h:c < 256):decide (0<=Hc [43,45,42,47,92,126,60,62,61,64,37,38,63,44,33] c)=cu c:=by
 have h2:∀c:Fin 256,decide (0<=Hc [43,45,42,47,92,126,60,62,61,64,37,38,63,44,33] c.val)=cu c.val:=by decide+kernel
 exact h2 ⟨c,h⟩
theorem Lf(l:List Nat)(c:Nat):(Hc l c=-1/\c∉l)∨∃p r:List Nat,l=p++c::r/\c∉p/\Hc l c=p.length:=by
 induction l with
 |nil=>exact .inl ⟨rfl,Zs⟩
 |cons b l ih=>
  by_cases h:b=c
  ·subst h;exact .inr ⟨[],l,rfl,Zs,by simp[Hc]⟩
  ·rcases ih with⟨h1,h2⟩|⟨p,r,h1,h2,h3⟩
   ·exact .inl ⟨by simp[Hc,h,h1],by simp[h2,Ne.symm h]⟩
   ·refine .inr ⟨b::p,r,by simp[h1],by simp[h2,Ne.symm h],?_⟩;have ck:¬((p.length:Int)=-1):=by omega
    simp[Hc,h,h3,ck]
theorem s8:∀{l:List Nat},58∉l->kg l=[l]:=by
 intro l
 induction l with
 |nil=>intro _;rfl
 |cons b l ih=>
  intro h;simp only[QC,not_or]at h;simp only[kg,if_neg (Ne.symm h.1),ih h.2]
theorem mo:∀{p r:List Nat},58∉p->kg (p++58::r)=(p++[58])::kg r:=by
 intro p r
 induction p with
 |nil=>intro _;simp[kg]
 |cons b p ih=>
  intro h;simp only[QC,not_or]at h;simp only[vj,kg,if_neg (Ne.symm h.1),ih h.2]
theorem Jk {l:List Nat}{p:Nat->Bool}{e:Nat}(h1:e<=l.length)(h2:∀k,k < e->p (l.getD k 0)=true)(h3:e < l.length->p (l.getD e 0)=false):l.all p=decide (e=l.length):=by
 by_cases h:e=l.length
 ·rw[Zt h,vZ];intro x hx;obtain⟨i,hi,rfl⟩:=List.getElem_of_mem hx;have:=h2 i Zo
  rwa [Vb,Zg hi]at this
 ·rw[Zf h,List.all_eq_false];have aO:e < l.length:=by omega
  have:=h3 aO;rw[Vb,Zg aO]at this;exact⟨_,List.getElem_mem aO,by simpa using this⟩
theorem dt {s:ByteArray}(h:s≠⟨#[]⟩):∃(c:UInt8) (r:List Nat),s[0]? =some c/\kB s=c.toNat::r/\c.toNat < 256/\0 < s.size:=by
 have gT:0 < s.size:=by
  rcases Qf s.size with h2|h2
  ·exact absurd (ByteArray.ext (v6 h2)) h
  ·exact h2
 obtain⟨c,hc,oa⟩:=jt gT;refine⟨c,(kB s).tail,hc,?_,c.toNat_lt,gT⟩;cases hb:kB s with
 |nil=>rw[hb]at oa;cases oa
 |cons a r=>rw[hb]at oa;cases oa;rfl
theorem ja(s:ByteArray)(a b:Nat):kB (s.extract a b)=((kB s).take b).drop a:=by
 simp only[kB,ByteArray.data_extract,Array.toList_extract,List.extract_eq_take_drop,List.map_take,List.map_drop,List.drop_take]
def ofN(l:List Nat):ByteArray:=⟨(l.map Nat.toUInt8).toArray⟩
theorem Hq {l:List Nat}(h:∀c∈l,c < 256):kB (ofN l)=l:=by
 simp only[kB,ofN,Q8]
 conv=>rhs;rw[<- List.map_id l]
 refine Q6 fun c hc=>?_
 exact Nat.mod_eq_of_lt (h c hc)
theorem s7(l:List Nat):(kg l).flatten=l:=by
 induction l with
 |nil=>rfl
 |cons c r ih=>
  simp only[kg];split
  ·rename_i h;simp[ih,h]
  ·cases h:kg r with
   |nil=>rw[h]at ih;simp at ih;simp[<- ih]
   |cons p ps=>rw[h]at ih;simp at ih|-;exact ih
theorem LM(t:ByteArray):∃full:List ByteArray,full.map kB=kg (kB t):=by
 have h:∀p∈kg (kB t),∀c∈p,c < 256:=fun p hp c hc=>zU t c (by rw[<- s7 (kB t)];exact List.mem_flatten.2 ⟨p,hp,hc⟩)
 generalize kg (kB t)=l at h;refine⟨l.map ofN,?_⟩;rw[Q8]
 conv=>rhs;rw[<- List.map_id l]
 exact Q6 fun p hp=>Hq (h p hp)
theorem Ww {on:List Nat->Bool}:∀{l:List Nat} {e:Nat},e<=l.length->(∀k,k < e->on (l.drop k)=true)->(e < l.length->on (l.drop e)=false)->Ay on l=e:=by
 intro l
 induction l with
 |nil=>intro e h _ _;simp at h;simp[Ay,h]
 |cons c r ih=>
  intro e h h2 h3;cases e with
  |zero=>
   have:=h3 Zs;simp only[vr]at this;simp[Ay,this]
  |succ e=>
   have h0:=h2 0 Zo;simp only[vr]at h0;have:=ih (e:=e) (by simpa using h) (fun k hk=>by simpa using h2 (k+1) Zo) (fun hk=>by simpa using h3 (by simpa using hk));simp[Ay,h0,this];omega
theorem ti {l:List Nat}{k:Nat}{c:Nat}(h:l[k]? =some c):fw (l.drop k)=(cu c&&(decide (c≠45)||!wG (l.getD (k+1) 0))):=by
 obtain⟨hk,rfl⟩:=Vm.1 h;rw[vp hk];simp only[fw]
 congr 2
 rw[Vb];by_cases h2:k+1 < l.length
 ·rw[vp h2];simp[h2]
 ·rw[vq Zo,Vj Zo];rfl
theorem Rt {c:Nat}{r:List Nat}{e:Nat}(h0:c≠124)(hb:cu c=true)(h1:e<=(c::r).length)(h2:∀k,k < e->1<=k->fw ((c::r).drop k)=true)(h3:e < (c::r).length->1<=e/\fw ((c::r).drop e)=false):ef (c::r)=e∨(e=0):=by
 cases e with
 |zero=>exact .inr rfl
 |succ e=>
  left;simp only[ef,if_neg h0,hb,if_true];have:=Ww (on:=fw) (l:=r) (e:=e) (by simpa using h1) (fun k hk=>by simpa using h2 (k+1) Zo Zo) (fun hk=>by simpa using(h3 (by simpa using hk)).2);omega
theorem nZ(s t:ByteArray):kB (s++t)=kB s++kB t:=by
 simp[kB]
end Go.V
namespace Go.Proofs.YtijnokbblmbpkaaGreatDoor
open Go Go.V Go.Shelf
set_option maxHeartbeats 3200000
set_option maxRecDepth 100000
shelf_lay Lays.n217 Nm 217 at Tryz as Tryz.sl217
shelf_lay Lays.n219 Nm 219 at Tryz as Tryz.sl219
theorem Om(s:ByteArray)(c:Nat)(hc:c < 256):aq Tryz.prog 222 [.string s,cv c] [] (fun v Post=>v=vi (Hc (kB s) c)/\Post=[]):=by
 refine aq.Fx (by kernel_rfl) (fun w=>(Any.stringslite_IndexByte Tryz.sl217 s c w).mono ?_)
 rintro e w' ⟨rfl,rfl⟩
 refine⟨_,rfl,?_,rfl⟩;have hx:((c:Int).toNat.toUInt8).toNat=c:=by
  rw[vT];exact Nat.mod_eq_of_lt hc
 rw[XK,hx];rfl
theorem On(s:ByteArray):aq Tryz.prog 246 [.string s,.string ⟨#[58]⟩] [] (fun v Post=>v=vi (Hc (kB s) 58)/\Post=[]):=by
 refine aq.Fx (by kernel_rfl) (fun w=>(Any.stringslite_Index_one Tryz.sl219 s 58 w).mono ?_)
 rintro e w' ⟨rfl,rfl⟩
 exact⟨_,rfl,by rw[XK];rfl,rfl⟩
theorem sW(c:Nat)(hc:c < 256):aq Tryz.prog 192 [cv c] [] (fun v Post=>v=.bool (Al c)/\Post=[]):=by
 refine aq.intro aaU (by simp[n192]) ?_
 (repeat' (first|refine SQ ?_|refine qO Zr (fun _=>?_) (fun _=>?_)|refine qR Zr (fun _=>?_) (fun _=>?_)|refine VC.qF Zr (fun _=>?_) (fun _=>?_)|refine VC.cond Zr (fun _=>?_) (fun _=>?_)))
 all_goals refine⟨.inr rfl,_,_,.tmp Zr .nil,ZI,?_,rfl⟩
 all_goals (simp only[bJ,Al,Value.bool.injEq,decide_eq_true_eq,decide_eq_false_iff_not]at*)
 all_goals (rw[vI];simp only[vP,vF,vM,decide_eq_true_eq,decide_eq_false_iff_not,true_iff,iff_true,reduceCtorEq,false_iff,iff_false];omega)
theorem oG(c:Nat)(hc:c < 256):aq Tryz.prog 197 [cv c] [] (fun v Post=>v=.bool (wG c)/\Post=[]):=by
 refine aq.intro aaZ (by simp[n197]) ?_
 (repeat' (first|refine SQ ?_|refine qO Zr (fun _=>?_) (fun _=>?_)|refine qR Zr (fun _=>?_) (fun _=>?_)|refine VC.qF Zr (fun _=>?_) (fun _=>?_)|refine VC.cond Zr (fun _=>?_) (fun _=>?_)))
 all_goals refine⟨.inr rfl,_,_,.tmp Zr .nil,ZI,?_,rfl⟩
 all_goals (simp only[bJ,wG,Value.bool.injEq,decide_eq_true_eq,decide_eq_false_iff_not]at*)
 all_goals (rw[vI];simp only[vP,vF,vM,decide_eq_true_eq,decide_eq_false_iff_not,true_iff,iff_true,reduceCtorEq,false_iff,iff_false];omega)
theorem Ic(c:Nat)(hc:c < 256):aq Tryz.prog 194 [cv c] [] (fun v Post=>v=.bool (nT c)/\Post=[]):=by
 refine aq.intro aaW (by simp[n194]) ?_;refine ae ?_;refine kK (sW c hc) Zr ?_;cases hl:Al c with
 |true=>
  exact zC7
 |false=>
  refine ae ?_;refine kK (oG c hc) Zr ?_;exact zC7
theorem sJ(c:Nat)(hc:c < 256):aq Tryz.prog 162 [cv c] [] (fun v Post=>v=.bool (cu c)/\Post=[]):=by
 refine aq.intro aaz (by simp[n162]) ?_;have hb:=Ul hc;have h:aq Tryz.prog 195 [.string ⟨#[43,45,42,47,92,126,60,62,61,64,37,38,63,44,33]⟩,cv c] [] (fun v Post=>v=vi (Hc [43,45,42,47,92,126,60,62,61,64,37,38,63,44,33] c)/\Post=[]):=by
  refine aq.intro aaX (by simp[n195]) ?_;refine ae ?_;refine kK (Om _ c hc) Zr ?_;exact zC6
 generalize Hc [43,45,42,47,92,126,60,62,61,64,37,38,63,44,33] c=z at h hb;refine ae ?_;refine kK h Zr ?_;refine ae ?_;refine⟨.inr rfl,_,_,.tmp Zr .nil,ZI,?_,rfl⟩;simp only[bJ,<- hb]
theorem LK(s:ByteArray)(hs:s.size<=140737488355328)(k:Nat):aq Tryz.prog 198 [.string s,vi k] [] (fun v Post=>v=cv ((kB s).getD k 0)/\Post=[]):=by
 refine aq.intro aa0 (by simp[n198]) ?_;exact zAZ
theorem yo(s:ByteArray)(hs:s.size<=140737488355328)(a:Nat)(ha:a<=s.size)(fv:Value)(I:Nat->SH)(on:Nat->Bool)
 (h:∀k c,a<=k->(kB s)[k]? =some c->dk Tryz.prog fv [cv c] (I k) (fun v Post=>v=.bool (on k)/\Post=I (k+1))):
 aq Tryz.prog 193 [.string s,vi a,fv] (I a) (fun v Post=>∃e j:Nat,v=vi e/\a<=e/\e<=s.size/\(∀k,a<=k->k < e->on k=true)/\(e < s.size->on e=false)/\Post=I j):=by
 refine aq.intro aaV (by simp[n193]) ?_;refine ae ?_;refine VC.loop (α:=Nat) (bn:=fun k=>[(0,.string s),(1,vi k),(2,fv)]) (Hf:=fun k=>I k) (I:=fun k=>a<=k/\k<=s.size/\∀i,a<=i->i < k->on i=true) (μ:=fun k=>s.size - k) a ⟨Qh _,ha,fun i _ _=>by omega⟩ ZU (ao.refl _) ?_
 rintro k ⟨i1,i2,i3⟩
 refine ae ?_;by_cases hk:k < s.size
 ·rw[Zt Zo];obtain⟨c,hc,oa⟩:=jt hk;refine ae ?_;refine jx Zr Zr (j:=k) rfl hc ?_;refine ae ?_;refine dN Zr (h k _ i1 oa) Zr (R:=[]) (by simp[V.dX]) ?_
  rintro v Post ⟨rfl,rfl⟩
  rw[vg];cases ho:on k with
  |true=>
   refine ae ?_;refine⟨k+1,⟨Zo,Zo,fun i g1 g2=>?_⟩,Zo,ZU,ao.refl _⟩;by_cases e:i=k
   ·subst e;exact ho
   ·exact i3 i g1 Zo
  |false=>
   refine ae ?_;exact kG (Post:=I (k+1)) (.inr rfl) (.tmp Zr .nil) ⟨k,k+1,rfl,i1,i2,i3,fun _=>ho,rfl⟩ (ao.refl _)
 ·rw[Zf Zo];refine ae ?_;exact kG (Post:=I k) (.inr rfl) (.tmp Zr .nil) ⟨k,k,rfl,i1,i2,i3,fun hh=>absurd hh hk,rfl⟩ (ao.refl _)
theorem mZ(s:ByteArray)(hs:s.size<=140737488355328):aq Tryz.prog 161 [.string s] [] (fun v Post=>v=.bool (zz s)/\Post=[]):=by
 refine aq.intro aay (by simp[n161]) ?_;have hlen:=kS s;unfold zz fR;refine ae ?_;by_cases h0:s=⟨#[]⟩
 ·subst h0;exact zC6
 obtain⟨c,r,hc,hr,sT,gT⟩:=dt h0;rw[Zf h0,vN];refine ae ?_;by_cases h40:s.size<=40;rotate_left
 ·exact zCS
 rw[Zt Zo];refine ae ?_;refine jx Zr Zr (j:=0) rfl hc ?_;refine ae ?_;refine kK (sW _ sT) Zr ?_;cases hl:Al c.toNat with
 |false=>
  refine ae ?_;refine⟨.inr rfl,_,_,.tmp Zr .nil,ZI,?_,rfl⟩;simp[bJ,hr,hl]
 |true=>
  refine ae ?_;refine kJ (yo s hs 0 Zo (.func (.func 194) #[] #[]) (fun _=>[]) (fun k=>nT ((kB s).getD k 0)) (fun k x _ hx=>dk.bY ?_)) Zr ZP (fun v Post hv=>?_)
  ·rw[Vb,hx];exact Ic _ (zU s _ (Zv hx))
  obtain⟨e,j,rfl,e1,e2,e3,e4,rfl⟩:=hv;have au:=Jk (l:=kB s) (p:=nT) (e:=e) Zo (fun k hk=>e3 k Zo hk) (fun hk=>e4 Zo);have h2:(c.toNat::r).length<=40:=by rw[<- hr];omega
  simp only[QL];refine ae ?_;refine⟨.inr rfl,_,_,.tmp Zr .nil,ZI,?_,rfl⟩;exact zBT
end Go.Proofs.YtijnokbblmbpkaaGreatDoor

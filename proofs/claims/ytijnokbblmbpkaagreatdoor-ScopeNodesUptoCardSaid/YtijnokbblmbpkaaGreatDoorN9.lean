/-
  What the evaluator finds is so: code, functions.
-/
import Derived.Test.YtijnokbblmbpkaaGreatDoorN8
import Derived.Test.YtijnokbblmbpkaaGreatDoorN7
import Derived.Test.YtijnokbblmbpkaaGreatDoorN6
import Derived.KernelRfl
import Derived.Test.YtijnokbblmbpkaaGreatDoorProg
import Derived.Below
import Derived.Lib.Bytealg
import Derived.Shelf.Strings.Search2
import Derived.Shelf.Lay
set_option linter.all false
namespace Go.V
open Go
set_option maxHeartbeats 1600000
variable {A:List kB}
section
variable {P:Program} {N0 nx n:Nat} {σ:Sg} {Γ:Env} {h:Mp} {rs:List RO} {d:Option Nat} {Z:List PanicEntry->Env->SH->Prop} {K:Env->SH->Prop}
theorem B0(g:ku N0 σ (Γ.map (·.2)) h nx){v:Value}(hv:bR nx v):ku N0 σ (v::Γ.map (·.2)) h nx:=g.with fun u hu=>by
 rcases Q9.1 hu with rfl|hu
 ·exact hv
 ·exact g.bz u hu
theorem AK(g:ku N0 σ (Γ.map (·.2)) h nx){d y:Nat}{x:Option Operand}{l:Nat}{dd:Option Nat}(hd:dd=some d)(e:N4 N0 Γ d x=some l)(hl:l<=y):jr y dd (x.map (Dy (bS σ Γ)))=some l/\∀o∈nU x,known (bS σ Γ) o=true:=by
 cases x with
 |none=>simp only[N4,X1]at e;subst e;exact⟨hd,fun o ho=>by cases ho⟩
 |some x=>
  simp only[N4]at e;split at e
  case h_2=>cases e
  rename_i k z hz;cases e;have h1:=(gM g hz).1;rw[ck]at h1;refine⟨?_,fun o ho=>?_⟩
  ·have h2:Dy (bS σ Γ) x=.int k (Int.ofNat l):=by simp[Dy,h1]
   have h3:(0:Int)<=Int.ofNat l/\Int.ofNat l<=(y:Int):=⟨Int.natCast_nonneg _,Int.ofNat_le.2 hl⟩;simp only[Qz,jr,h2,bound,if_pos h3];rfl
  ·simp only[nU,Option.toList_some,QI]at ho;subst ho;simp[known,h1]
theorem WU {size b o k c:Nat}{x:Operand}{lo hi:Option Operand}{v:Value}(g:ku N0 σ (Γ.map (·.2)) h nx)(hx:sH N0 Γ x=some (.slice (some ⟨b,o,none⟩) k c))(hc:Nat.blt c iV=false)(hs:slcU N0 Γ h size lo hi b o k c=some v)
 (aN:bR nx v->VO P n rs (ak d (rn σ v) (bS σ Γ)) [kV A σ h] Z K):VO P n (⟨d,none,.nW size x lo hi none⟩::rs) (bS σ Γ) [kV A σ h] Z K:=by
 unfold slcU at hs;split at hs
 case h_2=>cases hs
 rename_i s vs hb;split at hs
 case h_2=>cases hs
 rename_i l m hl hm;split at hs
 case h_2=>cases hs
 rename_i fI;simp only[vF]at fI;obtain⟨c1,c2,c3,c4,c5,c6,c7⟩:=fI;cases hs;have e1:=y9 c1;have e2:=Cl c2;have e3:=y9 c3;have e4:=im c4;have e5:=im c5;have e6:=im c6;have hcB:¬c < iV:=fun hh=>by have:Nat.blt c iV=true:=Nat.ble_eq_true_of_le hh;rw[hc]at this;cases this
 have hg:=g.grow _ (zT hb);simp only[NJ]at hg;have Cw:(c - iV+k)*size<=σ.cap b*size:=by rw[e1]at hg;omega
 have hcap2:c - iV+k<=σ.cap b:=Nat.le_of_mul_le_mul_right Cw e2;have hid:=g.ids _ (zT hb);have ob:=(gM g hx).1;have hxe:Dy (bS σ Γ) x=.slice (some ⟨σ.qW b,σ.off b+o,none⟩) k (σ.cap b - (c - iV)):=by
  simp only[Dy,ob,Qv,br,qw,F2,if_neg hcB]
 have GN:=AK (y:=m) (dd:=some 0) g rfl hl e5;have Ya:=AK (y:=σ.cap b - (c - iV)) (dd:=some k) g rfl hm Zo;refine iO rfl ?_ (v:=rn σ (.slice (some ⟨b,o+l*size,none⟩) (m - l) (c+l))) ?_ (aN (bR.slc hid))
 ·rw[vX];intro y hy;simp only[iI,Q9,Q7]at hy;rcases hy with rfl|(hy|hy)|hy
  ·simp[known,ob]
  ·exact GN.2 y hy
  ·exact Ya.2 y hy
  ·cases hy
 ·have hbd:z5 k (σ.cap b - (c - iV)) (lo.map (Dy (bS σ Γ))) (hi.map (Dy (bS σ Γ))) none=some (l,m,σ.cap b - (c - iV)):=by
   have b0:jr (σ.cap b - (c - iV)) (some (σ.cap b - (c - iV))) none=some (σ.cap b - (c - iV)):=rfl;unfold z5;rw[b0,Option.bind_some];simp only[Option.isSome_none,vJ,if_false];rw[Ya.1,Option.bind_some,GN.1];rfl
  simp only[kR,hxe,Qy,hbd,Qz,br,qw,F2,if_neg (show ¬c+l < iV by omega)];have pB:c+l - iV=c - iV+l:=by omega
  have haddr:(if σ.cap b - (c - iV)=l then σ.off b+o else σ.off b+o+l*size)=σ.off b+(o+l*size):=by
   split
   ·rename_i hh;rcases vP.1 c7 with q|q
    ·have:=Cl q;omega
    ·have:=y9 q;subst this;simp
   ·omega
  rw[haddr,pB,Nat.sub_sub]
theorem RD {F:CF}(hF:ow A P N0 F){r:R}{bG:PR}(he:zz N0 F r Γ h nx=some bG)(g:ku N0 σ (Γ.map (·.2)) h nx)
 (aN:∀v h' aT aF,bG=.val v h' aT->Ag nx σ aF->nx<=aT->ku N0 aF (v::Γ.map (·.2)) h' aT->VO P n rs (ak d (rn aF v) (bS aF Γ)) [kV A aF h'] Z K)
 (pQ:∀ch h' aT aF,bG=.um ch h' aT->Ag nx σ aF->nx<=aT->ku N0 aF (ch.map (·.v)) h' aT->Z (F3 aF ch) (bS σ Γ) [kV A aF h']):
 VO P n (⟨d,none,r⟩::rs) (bS σ Γ) [kV A σ h] Z K:=by
 have same:∀v,bG=.val v h nx->bR nx v->VO P n rs (ak d (rn σ v) (bS σ Γ)) [kV A σ h] Z K:=fun v e hs=>aN v h nx σ e (.refl _ _) (Qj _) (B0 g hs)
 have pur:kf r=true->Bo N0 r Γ h nx=some bG->VO P n (⟨d,none,r⟩::rs) (bS σ Γ) [kV A σ h] Z K:=fun hp he=>by
  unfold Bo at he;split at he
  case h_2=>cases he
  rename_i hb;simp only[vF]at hb;split at he
  case h_2=>cases he
  rename_i v hv;cases he;exact WT g hp hb.2.1 hb.2.2.1 hb.2.2.2 hv (same v rfl)
 cases r
 case cj x=>
  simp only[zz]at he;split at he
  case h_2=>cases he
  rename_i b o hx;split at he
  case h_2=>cases he
  rename_i v hr;cases he;exact RB g hx hr (same v rfl)
 case gS m x=>
  simp only[zz]at he;split at he
  case h_2=>cases he
  rename_i b o hx;split at he
  case h_2=>cases he
  rename_i us hr;cases he;exact RC g hx hr (same _ rfl)
 case alloc t z=>
  simp only[zz]at he;split at he
  case h_2=>cases he
  rename_i hz;cases he;exact RA g hz fun aF a g'=>aN _ _ _ aF rfl a (Qk _) g'
 case box t x=>
  simp only[zz]at he;split at he
  case h_2=>cases he
  rename_i v hx;cases he;exact op_box g hx fun aF a g'=>aN _ _ _ aF rfl a (Qk _) g'
 case lJ t len z ps=>
  simp only[zz]at he;split at he
  case h_2=>cases he
  rename_i hb;simp only[vF]at hb;split at he
  case h_2=>cases he
  rename_i out ho;cases he;exact Mu g hb.1 hb.2.1 ho (Cl hb.2.2) fun aF a g'=>aN _ _ _ aF rfl a (Qk _) g'
 case store m x y=>
  simp only[zz]at he;split at he
  case h_2=>cases he
  rename_i b o u hx hy;split at he
  case h_2=>cases he
  rename_i hm;split at he
  case h_2=>cases he
  rename_i h' hw;cases he;exact RE g hx hy (y9 hm) hw fun g'=>aN _ _ _ σ rfl (.refl _ _) (Qj _) g'
 case append t size bytes zero s x=>
  simp only[zz]at he;split at he
  case h_2=>cases he
  rename_i sv xv hs hx;split at he
  case h_2=>cases he
  rename_i xs h' ht;split at he
  case h_2=>cases he
  rename_i m ys hy;split at he
  case h_2=>cases he
  rename_i hb;simp only[vF,vL]at hb;cases he;exact Mt g hs hx ht hy hb.1 (y9 hb.2.1) (Y9 hb.2.2.1) (im hb.2.2.2.1) (im hb.2.2.2.2.1) (Cl hb.2.2.2.2.2.1) (Y9 hb.2.2.2.2.2.2) fun aF a g'=>aN _ _ _ aF rfl a (Qk _) g'
 case call f xs=>
  simp only[zz]at he;split at he
  case h_2=>cases he
  rename_i args ha;exact WS hF g ha he aN pQ
 case nW size x lo hi mx=>
  simp only[zz]at he;split at he
  ·rename_i b o k c hx;split at he
   ·exact pur rfl he
   ·rename_i hc;split at he
    case h_2=>cases he
    rename_i v hs;cases he;exact WU g hx hc hs (same v rfl)
  ·exact pur rfl he
 all_goals first
  |exact pur rfl he
  |(simp only[zz,Bo,kf,vI]at he;cases he;done)
theorem r9 {F:CF}(hF:ow A P N0 F):∀{rs:List RO} {Γ:Env} {h:Mp} {nx:Nat} {σ:Sg} {bG:OR},wV N0 F rs Γ h nx=some bG->ku N0 σ (Γ.map (·.2)) h nx->
 (∀aw h' aT aF,bG=.ok aw h' aT->Ag nx σ aF->nx<=aT->ku N0 aF (aw.map (·.2)) h' aT->K (bS aF aw) [kV A aF h'])->
 (∀aw ch h' aT aF,bG=.um ch aw h' aT->Ag nx σ aF->nx<=aT->ku N0 aF (ch.map (·.v)++aw.map (·.2)) h' aT->Z (F3 aF ch) (bS aF aw) [kV A aF h'])->VO P n rs (bS σ Γ) [kV A σ h] Z K:=by
 intro rs
 induction rs with
 |nil=>
  intro Γ h nx σ bG he g aN pQ;simp only[wV,X1]at he;exact VO.nil (aN Γ h nx σ he.symm (.refl _ _) (Qj _) g)
 |cons x rs ih=>
  intro Γ h nx σ bG he g aN pQ;obtain⟨d,gd,r⟩:=x;have go:∀{bG:OR},(match zz N0 F r Γ h nx with
   |none=>none
   |some (.um ch h' aT)=>some (.um ch Γ h' aT)
   |some (.val v h' aT)=>wV N0 F rs (ak d v Γ) h' aT)=some bG->
   (∀aw h' aT aF,bG=.ok aw h' aT->Ag nx σ aF->nx<=aT->ku N0 aF (aw.map (·.2)) h' aT->K (bS aF aw) [kV A aF h'])->
   (∀aw ch h' aT aF,bG=.um ch aw h' aT->Ag nx σ aF->nx<=aT->ku N0 aF (ch.map (·.v)++aw.map (·.2)) h' aT->Z (F3 aF ch) (bS aF aw) [kV A aF h'])->VO P n (⟨d,none,r⟩::rs) (bS σ Γ) [kV A σ h] Z K:=by
   intro bG he aN pQ;cases hr:zz N0 F r Γ h nx with
   |none=>rw[hr]at he;cases he
   |some pr=>
    rw[hr]at he;refine RD hF hr g ?_ ?_
    ·rintro v h' aT aF rfl a le g'
     simp only at he;rw[<- Kk];refine ih he ⟨g'.fix,g'.le,g'.ids,g'.grow,g'.cells,Fu g'.bz⟩ ?_ ?_
     ·intro cr h2 Rq NA e a2 le2 g2;exact aN cr h2 Rq NA e (a.trans a2 le) (Ql le le2) g2
     ·intro cr ch h2 Rq NA e a2 le2 g2;exact pQ cr ch h2 Rq NA e (a.trans a2 le) (Ql le le2) g2
    ·rintro ch h' aT aF rfl a le g'
     simp only[X1]at he;rw[sh a g.bz];exact pQ Γ ch h' aT aF he.symm a le (g'.with fun u hu=>by
      rcases Q7.1 hu with hu|hu
      ·exact g'.bz u hu
      ·exact(g.bz u hu).mono le)
  have skip:∀{bG:OR},wV N0 F rs (ak d undef Γ) h nx=some bG->
   (∀aw h' aT aF,bG=.ok aw h' aT->Ag nx σ aF->nx<=aT->ku N0 aF (aw.map (·.2)) h' aT->K (bS aF aw) [kV A aF h'])->
   (∀aw ch h' aT aF,bG=.um ch aw h' aT->Ag nx σ aF->nx<=aT->ku N0 aF (ch.map (·.v)++aw.map (·.2)) h' aT->Z (F3 aF ch) (bS aF aw) [kV A aF h'])->VO P n rs (ak d undef (bS σ Γ)) [kV A σ h] Z K:=by
   intro bG he aN pQ;have hu:rn σ undef=undef:=dN rfl;have:=ih (σ:=σ) he (g.with (Fu (B0 g (bR.plain rfl)).bz)) aN pQ;rw[Kk,hu]at this;exact this
  cases gd with
  |none=>
   simp only[wV,Hv]at he;exact go he aN pQ
  |some sb=>
   obtain⟨s,b⟩:=sb;simp only[wV,Hv]at he;cases hl:look Γ s with
   |none=>rw[hl]at he;cases he
   |some u=>
    rw[hl]at he;cases u <;> try (cases he;done)
    case tuple vs=>
     simp only at he;cases hv:vs.toList with
     |cons x l=>rw[hv]at he;cases he
     |nil=>
      rw[hv]at he;have e:vs=#[]:=vD.1 (by rw[hv]);subst e;exact Cb (by rw[iD,hl];simp[undef]) (skip he aN pQ)
    rename_i c;have dz:look (bS σ Γ) s=some (.bool c):=by rw[iD,hl];simp
    simp only at he;cases Hz:(c==b)with
    |true=>
     rw[Hz]at he;have e:c=b:=by simpa using Hz
     subst e;exact zG dz (go he aN pQ)
    |false=>
     rw[Hz]at he;exact yx dz Hz (skip he aN pQ)
end
def rnX(σ:Sg):Ex->Exit
 |.normal=>.normal
 |.exit i=>.exit i
 |.ret=>.ret
 |.um ch=>.panic (F3 σ ch)
def zy:Ex->List Value
 |.um ch=>ch.map (·.v)
 |_=>[]
section
variable {P:Program} {N0 n L:Nat}
def G6(A:List kB)(P:Program)(N0 n:Nat)(c:IC)(f:Env->Mp->Nat->IR):Prop:=∀Γ h nx e aw h' aT,f Γ h nx=some (e,aw,h',aT)->∀σ,ku N0 σ (Γ.map (·.2)) h nx->∀Q:Exit->Env->SH->Prop,
 (∀aF,Ag nx σ aF->nx<=aT->ku N0 aF (zy e++aw.map (·.2)) h' aT->Q (rnX aF e) (bS aF aw) [kV A aF h'])->VC P n c (bS σ Γ) [kV A σ h] Q
theorem Ii {c:IC}{f:Env->Mp->Nat->IR}(hc:G6 A P N0 n c f):∀k,G6 A P N0 n (.loop c) (EZ f k):=by
 intro k Γ h nx e aw h' aT he σ g Q hq;refine VC.loop (α:=Nat×Env×Mp×Nat×Sg) (aW:=fun s=>bS s.2.2.2.2 s.2.1) (Hf:=fun s=>[kV A s.2.2.2.2 s.2.2.1])
  (I:=fun s=>EZ f s.1 s.2.1 s.2.2.1 s.2.2.2.1=some (e,aw,h',aT)/\Ag nx σ s.2.2.2.2/\nx<=s.2.2.2.1/\ku N0 s.2.2.2.2 (s.2.1.map (·.2)) s.2.2.1 s.2.2.2.1) (μ:=fun s=>s.1) (k,Γ,h,nx,σ)
  ⟨he,.refl _ _,Qj _,g⟩ Sub.refl (aj.refl _) ?_
 rintro⟨j,YO,h1,nx1,σ1⟩ ⟨e1,a1,U7,g1⟩
 simp only at e1 a1 U7 g1|-;cases j with
 |zero=>cases e1
 |succ j=>
  simp only[EZ]at e1;cases hb:f YO h1 nx1 with
  |none=>rw[hb]at e1;cases e1
  |some r=>
   obtain⟨x,cr,h2,Rq⟩:=r;rw[hb]at e1;refine hc _ _ _ _ _ _ _ hb σ1 g1 _ fun aF a le g'=>?_
   cases x with
   |normal=>
    simp only at e1;exact⟨(j,cr,h2,Rq,aF),⟨e1,a1.trans a U7,Ql U7 le,by simpa[zy]using g'⟩,Qn _,Sub.refl,aj.refl _⟩
   |exit i=>cases e1;exact hq aF (a1.trans a U7) (Ql U7 le) g'
   |ret=>cases e1;exact hq aF (a1.trans a U7) (Ql U7 le) g'
   |um ch=>cases e1;exact hq aF (a1.trans a U7) (Ql U7 le) g'
theorem gJ {e:Value->Value->Bool}(he:∀a b,e a b=true->a=b):∀{l m:List Value},Om e l m=true->l=m:=by
 intro l
 induction l with
 |nil=>intro m h;cases m with
  |nil=>rfl
  |cons=>simp[Om]at h
 |cons a l ih=>intro m h;cases m with
  |nil=>simp[Om]at h
  |cons b m=>
   simp only[Om,vF]at h;rw[he _ _ h.1,ih h.2]
theorem gK:∀(k:Nat) {a b:Value},K0 k a b=true->a=b:=by
 intro k
 induction k with
 |zero=>intro a b h;simp[K0]at h
 |succ k ih=>
  intro a b h;unfold K0 at h;split at h <;> (try simp only[vF,beq_iff_eq,decide_eq_true_eq]at h)
  all_goals first
   |rfl
   |(cases h;done)
   |(obtain⟨h1,h2⟩:=h;subst h1;subst h2;rfl)
   |(subst h;rfl)
   |(obtain⟨h1,h2⟩:=h;rw[y9 h1,y9 h2])
   |(obtain⟨h1,h2,h3⟩:=h;rw[h1,y9 h2,y9 h3])
   |(rw[y9 h])
   |(obtain⟨h1,h2⟩:=h;rw[h1,ih h2])
   |(rw[vD.1 (gJ (fun _ _=>ih) h)])
   |(obtain⟨h1,h2,h3⟩:=h;rw[h1,vD.1 (gJ (fun _ _=>ih) h2),vD.1 (gJ (fun _ _=>ih) h3)])
theorem KX:∀{Γ Δ:Env},eqE Γ Δ=true->Γ=Δ:=by
 intro Γ
 induction Γ with
 |nil=>intro Δ h;cases Δ with
  |nil=>rfl
  |cons=>simp[eqE]at h
 |cons p Γ ih=>
  intro Δ h;obtain⟨s,x⟩:=p;cases Δ with
  |nil=>simp[eqE]at h
  |cons q Δ=>
   obtain⟨t,y⟩:=q;simp only[eqE,vF]at h;rw[y9 h.1,gK 20 h.2.1,ih h.2.2]
theorem KZ:∀{l m:List MapEntry},eqM l m=true->l=m:=by
 intro l
 induction l with
 |nil=>intro m h;cases m with
  |nil=>rfl
  |cons=>simp[eqM]at h
 |cons a l ih=>intro m h;cases m with
  |nil=>simp[eqM]at h
  |cons b m=>
   simp only[eqM,vF]at h;obtain⟨⟨h1,h2⟩,h3,h4⟩:=h;cases a;cases b;simp only at h1 h2 h3;rw[gK 20 h1,gK 20 h2,y9 h3,ih h4]
theorem KW {a b:tQ}(h:eqB a b=true):a=b:=by
 unfold eqB at h;split at h <;> (try simp only[vF,decide_eq_true_eq]at h)
 ·rw[gJ (fun _ _=>gK 20) h]
 ·rw[y9 h.1,gJ (fun _ _=>gK 20) h.2]
 ·rw[y9 h.2,vD.1 (KZ h.1)]
 ·rw[h.1,y9 h.2]
 ·cases h
theorem KY:∀{Γ Δ:Mp},eqH Γ Δ=true->Γ=Δ:=by
 intro Γ
 induction Γ with
 |nil=>intro Δ h;cases Δ with
  |nil=>rfl
  |cons=>simp[eqH]at h
 |cons p Γ ih=>
  intro Δ h;obtain⟨s,x⟩:=p;cases Δ with
  |nil=>simp[eqH]at h
  |cons q Δ=>
   obtain⟨t,y⟩:=q;simp only[eqH,vF]at h;rw[y9 h.1,KW h.2.1,ih h.2.2]
theorem KS {F:CF}{aP:List Nat}{Γ Δ:Env}{h h1:Mp}{nx n1:Nat}:∀{r:List (List RO)},Jz N0 F aP Γ h nx Δ h1 n1 r=true->∀rs∈r,∃cr,wV N0 F rs Γ h nx=some (.ok cr h1 n1)/\aJ aP cr=Δ:=by
 intro r
 induction r with
 |nil=>intro _ rs h;cases h
 |cons x r ih=>
  intro he rs dC;simp only[Jz]at he;split at he
  case h_2=>cases he
  rename_i aw h' aT ho;split at he
  case h_2=>cases he
  rename_i hE;simp only[vF]at hE;rcases Q9.1 dC with rfl|dC
  ·exact⟨aw,by rw[ho,y9 hE.2.1,KY hE.2.2],KX hE.1⟩
  ·exact ih he rs dC
theorem Pd {F:CF}(hF:ow A P N0 F)(L:Nat):∀c:IC,G6 A P N0 n c (jq N0 F L c):=by
 intro c
 induction c with
 |skip=>
  intro Γ h nx e aw h' aT he σ g Q hq;simp only[jq,X1,X2]at he;obtain⟨rfl,rfl,rfl,rfl⟩:=he;exact VC.skip (hq σ (.refl _ _) (Qj _) (by simpa[zy]using g))
 |lE rs aP=>
  intro Γ h nx e aw h' aT he σ g Q hq;simp only[jq]at he;cases ho:wV N0 F rs Γ h nx with
  |none=>rw[ho]at he;cases he
  |some r=>
   rw[ho]at he;refine VC.lE (r9 hF ho g ?_ ?_)
   ·rintro cr h2 Rq NA rfl a le g2
    simp only[X1,X2]at he;obtain⟨rfl,rfl,rfl,rfl⟩:=he;have:=hq NA a le (by simpa[zy]using g2.with (o9 g2.bz));rw[si]at this;exact this
   ·rintro cr ch h2 Rq NA rfl a le g2
    simp only[X1,X2]at he;obtain⟨rfl,rfl,rfl,rfl⟩:=he;exact hq NA a le (by simpa[zy]using g2)
 |draw ri aP=>
  intro Γ h nx e aw h' aT he σ g Q hq;simp only[jq]at he;split at he
  case h_1=>cases he
  rename_i rs r;cases ho:wV N0 F rs Γ h nx with
  |none=>rw[ho]at he;cases he
  |some bG=>
   rw[ho]at he;cases bG with
   |um ch YO h1 n1=>
    cases he
   |ok YO h1 n1=>
    simp only at he;have first:∀Q2:Env->SH->Prop,(∀aF,Ag nx σ aF->nx<=n1->ku N0 aF (YO.map (·.2)) h1 n1->Q2 (aJ aP (bS aF YO)) [kV A aF h1])->VO P n rs (bS σ Γ) [kV A σ h] (fun _ _ _=>False) fun aw H'=>Q2 (aJ aP aw) H':=fun Q2 l7=>by
     refine r9 hF ho g ?_ ?_
     ·rintro cr h2 Rq NA e2 a le g2
      cases e2;exact l7 NA a le g2
     ·rintro cr ch h2 Rq NA e2
      cases e2
    cases r with
    |nil=>
     simp only[X1,X2]at he;obtain⟨rfl,rfl,rfl,rfl⟩:=he;exact VC.uZ (first (fun Γ H=>Q .normal Γ H) fun aF a le g2=>by have:=hq aF a le (by simpa[zy]using g2.with (o9 g2.bz));rw[si]at this;exact this)
    |cons r0 r1=>
     simp only at he;split at he
     case h_2=>cases he
     rename_i hb;simp only[X1,X2]at he;obtain⟨rfl,rfl,rfl,rfl⟩:=he;refine VC.draw fun rs2 ξ=>?_
     have go:∀cr,wV N0 F rs2 Γ h nx=some (.ok cr h1 n1)->aJ aP cr=aJ aP YO->VO P n rs2 (bS σ Γ) [kV A σ h] (fun _ _ _=>False) fun aw H'=>Q .normal (aJ aP aw) H':=fun cr JZ e2=>by
      refine r9 hF JZ g ?_ ?_
      ·rintro Γ3 h3 nx3 σ3 e3 a le g3
       cases e3;have:=hq σ3 a le (by rw[<- e2];simpa[zy]using g3.with (o9 g3.bz));rw[<- e2,si]at this;exact this
      ·rintro Γ3 ch h3 nx3 σ3 e3
       cases e3
     rcases Q9.1 ξ with rfl|ξ
     ·exact go YO ho rfl
     ·obtain⟨cr,o1,o2⟩:=KS hb _ ξ;exact go cr o1 o2
 |seq x y ihx ihy=>
  intro Γ h nx e aw h' aT he σ g Q hq;simp only[jq]at he;cases hb:jq N0 F L x Γ h nx with
  |none=>rw[hb]at he;cases he
  |some r=>
   obtain⟨e2,cr,h2,Rq⟩:=r;rw[hb]at he;refine VC.seq (ihx _ _ _ _ _ _ _ hb σ g _ fun aF a le g'=>?_);cases e2 with
   |normal=>
    exact ihy _ _ _ _ _ _ _ he aF (by simpa[zy]using g') Q fun NA a2 le2 g2=>hq NA (a.trans a2 le) (Ql le le2) g2
   |exit i=>cases he;exact hq aF a le g'
   |ret=>cases he;exact hq aF a le g'
   |um ch=>cases he;exact hq aF a le g'
 |cond c x y ihx ihy=>
  intro Γ h nx e aw h' aT he σ g Q hq;simp only[jq]at he;split at he
  ·rename_i hc;have Le:=(gM g hc).1;rw[qA]at Le;exact VC.oE Le (ihx _ _ _ _ _ _ _ he σ g Q hq)
  ·rename_i hc;have Le:=(gM g hc).1;rw[qA]at Le;exact VC.oD Le (ihy _ _ _ _ _ _ _ he σ g Q hq)
  ·cases he
 |block id x ih=>
  intro Γ h nx e aw h' aT he σ g Q hq;simp only[jq]at he;cases hb:jq N0 F L x Γ h nx with
  |none=>rw[hb]at he;cases he
  |some r=>
   obtain⟨e2,cr,h2,Rq⟩:=r;rw[hb]at he;refine VC.block (ih _ _ _ _ _ _ _ hb σ g _ fun aF a le g'=>?_);cases e2 with
   |normal=>cases he;exact hq aF a le g'
   |exit i=>
    simp only at he;cases hi:Nat.beq i id with
    |true=>
     rw[hi]at he;cases he;show bb id Q (.exit i) _ _;simp only[bb,y9 hi,if_true];exact hq aF a le (by simpa[zy]using g')
    |false=>
     rw[hi]at he;cases he;show bb id Q (.exit i) _ _;simp only[bb,if_neg (Y9 hi)];exact hq aF a le g'
   |ret=>cases he;exact hq aF a le g'
   |um ch=>cases he;exact hq aF a le g'
 |loop x ih=>exact Ii ih L
 |exit id=>
  intro Γ h nx e aw h' aT he σ g Q hq;simp only[jq,X1,X2]at he;obtain⟨rfl,rfl,rfl,rfl⟩:=he;exact VC.exit (hq σ (.refl _ _) (Qj _) (by simpa[zy]using g))
 |ret=>
  intro Γ h nx e aw h' aT he σ g Q hq;simp only[jq,X1,X2]at he;obtain⟨rfl,rfl,rfl,rfl⟩:=he;exact VC.ret (hq σ (.refl _ _) (Qj _) (by simpa[zy]using g))
 |scope x ih=>
  intro Γ h nx e aw h' aT he σ g Q hq;simp only[jq]at he;refine VC.scope (ih _ _ _ _ _ _ _ he σ g _ fun aF a le g'=>⟨fun l=>?_,hq aF a le g'⟩);cases e <;> simp[rnX]
 |label l=>
  intro Γ h nx e aw h' aT he σ g Q hq;simp only[jq,X1,X2]at he;obtain⟨rfl,rfl,rfl,rfl⟩:=he;exact VC.label (hq σ (.refl _ _) (Qj _) (by simpa[zy]using g))
 |gp g ps x y ihx ihy=>intro Γ h nx e aw h' aT he;simp only[jq]at he;cases he
 |free rs an aP=>intro Γ h nx e aw h' aT he;simp only[jq]at he;cases he
theorem ML {nx:Nat}{σ:Sg}{Γ:Env}{h:Mp}{bz:List Value}(g:ku N0 σ bz h nx)(hv:∀v∈Γ.map (·.2),bR nx v):∀{r:List RV} {vs:List Value},yf Γ h r=some vs->Ng (bS σ Γ) [kV A σ h] r (vs.map (rn σ))/\∀v∈vs,bR nx v:=by
 intro r
 induction r with
 |nil=>intro vs e;simp only[yf,X1]at e;subst e;exact⟨.nil,fun v hv=>by cases hv⟩
 |cons x r ih=>
  intro vs e;cases x with
  |tmp t=>
   simp only[yf]at e;split at e
   case h_2=>cases e
   rename_i v l hl hr;cases e;obtain⟨i1,i2⟩:=ih hr;refine⟨.tmp (by rw[iD,hl];rfl) i1,fun u hu=>?_⟩;rcases Q9.1 hu with rfl|hu
   ·exact hv _ (xK hl)
   ·exact i2 u hu
  |bT t=>
   simp only[yf]at e;split at e
   case h_2=>cases e
   rename_i b o hl;split at e
   case h_2=>cases e
   rename_i v l hr ez;cases e;obtain⟨i1,i2⟩:=ih ez;refine⟨.bT (b:=σ.qW b) (o:=σ.off b+o) (by rw[iD,hl];simp[qw]) ?_ i1,fun u hu=>?_⟩
   ·simp only[V6,V7,vd];exact eF hr _ Jo
   ·rcases Q9.1 hu with rfl|hu
    ·exact my g hr _ Zs
    ·exact i2 u hu
  |aS t m=>
   simp only[yf]at e;split at e
   case h_2=>cases e
   rename_i b o hl;split at e
   case h_2=>cases e
   rename_i us l hr ez;cases e;obtain⟨i1,i2⟩:=ih ez;refine⟨?_,fun u hu=>?_⟩
   ·have he:rn σ (.agg us.toArray)=.agg (us.map (rn σ)).toArray:=by simp
    rw[Q3,he];refine .aS (b:=σ.qW b) (o:=σ.off b+o) (by rw[iD,hl];simp[qw]) (by rw[Vv];exact nE hr) ?_ i1;simp only[V6,V7,vd];exact eF hr
   ·rcases Q9.1 hu with rfl|hu
    ·exact bR.agg (my g hr)
    ·exact i2 u hu
def FeOk(P:Program)(f:Nat):FE->Prop
 |.fir F=>∃kp od,C1 P kp od f=some F
def sA(P:Program)(Cd:List (Nat×FE)):Prop:=∀p∈Cd,FeOk P p.1 p.2
theorem sA.nil:sA P []:=fun p hp=>by cases hp
theorem sA.cons {f:Nat}{R:aR}{kp:Nat->List Nat}{od:Nat->List (List Nat)}{Cd:List (Nat×FE)}(h:C1 P kp od f=some R)(t:sA P Cd):sA P ((f,.fir R)::Cd):=fun p hp=>by
 rcases Q9.1 hp with rfl|hp
 ·exact⟨kp,od,h⟩
 ·exact t p hp
theorem Xx {Cd:List (Nat×FE)}{f:Nat}{R:FE}(e:St Cd f=some R):(f,R)∈Cd:=by
 induction Cd with
 |nil=>cases e
 |cons p Cd ih=>
  obtain⟨i,b⟩:=p;simp only[St]at e;split at e
  ·rename_i hb;cases e;rw[y9 hb];simp
  ·simp[ih e]
theorem KH:∀{vs:List Value} {k:Nat},(aB k vs).map (·.2)=vs:=by
 intro vs
 induction vs with
 |nil=>intro k;rfl
 |cons v vs ih=>intro k;simp only[aB,Q3,ih]
theorem Tz(σ:Sg):∀{vs:List Value} {k:Nat},bS σ (aB k vs)=aB k (vs.map (rn σ)):=by
 intro vs
 induction vs with
 |nil=>intro k;rfl
 |cons v vs ih=>intro k;simp only[aB,Q3,<- ih];rfl
theorem Ue {Cd:List (Nat×FE)}{Tq:CF}(ht:sA P Cd)(ho:ow A P N0 Tq)(L:Nat):∀k,ow A P N0 (xg N0 Cd Tq L k):=by
 intro k
 induction k with
 |zero=>intro f args h nx bG he;simp only[xg]at he;cases he
 |succ k ih=>
  intro f args h nx bG he σ g;simp only[xg]at he;cases η:Tq f args h nx with
  |some v=>
   rw[η]at he;cases he;exact ho f args h nx _ η σ g
  |none=>
   rw[η]at he;simp only at he;cases hta:St Cd f with
   |none=>rw[hta]at he;cases he
   |some E=>
    have HC:=ht _ (Xx hta);rw[hta]at he;cases E with
    |fir R=>
     simp only at he;split at he
     case h_1=>cases he
     rename_i hn;obtain⟨kp,od,hl⟩:=HC;refine jb.intro hl (by rw[Vv];exact im hn) ?_;rw[<- Tz];cases hb:jq N0 (xg N0 Cd Tq L k) L R.body (aB 0 args) h nx with
     |none=>rw[hb]at he;cases he
     |some r=>
      obtain⟨e,aw,h',aT⟩:=r;rw[hb]at he;refine Pd ih L R.body _ _ _ _ _ _ _ hb σ (g.with (by rw[KH];exact g.bz)) _ fun aF a le g'=>?_
      have fin:∀x:Exit,(x=.normal∨x=.ret)->(match yf aw h' R.bG with|some vs=>some (PR.val (gw vs) h' aT)|none=>none)=some bG->ku N0 aF (aw.map (·.2)) h' aT->
       Ud R.bG (fun v Post=>∃v0 h' aT aF,bG=.val v0 h' aT/\Ag nx σ aF/\nx<=aT/\ku N0 aF [v0] h' aT/\v=rn aF v0/\Post=[kV A aF h'])
        (fun ch Post=>∃XT h' aT aF,bG=.um XT h' aT/\Ag nx σ aF/\nx<=aT/\ku N0 aF (XT.map (·.v)) h' aT/\ch=F3 aF XT/\Post=[kV A aF h']) x (bS aF aw) [kV A aF h']:=by
       intro x hx he g2;split at he
       case h_2=>cases he
       rename_i vs tK;cases he;obtain⟨r1,r2⟩:=ML g2 g2.bz tK;refine jJ ⟨hx,_,_,r1,aj.refl _,V.gw vs,h',aT,aF,rfl,a,le,g2.with (fun w hw=>by rw[QI.1 hw];exact bR.gw r2),(rn_tup aF vs).symm,rfl⟩
      cases e with
      |normal=>exact fin .normal (.inl rfl) he (by simpa[zy]using g')
      |ret=>exact fin .ret (.inr rfl) he (by simpa[zy]using g')
      |exit i=>cases he
      |um ch=>
       cases he;exact⟨_,aj.refl _,ch,h',aT,aF,rfl,a,le,g'.with (fun u hu=>g'.bz u (Zw _ hu)),rfl,rfl⟩
end
def qm(d a:Nat):RO:=⟨some d,none,.mv (.tmp a)⟩
def qk(d:Nat)(v:Int):RO:=⟨some d,none,.mv (.const (.int .i64 v))⟩
def qz(d:Nat)(b:Bool):RO:=⟨some d,none,.mv (.const (.bool b))⟩
def qo(d:Nat)(r:R):RO:=⟨some d,none,r⟩
def ql(d a:Nat):RO:=⟨some d,none,.cj (.tmp a)⟩
def qf(d o a:Nat):RO:=⟨some d,none,.JF o (.tmp a)⟩
def qi(d s a b:Nat):RO:=⟨some d,none,.xA s (.tmp a) (.tmp b)⟩
def qb(d:Nat)(o:BinOp)(a b:Nat):RO:=⟨some d,none,.bin o (.tmp a) (.tmp b)⟩
def qc(d:Nat)(o:BinOp)(a:Nat)(v:Int):RO:=⟨some d,none,.bin o (.tmp a) (.const (.int .i64 v))⟩
def qn(d a:Nat):RO:=⟨some d,none,.sU (.tmp a)⟩
def qs(n a b:Nat):RO:=⟨none,none,.store n (.tmp a) (.tmp b)⟩
def qp(d c a b:Nat):RO:=⟨some d,none,.pick (.tmp c) (.tmp a) (.tmp b)⟩
def qa(d c a:Nat):RO:=⟨some d,none,.pick (.tmp c) (.tmp a) (.const (.bool false))⟩
def qr(d c b:Nat):RO:=⟨some d,none,.pick (.tmp c) (.const (.bool true)) (.tmp b)⟩
def qe(d a i:Nat):RO:=⟨some d,none,.ext (.tmp a) i⟩
def tmps:List Nat->List Operand
 |[]=>[]
 |a::r=>.tmp a::tmps r
def qx(d f:Nat)(l:List Nat):RO:=⟨some d,none,.call f (tmps l)⟩
def qL(d a:Nat):RO:=⟨some d,none,.EW (.tmp a)⟩
def qN(d n a:Nat):RO:=⟨some d,none,.gS n (.tmp a)⟩
def qB(d t a:Nat):RO:=⟨some d,none,.box t (.tmp a)⟩
def qt(g:Nat)(x:RO):RO:=⟨x.dst,some (g,true),x.op⟩
def qu(g:Nat)(x:RO):RO:=⟨x.dst,some (g,false),x.op⟩
def qS(rs:List RO)(k:List Nat)(r:IC):IC:=.seq (.lE rs k) r
def qC(c:Nat)(a b:IC):IC:=.cond (.tmp c) a b
def WJ:List RO->Nat->RO
 |[],_=>default
 |x::_,0=>x
 |_::r,n+1=>WJ r n
def WV(l:List RO):List Nat->List RO
 |[]=>[]
 |i::r=>WJ l i::WV l r
def Fk(l:List RO):List (List Nat)->List (List RO)
 |[]=>[]
 |p::r=>WV l p::Fk l r
def qD(l:List RO)(ps:List (List Nat))(k:List Nat):IC:=.draw (Fk l ps) k
def oQ:IC->List (List Nat)
 |.skip|.exit _|.ret|.label _=>[]
 |.lE _ k|.draw _ k|.free _ _ k=>[k]
 |.seq a b|.cond _ a b|.gp _ _ a b=>oQ a++oQ b
 |.loop (.seq a (.seq b c))=>oQ a++(oQ c++oQ b)
 |.block _ b|.loop b|.scope b=>oQ b
def kpO(F:aR)(i:Nat):List Nat:=(oQ F.body).getD i []
def laid {X F:aR}(_h:F=X:=by(dsimp only[qm,qk,qz,qo,ql,qf,qi,qb,qc,qn,qs,qp,qa,qr,qe,tmps,qx,qL,qN,qB,qt,qu,qS,qC,WJ,WV,Fk,qD] <;> exact rfl)):aR:=F
theorem TKx {H R:SH}{A:List kB}(h:Tk H A R:=by(focus ((repeat (first|with_reducible exact Tk.here|apply Tk.there));done))):Tk H A R:=h
theorem bE {H D:SH}(h:aj H D:=by(first|with_reducible exact aj.refl|with_reducible exact aj.left|(focus ((try simp only[QJ]);(repeat (first|exact aj.nil|(apply aj.cons;(focus ((repeat (first|with_reducible exact Tk.here|apply Tk.there));done)))));done)))):aj H D:=h
theorem SPx {H D R:SH}(h:cz H D R:=by(focus ((repeat (first|exact cz.nil|(apply cz.cons;(focus ((repeat (first|with_reducible exact Tk.here|apply Tk.there));done)))));done))):cz H D R:=h
theorem Nh {G D:Env}(h:Sub G D:=by(repeat (first|exact Sub.nil|(apply Sub.cons;rfl)))):Sub G D:=h
theorem aE {α:Type}:(∀(a:α) (l r:List α),(a::l)++r=a::(l++r))/\(∀r:List α,([]:List α)++r=r):=⟨fun _ _ _=>rfl,fun _=>rfl⟩
theorem Xj {A:List kB}{P:Program}{N0:Nat}{Cd:List (Nat×FE)}{Tq:CF}(ht:sA P Cd)(ho:ow A P N0 Tq){L k f:Nat}{args:List Value}{v0:Value}{h1:Mp}{n1:Nat}(ha:args.all oZ=true)(he:xg N0 Cd Tq L k f args [] N0=some (.val v0 h1 n1)):
 ao P f args [A] (fun u Post=>∃σ,ku N0 σ [v0] h1 n1/\u=rn σ v0/\Post=[A,kV [] σ h1]):=by
 have g:ku N0 ⟨fun i=>i,fun _=>0,fun _=>0,fun _=>[]⟩ args [] N0:=⟨fun _ _=>⟨rfl,rfl⟩,Qj _,(fun p hp=>by cases hp),(fun p hp=>by cases hp),(fun p hp=>by cases hp),fun u hu=>bR.plain (vX.1 ha u hu)⟩;have hs:=Ue ht ho L k f args [] N0 _ he _ g;have cu:args.map (rn ⟨fun i=>i,fun _=>0,fun _=>0,fun _=>[]⟩)=args:=by
  conv=>rhs;rw[<- List.map_id args]
  exact Q1 fun u hu=>dN (vX.1 ha u hu)
 rw[cu]at hs;have nT:=hs.conv (H:=[A]) (R:=[]) (Q':=fun u Post=>∃σ,ku N0 σ [v0] h1 n1/\u=rn σ v0/\Post=[A,kV [] σ h1]) (Z':=fun _ _=>False) (by simp[cz,kV]) ?_ ?_
 ·exact nT.fun
 ·rintro u Post ⟨v1,h2,n2,σ1,e,_,_,g1,rfl,rfl⟩
  cases e;exact⟨[A,kV [] σ1 h1],⟨σ1,g1,rfl,rfl⟩,aj.perm (by simpa using EU)⟩
 ·rintro ch Post ⟨XT,h2,n2,σ1,e,_⟩
  cases e
def N9(h:Mp)(w:Nat)(b n c:Nat):Bool:=match Nat.blt c iV with
 |true=>Nat.ble n c
 |false=>match rR h b with
  |some (.grow s vs)=>Nat.beq s w&&Nat.beq c iV&&Nat.blt 0 w&&Nat.ble (n*w) vs.length
  |_=>false
theorem D5 {N0 nx:Nat}{σ:Sg}{bz:List Value}{h:Mp}(g:ku N0 σ bz h nx){w b n c:Nat}(hc:N9 h w b n c=true):n<=F2 σ b c:=by
 unfold N9 at hc;unfold F2;split at hc
 ·rename_i aI;rw[if_pos (Cl aI)];exact im hc
 ·rename_i aI;split at hc
  case h_2=>cases hc
  rename_i s vs hb;simp only[vF]at hc;obtain⟨⟨⟨h1,h2⟩,h3⟩,h4⟩:=hc;obtain rfl:=y9 h1;obtain rfl:=y9 h2;rw[if_neg (Nat.lt_irrefl _),Qp,Nat.sub_zero];have hg:=g.grow _ (zT hb);have hg:vs.length+(σ.tl b).length=σ.cap b*s:=hg;have h5:=im h4;have h6:=Cl h3;exact Nat.le_of_mul_le_mul_right (Ql h5 Zo) h6
def Df {α:Type}(f:List Value->Option α)(w:Nat):Nat->List Value->Option (List α)
 |0,_=>some []
 |n+1,us=>match f (us.take w)with
  |some x=>match Df f w n (us.drop w)with
   |some l=>some (x::l)
   |none=>none
  |none=>none
theorem qh {α:Type}{f:List Value->Option α}{w:Nat}:∀{n:Nat} {us:List Value} {l:List α},Df f w n us=some l->l.length=n/\∀i x,l[i]? =some x->f ((us.drop (i*w)).take w)=some x
 |0,us,l,h=>by
  obtain rfl:[]=l:=X0 h;exact⟨rfl,fun i x hx=>by simp at hx⟩
 |n+1,us,l,h=>by
  rw[Df]at h;split at h
  case h_2=>cases h
  rename_i x hx;split at h
  case h_2=>cases h
  rename_i r hr;obtain rfl:=X0 h;obtain⟨h1,h2⟩:=qh hr;refine⟨by rw[Vp,h1],fun i y hy=>?_⟩;cases i with
  |zero=>
   obtain rfl:x=y:=by simpa using hy
   simpa using hx
  |succ i=>
   have:=h2 i y (by simpa using hy);rw[List.drop_drop]at this;rw[Qq,Nat.add_comm];exact this
def W8 {α:Type}(h:Mp)(w:Nat)(f:List Value->Option α):Value->Option (List α)
 |.slice none 0 _=>some []
 |.slice (some ⟨b,o,none⟩) n c=>match Nat.beq o 0&&N9 h w b n c with
  |true=>match gZ h b 0 (n*w)with
   |some us=>Df f w n us
   |none=>none
  |false=>none
 |_=>none
theorem yd {N0 nx:Nat}{σ:Sg}{bz:List Value}{h:Mp}(g:ku N0 σ bz h nx){α:Type}{w:Nat}{f:List Value->Option α}{v:Value}{l:List α}(hr:W8 h w f v=some l):
 ∃(a:Option Addr) (c bk o:Nat) (us:Nat->List Value),rn σ v=.slice a l.length c/\(0 < l.length->a=some ⟨bk,o,none⟩/\l.length<=c)/\(∀i,i < l.length->∀y∈kA bk (o+i*w) (us i),y∈kV [] σ h)/\∀i x,l[i]? =some x->∃ws,us i=ws.map (rn σ)/\f ws=some x:=by
 unfold W8 at hr;split at hr
 ·obtain rfl:[]=l:=X0 hr;exact⟨none,_,0,0,fun _=>[],by simp;rfl,fun h=>absurd h Zs,fun i hi=>absurd hi Zs,fun i x hx=>by simp at hx⟩
 ·rename_i b o n c;split at hr
  case h_2=>cases hr
  rename_i hc;rw[vF]at hc;obtain rfl:=y9 hc.1;split at hr
  case h_2=>cases hr
  rename_i us EQ;obtain⟨h1,h2⟩:=qh hr;have Cw:=D5 g hc.2;have hm:=eF (σ:=σ) (A:=[]) EQ;have hl:=nE EQ;refine⟨some ⟨σ.qW b,σ.off b,none⟩,F2 σ b c,σ.qW b,σ.off b,fun i=>((us.drop (i*w)).take w).map (rn σ),?_,fun _=>⟨rfl,Zo⟩,fun i hi y hy=>?_,fun i x hx=>⟨_,rfl,h2 i x hx⟩⟩
  ·rw[h1,br];rfl
  ·refine hm y ?_;rw[Qh];refine ld (i:=i*w) (m:=w) ?_ y hy;show((us.drop (i*w)).take w).map (rn σ)=((us.map (rn σ)).drop (i*w)).take w;rw[List.map_take,List.map_drop]
 ·cases hr
def rdStr:List Value->Option ByteArray
 |[.string s]=>match Nat.ble s.size 1000 with|true=>some s|false=>none
 |_=>none
def se(h:Mp)(v:Value):Option (List ByteArray):=match W8 h 1 rdStr v with
 |some l=>match Nat.ble l.length 1000 with|true=>some l|false=>none
 |none=>none
theorem eC {N0 nx:Nat}{σ:Sg}{bz:List Value}{h:Mp}(g:ku N0 σ bz h nx){v:Value}{l:List ByteArray}(hr:se h v=some l):du (kV [] σ h) (rn σ v) l:=by
 unfold se at hr;split at hr
 case h_2=>cases hr
 rename_i l' hl;split at hr
 case h_2=>cases hr
 rename_i hb;obtain rfl:=X0 hr;have hb:=im hb;obtain⟨a,c,bk,o,us,h1,h2,h3,h4⟩:=yd g hl;refine⟨a,c,h1,Zo,fun i t ht=>?_⟩;have hi:=(Vh.1 ht).1;obtain⟨ws,e1,e2⟩:=h4 i t ht;unfold rdStr at e2;split at e2
 case h_2=>cases e2
 rename_i s;split at e2
 case h_2=>cases e2
 rename_i hs;obtain rfl:=X0 e2;refine⟨bk,o,(h2 Zo).1,?_,by have:=im hs;omega⟩;refine h3 i hi _ ?_;rw[e1,Nat.mul_one];exact kH.2 ⟨0,.string s,Zs,rfl⟩
def Yy(k lk ln lb p:Int)(s lt:ByteArray)(n:Nat):Bool:=decide (0<=k/\k < 256/\0<=lk/\lk < 256/\0<=lb/\lb < 18446744073709551616)&&decide (-9223372036854775808<=ln/\ln<=9223372036854775807/\-9223372036854775808<=p/\p<=9223372036854775807)&&(Nat.ble s.size 1000&&Nat.ble lt.size 1000&&Nat.ble n 1000)
def YI(kr:Value->Option (List Nd))(h:Mp):List Value->Option Nd
 |[.int .u8 k,.string s,.int .u8 lk,.int .i64 ln,.int .u64 lb,.string lt,.slice none 0 _,av,tv,kv,.int .i64 p]=>match se h av with
  |some a=>match se h tv with
   |some t=>match kr kv with
    |some ks=>match Yy k lk ln lb p s lt ks.length with
     |true=>some (.mk k.toNat s (.mk lk.toNat ln lb.toNat lt []) a t ks p)
     |false=>none
    |none=>none
   |none=>none
  |none=>none
 |_=>none
def RY:Nat->Mp->Value->Option (List Nd)
 |0,_,_=>none
 |f+1,h,v=>W8 h 11 (YI (RY f h) h) v
theorem Fw {N0 nx:Nat}{σ:Sg}{bz:List Value}{h:Mp}(g:ku N0 σ bz h nx):∀(f:Nat) (v:Value) (l:List Nd),RY f h v=some l->
 ∃(a:Option Addr) (c bk o:Nat) (us:Nat->List Value),rn σ v=.slice a l.length c/\(0 < l.length->a=some ⟨bk,o,none⟩/\l.length<=c)/\(∀i,i < l.length->∀y∈kA bk (o+i*11) (us i),y∈kV [] σ h)/\∀i x,l[i]? =some x->j7 (kV [] σ h) x (us i):=by
 intro f
 induction f with
 |zero=>intro v l h;cases h
 |succ f ih=>
  intro v l hr;obtain⟨a,c,bk,o,us,h1,h2,h3,h4⟩:=yd g hr;refine⟨a,c,bk,o,us,h1,h2,h3,fun i x hx=>?_⟩;obtain⟨ws,e1,e2⟩:=h4 i x hx;rw[e1];unfold YI at e2;split at e2
  case h_2=>cases e2
  rename_i k s lk ln lb lt lc av tv kv p;split at e2
  case h_2=>cases e2
  rename_i A hA;split at e2
  case h_2=>cases e2
  rename_i T hT;split at e2
  case h_2=>cases e2
  rename_i ks lY;split at e2
  case h_2=>cases e2
  rename_i aN;obtain rfl:=X0 e2;unfold Yy at aN;simp only[vF,decide_eq_true_eq]at aN;obtain⟨⟨⟨b1,b2,b3,b4,b5,b6⟩,b7,b8,b9,b10⟩,⟨b11,b12⟩,b13⟩:=aN;have b11:=im b11;have b12:=im b12;have b13:=im b13;obtain⟨a',c',XQ,o',Kw,k1,k2,k3,k4⟩:=ih kv ks lY;have aI:zN (kV [] σ h) (.mk lk.toNat ln lb.toNat lt []) [cv lk.toNat,vi ln,uv lb.toNat,.string lt,.slice none 0 lc]:=.mk (a:=none) (c:=lc) (bk:=0) (o:=0) (us:=fun _=>[]) ⟨Zo,Zo,Zo,Zo,Zd⟩ (fun h=>absurd h Zs) (fun i hi=>absurd hi Zs) (fun i x hx=>by simp at hx);have bB:=eC g hA;have bu:=eC g hT;by_cases tZ:0 < ks.length
  ·obtain⟨k5,k6⟩:=k2 tZ;have:=j7.mk (k:=k.toNat) (s:=s) (p:=p) (a:=a') (c:=c') (bk:=XQ) (o:=o') (us:=Kw) (kids:=ks) ⟨Zo,Zo,Zo,Zo⟩ aI bB bu (fun _=>k5) k3 k4 k6;have e:([Value.int .u8 k,.string s,.int .u8 lk,.int .i64 ln,.int .u64 lb,.string lt,.slice none 0 lc,av,tv,kv,.int .i64 p]).map (rn σ)=[cv k.toNat,.string s]++[cv lk.toNat,vi ln,uv lb.toNat,.string lt,.slice none 0 lc]++[rn σ av,rn σ tv,.slice a' ks.length c',vi p]:=by
    exact zBX
   rw[e];exact this
  ·have S9:ks=[]:=vj Zo;subst S9;have:=j7.mk (k:=k.toNat) (s:=s) (p:=p) (a:=a') (c:=c') (bk:=XQ) (o:=o') (us:=Kw) (kids:=[]) ⟨Zo,Zo,Zs,Zo⟩ aI bB bu (fun h=>absurd h Zs) k3 k4 (Qs _);have e:([Value.int .u8 k,.string s,.int .u8 lk,.int .i64 ln,.int .u64 lb,.string lt,.slice none 0 lc,av,tv,kv,.int .i64 p]).map (rn σ)=[cv k.toNat,.string s]++[cv lk.toNat,vi ln,uv lb.toNat,.string lt,.slice none 0 lc]++[rn σ av,rn σ tv,.slice a' ([]:List Nd).length c',vi p]:=by
    exact zBX
   rw[e];exact this
def Ba {α:Type}{X F:α}(_h:F=X:=by(dsimp only[qm,qk,qz,qo,ql,qf,qi,qb,qc,qn,qs,qp,qa,qr,qe,tmps,qx,qL,qN,qB,qt,qu,qS,qC,WJ,WV,Fk,qD] <;> exact rfl)):α:=F
def U0(x:Nat):List Nat->List Nat
 |[]=>[x]
 |y::r=>if x < y then x::y::r else if x=y then y::r else y::U0 x r
def Ax(a b:List Nat):List Nat:=b.foldr U0 a
def tmN:List Operand->List Nat
 |[]=>[]
 |.tmp t::r=>t::tmN r
 |_::r=>tmN r
def Zj(d:Nat):List Nat->List Nat
 |[]=>[]
 |y::r=>if d=y then Zj d r else y::Zj d r
def Xa:List Oper->List Nat->List Nat
 |[],a=>a
 |o::r,a=>Ax (match o.dst with|some d=>Zj d (Xa r a)|none=>Xa r a) (tmN o.op.operands.toList)
def itN(f:List Nat->List Nat):Nat->List Nat->List Nat
 |0,l=>l
 |n+1,l=>match Ax l (f l)with|m=>if m.length=l.length then l else itN f n m
def Jy(ps:List Nat):List Nat->List Nat
 |[]=>[]
 |y::r=>if ps.contains y then Jy ps r else y::Jy ps r
def LI(rt:List Nat):Code->List Nat->List (Nat×List Nat)->List Nat
 |.region _ ops _,a,_=>Xa ops.toList a
 |.seq x y,a,ex=>LI rt x (LI rt y a ex) ex
 |.cond c x y,a,ex=>Ax (Ax (LI rt x a ex) (LI rt y a ex)) (tmN [c])
 |.block id b,a,ex=>LI rt b a ((id,a)::ex)
 |.loop b,_,ex=>itN (fun l=>LI rt b l ex) 20 []
 |.exit id,_,ex=>assoc ex id
 |.ret,_,_=>rt
 |.scope b,a,ex=>LI rt b a ex
 |.rangeFunc g ps x b,a,ex=>Ax (Ax (Jy ps.toList (LI rt x (LI rt b [] ex) ex)) a) (tmN [g])
 |_,a,_=>a
def To(rt:List Nat):Code->List Nat->List (Nat×List Nat)->List (Nat×List Nat)
 |.region id _ _,a,_=>[(id,a)]
 |.seq x y,a,ex=>To rt x (LI rt y a ex) ex++To rt y a ex
 |.cond _ x y,a,ex=>To rt x a ex++To rt y a ex
 |.block id b,a,ex=>To rt b a ((id,a)::ex)
 |.loop b,_,ex=>To rt b (itN (fun l=>LI rt b l ex) 20 []) ex
 |.scope b,a,ex=>To rt b a ex
 |.rangeFunc _ _ x b,_,ex=>To rt x (LI rt b [] ex) ex++To rt b [] ex
 |_,_,_=>[]
def MJ:List ResultVar->List Nat
 |[]=>[]
 |.tmp t::r=>U0 t (MJ r)
 |.cell a _::r=>U0 a (MJ r)
def keepN(P:Program)(f:Nat):List (Nat×List Nat):=match P.funcs[f]? with
 |some fn=>match fn.body with
  |some c=>To (MJ fn.results.toList) c (MJ fn.results.toList) []
  |none=>[]
 |none=>[]
def gOp(P:Program):Op->Option R
 |.call c=>match c.callee with
  |.value (.func f)=>some (.call f c.args.toList)
  |_=>kz P (.call c)
 |o=>kz P o
def gL(P:Program)(ops:Array Oper):List Oper->List RO
 |[]=>[]
 |o::r=>match gOp P o.op with
  |none=>gL P ops r
  |some x=>match o.guard with
   |none=>⟨o.dst,none,x⟩::gL P ops r
   |some (j,b)=>⟨o.dst,((ops[j]?).bind (·.dst)).map (·,b),x⟩::gL P ops r
def gR(P:Program)(od:List (Nat×List (List Nat)))(id:Nat)(ops:Array Oper)(a:List Nat):Bool->IC
 |false=>.lE (gL P ops ops.toList) a
 |true=>match assoc od id with
  |[]=>.free (gL P ops ops.toList) (gD ops) a
  |o::r=>.draw (Fk (gL P ops ops.toList) (o::r)) a
def gC(P:Program)(od:List (Nat×List (List Nat)))(rt:List Nat):Code->List Nat->List (Nat×List Nat)->List Nat×IC
 |.region id ops d,a,_=>(Xa ops.toList a,gR P od id ops a d)
 |.seq x y,a,ex=>match gC P od rt y a ex with|(l,p)=>match gC P od rt x l ex with|(m,q)=>(m,.seq q p)
 |.cond c x y,a,ex=>match gC P od rt x a ex with|(l,p)=>match gC P od rt y a ex with|(m,q)=>(Ax (Ax l m) (tmN [c]),.cond c p q)
 |.block id b,a,ex=>match gC P od rt b a ((id,a)::ex)with|(l,p)=>(l,.block id p)
 |.loop b,_,ex=>match itN (fun l=>LI rt b l ex) 20 []with|l=>match gC P od rt b l ex with|(m,p)=>(m,.loop p)
 |.exit id,_,ex=>(assoc ex id,.exit id)
 |.ret,_,_=>(rt,.ret)
 |.scope b,a,ex=>match gC P od rt b a ex with|(l,p)=>(l,.scope p)
 |.rangeFunc g ps x b,a,ex=>match gC P od rt b [] ex with|(l,p)=>match gC P od rt x l ex with|(m,q)=>(Ax (Ax (Jy ps.toList m) a) (tmN [g]),.gp g ps.toList q p)
 |.label l,a,_=>(a,.label l)
 |_,a,_=>(a,.skip)
def gF(P:Program)(fn:Func)(od:List (Nat×List (List Nat))):Option aR:=match fn.body,wR P fn.results.toList with
 |some c,some r=>some ⟨fn.ntmps,r,(gC P od (MJ fn.results.toList) c (MJ fn.results.toList) []).2⟩
 |_,_=>none
def bi(P:Program)(f:Nat)(od:List (Nat×List (List Nat))):Option aR:=C1 P (assoc (keepN P f)) (assoc od) f
theorem mkA {α:Type}(l:List α):Array.mk l=l.toArray:=rfl
def bj {o:Option aR}{F:aR}(_h:o=some F:=by(apply Eq.trans;cbv;dsimp only[mkA] <;> exact rfl)):aR:=F
end Go.V
namespace Go.Proofs.YtijnokbblmbpkaaGreatDoor
open Go Go.V
noncomputable def dq:TypeInfo:=Tryz.t3
noncomputable def pq:Program:=⟨{Tryz.progTables with types:=#[dq,dq,Tryz.t2,Tryz.t3,Tryz.t4,Tryz.t5,dq,dq,dq,Tryz.t9,dq,dq,dq,dq,dq,dq,dq,dq,dq,dq,dq,dq,Tryz.t22,Tryz.t23,Tryz.t24,Tryz.t25,dq,dq,dq,dq,Tryz.t30,dq,dq,Tryz.t33,Tryz.t34,Tryz.t35,Tryz.t36,Tryz.t37,Tryz.t38,dq,dq,Tryz.t41,Tryz.t42,Tryz.t43,Tryz.t44,Tryz.t45,Tryz.t46,dq,dq,Tryz.t49,Tryz.t50,dq,dq,dq,dq,dq,dq,dq,dq,dq,Tryz.t60,Tryz.t61,dq,dq,dq,Tryz.t65,Tryz.t66,Tryz.t67,Tryz.t68,Tryz.t69,Tryz.t70,Tryz.t71,Tryz.t72,dq,dq,dq,dq,dq,dq,dq,Tryz.t80,dq,dq,Tryz.t83,Tryz.t84,dq,dq,dq,dq,dq,Tryz.t90,Tryz.t91,Tryz.t92,Tryz.t93,dq,Tryz.t95,Tryz.t96,Tryz.t97,dq,dq,Tryz.t100,Tryz.t101,Tryz.t102,dq,dq,dq,dq,dq,Tryz.t108,Tryz.t109,Tryz.t110,Tryz.t111,Tryz.t112,Tryz.t113,Tryz.t114,dq,dq,dq,dq,Tryz.t119,Tryz.t120,Tryz.t121,Tryz.t122,dq,Tryz.t124,dq,Tryz.t126,Tryz.t127,dq,dq,dq,dq,dq,dq,dq,dq,dq,dq,dq,dq,dq,dq,dq,dq,Tryz.t144,Tryz.t145,Tryz.t146,dq,dq,dq,dq,dq,Tryz.t152,dq,dq,dq,dq,dq,dq,dq,dq,dq,dq,dq,dq,dq,dq,dq,dq,dq,dq,dq,dq,dq,dq,dq,dq,dq,dq,Tryz.t179,Tryz.t180,Tryz.t181,Tryz.t182,Tryz.t183,dq,Tryz.t185,Tryz.t186,dq,dq,dq,dq,dq,dq,dq,dq,dq,Tryz.t196,Tryz.t197,dq,Tryz.t199,Tryz.t200,Tryz.t201,Tryz.t202,Tryz.t203,Tryz.t204,Tryz.t205,Tryz.t206,dq,Tryz.t208,Tryz.t209,Tryz.t210,dq,dq,dq,dq,dq,Tryz.t216,Tryz.t217,dq,Tryz.t219,Tryz.t220,dq,dq,dq,dq,dq,dq,dq,Tryz.t228,Tryz.t229,Tryz.t230,dq,dq,dq,dq,dq,dq,dq,dq,dq,dq,dq,dq,dq,dq,dq,dq,dq,dq,dq,dq,dq,dq,dq,dq,dq,dq,dq,dq,dq,dq,Tryz.t261,Tryz.t262,dq,dq,dq,dq,dq,dq,dq,dq,dq,dq,dq,dq,dq,dq,dq,dq,dq,Tryz.t280,dq,dq,dq,dq,dq,dq,dq,dq,dq,dq,dq,dq,dq,dq,dq,dq,dq,dq,dq,dq,dq,dq,dq,dq,dq,dq,dq,dq,dq,dq,dq,dq,dq,dq,dq,dq,dq,dq,dq,dq,dq,dq,dq,dq,dq,dq,dq,dq,dq,dq,dq,dq,dq,dq,dq,dq,dq,dq,dq,dq,dq,dq,dq,dq,dq,dq,dq,dq,dq,dq,Tryz.t351,dq,dq,dq,dq,dq,dq,dq,dq,dq,dq,dq,dq,dq,dq,dq,dq,dq,dq,dq,dq,dq,dq,dq,dq,dq,dq,dq,dq,dq,dq,dq,dq,dq,dq,dq,dq,dq,dq,dq,dq,dq,dq,dq,dq,dq,dq,dq,dq,dq,dq,Tryz.t402,Tryz.t403]},#[]⟩
set_option maxRecDepth 100000
noncomputable def F192:aR:=bj (o:=gF pq Tryz.f192 [])
theorem n192:F192.n=21:=rfl
theorem low192:bi Tryz.prog 192 []=some F192:=by kernel_rfl
noncomputable def F197:aR:=bj (o:=gF pq Tryz.f197 [])
theorem n197:F197.n=9:=rfl
theorem low197:bi Tryz.prog 197 []=some F197:=by kernel_rfl
noncomputable def F194:aR:=bj (o:=gF pq Tryz.f194 [])
theorem n194:F194.n=9:=rfl
theorem low194:bi Tryz.prog 194 []=some F194:=by kernel_rfl
noncomputable def F193:aR:=bj (o:=gF pq Tryz.f193 [])
theorem n193:F193.n=21:=rfl
theorem low193:bi Tryz.prog 193 []=some F193:=by kernel_rfl
noncomputable def F161:aR:=bj (o:=gF pq Tryz.f161 [])
theorem n161:F161.n=22:=rfl
theorem low161:bi Tryz.prog 161 []=some F161:=by kernel_rfl
noncomputable def F162:aR:=bj (o:=gF pq Tryz.f162 [])
theorem n162:F162.n=6:=rfl
theorem low162:bi Tryz.prog 162 []=some F162:=by kernel_rfl
noncomputable def F198:aR:=bj (o:=gF pq Tryz.f198 [])
theorem n198:F198.n=12:=rfl
theorem low198:bi Tryz.prog 198 []=some F198:=by kernel_rfl
noncomputable def F163:aR:=bj (o:=gF pq Tryz.f163 [])
theorem n163:F163.n=17:=rfl
theorem low163:bi Tryz.prog 163 []=some F163:=by kernel_rfl
noncomputable def F196:aR:=bj (o:=gF pq Tryz.f196 [])
theorem n196:F196.n=29:=rfl
theorem low196:bi Tryz.prog 196 []=some F196:=by kernel_rfl
noncomputable def F195:aR:=bj (o:=gF pq Tryz.f195 [])
theorem n195:F195.n=8:=rfl
theorem low195:bi Tryz.prog 195 []=some F195:=by kernel_rfl
noncomputable def F164:aR:=bj (o:=gF pq Tryz.f164 [])
theorem n164:F164.n=10:=rfl
theorem low164:bi Tryz.prog 164 []=some F164:=by kernel_rfl
noncomputable def F199:aR:=bj (o:=gF pq Tryz.f199 [])
theorem n199:F199.n=8:=rfl
theorem low199:bi Tryz.prog 199 []=some F199:=by kernel_rfl
noncomputable def F223:aR:=bj (o:=gF pq Tryz.f223 [])
theorem n223:F223.n=52:=rfl
theorem low223:bi Tryz.prog 223 []=some F223:=by kernel_rfl
noncomputable def F225:aR:=bj (o:=gF pq Tryz.f225 [])
theorem n225:F225.n=8:=rfl
theorem low225:bi Tryz.prog 225 []=some F225:=by kernel_rfl
noncomputable def F165:aR:=bj (o:=gF pq Tryz.f165 [])
theorem n165:F165.n=11:=rfl
theorem low165:bi Tryz.prog 165 []=some F165:=by kernel_rfl
noncomputable def F200:aR:=bj (o:=gF pq Tryz.f200 [])
theorem n200:F200.n=18:=rfl
theorem low200:bi Tryz.prog 200 []=some F200:=by kernel_rfl
noncomputable def F226:aR:=bj (o:=gF pq Tryz.f226 [])
theorem n226:F226.n=21:=rfl
theorem low226:bi Tryz.prog 226 []=some F226:=by kernel_rfl
noncomputable def F105:aR:=bj (o:=gF pq Tryz.f105 [])
theorem n105:F105.n=47:=rfl
theorem low105:bi Tryz.prog 105 []=some F105:=by kernel_rfl
end Go.Proofs.YtijnokbblmbpkaaGreatDoor
namespace Go.V
open Go
theorem Sat.below {w w':World}{L:List kB}(h:RowKit.Below w.heap.size w w')(hs:Sat w L):Sat w' L:=by
 refine⟨fun x hx=>?_,hs.nodup⟩;have hl:=hs.lt hx;have hh:=hs.holds x hx;cases x with
 |cell b off v=>
  obtain⟨c,t,lo,hi,hb,r⟩:=hh;exact⟨c,t,lo,hi,by rw[h.block b hl];exact hb,r⟩
 |obj b o=>exact⟨by rw[h.block b hl];exact hh.1,hh.2⟩
 |row b n=>
  exact zEL
 |own b n=>
  exact zEL
theorem ki.below {w w':World}(h:RowKit.Below w.heap.size w w'):ki w w':=
 ⟨h.os,h.output,h.size,fun i c t lo hi bO=>⟨c,by rw[h.block i (v8.1 bO).1];exact bO,rfl,fun _ _=>rfl⟩⟩
theorem ao.Fi {P:Program}{f:Nat}{args:List Value}{Q:Value->Prop}(hc:jo P f=true)(h:∀w,Calls P f args.toArray w fun e w'=>∃v,e=.returned v/\Q v/\w'=w):ao P f args [] (fun v Post=>Q v/\Post=[]):=
 ⟨hc,fun F w hs=>(h w).mono fun e w' ⟨v,h1,h2,h3⟩=>by subst h3;exact⟨v,[],h1,⟨h2,rfl⟩,hs,.refl _⟩⟩
theorem ao.Bl {P:Program}{f:Nat}{args:List Value}{Q:Value->Prop}{A:List kB}(hc:jo P f=true)(h:∀w F,Sat w (A++F)->Calls P f args.toArray w fun e w'=>∃v,e=.returned v/\Q v/\RowKit.Below w.heap.size w w'):ao P f args [A] (fun v Post=>Q v/\Post=[A]):=
 ⟨hc,fun F w hs=>(h w F (by simpa using hs)).mono fun e w' ⟨v,h1,h2,h3⟩=>⟨v,[A],h1,⟨h2,rfl⟩,hs.below h3,.below h3⟩⟩
theorem jH(s:ByteArray):(kF s).length=s.size:=by simp[kF]
theorem Hc {s:ByteArray}{i:Nat}{c:UInt8}(h:s[i]? =some c):(kF s)[i]? =some c.toNat:=by
 have hi:i < s.size:=by
  by_cases hi:i < s.size
  ·exact hi
  ·simp[hi]at h
 have h2:s.data[i]? =some c:=by
  have h3:s[i]? =some s[i]:=by simp[hi]
  rw[h3]at h;rw[<- h];exact v7 (xs:=s.data) hi
 simp[kF,h2]
theorem gH(s:ByteArray):∀c∈kF s,c < 256:=by
 intro c hc;obtain⟨x,_,rfl⟩:=QE.1 hc;exact x.toNat_lt
theorem ja {s t:ByteArray}(h:kF s=kF t):s=t:=by
 have h2:s.data.toList=t.data.toList:=by
  have hm:∀l m:List UInt8,l.map UInt8.toNat=m.map UInt8.toNat->l=m:=by
   intro l
   induction l with
   |nil=>intro m e;cases m with|nil=>rfl|cons=>cases e
   |cons a l ih=>
    intro m e;cases m with
    |nil=>cases e
    |cons b m=>
     simp only[Q3,ve]at e;rw[UInt8.toNat_inj.1 e.1,ih m e.2]
  exact hm _ _ h
 exact ByteArray.ext (vD.1 h2)
theorem gG {s:ByteArray}{i:Nat}(h:i < s.size):∃c:UInt8,s[i]? =some c/\(kF s)[i]? =some c.toNat:=⟨s[i],by simp[h],Hc (by simp[h])⟩
def G0:List Nat->Nat->Int
 |[],_=>-1
 |b::l,c=>if b=c then 0 else if G0 l c=-1 then -1 else G0 l c+1
theorem Yw(l:List UInt8)(c:UInt8):Lib.indexByte l c=G0 (l.map UInt8.toNat) c.toNat:=by
 induction l with
 |nil=>rfl
 |cons b l ih=>
  simp only[Lib.indexByte,Q3,G0,ih];by_cases h:b=c
  ·subst h;simp
  ·have:b.toNat≠c.toNat:=fun e=>h (UInt8.toNat_inj.1 e)
   simp[h,this]
theorem U6 {c:Nat}(h:c < 256):decide (0<=G0 [43,45,42,47,92,126,60,62,61,64,37,38,63,44,33] c)=lx c:=by
 have h2:∀c:Fin 256,decide (0<=G0 [43,45,42,47,92,126,60,62,61,64,37,38,63,44,33] c.val)=lx c.val:=by decide+kernel
 exact h2 ⟨c,h⟩
theorem LD(l:List Nat)(c:Nat):(G0 l c=-1/\c∉l)∨∃p r:List Nat,l=p++c::r/\c∉p/\G0 l c=p.length:=by
 induction l with
 |nil=>exact .inl ⟨rfl,Zs⟩
 |cons b l ih=>
  by_cases h:b=c
  ·subst h;exact .inr ⟨[],l,rfl,Zs,by simp[G0]⟩
  ·rcases ih with⟨h1,h2⟩|⟨p,r,h1,h2,h3⟩
   ·exact .inl ⟨by simp[G0,h,h1],by simp[h2,Ne.symm h]⟩
   ·refine .inr ⟨b::p,r,by simp[h1],by simp[h2,Ne.symm h],?_⟩;have cF:¬((p.length:Int)=-1):=by omega
    simp[G0,h,h3,cF]
theorem Fs:∀{l:List Nat},58∉l->jQ l=[l]:=by
 intro l
 induction l with
 |nil=>intro _;rfl
 |cons b l ih=>
  intro h;simp only[Q9,not_or]at h;simp only[jQ,if_neg (Ne.symm h.1),ih h.2]
theorem Fq:∀{p r:List Nat},58∉p->jQ (p++58::r)=(p++[58])::jQ r:=by
 intro p r
 induction p with
 |nil=>intro _;simp[jQ]
 |cons b p ih=>
  intro h;simp only[Q9,not_or]at h;simp only[vf,jQ,if_neg (Ne.symm h.1),ih h.2]
theorem Jq {l:List Nat}{p:Nat->Bool}{e:Nat}(h1:e<=l.length)(h2:∀k,k < e->p (l.getD k 0)=true)(h3:e < l.length->p (l.getD e 0)=false):l.all p=decide (e=l.length):=by
 by_cases h:e=l.length
 ·rw[Zt h,vX];intro x hx;obtain⟨i,hi,rfl⟩:=List.getElem_of_mem hx;have:=h2 i Zo
  rwa [V8,Zg hi]at this
 ·rw[Zf h,List.all_eq_false];have aI:e < l.length:=by omega
  have:=h3 aI;rw[V8,Zg aI]at this;exact⟨_,Vn aI,by simpa using this⟩
theorem lL {s:ByteArray}(h:s≠⟨#[]⟩):∃(c:UInt8) (r:List Nat),s[0]? =some c/\kF s=c.toNat::r/\c.toNat < 256/\0 < s.size:=by
 have nR:0 < s.size:=by
  rcases Nat.eq_zero_or_pos s.size with h2|h2
  ·exact absurd (ByteArray.ext (v6 h2)) h
  ·exact h2
 obtain⟨c,hc,AU⟩:=gG nR;refine⟨c,(kF s).tail,hc,?_,c.toNat_lt,nR⟩;cases hb:kF s with
 |nil=>rw[hb]at AU;cases AU
 |cons a r=>rw[hb]at AU;cases AU;rfl
theorem jz(s:ByteArray)(a b:Nat):kF (s.extract a b)=((kF s).take b).drop a:=by
 simp only[kF,ByteArray.data_extract,Array.toList_extract,List.extract_eq_take_drop,List.map_take,List.map_drop,List.drop_take]
def ofN(l:List Nat):ByteArray:=⟨(l.map Nat.toUInt8).toArray⟩
theorem He {l:List Nat}(h:∀c∈l,c < 256):kF (ofN l)=l:=by
 simp only[kF,ofN,Q5]
 conv=>rhs;rw[<- List.map_id l]
 refine Q1 fun c hc=>?_
 exact Nat.mod_eq_of_lt (h c hc)
theorem sX(l:List Nat):(jQ l).flatten=l:=by
 induction l with
 |nil=>rfl
 |cons c r ih=>
  simp only[jQ];split
  ·rename_i h;simp[ih,h]
  ·cases h:jQ r with
   |nil=>rw[h]at ih;simp at ih;simp[<- ih]
   |cons p ps=>rw[h]at ih;simp at ih|-;exact ih
theorem MC(t:ByteArray):∃full:List ByteArray,full.map kF=jQ (kF t):=by
 have h:∀p∈jQ (kF t),∀c∈p,c < 256:=fun p hp c hc=>gH t c (by rw[<- sX (kF t)];exact List.mem_flatten.2 ⟨p,hp,hc⟩)
 generalize jQ (kF t)=l at h;refine⟨l.map ofN,?_⟩;rw[Q5]
 conv=>rhs;rw[<- List.map_id l]
 exact Q1 fun p hp=>He (h p hp)
theorem Xg {on:List Nat->Bool}:∀{l:List Nat} {e:Nat},e<=l.length->(∀k,k < e->on (l.drop k)=true)->(e < l.length->on (l.drop e)=false)->MN on l=e:=by
 intro l
 induction l with
 |nil=>intro e h _ _;simp at h;simp[MN,h]
 |cons c r ih=>
  intro e h h2 h3;cases e with
  |zero=>
   have:=h3 Zs;simp only[List.drop_zero]at this;simp[MN,this]
  |succ e=>
   have h0:=h2 0 Zo;simp only[List.drop_zero]at h0;have:=ih (e:=e) (by simpa using h) (fun k hk=>by simpa using h2 (k+1) Zo) (fun hk=>by simpa using h3 (by simpa using hk));simp[MN,h0,this];omega
theorem Gc {l:List Nat}{k:Nat}{c:Nat}(h:l[k]? =some c):pd (l.drop k)=(lx c&&(decide (c≠45)||!dU (l.getD (k+1) 0))):=by
 obtain⟨hk,rfl⟩:=Vh.1 h;rw[vh hk];simp only[pd]
 congr 2
 rw[V8];by_cases h2:k+1 < l.length
 ·rw[vh h2];simp[h2]
 ·rw[List.drop_eq_nil_of_le Zo,Ve Zo];rfl
theorem Sa {c:Nat}{r:List Nat}{e:Nat}(h0:c≠124)(hb:lx c=true)(h1:e<=(c::r).length)(h2:∀k,k < e->1<=k->pd ((c::r).drop k)=true)(h3:e < (c::r).length->1<=e/\pd ((c::r).drop e)=false):yn (c::r)=e∨(e=0):=by
 cases e with
 |zero=>exact .inr rfl
 |succ e=>
  left;simp only[yn,if_neg h0,hb,if_true];have:=Xg (on:=pd) (l:=r) (e:=e) (by simpa using h1) (fun k hk=>by simpa using h2 (k+1) Zo Zo) (fun hk=>by simpa using(h3 (by simpa using hk)).2);omega
theorem yY(s t:ByteArray):kF (s++t)=kF s++kF t:=by
 simp[kF]
end Go.V
namespace Go.Proofs.YtijnokbblmbpkaaGreatDoor
open Go Go.V Go.Shelf
set_option maxHeartbeats 3200000
set_option maxRecDepth 100000
shelf_lay Lays.n217 Nm 217 at Tryz as Tryz.sl217
shelf_lay Lays.n219 Nm 219 at Tryz as Tryz.sl219
theorem Pq(s:ByteArray)(c:Nat)(hc:c < 256):ao Tryz.prog 222 [.string s,cv c] [] (fun v Post=>v=vi (G0 (kF s) c)/\Post=[]):=by
 refine ao.Fi (by kernel_rfl) (fun w=>(Any.stringslite_IndexByte Tryz.sl217 s c w).mono ?_)
 rintro e w' ⟨rfl,rfl⟩
 refine⟨_,rfl,?_,rfl⟩;have hx:((c:Int).toNat.toUInt8).toNat=c:=by
  rw[vS];exact Nat.mod_eq_of_lt hc
 rw[Yw,hx];rfl
theorem Pr(s:ByteArray):ao Tryz.prog 246 [.string s,.string ⟨#[58]⟩] [] (fun v Post=>v=vi (G0 (kF s) 58)/\Post=[]):=by
 refine ao.Fi (by kernel_rfl) (fun w=>(Any.stringslite_Index_one Tryz.sl219 s 58 w).mono ?_)
 rintro e w' ⟨rfl,rfl⟩
 exact⟨_,rfl,by rw[Yw];rfl,rfl⟩
theorem sQ(c:Nat)(hc:c < 256):ao Tryz.prog 192 [cv c] [] (fun v Post=>v=.bool (LH c)/\Post=[]):=by
 refine ao.intro low192 (by simp[n192]) ?_
 (repeat' (first|refine GOPH ?_|refine Gg Zr (fun _=>?_) (fun _=>?_)|refine Gh Zr (fun _=>?_) (fun _=>?_)|refine VC.Ga Zr (fun _=>?_) (fun _=>?_)|refine VC.cond Zr (fun _=>?_) (fun _=>?_)))
 all_goals refine⟨.inr rfl,_,_,.tmp Zr .nil,ZI,?_,rfl⟩
 all_goals (simp only[gw,LH,Value.bool.injEq,decide_eq_true_eq,decide_eq_false_iff_not]at*)
 all_goals (rw[Bool.eq_iff_iff];simp only[vO,vF,vL,decide_eq_true_eq,decide_eq_false_iff_not,true_iff,iff_true,reduceCtorEq,false_iff,iff_false];omega)
theorem oH(c:Nat)(hc:c < 256):ao Tryz.prog 197 [cv c] [] (fun v Post=>v=.bool (dU c)/\Post=[]):=by
 refine ao.intro low197 (by simp[n197]) ?_
 (repeat' (first|refine GOPH ?_|refine Gg Zr (fun _=>?_) (fun _=>?_)|refine Gh Zr (fun _=>?_) (fun _=>?_)|refine VC.Ga Zr (fun _=>?_) (fun _=>?_)|refine VC.cond Zr (fun _=>?_) (fun _=>?_)))
 all_goals refine⟨.inr rfl,_,_,.tmp Zr .nil,ZI,?_,rfl⟩
 all_goals (simp only[gw,dU,Value.bool.injEq,decide_eq_true_eq,decide_eq_false_iff_not]at*)
 all_goals (rw[Bool.eq_iff_iff];simp only[vO,vF,vL,decide_eq_true_eq,decide_eq_false_iff_not,true_iff,iff_true,reduceCtorEq,false_iff,iff_false];omega)
theorem H6(c:Nat)(hc:c < 256):ao Tryz.prog 194 [cv c] [] (fun v Post=>v=.bool (LB c)/\Post=[]):=by
 refine ao.intro low194 (by simp[n194]) ?_;refine ae ?_;refine kQ (sQ c hc) Zr ?_;cases hl:LH c with
 |true=>
  refine ae ?_;refine⟨.inr rfl,_,_,.tmp Zr .nil,ZI,?_,rfl⟩;simp[gw,LB,hl]
 |false=>
  refine ae ?_;refine kQ (oH c hc) Zr ?_;refine ae ?_;refine⟨.inr rfl,_,_,.tmp Zr .nil,ZI,?_,rfl⟩;simp[gw,LB,hl]
theorem sC(c:Nat)(hc:c < 256):ao Tryz.prog 162 [cv c] [] (fun v Post=>v=.bool (lx c)/\Post=[]):=by
 refine ao.intro low162 (by simp[n162]) ?_;have hb:=U6 hc;have h:ao Tryz.prog 195 [.string ⟨#[43,45,42,47,92,126,60,62,61,64,37,38,63,44,33]⟩,cv c] [] (fun v Post=>v=vi (G0 [43,45,42,47,92,126,60,62,61,64,37,38,63,44,33] c)/\Post=[]):=by
  refine ao.intro low195 (by simp[n195]) ?_;refine ae ?_;refine kQ (Pq _ c hc) Zr ?_;exact zDP
 generalize G0 [43,45,42,47,92,126,60,62,61,64,37,38,63,44,33] c=z at h hb;refine ae ?_;refine kQ h Zr ?_;refine ae ?_;refine⟨.inr rfl,_,_,.tmp Zr .nil,ZI,?_,rfl⟩;simp only[gw,<- hb]
theorem MA(s:ByteArray)(hs:s.size<=140737488355328)(k:Nat):ao Tryz.prog 198 [.string s,vi k] [] (fun v Post=>v=cv ((kF s).getD k 0)/\Post=[]):=by
 refine ao.intro low198 (by simp[n198]) ?_;refine ae ?_;by_cases h:k < s.size
 ·rw[Zt Zo];obtain⟨c,hc,AU⟩:=gG h;refine ae ?_;refine fR Zr Zr (j:=k) rfl hc ?_;refine ae ?_;refine⟨.inr rfl,_,_,.tmp Zr .nil,ZI,?_,rfl⟩;simp[gw,V8,AU]
 ·rw[Zf Zo];refine ae ?_;refine⟨.inr rfl,_,_,.tmp Zr .nil,ZI,?_,rfl⟩;have:(kF s)[k]? =none:=Ve (by rw[jH];omega);simp[gw,V8,this]
theorem yj(s:ByteArray)(hs:s.size<=140737488355328)(a:Nat)(ha:a<=s.size)(fv:Value)(I:Nat->SH)(on:Nat->Bool)
 (h:∀k c,a<=k->(kF s)[k]? =some c->dj Tryz.prog fv [cv c] (I k) (fun v Post=>v=.bool (on k)/\Post=I (k+1))):
 ao Tryz.prog 193 [.string s,vi a,fv] (I a) (fun v Post=>∃e j:Nat,v=vi e/\a<=e/\e<=s.size/\(∀k,a<=k->k < e->on k=true)/\(e < s.size->on e=false)/\Post=I j):=by
 refine ao.intro low193 (by simp[n193]) ?_;refine ae ?_;refine VC.loop (α:=Nat) (aW:=fun k=>[(0,.string s),(1,vi k),(2,fv)]) (Hf:=fun k=>I k) (I:=fun k=>a<=k/\k<=s.size/\∀i,a<=i->i < k->on i=true) (μ:=fun k=>s.size - k) a ⟨Qj _,ha,fun i _ _=>by omega⟩ ZU (aj.refl _) ?_
 rintro k ⟨i1,i2,i3⟩
 refine ae ?_;by_cases hk:k < s.size
 ·rw[Zt Zo];obtain⟨c,hc,AU⟩:=gG hk;refine ae ?_;refine fR Zr Zr (j:=k) rfl hc ?_;refine ae ?_;refine dR Zr (h k _ i1 AU) Zr (R:=[]) (by simp[V.cz]) ?_
  rintro v Post ⟨rfl,rfl⟩
  rw[vd];cases ho:on k with
  |true=>
   refine ae ?_;refine⟨k+1,⟨Zo,Zo,fun i g1 g2=>?_⟩,Zo,ZU,aj.refl _⟩;by_cases e:i=k
   ·subst e;exact ho
   ·exact i3 i g1 Zo
  |false=>
   refine ae ?_;exact kG (Post:=I (k+1)) (.inr rfl) (.tmp Zr .nil) ⟨k,k+1,rfl,i1,i2,i3,fun _=>ho,rfl⟩ (aj.refl _)
 ·rw[Zf Zo];refine ae ?_;exact kG (Post:=I k) (.inr rfl) (.tmp Zr .nil) ⟨k,k,rfl,i1,i2,i3,fun hh=>absurd hh hk,rfl⟩ (aj.refl _)
theorem ng(s:ByteArray)(hs:s.size<=140737488355328):ao Tryz.prog 161 [.string s] [] (fun v Post=>v=.bool (oi s)/\Post=[]):=by
 refine ao.intro low161 (by simp[n161]) ?_;have hlen:=jH s;unfold oi xW;refine ae ?_;by_cases h0:s=⟨#[]⟩
 ·subst h0;exact zDP
 obtain⟨c,r,hc,hr,JN,nR⟩:=lL h0;rw[Zf h0,vM];refine ae ?_;by_cases h40:s.size<=40;rotate_left
 ·rw[Zf Zo];refine ae ?_;refine⟨.inr rfl,_,_,.tmp Zr .nil,ZI,?_,rfl⟩;have h2:¬(c.toNat::r).length<=40:=by rw[<- hr];omega
  simp only[gw,hr,Zf h2,vI]
 rw[Zt Zo];refine ae ?_;refine fR Zr Zr (j:=0) rfl hc ?_;refine ae ?_;refine kQ (sQ _ JN) Zr ?_;cases hl:LH c.toNat with
 |false=>
  refine ae ?_;refine⟨.inr rfl,_,_,.tmp Zr .nil,ZI,?_,rfl⟩;simp[gw,hr,hl]
 |true=>
  refine ae ?_;refine kI (yj s hs 0 Zo (.func (.func 194) #[] #[]) (fun _=>[]) (fun k=>LB ((kF s).getD k 0)) (fun k x _ hx=>dj.bX ?_)) Zr ZP (fun v Post hv=>?_)
  ·rw[V8,hx];exact H6 _ (gH s _ (Zv hx))
  obtain⟨e,j,rfl,e1,e2,e3,e4,rfl⟩:=hv;have ap:=Jq (l:=kF s) (p:=LB) (e:=e) Zo (fun k hk=>e3 k Zo hk) (fun hk=>e4 Zo);have h2:(c.toNat::r).length<=40:=by rw[<- hr];omega
  simp only[QJ];refine ae ?_;refine⟨.inr rfl,_,_,.tmp Zr .nil,ZI,?_,rfl⟩;rw[hr]at ap;simp only[gw,hr,Zt h2,hl,ap,vR,Value.bool.injEq];rw[<- hr,hlen]
  (rw[Bool.eq_iff_iff];simp only[vO,vF,vL,decide_eq_true_eq,decide_eq_false_iff_not,true_iff,iff_true,reduceCtorEq,false_iff,iff_false];omega)
end Go.Proofs.YtijnokbblmbpkaaGreatDoor

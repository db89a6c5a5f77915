/-
  A part of the proof.
-/
import Derived.Test.YtijnokbblmbpkaaGreatDoorU3
import Derived.Below
import Derived.Lib.Bytealg
import Derived.Test.YtijnokbblmbpkaaGreatDoorU2
import Derived.ChangeOld
import Derived.RowKit3
import Derived.ChangeSame
import Derived.ChangeSlices
import Derived.RowKit
import Derived.Deep.Slices
import Derived.Deep.Fields
set_option linter.all false
set_option maxHeartbeats 1600000
namespace Go.V
open Go
variable {A:List kC}
def Jz(σ:Sg)(ch:List PanicEntry):List PanicEntry:=ch.map λe=>{e with v:=rn σ e.v}
def pX(A:List kC)(P:Program)(N0:Nat)(F:CF):Prop:=∀f args h nx bO,F f args h nx=some bO->∀σ,jA N0 σ args h nx->
 ju P f (args.map (rn σ)) [kY A σ h] (λv Post=>∃v0 h' bf aK,bO=.val v0 h' bf/\Ag nx σ aK/\nx<=bf/\jA N0 aK [v0] h' bf/\v=rn aK v0/\Post=[kY A aK h'])
  (λch Post=>∃ch0 h' bf aK,bO=.xZ ch0 h' bf/\Ag nx σ aK/\nx<=bf/\jA N0 aK (ch0.map (·.v)) h' bf/\ch=Jz aK ch0/\Post=[kY A aK h'])
section
variable {P:Program} {N0 nx n:Nat} {σ:Sg} {Γ:Env} {h:Mp} {rs:List RO} {d:Option Nat} {Z:List PanicEntry->Env->SH->Prop} {K:Env->SH->Prop}
theorem op_pure {r:R}{v:Value}(g:jA N0 σ (Γ.map (·.2)) h nx)(s:kg r=true)(m:okC r=true)(J:(mq r).all (tU N0 Γ)=true)(q:okS (tH N0 Γ) r=true)(B:kW (tH N0 Γ) r=some v)
 (G:ck nx v->VO P n rs (aq d (rn σ v) (cp σ Γ)) [kY A σ h] Z K):VO P n (⟨d,none,r⟩::rs) (cp σ Γ) [kY A σ h] Z K:=by
 have C:=vg.1 J;refine o6 s ?_ (v:=rn σ v) ?_ (G λD E a=>?_)
 .rw[vg];exact λx j=>(lq g (C x j)).1
 .rw[<- Cd (σ:=σ) m q B];exact im s λx j=>(lq g (C x j)).2.1
 .have H:=Cd (σ:=D) m q B;have I:=Cd (σ:=E) m q B;have F:kW (λx=>rn D (tH N0 Γ x)) r=kW (λx=>rn E (tH N0 Γ x)) r:=im s λx j=>(lq g (C x j)).2.2 D E a
  rw[H,I]at F;exact XC F
theorem Xh {x:Operand}{b o:Nat}{v:Value}(g:jA N0 σ (Γ.map (·.2)) h nx)(s:uO N0 Γ x=some (.pointer (some ⟨b,o,none⟩)))(j:lC h b o 1=some [v])
 (q:ck nx v->VO P n rs (aq d (rn σ v) (cp σ Γ)) [kY A σ h] Z K):VO P n (⟨d,none,.dc x⟩::rs) (cp σ Γ) [kY A σ h] Z K:=by
 have m:=(lg g s).1;simp only[dQ,sE]at m;refine jg m (.among ?_) (q (oj g j v Zs));exact fU j _ MJ
theorem Xi {x:Operand}{b o m:Nat}{us:List Value}(g:jA N0 σ (Γ.map (·.2)) h nx)(E:uO N0 Γ x=some (.pointer (some ⟨b,o,none⟩)))(j:lC h b o m=some us)
 (B:ck nx (.agg us.toArray)->VO P n rs (aq d (rn σ (.agg us.toArray)) (cp σ Γ)) [kY A σ h] Z K):VO P n (⟨d,none,.ij m x⟩::rs) (cp σ Γ) [kY A σ h] Z K:=by
 have s:=(lg g E).1;simp only[dQ,sE]at s;have q:=B (ck.agg (oj g j));have D:rn σ (.agg us.toArray)=.agg (us.map (rn σ)).toArray:=by simp
 rw[D]at q;refine kR s (λa C=>?_) (by rw[Q6];exact oT j) q;simp only[Vd,Ve,vp];exact fU j a C
theorem xY {C:List kC}{B:List kC}(e:B=C++kY A σ h):ai (C::[kY A σ h]) [B]:=by subst e;exact ai.perm Zs
theorem Xg {t:TypeId}{z:List Value}(g:jA N0 σ (Γ.map (·.2)) h nx)(s:z.all bC=true)
 (D:∀j,Ag nx σ j->jA N0 j (.pointer (some ⟨nx,0,none⟩)::Γ.map (·.2)) ((nx,.cells z)::h) (nx+1)->VO P n rs (aq d (rn j (.pointer (some ⟨nx,0,none⟩))) (cp j Γ)) [kY A j ((nx,.cells z)::h)] Z K):
 VO P n (⟨d,none,.alloc t z⟩::rs) (cp σ Γ) [kY A σ h] Z K:=by
 refine kK λb=>?_
 have a:=pb σ nx b 0 0 [];obtain⟨u1,C,_⟩:=yu σ nx b 0 0 [];have q:=D (lO σ nx b 0 0 []) a (g.new (λp m=>m) (λv hv=>ck.bC (vg.1 s v hv)) trivial (λv hv=>by
  rcases QI.1 hv with rfl|hv
  .exact ck.ptr (Qx _)
  .exact(g.bE v hv).mono (Qu _)))
 simp only[dQ,sE,u1,C]at q;rw[uz a g.bE];refine VO.imp (xY (B:=kY A (lO σ nx b 0 0 []) ((nx,.cells z)::h)) ?_) q;rw[oI g (λp m=>m)];simp only[yd,u1,C,fW s]
theorem op_box {t:TypeId}{x:Operand}{v:Value}(g:jA N0 σ (Γ.map (·.2)) h nx)(F:uO N0 Γ x=some v)
 (E:∀j,Ag nx σ j->jA N0 j (.pointer (some ⟨nx,0,none⟩)::Γ.map (·.2)) ((nx,.cells v.cells.toList)::h) (nx+1)->VO P n rs (aq d (rn j (.pointer (some ⟨nx,0,none⟩))) (cp j Γ)) [kY A j ((nx,.cells v.cells.toList)::h)] Z K):
 VO P n (⟨d,none,.box t x⟩::rs) (cp σ Γ) [kY A σ h] Z K:=by
 obtain⟨G,C⟩:=lg g F;refine kX G λb=>?_
 have a:=pb σ nx b 0 0 [];obtain⟨u1,D,_⟩:=yu σ nx b 0 0 [];have s:=E (lO σ nx b 0 0 []) a (g.new (λp m=>m) (λw q=>(C.cells w q).mono (Qu _)) trivial (λv hv=>by
  rcases QI.1 hv with rfl|hv
  .exact ck.ptr (Qx _)
  .exact(g.bE v hv).mono (Qu _)))
 simp only[dQ,sE,u1,D]at s;rw[uz a g.bE];refine VO.imp (xY (B:=kY A (lO σ nx b 0 0 []) ((nx,.cells v.cells.toList)::h)) ?_) s;rw[oI g (λp m=>m)];simp only[yd,u1,D];rw[sG,vE]
 congr 2
 exact QC λw q=>(C.cells w q _ _ a.symm)
theorem KQ(g:jA N0 σ (Γ.map (·.2)) h nx){d:List (Nat×Nat×Operand)}(j:(d.map (·.2.2)).all (tU N0 Γ)=true):
 jb (G9 (cp σ Γ)) d=(jb (tH N0 Γ) d).map fun(a,b,v)=>(a,b,rn σ v):=by
 simp only[jb,QE];refine QC λp m=>?_
 obtain⟨a,b,c⟩:=p;have:=(lq g (vg.1 j c (QO.2 ⟨_,m,rfl⟩))).2.1;simp[this]
theorem Jl {k:Nat}:∀{d:List (Nat×Nat×Value)} {cs out:List Value},(∀v∈cs,ck k v)->(∀p∈d,ck k p.2.2)->jh cs d=some out->∀v∈out,ck k v:=by
 intro d
 induction d with
 |nil=>intro cs out g _ e;simp only[jh,XD]at e;subst e;exact g
 |cons p d ih=>
  intro cs out g j e;obtain⟨o,s,v⟩:=p;simp only[jh]at e;split at e
  .refine ih (λu hu=>?_) (λq m=>j q (by simp[m])) e;rcases QG.1 hu with hu|hu
   .rcases QG.1 hu with hu|hu
    .exact g u (QP hu)
    .exact(j (o,s,v) Zs).cells u hu
   .exact g u (List.mem_of_mem_drop hu)
  .cases e
theorem DF {k:Nat}{z:List Value}(h:z.all bC=true):(jB k z).all bC=true:=by
 rw[vg]at h|-;intro x j;simp only[jB,QO,QS]at j;obtain⟨i,g,rfl⟩:=j;have m:0 < z.length:=Nat.pos_of_ne_zero λe=>by rw[e]at g;simp at g
 have d:i % z.length < z.length:=Nat.mod_lt _ m;rw[getElem!_pos z _ d];exact h _ (List.getElem_mem d)
theorem Rq {t:TypeId}{len:Nat}{z out:List Value}{E:List (Nat×Nat×Operand)}(g:jA N0 σ (Γ.map (·.2)) h nx)(O:z.all bC=true)(C:(E.map (·.2.2)).all (tU N0 Γ)=true)
 (G:jh (jB len z) (jb (tH N0 Γ) E)=some out) (s:len < mO)
 (L:∀m,Ag nx σ m->jA N0 m (.slice (some ⟨nx,0,none⟩) len len::Γ.map (·.2)) ((nx,.cells out)::h) (nx+1)->VO P n rs (aq d (rn m (.slice (some ⟨nx,0,none⟩) len len)) (cp m Γ)) [kY A m ((nx,.cells out)::h)] Z K):
 VO P n (⟨d,none,.nA t len z E⟩::rs) (cp σ Γ) [kY A σ h] Z K:=by
 have F:=DF (k:=len) O;have H:∀v∈out,ck nx v:=Jl (λv hv=>ck.bC (vg.1 F v hv)) (λp j=>by
  simp only[jb,QO]at j;obtain⟨q,M,rfl⟩:=j;exact(lq g (vg.1 C _ (QO.2 ⟨q,M,rfl⟩))).2.2) G
 refine j8 (out:=out.map (rn σ)) ?_ ?_ λb=>?_
 .rw[vg]at C|-;exact λx N=>(lq g (C x N)).1
 .rw[KQ g C];have:=u7 (σ:=σ) G;rw[fW F]at this;exact this
 have a:=pb σ nx b 0 0 [];obtain⟨u1,J,_⟩:=yu σ nx b 0 0 [];have I:=L (lO σ nx b 0 0 []) a (g.new (λp j=>j) (λw D=>(H w D).mono (Qu _)) trivial (λv hv=>by
  rcases QI.1 hv with rfl|hv
  .exact ck.slc (Qx _)
  .exact(g.bE v hv).mono (Qu _)))
 simp only[bz,sE,Jy,u1,J,if_pos s]at I;rw[uz a g.bE];refine VO.imp (xY (B:=kY A (lO σ nx b 0 0 []) ((nx,.cells out)::h)) ?_) I;rw[oI g (λp j=>j)];simp only[yd,u1,J]
 congr 2
 exact QC λw D=>(H w D _ _ a.symm)
theorem Xk {x y:Operand}{m b o:Nat}{u:Value}{I:Mp}(g:jA N0 σ (Γ.map (·.2)) h nx)(hx:uO N0 Γ x=some (.pointer (some ⟨b,o,none⟩)))(hy:uO N0 Γ y=some u)(L:u.cells.toList.length=m)(C:ME h b o u.cells.toList=some I)
 (T:jA N0 σ (undef::Γ.map (·.2)) I nx->VO P n rs (aq d (rn σ undef) (cp σ Γ)) [kY A σ I] Z K):VO P n (⟨d,none,.store m x y⟩::rs) (cp σ Γ) [kY A σ h] Z K:=by
 have O:=(lg g hx).1;obtain⟨J,X⟩:=lg g hy;simp only[dQ,sE]at O;have H:(rn σ u).cells.toList=u.cells.toList.map (rn σ):=by rw[sG,vE]
 have G:=X.cells;generalize u.cells.toList=us at L C H G;unfold ME at C;split at C
 case h_2=>cases C
 rename_i k E;split at C
 case h_2=>cases C
 rename_i vs D;split at C
 case h_2=>cases C
 rename_i F;split at C
 case h_2=>cases C
 rename_i U;cases C;have W:=lU F;obtain⟨tl,t1,t2⟩:=ER (σ:=σ) (b:=b) D;have M:∀v∈vs,ck nx v:=by
  have:=g.cells _ (yG E);cases k with
  |cells ws=>cases D;exact this
  |grow s ws=>cases D;exact this
  |obj q=>cases D
 have Q:∀v∈vs.take o++us++vs.drop (o+us.length),ck nx v:=λv hv=>by
  rcases QG.1 hv with hv|hv
  .rcases QG.1 hv with hv|hv
   .exact M v (QP hv)
   .exact G v hv
  .exact M v (List.mem_of_mem_drop hv)
 have S:(vs.take o++us++vs.drop (o+us.length)).length=vs.length:=by simp;omega
 have N:=T ⟨g.fix,g.le,λp j=>?_,λp j=>?_,λp j=>?_,λv hv=>?_⟩
 .refine VO.imp (ai.perm (B:=[kA (σ.sX b) (σ.off b) (vs.map (rn σ)++tl),kY A σ (tF h b)]) ?_) ?_
  .have:=oH (A:=A) (σ:=σ) E;rw[t2]at this;simpa using this
  refine JR (H':=[kA (σ.sX b) (σ.off b) ((vs.take o++us++vs.drop (o+us.length)).map (rn σ)++tl),kY A σ (tF h b)]) O J ?_ ?_ ?_ ?_
  .rw[<- L,<- Array.length_toList,H,Q6]
  .rw[H];exact uW σ _ U
  .rw[H];refine .cells Zo tj ?_;have e0:σ.off b+o - σ.off b=o:=by omega
   rw[e0,List.take_append_of_le_length tj,Q6,List.drop_append_of_le_length tj];simp[List.map_take,List.map_drop]
  .have Y:rn σ undef=undef:=eZ rfl;rw[Y]at N;refine VO.imp (ai.perm ?_) N;have:=Pg (A:=A) (σ:=σ) (c:=Xq k (vs.take o++us++vs.drop (o+us.length))) E;rw[t1]at this;simpa using this.symm
 .rcases Cp j with j|rfl
  .exact g.ids p j
  .exact g.ids (b,k) (yG E)
 .rcases Cp j with j|rfl
  .exact g.grow p j
  .have:=g.grow (b,k) (yG E);cases k with
   |cells ws=>trivial
   |grow s ws=>cases D;simp only[SI,Xq]at this|-;rw[S];exact this
   |obj q=>cases D
 .rcases Cp j with j|rfl
  .exact g.cells p j
  .cases k with
   |cells ws=>exact Q
   |grow s ws=>exact Q
   |obj q=>cases D
 .rcases QI.1 hv with rfl|hv
  .exact ck.plain rfl
  .exact g.bE v hv
end
variable {A:List kC}
section
variable {P:Program} {N0 nx n:Nat} {σ:Sg} {Γ:Env} {h:Mp} {rs:List RO} {d:Option Nat} {Z:List PanicEntry->Env->SH->Prop} {K:Env->SH->Prop}
theorem Mr {size:Nat}{sv:Value}{xs:List Value}{F:Mp}(g:jA N0 σ (Γ.map (·.2)) h nx)(J:0 < size)(e:NS h size sv=some (xs,F)):
 ∃k sp,ky size (rn σ sv) k (xs.map (rn σ)) sp/\(kY A σ h).Perm (ao (rn σ sv) (xs.map (rn σ)) sp++kY A σ F)/\(∀p∈F,p∈h)/\(∀v∈xs,ck nx v):=by
 unfold NS at e;split at e
 .cases e;exact⟨0,[],by simpa using ky.nil,by simp[ao],λp q=>q,λv B=>by cases B⟩
 .rename_i b o m c;split at e
  case h_2=>cases e
  split at e
  .rename_i vs d;split at e
   case h_2=>cases e
   rename_i j;cases e;simp only[vG]at j;obtain⟨E,G,D⟩:=j;have H:=yj E;have C:=lU G;have I:=E8 D;have M:m*size<=c*size:=Qy _ C;refine⟨m,(vs.drop (m*size)).map (rn σ),?_,?_,λp q=>H5 q,λv B=>g.cells _ (yG d) v (QP B)⟩
   .simp only[bz,sE,Jy,if_pos I];refine .mk ?_ ?_ C
    .rw[Q6,QA];omega
    .rw[Q6,Q6,QA,Q0];omega
   .refine(oH d).trans (vd _ ?_);simp only[bz,sE,ao,yd,Qp,<- QB,Qj];exact .refl _
  .rename_i s vs d;split at e
   case h_2=>cases e
   rename_i j;cases e;simp only[vG]at j;obtain⟨E,G,D⟩:=j;have H:=yj E;have C:=yj G;have I:=lU D;subst H;have L:=g.grow _ (yG d);simp only[SI]at L;have K:Jy σ b c=σ.cap b:=by rw[C,Jy,if_neg (Nat.lt_irrefl _),Qz,X0]
   refine⟨m,(vs.drop (m*s)).map (rn σ)++σ.tl b,?_,?_,λp q=>H5 q,λv B=>g.cells _ (yG d) v (QP B)⟩
   .simp only[bz,sE,K];refine .mk ?_ ?_ ?_
    .rw[Q6,QA];omega
    .rw[Vy,Q6,Q6,QA,Q0];omega
    .have:m*s<=σ.cap b*s:=by omega
     exact Nat.le_of_mul_le_mul_right this J
   .refine(oH d).trans (vd _ ?_);simp only[bz,sE,ao,yd,Qp,<- vm,<- QB,Qj];exact .refl _
  .cases e
 .cases e
theorem RP {size m:Nat}{C:Value}{ys:List Value}{j:Mp}{F:List Value}(g:jA N0 σ F j nx)(e:srcE j size C=some (m,ys)):
 fA (rn σ C)=some m/\Src (kY A σ j) size m (ys.map (rn σ)) (rn σ C)/\ys.length=m*size/\∀v∈ys,ck nx v:=by
 unfold srcE at e;split at e
 .split at e
  case h_2=>cases e
  rename_i l q;cases e;have d:=oT q;refine⟨by simp[fA],?_,d,oj g q⟩;simp only[bz,sE,Src];exact⟨by rw[Q6,d],fU q⟩
 .split at e
  case h_2=>cases e
  cases e;exact⟨by simp[fA],by simp[Src],Zs,λv B=>by cases B⟩
 .rename_i s;split at e
  case h_2=>cases e
  cases e;have E:(fw s).all bC=true:=by
   rw[vg];intro x D;simp only[fw,QO]at D;obtain⟨c,_,rfl⟩:=D;rfl
  refine⟨by simp[fA],?_,by simp[fw],λv B=>ck.bC (vg.1 E v B)⟩;rw[fW E];simp only[fX,Src,fw];rw[Ql Zs]
 .cases e
theorem Rp {t:TypeId}{size bytes m:Nat}{zero xs ys:List Value}{s x:Operand}{sv Q:Value}{j:Mp}(g:jA N0 σ (Γ.map (·.2)) h nx)(hs:uO N0 Γ s=some sv)(hx:uO N0 Γ x=some Q)(ht:NS h size sv=some (xs,j))(hy:srcE j size Q=some (m,ys))
 (U:ys.all jo=true) (hz:zero.length=size) (hb:bytes≠0) (h1:xs.length+m<=1048576) (Y:bytes<=65536) (H:0 < size) (h0:xs.length+m≠0)
 (S:∀C,Ag nx σ C->jA N0 C (.slice (some ⟨nx,0,none⟩) (xs.length / size+m) mO::Γ.map (·.2)) ((nx,.grow size (xs++ys))::j) (nx+1)->
   VO P n rs (aq d (rn C (.slice (some ⟨nx,0,none⟩) (xs.length / size+m) mO)) (cp C Γ)) [kY A C ((nx,.grow size (xs++ys))::j)] Z K):
 VO P n (⟨d,none,.append t size bytes zero s x⟩::rs) (cp σ Γ) [kY A σ h] Z K:=by
 obtain⟨k,sp,L,k2,F,M⟩:=Mr g H ht;have X:jA N0 σ (Γ.map (·.2)) j nx:=⟨g.fix,g.le,λp E=>g.ids p (F p E),λp E=>g.grow p (F p E),λp E=>g.cells p (F p E),g.bE⟩;obtain⟨s1,s2,s3,N⟩:=RP X hy;have G:=L.len;rw[Q6]at G;have D8:k<=xs.length:=by rw[G];exact Nat.le_mul_of_pos_right _ H
 have D:xs.length / size=k:=by rw[G];exact Nat.mul_div_cancel _ H
 refine VO.imp (ai.perm (B:=[ao (rn σ sv) (xs.map (rn σ)) sp,kY A σ j]) (by simpa using k2)) ?_;refine kw (lg g hs).1 (lg g hx).1 L .here s1 (R:=[kY A σ j]) (by simpa using s2) (by rw[Q6];exact s3) (uW σ _ U) hz hb ?_ λcw q T=>?_
 .have:(2*(k+m)+192)*bytes<=2097344*65536:=Nat.mul_le_mul Zo Y;omega
 obtain⟨b,o,c,rfl,Y3,pK⟩:=T.some (by
  rcases Qr (k+m)with e|e
  .exfalso;have W:k=0:=by omega
   rw[W,X4]at G;omega
  .exact e)
 have a:=pb σ nx b o c q;obtain⟨u1,O,u3,u4⟩:=yu σ nx b o c q;have J:=S (lO σ nx b o c q) a (g.new F (λv hv=>by
  rcases QG.1 hv with hv|hv
  .exact(M v hv).mono (Qu _)
  .exact(N v hv).mono (Qu _)) (by
  simp only[SI,u3,u4];have:((xs.map (rn σ))++(ys.map (rn σ))).length+q.length=c*size:=pK;simpa using this) (λv hv=>by
  rcases QI.1 hv with rfl|hv
  .exact ck.slc (Qx _)
  .exact(g.bE v hv).mono (Qu _)))
 have hC:Jy (lO σ nx b o c q) nx mO=c:=by simp[Jy,u3]
 simp only[bz,sE,u1,O,hC,Qp,D]at J;rw[uz a g.bE];refine VO.imp (xY (B:=kY A (lO σ nx b o c q) ((nx,.grow size (xs++ys))::j)) ?_) J;rw[oI g F];simp only[yd,u1,O,u4,ao]
 congr 2
 rw[QB]
 congr 1
 congr 1
 .exact QC λw I=>(M w I _ _ a.symm)
 .exact QC λw I=>(N w I _ _ a.symm)
theorem op_call {F:CF}(M:pX A P N0 F){f:Nat}{xs:List Operand}{args:List Value}{s:PR}(g:jA N0 σ (Γ.map (·.2)) h nx)(N:OK N0 Γ xs=some args)(O:F f args h nx=some s)
 (I:∀v q m j,s=.val v q m->Ag nx σ j->nx<=m->jA N0 j (v::Γ.map (·.2)) q m->VO P n rs (aq d (rn j v) (cp j Γ)) [kY A j q] Z K)
 (Q:∀B q m j,s=.xZ B q m->Ag nx σ j->nx<=m->jA N0 j (B.map (·.v)) q m->Z (Jz j B) (cp σ Γ) [kY A j q]):
 VO P n (⟨d,none,.call f xs⟩::rs) (cp σ Γ) [kY A σ h] Z K:=by
 obtain⟨J,L⟩:=evs_rn g N;refine kN (M f args h nx s O σ (g.with L)) J (R:=[]) (by simp[fJ]) ?_ ?_
 .rintro v Post ⟨H,q,m,j,G,C,D,E,rfl,rfl⟩
  rw[vp,uz C g.bE];exact I H q m j G C D (E.with λu hu=>by
   rcases QI.1 hu with rfl|hu
   .exact E.bE _ Zs
   .exact(g.bE u hu).mono D)
 .rintro B Post ⟨H,q,m,j,G,C,D,E,rfl,rfl⟩
  rw[vp];exact Q H q m j G C D E
end
variable {A:List kC}
section
variable {P:Program} {N0 nx n:Nat} {σ:Sg} {Γ:Env} {h:Mp} {rs:List RO} {d:Option Nat} {Z:List PanicEntry->Env->SH->Prop} {K:Env->SH->Prop}
theorem EU(g:jA N0 σ (Γ.map (·.2)) h nx){v:Value}(d:ck nx v):jA N0 σ (v::Γ.map (·.2)) h nx:=g.with λu hu=>by
 rcases QI.1 hu with rfl|hu
 .exact d
 .exact g.bE u hu
theorem DO(g:jA N0 σ (Γ.map (·.2)) h nx){d y:Nat}{x:Option Operand}{l:Nat}{dd:Option Nat}(A:dd=some d)(e:Tb N0 Γ d x=some l)(B:l<=y):wY y dd (x.map (G9 (cp σ Γ)))=some l/\∀o∈pD x,known (cp σ Γ) o=true:=by
 cases x with
 |none=>simp only[Tb,XD]at e;subst e;exact⟨A,λo j=>by cases j⟩
 |some x=>
  simp only[Tb]at e;split at e
  case h_2=>cases e
  rename_i k z C;cases e;have m:=(lg g C).1;rw[cN]at m;refine⟨?_,λo j=>?_⟩
  .have q:G9 (cp σ Γ) x=.int k (Int.ofNat l):=by simp[G9,m]
   have s:(0:Int)<=Int.ofNat l/\Int.ofNat l<=(y:Int):=⟨Int.natCast_nonneg _,Int.ofNat_le.2 B⟩;simp only[XB,wY,q,bound,if_pos s];rfl
  .simp only[pD,Option.toList_some,QU]at j;subst j;simp[known,m]
theorem op_slcU {size b o k c:Nat}{x:Operand}{I G:Option Operand}{v:Value}(g:jA N0 σ (Γ.map (·.2)) h nx)(hx:uO N0 Γ x=some (.slice (some ⟨b,o,none⟩) k c))(hc:Nat.blt c mO=false)(j:slcU N0 Γ h size I G b o k c=some v)
 (T:ck nx v->VO P n rs (aq d (rn σ v) (cp σ Γ)) [kY A σ h] Z K):VO P n (⟨d,none,.sL size x I G none⟩::rs) (cp σ Γ) [kY A σ h] Z K:=by
 unfold slcU at j;split at j
 case h_2=>cases j
 rename_i s vs L;split at j
 case h_2=>cases j
 rename_i l m hl hm;split at j
 case h_2=>cases j
 rename_i O;simp only[vG]at O;obtain⟨W,X,c3,Y,c5,c6,c7⟩:=O;cases j;have e1:=yj W;have e2:=E8 X;have e3:=yj c3;have e4:=lU Y;have e5:=lU c5;have e6:=lU c6;have E:¬c < mO:=λN=>by have:Nat.blt c mO=true:=Nat.ble_eq_true_of_le N;rw[hc]at this;cases this
 have M:=g.grow _ (yG L);simp only[SI]at M;have S:(c - mO+k)*size<=σ.cap b*size:=by rw[e1]at M;omega
 have F:c - mO+k<=σ.cap b:=Nat.le_of_mul_le_mul_right S e2;have hid:=g.ids _ (yG L);have Q:=(lg g hx).1;have H:G9 (cp σ Γ) x=.slice (some ⟨σ.sX b,σ.off b+o,none⟩) k (σ.cap b - (c - mO)):=by
  simp only[G9,Q,X7,bz,sE,Jy,if_neg E]
 have J:=DO (y:=m) (dd:=some 0) g rfl hl e5;have C:=DO (y:=σ.cap b - (c - mO)) (dd:=some k) g rfl hm Zo;refine o6 rfl ?_ (v:=rn σ (.slice (some ⟨b,o+l*size,none⟩) (m - l) (c+l))) ?_ (T (ck.slc hid))
 .rw[vg];intro y hy;simp only[mq,QI,QG]at hy;rcases hy with rfl|(hy|hy)|hy
  .simp[known,Q]
  .exact J.2 y hy
  .exact C.2 y hy
  .cases hy
 .have D:y8 k (σ.cap b - (c - mO)) (I.map (G9 (cp σ Γ))) (G.map (G9 (cp σ Γ))) none=some (l,m,σ.cap b - (c - mO)):=by
   have U:wY (σ.cap b - (c - mO)) (some (σ.cap b - (c - mO))) none=some (σ.cap b - (c - mO)):=rfl;unfold y8;rw[U,Option.bind_some];simp only[Option.isSome_none,vM,if_false];rw[C.1,Option.bind_some,J.1];rfl
  simp only[kW,H,XA,D,XB,bz,sE,Jy,if_neg (show ¬c+l < mO by omega)];have pA:c+l - mO=c - mO+l:=by omega
  have B:(if σ.cap b - (c - mO)=l then σ.off b+o else σ.off b+o+l*size)=σ.off b+(o+l*size):=by
   split
   .rename_i N;rcases vU.1 c7 with q|q
    .have:=E8 q;omega
    .have:=yj q;subst this;simp
   .omega
  rw[B,pA,Nat.sub_sub]
theorem Xj {F:CF}(S:pX A P N0 F){r:R}{L:PR}(j:yh N0 F r Γ h nx=some L)(g:jA N0 σ (Γ.map (·.2)) h nx)
 (H:∀v G I q,L=.val v G I->Ag nx σ q->nx<=I->jA N0 q (v::Γ.map (·.2)) G I->VO P n rs (aq d (rn q v) (cp q Γ)) [kY A q G] Z K)
 (rY:∀N G I q,L=.xZ N G I->Ag nx σ q->nx<=I->jA N0 q (N.map (·.v)) G I->Z (Jz q N) (cp σ Γ) [kY A q G]):
 VO P n (⟨d,none,r⟩::rs) (cp σ Γ) [kY A σ h] Z K:=by
 have C:∀v,L=.val v h nx->ck nx v->VO P n rs (aq d (rn σ v) (cp σ Γ)) [kY A σ h] Z K:=λv e M=>H v h nx σ e (.refl _ _) (Qt _) (EU g M)
 have J:kg r=true->EF N0 r Γ h nx=some L->VO P n (⟨d,none,r⟩::rs) (cp σ Γ) [kY A σ h] Z K:=λY j=>by
  unfold EF at j;split at j
  case h_2=>cases j
  rename_i B;simp only[vG]at B;split at j
  case h_2=>cases j
  rename_i v hv;cases j;exact op_pure g Y B.2.1 B.2.2.1 B.2.2.2 hv (C v rfl)
 cases r
 case dc x=>
  simp only[yh]at j;split at j
  case h_2=>cases j
  rename_i b o D;split at j
  case h_2=>cases j
  rename_i v O;cases j;exact Xh g D O (C v rfl)
 case ij m x=>
  simp only[yh]at j;split at j
  case h_2=>cases j
  rename_i b o D;split at j
  case h_2=>cases j
  rename_i us O;cases j;exact Xi g D O (C _ rfl)
 case alloc t z=>
  simp only[yh]at j;split at j
  case h_2=>cases j
  rename_i hz;cases j;exact Xg g hz λq a E=>H _ _ _ q rfl a (Qu _) E
 case box t x=>
  simp only[yh]at j;split at j
  case h_2=>cases j
  rename_i v D;cases j;exact op_box g D λq a E=>H _ _ _ q rfl a (Qu _) E
 case nA t len z ps=>
  simp only[yh]at j;split at j
  case h_2=>cases j
  rename_i B;simp only[vG]at B;split at j
  case h_2=>cases j
  rename_i out X;cases j;exact Rq g B.1 B.2.1 X (E8 B.2.2) λq a E=>H _ _ _ q rfl a (Qu _) E
 case store m x y=>
  simp only[yh]at j;split at j
  case h_2=>cases j
  rename_i b o u D Q;split at j
  case h_2=>cases j
  rename_i W;split at j
  case h_2=>cases j
  rename_i G hw;cases j;exact Xk g D Q (yj W) hw λE=>H _ _ _ σ rfl (.refl _ _) (Qt _) E
 case append t size bytes zero s x=>
  simp only[yh]at j;split at j
  case h_2=>cases j
  rename_i sv xv M D;split at j
  case h_2=>cases j
  rename_i xs G ht;split at j
  case h_2=>cases j
  rename_i m ys Q;split at j
  case h_2=>cases j
  rename_i B;simp only[vG,vO]at B;cases j;exact Rp g M D ht Q B.1 (yj B.2.1) (beqF B.2.2.1) (lU B.2.2.2.1) (lU B.2.2.2.2.1) (E8 B.2.2.2.2.2.1) (beqF B.2.2.2.2.2.2) λq a E=>H _ _ _ q rfl a (Qu _) E
 case call f xs=>
  simp only[yh]at j;split at j
  case h_2=>cases j
  rename_i args T;exact op_call S g T j H rY
 case sL size x lo hi mx=>
  simp only[yh]at j;split at j
  .rename_i b o k c D;split at j
   .exact J rfl j
   .rename_i U;split at j
    case h_2=>cases j
    rename_i v M;cases j;exact op_slcU g D U M (C v rfl)
  .exact J rfl j
 all_goals first
  |exact J rfl j
  |(simp only[yh,EF,kg,vL]at j;cases j;done)
theorem uh {F:CF}(X:pX A P N0 F):∀{rs:List RO} {Γ:Env} {h:Mp} {nx:Nat} {σ:Sg} {E:OR},zE N0 F rs Γ h nx=some E->jA N0 σ (Γ.map (·.2)) h nx->
 (∀C q m j,E=.ok C q m->Ag nx σ j->nx<=m->jA N0 j (C.map (·.2)) q m->K (cp j C) [kY A j q])->
 (∀C D q m j,E=.xZ D C q m->Ag nx σ j->nx<=m->jA N0 j (D.map (·.v)++C.map (·.2)) q m->Z (Jz j D) (cp j C) [kY A j q])->VO P n rs (cp σ Γ) [kY A σ h] Z K:=by
 intro rs
 induction rs with
 |nil=>
  intro Γ h nx σ E B g G H;simp only[zE,XD]at B;exact VO.nil (G Γ h nx σ B.symm (.refl _ _) (Qt _) g)
 |cons x rs ih=>
  intro Γ h nx σ E B g G H;obtain⟨d,W,r⟩:=x;have U:∀{E:OR},(match yh N0 F r Γ h nx with
   |none=>none
   |some (.xZ D q m)=>some (.xZ D Γ q m)
   |some (.val v q m)=>zE N0 F rs (aq d v Γ) q m)=some E->
   (∀C q m j,E=.ok C q m->Ag nx σ j->nx<=m->jA N0 j (C.map (·.2)) q m->K (cp j C) [kY A j q])->
   (∀C D q m j,E=.xZ D C q m->Ag nx σ j->nx<=m->jA N0 j (D.map (·.v)++C.map (·.2)) q m->Z (Jz j D) (cp j C) [kY A j q])->VO P n (⟨d,none,r⟩::rs) (cp σ Γ) [kY A σ h] Z K:=by
   intro E B G H;cases hr:yh N0 F r Γ h nx with
   |none=>rw[hr]at B;cases B
   |some pr=>
    rw[hr]at B;refine Xj X hr g ?_ ?_
    .rintro v q m j rfl a le I
     simp only at B;rw[<- NH];refine ih B ⟨I.fix,I.le,I.ids,I.grow,I.cells,Jm I.bE⟩ ?_ ?_
     .intro O S M L e N J Q;exact G O S M L e (a.trans N le) (Qv le J) Q
     .intro O D S M L e N J Q;exact H O D S M L e (a.trans N le) (Qv le J) Q
    .rintro D q m j rfl a le I
     simp only[XD]at B;rw[uz a g.bE];exact H Γ D q m j B.symm a le (I.with λu hu=>by
      rcases QG.1 hu with hu|hu
      .exact I.bE u hu
      .exact(g.bE u hu).mono le)
  have skip:∀{E:OR},zE N0 F rs (aq d undef Γ) h nx=some E->
   (∀C q m j,E=.ok C q m->Ag nx σ j->nx<=m->jA N0 j (C.map (·.2)) q m->K (cp j C) [kY A j q])->
   (∀C D q m j,E=.xZ D C q m->Ag nx σ j->nx<=m->jA N0 j (D.map (·.v)++C.map (·.2)) q m->Z (Jz j D) (cp j C) [kY A j q])->VO P n rs (aq d undef (cp σ Γ)) [kY A σ h] Z K:=by
   intro E B G H;have hu:rn σ undef=undef:=eZ rfl;have:=ih (σ:=σ) B (g.with (Jm (EU g (ck.plain rfl)).bE)) G H;rw[NH,hu]at this;exact this
  cases W with
  |none=>
   simp only[zE,KW]at B;exact U B G H
  |some sb=>
   obtain⟨s,b⟩:=sb;simp only[zE,KW]at B;cases hl:look Γ s with
   |none=>rw[hl]at B;cases B
   |some u=>
    rw[hl]at B;cases u <;> try (cases B;done)
    case tuple vs=>
     simp only at B;cases hv:vs.toList with
     |cons x l=>rw[hv]at B;cases B
     |nil=>
      rw[hv]at B;have e:vs=#[]:=vD.1 (by rw[hv]);subst e;exact JQ (by rw[l8,hl];simp[undef]) (skip B G H)
    rename_i c;have T:look (cp σ Γ) s=some (.bool c):=by rw[l8,hl];simp
    simp only at B;cases K0:(c==b)with
    |true=>
     rw[K0]at B;have e:c=b:=by simpa using K0
     subst e;exact sP T (U B G H)
    |false=>
     rw[K0]at B;exact EX T K0 (skip B G H)
end
def rnX(σ:Sg):Ex->Exit
 |.normal=>.normal
 |.exit i=>.exit i
 |.ret=>.ret
 |.xZ ch=>.panic (Jz σ ch)
def yg:Ex->List Value
 |.xZ ch=>ch.map (·.v)
 |_=>[]
section
variable {P:Program} {N0 n L:Nat}
def Kw(A:List kC)(P:Program)(N0 n:Nat)(c:IC)(f:Env->Mp->Nat->IR):Prop:=∀Γ h nx e aw h' bf,f Γ h nx=some (e,aw,h',bf)->∀σ,jA N0 σ (Γ.map (·.2)) h nx->∀Q:Exit->Env->SH->Prop,
 (∀aK,Ag nx σ aK->nx<=bf->jA N0 aK (yg e++aw.map (·.2)) h' bf->Q (rnX aK e) (cp aK aw) [kY A aK h'])->VC P n c (cp σ Γ) [kY A σ h] Q
theorem LG {c:IC}{f:Env->Mp->Nat->IR}(T:Kw A P N0 n c f):∀k,Kw A P N0 n (.loop c) (IX f k):=by
 intro k Γ h nx e K N L U σ g Q D;refine VC.loop (α:=Nat×Env×Mp×Nat×Sg) (bg:=λs=>cp s.2.2.2.2 s.2.1) (Hf:=λs=>[kY A s.2.2.2.2 s.2.2.1])
  (I:=λs=>IX f s.1 s.2.1 s.2.2.1 s.2.2.2.1=some (e,K,N,L)/\Ag nx σ s.2.2.2.2/\nx<=s.2.2.2.1/\jA N0 s.2.2.2.2 (s.2.1.map (·.2)) s.2.2.1 s.2.2.2.1) (μ:=λs=>s.1) (k,Γ,h,nx,σ)
  ⟨U,.refl _ _,Qt _,g⟩ Sub.refl (ai.refl _) ?_
 rintro⟨j,F,O,E,G⟩ ⟨m,q,d,H⟩
 simp only at m q d H|-;cases j with
 |zero=>cases m
 |succ j=>
  simp only[IX]at m;cases hb:f F O E with
  |none=>rw[hb]at m;cases m
  |some r=>
   obtain⟨x,M,S,J⟩:=r;rw[hb]at m;refine T _ _ _ _ _ _ _ hb G H _ λB a le C=>?_
   cases x with
   |normal=>
    simp only at m;exact⟨(j,M,S,J,B),⟨m,q.trans a d,Qv d le,by simpa[yg]using C⟩,Qx _,Sub.refl,ai.refl _⟩
   |exit i=>cases m;exact D B (q.trans a d) (Qv d le) C
   |ret=>cases m;exact D B (q.trans a d) (Qv d le) C
   |xZ ch=>cases m;exact D B (q.trans a d) (Qv d le) C
theorem iZ {e:Value->Value->Bool}(d:∀a b,e a b=true->a=b):∀{l m:List Value},Tv e l m=true->l=m:=by
 intro l
 induction l with
 |nil=>intro m h;cases m with
  |nil=>rfl
  |cons=>simp[Tv]at h
 |cons a l ih=>intro m h;cases m with
  |nil=>simp[Tv]at h
  |cons b m=>
   simp only[Tv,vG]at h;rw[d _ _ h.1,ih h.2]
theorem lf:∀(k:Nat) {a b:Value},Oz k a b=true->a=b:=by
 intro k
 induction k with
 |zero=>intro a b h;simp[Oz]at h
 |succ k ih=>
  intro a b h;unfold Oz at h;split at h <;> (try simp only[vG,beq_iff_eq,decide_eq_true_eq]at h)
  all_goals first
   |rfl
   |(cases h;done)
   |(obtain⟨d,g⟩:=h;subst d;subst g;rfl)
   |(subst h;rfl)
   |(obtain⟨d,g⟩:=h;rw[yj d,yj g])
   |(obtain⟨d,g,j⟩:=h;rw[d,yj g,yj j])
   |(rw[yj h])
   |(obtain⟨d,g⟩:=h;rw[d,ih g])
   |(rw[vD.1 (iZ (λ_ _=>ih) h)])
   |(obtain⟨d,g,j⟩:=h;rw[d,vD.1 (iZ (λ_ _=>ih) g),vD.1 (iZ (λ_ _=>ih) j)])
theorem Ow:∀{Γ Δ:Env},eqE Γ Δ=true->Γ=Δ:=by
 intro Γ
 induction Γ with
 |nil=>intro Δ h;cases Δ with
  |nil=>rfl
  |cons=>simp[eqE]at h
 |cons p Γ ih=>
  intro Δ h;obtain⟨s,x⟩:=p;cases Δ with
  |nil=>simp[eqE]at h
  |cons q Δ=>
   obtain⟨t,y⟩:=q;simp only[eqE,vG]at h;rw[yj h.1,lf 20 h.2.1,ih h.2.2]
theorem Oy:∀{l m:List MapEntry},eqM l m=true->l=m:=by
 intro l
 induction l with
 |nil=>intro m h;cases m with
  |nil=>rfl
  |cons=>simp[eqM]at h
 |cons a l ih=>intro m h;cases m with
  |nil=>simp[eqM]at h
  |cons b m=>
   simp only[eqM,vG]at h;obtain⟨⟨d,g⟩,j,q⟩:=h;cases a;cases b;simp only at d g j;rw[lf 20 d,lf 20 g,yj j,ih q]
theorem Ov {a b:xQ}(h:eqB a b=true):a=b:=by
 unfold eqB at h;split at h <;> (try simp only[vG,decide_eq_true_eq]at h)
 .rw[iZ (λ_ _=>lf 20) h]
 .rw[yj h.1,iZ (λ_ _=>lf 20) h.2]
 .rw[yj h.2,vD.1 (Oy h.1)]
 .rw[h.1,yj h.2]
 .cases h
theorem Ox:∀{Γ Δ:Mp},eqH Γ Δ=true->Γ=Δ:=by
 intro Γ
 induction Γ with
 |nil=>intro Δ h;cases Δ with
  |nil=>rfl
  |cons=>simp[eqH]at h
 |cons p Γ ih=>
  intro Δ h;obtain⟨s,x⟩:=p;cases Δ with
  |nil=>simp[eqH]at h
  |cons q Δ=>
   obtain⟨t,y⟩:=q;simp only[eqH,vG]at h;rw[yj h.1,Ov h.2.1,ih h.2.2]
theorem Oo {F:CF}{j:List Nat}{Γ Δ:Env}{h q:Mp}{nx s:Nat}:∀{r:List (List RO)},MU N0 F j Γ h nx Δ q s r=true->∀rs∈r,∃m,zE N0 F rs Γ h nx=some (.ok m q s)/\aT j m=Δ:=by
 intro r
 induction r with
 |nil=>intro _ rs h;cases h
 |cons x r ih=>
  intro d rs cW;simp only[MU]at d;split at d
  case h_2=>cases d
  rename_i A h' bf B;split at d
  case h_2=>cases d
  rename_i g;simp only[vG]at g;rcases QI.1 cW with rfl|cW
  .exact⟨A,by rw[B,yj g.2.1,Ox g.2.2],Ow g.1⟩
  .exact ih d rs cW
theorem UX {F:CF}(X:pX A P N0 F)(L:Nat):∀c:IC,Kw A P N0 n c (wS N0 F L c):=by
 intro c
 induction c with
 |skip=>
  intro Γ h nx e q E B d σ g Q j;simp only[wS,XD,XE]at d;obtain⟨rfl,rfl,rfl,rfl⟩:=d;exact VC.skip (j σ (.refl _ _) (Qt _) (by simpa[yg]using g))
 |mY rs aV=>
  intro Γ h nx e q E B d σ g Q j;simp only[wS]at d;cases ho:zE N0 F rs Γ h nx with
  |none=>rw[ho]at d;cases d
  |some r=>
   rw[ho]at d;refine VC.mY (uh X ho g ?_ ?_)
   .rintro C O M J rfl a le D
    simp only[XD,XE]at d;obtain⟨rfl,rfl,rfl,rfl⟩:=d;have:=j J a le (by simpa[yg]using D.with (rk D.bE));rw[uA]at this;exact this
   .rintro C N O M J rfl a le D
    simp only[XD,XE]at d;obtain⟨rfl,rfl,rfl,rfl⟩:=d;exact j J a le (by simpa[yg]using D)
 |draw s8 aV=>
  intro Γ h nx e q E B d σ g Q j;simp only[wS]at d;split at d
  case h_1=>cases d
  rename_i rs r;cases ho:zE N0 F rs Γ h nx with
  |none=>rw[ho]at d;cases d
  |some bO=>
   rw[ho]at d;cases bO with
   |xZ N Γ1 h1 n1=>
    cases d
   |ok Γ1 h1 n1=>
    simp only at d;have first:∀U:Env->SH->Prop,(∀m,Ag nx σ m->nx<=n1->jA N0 m (Γ1.map (·.2)) h1 n1->U (aT aV (cp m Γ1)) [kY A m h1])->VO P n rs (cp σ Γ) [kY A σ h] (λ_ _ _=>False) λq H'=>U (aT aV q) H':=λU lR=>by
     refine uh X ho g ?_ ?_
     .rintro C O M J G a le D
      cases G;exact lR J a le D
     .rintro C N O M J G
      cases G
    cases r with
    |nil=>
     simp only[XD,XE]at d;obtain⟨rfl,rfl,rfl,rfl⟩:=d;exact VC.DT (first (λΓ H=>Q .normal Γ H) λm a le D=>by have:=j m a le (by simpa[yg]using D.with (rk D.bE));rw[uA]at this;exact this)
    |cons r0 r1=>
     simp only at d;split at d
     case h_2=>cases d
     rename_i I;simp only[XD,XE]at d;obtain⟨rfl,rfl,rfl,rfl⟩:=d;refine VC.draw λS hrs2=>?_
     have go:∀C,zE N0 F S Γ h nx=some (.ok C h1 n1)->aT aV C=aT aV Γ1->VO P n S (cp σ Γ) [kY A σ h] (λ_ _ _=>False) λq H'=>Q .normal (aT aV q) H':=λC Z G=>by
      refine uh X Z g ?_ ?_
      .rintro Γ3 h3 nx3 T W a le g3
       cases W;have:=j T a le (by rw[<- G];simpa[yg]using g3.with (rk g3.bE));rw[<- G,uA]at this;exact this
      .rintro Γ3 N h3 nx3 T W
       cases W
     rcases QI.1 hrs2 with rfl|hrs2
     .exact go Γ1 ho rfl
     .obtain⟨C,o1,o2⟩:=Oo I _ hrs2;exact go C o1 o2
 |seq x y ihx ihy=>
  intro Γ h nx e q E B d σ g Q j;simp only[wS]at d;cases I:wS N0 F L x Γ h nx with
  |none=>rw[I]at d;cases d
  |some r=>
   obtain⟨G,C,O,M⟩:=r;rw[I]at d;refine VC.seq (ihx _ _ _ _ _ _ _ I σ g _ λm a le s=>?_);cases G with
   |normal=>
    exact ihy _ _ _ _ _ _ _ d m (by simpa[yg]using s) Q λJ a2 le2 D=>j J (a.trans a2 le) (Qv le le2) D
   |exit i=>cases d;exact j m a le s
   |ret=>cases d;exact j m a le s
   |xZ N=>cases d;exact j m a le s
 |cond c x y ihx ihy=>
  intro Γ h nx e q E B d σ g Q j;simp only[wS]at d;split at d
  .rename_i Y;have K:=(lg g Y).1;rw[sF]at K;exact VC.tB K (ihx _ _ _ _ _ _ _ d σ g Q j)
  .rename_i Y;have K:=(lg g Y).1;rw[sF]at K;exact VC.tA K (ihy _ _ _ _ _ _ _ d σ g Q j)
  .cases d
 |block id x ih=>
  intro Γ h nx e q E B d σ g Q j;simp only[wS]at d;cases I:wS N0 F L x Γ h nx with
  |none=>rw[I]at d;cases d
  |some r=>
   obtain⟨G,C,O,M⟩:=r;rw[I]at d;refine VC.block (ih _ _ _ _ _ _ _ I σ g _ λm a le s=>?_);cases G with
   |normal=>cases d;exact j m a le s
   |exit i=>
    simp only at d;cases hi:Nat.beq i id with
    |true=>
     rw[hi]at d;cases d;show bG id Q (.exit i) _ _;simp only[bG,yj hi,if_true];exact j m a le (by simpa[yg]using s)
    |false=>
     rw[hi]at d;cases d;show bG id Q (.exit i) _ _;simp only[bG,if_neg (beqF hi)];exact j m a le s
   |ret=>cases d;exact j m a le s
   |xZ N=>cases d;exact j m a le s
 |loop x ih=>exact LG ih L
 |exit id=>
  intro Γ h nx e q E B d σ g Q j;simp only[wS,XD,XE]at d;obtain⟨rfl,rfl,rfl,rfl⟩:=d;exact VC.exit (j σ (.refl _ _) (Qt _) (by simpa[yg]using g))
 |ret=>
  intro Γ h nx e q E B d σ g Q j;simp only[wS,XD,XE]at d;obtain⟨rfl,rfl,rfl,rfl⟩:=d;exact VC.ret (j σ (.refl _ _) (Qt _) (by simpa[yg]using g))
 |scope x ih=>
  intro Γ h nx e q E B d σ g Q j;simp only[wS]at d;refine VC.scope (ih _ _ _ _ _ _ _ d σ g _ λm a le s=>⟨λl=>?_,j m a le s⟩);cases e <;> simp[rnX]
 |label l=>
  intro Γ h nx e q E B d σ g Q j;simp only[wS,XD,XE]at d;obtain⟨rfl,rfl,rfl,rfl⟩:=d;exact VC.label (j σ (.refl _ _) (Qt _) (by simpa[yg]using g))
 |iM g ps x y ihx ihy=>intro Γ h nx e q E B d;simp only[wS]at d;cases d
 |free rs an aV=>intro Γ h nx e q E B d;simp only[wS]at d;cases d
theorem RG {nx:Nat}{σ:Sg}{Γ:Env}{h:Mp}{D:List Value}(g:jA N0 σ D h nx)(C:∀v∈Γ.map (·.2),ck nx v):∀{r:List RV} {vs:List Value},Ck Γ h r=some vs->Sm (cp σ Γ) [kY A σ h] r (vs.map (rn σ))/\∀v∈vs,ck nx v:=by
 intro r
 induction r with
 |nil=>intro vs e;simp only[Ck,XD]at e;subst e;exact⟨.nil,λv C=>by cases C⟩
 |cons x r ih=>
  intro vs e;cases x with
  |tmp t=>
   simp only[Ck]at e;split at e
   case h_2=>cases e
   rename_i v l j d;cases e;obtain⟨q,s⟩:=ih d;refine⟨.tmp (by rw[l8,j];rfl) q,λu hu=>?_⟩;rcases QI.1 hu with rfl|hu
   .exact C _ (Bh j)
   .exact s u hu
  |cq t=>
   simp only[Ck]at e;split at e
   case h_2=>cases e
   rename_i b o j;split at e
   case h_2=>cases e
   rename_i v l d B;cases e;obtain⟨q,s⟩:=ih B;refine⟨.cq (b:=σ.sX b) (o:=σ.off b+o) (by rw[l8,j];simp[sE]) ?_ q,λu hu=>?_⟩
   .simp only[Vd,Ve,vp];exact fU d _ MJ
   .rcases QI.1 hu with rfl|hu
    .exact oj g d _ Zs
    .exact s u hu
  |aI t m=>
   simp only[Ck]at e;split at e
   case h_2=>cases e
   rename_i b o j;split at e
   case h_2=>cases e
   rename_i us l d B;cases e;obtain⟨q,s⟩:=ih B;refine⟨?_,λu hu=>?_⟩
   .have E:rn σ (.agg us.toArray)=.agg (us.map (rn σ)).toArray:=by simp
    rw[QD,E];refine .aI (b:=σ.sX b) (o:=σ.off b+o) (by rw[l8,j];simp[sE]) (by rw[Q6];exact oT d) ?_ q;simp only[Vd,Ve,vp];exact fU d
   .rcases QI.1 hu with rfl|hu
    .exact ck.agg (oj g d)
    .exact s u hu
def FeOk(P:Program)(f:Nat):FE->Prop
 |.fir F=>∃kp od,pC P kp od f=some F
def uH(P:Program)(EY:List (Nat×FE)):Prop:=∀p∈EY,FeOk P p.1 p.2
theorem uH.nil:uH P []:=λp d=>by cases d
theorem uH.cons {f:Nat}{R:aO}{g:Nat->List Nat}{j:Nat->List (List Nat)}{d:List (Nat×FE)}(h:pC P g j f=some R)(t:uH P d):uH P ((f,.fir R)::d):=λp hp=>by
 rcases QI.1 hp with rfl|hp
 .exact⟨g,j,h⟩
 .exact t p hp
theorem tab_mem {d:List (Nat×FE)}{f:Nat}{R:FE}(e:Yk d f=some R):(f,R)∈d:=by
 induction d with
 |nil=>cases e
 |cons p d ih=>
  obtain⟨i,b⟩:=p;simp only[Yk]at e;split at e
  .rename_i g;cases e;rw[yj g];simp
  .simp[ih e]
theorem N8:∀{vs:List Value} {k:Nat},(aM k vs).map (·.2)=vs:=by
 intro vs
 induction vs with
 |nil=>intro k;rfl
 |cons v vs ih=>intro k;simp only[aM,QD,ih]
theorem ZL(σ:Sg):∀{vs:List Value} {k:Nat},cp σ (aM k vs)=aM k (vs.map (rn σ)):=by
 intro vs
 induction vs with
 |nil=>intro k;rfl
 |cons v vs ih=>intro k;simp only[aM,QD,<- ih];rfl
theorem Z0 {B:List (Nat×FE)}{C:CF}(Q:uH P B)(O:pX A P N0 C)(L:Nat):∀k,pX A P N0 (Ax N0 B C L k):=by
 intro k
 induction k with
 |zero=>intro f args h nx D d;simp only[Ax]at d;cases d
 |succ k ih=>
  intro f args h nx D d σ g;simp only[Ax]at d;cases hor:C f args h nx with
  |some v=>
   rw[hor]at d;cases d;exact O f args h nx _ hor σ g
  |none=>
   rw[hor]at d;simp only at d;cases hta:Yk B f with
   |none=>rw[hta]at d;cases d
   |some E=>
    have K:=Q _ (tab_mem hta);rw[hta]at d;cases E with
    |fir R=>
     simp only at d;split at d
     case h_1=>cases d
     rename_i N;obtain⟨kp,od,M⟩:=K;refine ju.intro M (by rw[Q6];exact lU N) ?_;rw[<- ZL];cases hb:wS N0 (Ax N0 B C L k) L R.body (aM 0 args) h nx with
     |none=>rw[hb]at d;cases d
     |some r=>
      obtain⟨e,G,m,q⟩:=r;rw[hb]at d;refine UX ih L R.body _ _ _ _ _ _ _ hb σ (g.with (by rw[N8];exact g.bE)) _ λj a le F=>?_
      have fin:∀x:Exit,(x=.normal∨x=.ret)->(match Ck G m R.bO with|some vs=>some (PR.val (bN vs) m q)|none=>none)=some D->jA N0 j (G.map (·.2)) m q->
       ZY R.bO (λv Post=>∃J m q j,D=.val J m q/\Ag nx σ j/\nx<=q/\jA N0 j [J] m q/\v=rn j J/\Post=[kY A j m])
        (λH Post=>∃s m q j,D=.xZ s m q/\Ag nx σ j/\nx<=q/\jA N0 j (s.map (·.v)) m q/\H=Jz j s/\Post=[kY A j m]) x (cp j G) [kY A j m]:=by
       intro x U d I;split at d
       case h_2=>cases d
       rename_i vs W;cases d;obtain⟨X,Y⟩:=RG I I.bE W;refine jT ⟨U,_,_,X,ai.refl _,V.bN vs,m,q,j,rfl,a,le,I.with (λw T=>by rw[QU.1 T];exact ck.bN Y),(rn_tup j vs).symm,rfl⟩
      cases e with
      |normal=>exact fin .normal (.inl rfl) d (by simpa[yg]using F)
      |ret=>exact fin .ret (.inr rfl) d (by simpa[yg]using F)
      |exit i=>cases d
      |xZ H=>
       cases d;exact⟨_,ai.refl _,H,m,q,j,rfl,a,le,F.with (λu S=>F.bE u (Zw _ S)),rfl,rfl⟩
end
def qm(d a:Nat):RO:=⟨some d,none,.mv (.tmp a)⟩
def qk(d:Nat)(v:Int):RO:=⟨some d,none,.mv (.const (.int .i64 v))⟩
def qz(d:Nat)(b:Bool):RO:=⟨some d,none,.mv (.const (.bool b))⟩
def qo(d:Nat)(r:R):RO:=⟨some d,none,r⟩
def ql(d a:Nat):RO:=⟨some d,none,.dc (.tmp a)⟩
def qf(d o a:Nat):RO:=⟨some d,none,.Ha o (.tmp a)⟩
def qi(d s a b:Nat):RO:=⟨some d,none,.Lh s (.tmp a) (.tmp b)⟩
def qb(d:Nat)(o:BinOp)(a b:Nat):RO:=⟨some d,none,.bin o (.tmp a) (.tmp b)⟩
def qc(d:Nat)(o:BinOp)(a:Nat)(v:Int):RO:=⟨some d,none,.bin o (.tmp a) (.const (.int .i64 v))⟩
def qn(d a:Nat):RO:=⟨some d,none,.uU (.tmp a)⟩
def qs(n a b:Nat):RO:=⟨none,none,.store n (.tmp a) (.tmp b)⟩
def qp(d c a b:Nat):RO:=⟨some d,none,.pick (.tmp c) (.tmp a) (.tmp b)⟩
def qa(d c a:Nat):RO:=⟨some d,none,.pick (.tmp c) (.tmp a) (.const (.bool false))⟩
def qr(d c b:Nat):RO:=⟨some d,none,.pick (.tmp c) (.const (.bool true)) (.tmp b)⟩
def qe(d a i:Nat):RO:=⟨some d,none,.ext (.tmp a) i⟩
def tmps:List Nat->List Operand
 |[]=>[]
 |a::r=>.tmp a::tmps r
def qx(d f:Nat)(l:List Nat):RO:=⟨some d,none,.call f (tmps l)⟩
def qL(d a:Nat):RO:=⟨some d,none,.Lq (.tmp a)⟩
def qN(d n a:Nat):RO:=⟨some d,none,.ij n (.tmp a)⟩
def qB(d t a:Nat):RO:=⟨some d,none,.box t (.tmp a)⟩
def qt(g:Nat)(x:RO):RO:=⟨x.dst,some (g,true),x.op⟩
def qu(g:Nat)(x:RO):RO:=⟨x.dst,some (g,false),x.op⟩
def qS(rs:List RO)(k:List Nat)(r:IC):IC:=.seq (.mY rs k) r
def qC(c:Nat)(a b:IC):IC:=.cond (.tmp c) a b
def nthO:List RO->Nat->RO
 |[],_=>default
 |x::_,0=>x
 |_::r,n+1=>nthO r n
def ordO(l:List RO):List Nat->List RO
 |[]=>[]
 |i::r=>nthO l i::ordO l r
def Jg(l:List RO):List (List Nat)->List (List RO)
 |[]=>[]
 |p::r=>ordO l p::Jg l r
def qD(l:List RO)(ps:List (List Nat))(k:List Nat):IC:=.draw (Jg l ps) k
def qO:IC->List (List Nat)
 |.skip|.exit _|.ret|.label _=>[]
 |.mY _ k|.draw _ k|.free _ _ k=>[k]
 |.seq a b|.cond _ a b|.iM _ _ a b=>qO a++qO b
 |.loop (.seq a (.seq b c))=>qO a++(qO c++qO b)
 |.block _ b|.loop b|.scope b=>qO b
def kpO(F:aO)(i:Nat):List Nat:=(qO F.body).getD i []
def laid {X F:aO}(_h:F=X:=by(dsimp only[qm,qk,qz,qo,ql,qf,qi,qb,qc,qn,qs,qp,qa,qr,qe,tmps,qx,qL,qN,qB,qt,qu,qS,qC,nthO,ordO,Jg,qD] <;> exact rfl)):aO:=F
theorem TKx {H R:SH}{A:List kC}(h:Tk H A R:=by(focus ((repeat (first|with_reducible exact Tk.here|apply Tk.there));done))):Tk H A R:=h
theorem bT {H D:SH}(h:ai H D:=by(first|with_reducible exact ai.refl|with_reducible exact ai.left|(focus ((try simp only[QV]);(repeat (first|exact ai.nil|(apply ai.cons;(focus ((repeat (first|with_reducible exact Tk.here|apply Tk.there));done)))));done)))):ai H D:=h
theorem SPx {H D R:SH}(h:fJ H D R:=by(focus ((repeat (first|exact fJ.nil|(apply fJ.cons;(focus ((repeat (first|with_reducible exact Tk.here|apply Tk.there));done)))));done))):fJ H D R:=h
theorem C0 {G D:Env}(h:Sub G D:=by(repeat (first|exact Sub.nil|(apply Sub.cons;rfl)))):Sub G D:=h
theorem aE {α:Type}:(∀(a:α) (l r:List α),(a::l)++r=a::(l++r))/\(∀r:List α,([]:List α)++r=r):=⟨λ_ _ _=>rfl,λ_=>rfl⟩
theorem run_mem {A:List kC}{P:Program}{d:Nat}{C:List (Nat×FE)}{D:CF}(O:uH P C)(N:pX A P d D){L k f:Nat}{args:List Value}{q:Value}{j:Mp}{B:Nat}(E:args.all rh=true)(M:Ax d C D L k f args [] d=some (.val q j B)):
 au P f args [A] (λu Post=>∃σ,jA d σ [q] j B/\u=rn σ q/\Post=[A,kY [] σ j]):=by
 have g:jA d ⟨λi=>i,λ_=>0,λ_=>0,λ_=>[]⟩ args [] d:=⟨λ_ _=>⟨rfl,rfl⟩,Qt _,(λp m=>by cases m),(λp m=>by cases m),(λp m=>by cases m),λu s=>ck.plain (vg.1 E u s)⟩;have F:=Z0 O N L k f args [] d _ M _ g;have G:args.map (rn ⟨λi=>i,λ_=>0,λ_=>0,λ_=>[]⟩)=args:=by
  conv=>rhs;rw[<- List.map_id args]
  exact QC λu s=>eZ (vg.1 E u s)
 rw[G]at F;have S:=F.conv (H:=[A]) (R:=[]) (Q':=λu Post=>∃σ,jA d σ [q] j B/\u=rn σ q/\Post=[A,kY [] σ j]) (Z':=λ_ _=>False) (by simp[fJ,kY]) ?_ ?_
 .exact S.fun
 .rintro u Post ⟨v1,K,Q,h,e,_,_,J,rfl,rfl⟩
  cases e;exact⟨[A,kY [] h j],⟨h,J,rfl,rfl⟩,ai.perm (by simpa using IN)⟩
 .rintro ch Post ⟨I,K,Q,h,e,_⟩
  cases e
def Th(h:Mp)(w:Nat)(b n c:Nat):Bool:=match Nat.blt c mO with
 |true=>Nat.ble n c
 |false=>match tL h b with
  |some (.grow s vs)=>Nat.beq s w&&Nat.beq c mO&&Nat.blt 0 w&&Nat.ble (n*w) vs.length
  |_=>false
theorem HT {q I:Nat}{σ:Sg}{A:List Value}{h:Mp}(g:jA q σ A h I){w b n c:Nat}(d:Th h w b n c=true):n<=Jy σ b c:=by
 unfold Th at d;unfold Jy;split at d
 .rename_i j;rw[if_pos (E8 j)];exact lU d
 .rename_i j;split at d
  case h_2=>cases d
  rename_i s vs H;simp only[vG]at d;obtain⟨⟨⟨B,C⟩,D⟩,E⟩:=d;obtain rfl:=yj B;obtain rfl:=yj C;rw[if_neg (Nat.lt_irrefl _),Qz,X0];have m:=g.grow _ (yG H);have m:vs.length+(σ.tl b).length=σ.cap b*s:=m;have F:=lU E;have G:=E8 D;exact Nat.le_of_mul_le_mul_right (Qv F Zo) G
def GA {α:Type}(f:List Value->Option α)(w:Nat):Nat->List Value->Option (List α)
 |0,_=>some []
 |n+1,us=>match f (us.take w)with
  |some x=>match GA f w n (us.drop w)with
   |some l=>some (x::l)
   |none=>none
  |none=>none
theorem sA {α:Type}{f:List Value->Option α}{w:Nat}:∀{n:Nat} {us:List Value} {l:List α},GA f w n us=some l->l.length=n/\∀i x,l[i]? =some x->f ((us.drop (i*w)).take w)=some x
 |0,us,l,h=>by
  obtain rfl:[]=l:=XC h;exact⟨rfl,λi x d=>by simp at d⟩
 |n+1,us,l,h=>by
  rw[GA]at h;split at h
  case h_2=>cases h
  rename_i x d;split at h
  case h_2=>cases h
  rename_i r q;obtain rfl:=XC h;obtain⟨j,m⟩:=sA q;refine⟨by rw[Vz,j],λi y g=>?_⟩;cases i with
  |zero=>
   obtain rfl:x=y:=by simpa using g
   simpa using d
  |succ i=>
   have:=m i y (by simpa using g);rw[List.drop_drop]at this;rw[X1,Nat.add_comm];exact this
def rdSl {α:Type}(h:Mp)(w:Nat)(f:List Value->Option α):Value->Option (List α)
 |.slice none 0 _=>some []
 |.slice (some ⟨b,o,none⟩) n c=>match Nat.beq o 0&&Th h w b n c with
  |true=>match lC h b 0 (n*w)with
   |some us=>GA f w n us
   |none=>none
  |false=>none
 |_=>none
theorem Cf {C I:Nat}{σ:Sg}{D:List Value}{h:Mp}(g:jA C σ D h I){α:Type}{w:Nat}{f:List Value->Option α}{v:Value}{l:List α}(d:rdSl h w f v=some l):
 ∃(a:Option Addr) (c bk o:Nat) (us:Nat->List Value),rn σ v=.slice a l.length c/\(0 < l.length->a=some ⟨bk,o,none⟩/\l.length<=c)/\(∀i,i < l.length->∀y∈kA bk (o+i*w) (us i),y∈kY [] σ h)/\∀i x,l[i]? =some x->∃ws,us i=ws.map (rn σ)/\f ws=some x:=by
 unfold rdSl at d;split at d
 .obtain rfl:[]=l:=XC d;exact⟨none,_,0,0,λ_=>[],by simp;rfl,λh=>absurd h Zs,λi s=>absurd s Zs,λi x q=>by simp at q⟩
 .rename_i b o n c;split at d
  case h_2=>cases d
  rename_i j;rw[vG]at j;obtain rfl:=yj j.1;split at d
  case h_2=>cases d
  rename_i us B;obtain⟨E,F⟩:=sA d;have Ip:=HT g j.2;have G:=fU (σ:=σ) (A:=[]) B;have hl:=oT B;refine⟨some ⟨σ.sX b,σ.off b,none⟩,Jy σ b c,σ.sX b,σ.off b,λi=>((us.drop (i*w)).take w).map (rn σ),?_,λ_=>⟨rfl,Zo⟩,λi s y H=>?_,λi x q=>⟨_,rfl,F i x q⟩⟩
  .rw[E,bz];rfl
  .refine G y ?_;rw[Qp];refine mS (i:=i*w) (m:=w) ?_ y H;show((us.drop (i*w)).take w).map (rn σ)=((us.map (rn σ)).drop (i*w)).take w;rw[List.map_take,List.map_drop]
 .cases d
def rdStr:List Value->Option ByteArray
 |[.string s]=>match Nat.ble s.size 1000 with|true=>some s|false=>none
 |_=>none
def um(h:Mp)(v:Value):Option (List ByteArray):=match rdSl h 1 rdStr v with
 |some l=>match Nat.ble l.length 1000 with|true=>some l|false=>none
 |none=>none
theorem fQ {A K:Nat}{σ:Sg}{B:List Value}{h:Mp}(g:jA A σ B h K){v:Value}{l:List ByteArray}(j:um h v=some l):cO (kY [] σ h) (rn σ v) l:=by
 unfold um at j;split at j
 case h_2=>cases j
 rename_i l' I;split at j
 case h_2=>cases j
 rename_i m;obtain rfl:=XC j;have m:=lU m;obtain⟨a,c,bk,o,us,D,E,F,G⟩:=Cf g I;refine⟨a,c,D,Zo,λi t q=>?_⟩;have H:=(Vt.1 q).1;obtain⟨ws,C,d⟩:=G i t q;unfold rdStr at d;split at d
 case h_2=>cases d
 rename_i s;split at d
 case h_2=>cases d
 rename_i J;obtain rfl:=XC d;refine⟨bk,o,(E Zo).1,?_,by have:=lU J;omega⟩;refine F i H _ ?_;rw[C,Nat.mul_one];exact kJ.2 ⟨0,.string s,Zs,rfl⟩
def ndOkB(k lk ln lb p:Int)(s lt:ByteArray)(n:Nat):Bool:=decide (0<=k/\k < 256/\0<=lk/\lk < 256/\0<=lb/\lb < 18446744073709551616)&&decide (-9223372036854775808<=ln/\ln<=9223372036854775807/\-9223372036854775808<=p/\p<=9223372036854775807)&&(Nat.ble s.size 1000&&Nat.ble lt.size 1000&&Nat.ble n 1000)
def rdNdC(kr:Value->Option (List Nd))(h:Mp):List Value->Option Nd
 |[.int .u8 k,.string s,.int .u8 lk,.int .i64 ln,.int .u64 lb,.string lt,.slice none 0 _,av,tv,kv,.int .i64 p]=>match um h av with
  |some a=>match um h tv with
   |some t=>match kr kv with
    |some ks=>match ndOkB k lk ln lb p s lt ks.length with
     |true=>some (.mk k.toNat s (.mk lk.toNat ln lb.toNat lt []) a t ks p)
     |false=>none
    |none=>none
   |none=>none
  |none=>none
 |_=>none
def Xx:Nat->Mp->Value->Option (List Nd)
 |0,_,_=>none
 |f+1,h,v=>rdSl h 11 (rdNdC (Xx f h) h) v
theorem Jo {X nx:Nat}{σ:Sg}{bE:List Value}{h:Mp}(g:jA X σ bE h nx):∀(f:Nat) (v:Value) (l:List Nd),Xx f h v=some l->
 ∃(a:Option Addr) (c bk o:Nat) (us:Nat->List Value),rn σ v=.slice a l.length c/\(0 < l.length->a=some ⟨bk,o,none⟩/\l.length<=c)/\(∀i,i < l.length->∀y∈kA bk (o+i*11) (us i),y∈kY [] σ h)/\∀i x,l[i]? =some x->jN (kY [] σ h) x (us i):=by
 intro f
 induction f with
 |zero=>intro v l h;cases h
 |succ f ih=>
  intro v l hr;obtain⟨a,c,bk,o,us,h1,h2,h3,h4⟩:=Cf g hr;refine⟨a,c,bk,o,us,h1,h2,h3,λi x J=>?_⟩;obtain⟨ws,e1,d⟩:=h4 i x J;rw[e1];unfold rdNdC at d;split at d
  case h_2=>cases d
  rename_i k s lk ln lb lt j F H K p;split at d
  case h_2=>cases d
  rename_i A hA;split at d
  case h_2=>cases d
  rename_i T hT;split at d
  case h_2=>cases d
  rename_i D W;split at d
  case h_2=>cases d
  rename_i I;obtain rfl:=XC d;unfold ndOkB at I;simp only[vG,decide_eq_true_eq]at I;obtain⟨⟨⟨b1,b2,b3,b4,b5,b6⟩,b7,b8,b9,Z⟩,⟨m,q⟩,B⟩:=I;have m:=lU m;have q:=lU q;have B:=lU B;obtain⟨E,G,C,U,L,k1,k2,Q,S⟩:=ih K D W;have M:zl (kY [] σ h) (.mk lk.toNat ln lb.toNat lt []) [cv lk.toNat,vi ln,uv lb.toNat,.string lt,.slice none 0 j]:=.mk (a:=none) (c:=j) (bk:=0) (o:=0) (us:=λ_=>[]) ⟨Zo,Zo,Zo,Zo,Zd⟩ (λh=>absurd h Zs) (λi hi=>absurd hi Zs) (λi x J=>by simp at J);have O:=fQ g hA;have N:=fQ g hT;by_cases D8:0 < D.length
  .obtain⟨k5,k6⟩:=k2 D8;have:=jN.mk (k:=k.toNat) (s:=s) (p:=p) (a:=E) (c:=G) (bk:=C) (o:=U) (us:=L) (kids:=D) ⟨Zo,Zo,Zo,Zo⟩ M O N (λ_=>k5) Q S k6;have e:([Value.int .u8 k,.string s,.int .u8 lk,.int .i64 ln,.int .u64 lb,.string lt,.slice none 0 j,F,H,K,.int .i64 p]).map (rn σ)=[cv k.toNat,.string s]++[cv lk.toNat,vi ln,uv lb.toNat,.string lt,.slice none 0 j]++[rn σ F,rn σ H,.slice E D.length G,vi p]:=by
    exact zC1
   rw[e];exact this
  .have Y:D=[]:=vz Zo;subst Y;have:=jN.mk (k:=k.toNat) (s:=s) (p:=p) (a:=E) (c:=G) (bk:=C) (o:=U) (us:=L) (kids:=[]) ⟨Zo,Zo,Zs,Zo⟩ M O N (λh=>absurd h Zs) Q S (X3 _);have e:([Value.int .u8 k,.string s,.int .u8 lk,.int .i64 ln,.int .u64 lb,.string lt,.slice none 0 j,F,H,K,.int .i64 p]).map (rn σ)=[cv k.toNat,.string s]++[cv lk.toNat,vi ln,uv lb.toNat,.string lt,.slice none 0 j]++[rn σ F,rn σ H,.slice E ([]:List Nd).length G,vi p]:=by
    exact zC1
   rw[e];exact this
def Eh {α:Type}{X F:α}(_h:F=X:=by(dsimp only[qm,qk,qz,qo,ql,qf,qi,qb,qc,qn,qs,qp,qa,qr,qe,tmps,qx,qL,qN,qB,qt,qu,qS,qC,nthO,ordO,Jg,qD] <;> exact rfl)):α:=F
def insN(x:Nat):List Nat->List Nat
 |[]=>[x]
 |y::r=>if x < y then x::y::r else if x=y then y::r else y::insN x r
def DB(a b:List Nat):List Nat:=b.foldr insN a
def tmN:List Operand->List Nat
 |[]=>[]
 |.tmp t::r=>t::tmN r
 |_::r=>tmN r
def delN(d:Nat):List Nat->List Nat
 |[]=>[]
 |y::r=>if d=y then delN d r else y::delN d r
def regN:List Oper->List Nat->List Nat
 |[],a=>a
 |o::r,a=>DB (match o.dst with|some d=>delN d (regN r a)|none=>regN r a) (tmN o.op.operands.toList)
def itN(f:List Nat->List Nat):Nat->List Nat->List Nat
 |0,l=>l
 |n+1,l=>match DB l (f l)with|m=>if m.length=l.length then l else itN f n m
def MT(ps:List Nat):List Nat->List Nat
 |[]=>[]
 |y::r=>if ps.contains y then MT ps r else y::MT ps r
def Pr(rt:List Nat):Code->List Nat->List (Nat×List Nat)->List Nat
 |.region _ ops _,a,_=>regN ops.toList a
 |.seq x y,a,ex=>Pr rt x (Pr rt y a ex) ex
 |.cond c x y,a,ex=>DB (DB (Pr rt x a ex) (Pr rt y a ex)) (tmN [c])
 |.block id b,a,ex=>Pr rt b a ((id,a)::ex)
 |.loop b,_,ex=>itN (λl=>Pr rt b l ex) 20 []
 |.exit id,_,ex=>zW ex id
 |.ret,_,_=>rt
 |.scope b,a,ex=>Pr rt b a ex
 |.rangeFunc g ps x b,a,ex=>DB (DB (MT ps.toList (Pr rt x (Pr rt b [] ex) ex)) a) (tmN [g])
 |_,a,_=>a
def Zp(rt:List Nat):Code->List Nat->List (Nat×List Nat)->List (Nat×List Nat)
 |.region id _ _,a,_=>[(id,a)]
 |.seq x y,a,ex=>Zp rt x (Pr rt y a ex) ex++Zp rt y a ex
 |.cond _ x y,a,ex=>Zp rt x a ex++Zp rt y a ex
 |.block id b,a,ex=>Zp rt b a ((id,a)::ex)
 |.loop b,_,ex=>Zp rt b (itN (λl=>Pr rt b l ex) 20 []) ex
 |.scope b,a,ex=>Zp rt b a ex
 |.rangeFunc _ _ x b,_,ex=>Zp rt x (Pr rt b [] ex) ex++Zp rt b [] ex
 |_,_,_=>[]
def RF:List ResultVar->List Nat
 |[]=>[]
 |.tmp t::r=>insN t (RF r)
 |.cell a _::r=>insN a (RF r)
def keepN(P:Program)(f:Nat):List (Nat×List Nat):=match P.funcs[f]? with
 |some fn=>match fn.body with
  |some c=>Zp (RF fn.results.toList) c (RF fn.results.toList) []
  |none=>[]
 |none=>[]
def gOp(P:Program):Op->Option R
 |.call c=>match c.callee with
  |.value (.func f)=>some (.call f c.args.toList)
  |_=>jG P (.call c)
 |o=>jG P o
def gL(P:Program)(ops:Array Oper):List Oper->List RO
 |[]=>[]
 |o::r=>match gOp P o.op with
  |none=>gL P ops r
  |some x=>match o.guard with
   |none=>⟨o.dst,none,x⟩::gL P ops r
   |some (j,b)=>⟨o.dst,((ops[j]?).bind (·.dst)).map (·,b),x⟩::gL P ops r
def gR(P:Program)(od:List (Nat×List (List Nat)))(id:Nat)(ops:Array Oper)(a:List Nat):Bool->IC
 |false=>.mY (gL P ops ops.toList) a
 |true=>match zW od id with
  |[]=>.free (gL P ops ops.toList) (iV ops) a
  |o::r=>.draw (Jg (gL P ops ops.toList) (o::r)) a
def gC(P:Program)(od:List (Nat×List (List Nat)))(rt:List Nat):Code->List Nat->List (Nat×List Nat)->List Nat×IC
 |.region id ops d,a,_=>(regN ops.toList a,gR P od id ops a d)
 |.seq x y,a,ex=>match gC P od rt y a ex with|(l,p)=>match gC P od rt x l ex with|(m,q)=>(m,.seq q p)
 |.cond c x y,a,ex=>match gC P od rt x a ex with|(l,p)=>match gC P od rt y a ex with|(m,q)=>(DB (DB l m) (tmN [c]),.cond c p q)
 |.block id b,a,ex=>match gC P od rt b a ((id,a)::ex)with|(l,p)=>(l,.block id p)
 |.loop b,_,ex=>match itN (λl=>Pr rt b l ex) 20 []with|l=>match gC P od rt b l ex with|(m,p)=>(m,.loop p)
 |.exit id,_,ex=>(zW ex id,.exit id)
 |.ret,_,_=>(rt,.ret)
 |.scope b,a,ex=>match gC P od rt b a ex with|(l,p)=>(l,.scope p)
 |.rangeFunc g ps x b,a,ex=>match gC P od rt b [] ex with|(l,p)=>match gC P od rt x l ex with|(m,q)=>(DB (DB (MT ps.toList m) a) (tmN [g]),.iM g ps.toList q p)
 |.label l,a,_=>(a,.label l)
 |_,a,_=>(a,.skip)
def gF(P:Program)(fn:Func)(od:List (Nat×List (List Nat))):Option aO:=match fn.body,zB P fn.results.toList with
 |some c,some r=>some ⟨fn.ntmps,r,(gC P od (RF fn.results.toList) c (RF fn.results.toList) []).2⟩
 |_,_=>none
def aY(P:Program)(f:Nat)(od:List (Nat×List (List Nat))):Option aO:=pC P (zW (keepN P f)) (zW od) f
theorem mkA {α:Type}(l:List α):Array.mk l=l.toArray:=rfl
def aZ {o:Option aO}{F:aO}(_h:o=some F:=by(apply Eq.trans;cbv;dsimp only[mkA] <;> exact rfl)):aO:=F
theorem Sat.below {w w':World}{L:List kC}(h:RowKit.Below w.heap.size w w')(d:Sat w L):Sat w' L:=by
 refine⟨λx g=>?_,d.nodup⟩;have hl:=d.lt g;have hh:=d.holds x g;cases x with
 |cell b off v=>
  obtain⟨c,t,lo,hi,hb,r⟩:=hh;exact⟨c,t,lo,hi,by rw[h.block b hl];exact hb,r⟩
 |obj b o=>exact⟨by rw[h.block b hl];exact hh.1,hh.2⟩
 |row b n=>
  exact zEW
 |own b n=>
  exact zEW
theorem kz.below {w w':World}(h:RowKit.Below w.heap.size w w'):kz w w':=
 ⟨h.os,h.output,h.size,λi c t lo hi d=>⟨c,by rw[h.block i (v8.1 d).1];exact d,rfl,λ_ _=>rfl⟩⟩
theorem au.Je {P:Program}{f:Nat}{args:List Value}{Q:Value->Prop}(m:wK P f=true)(h:∀w,Calls P f args.toArray w λe w'=>∃v,e=.returned v/\Q v/\w'=w):au P f args [] (λv Post=>Q v/\Post=[]):=
 ⟨m,λF w q=>(h w).mono λe w' ⟨v,d,g,j⟩=>by subst j;exact⟨v,[],d,⟨g,rfl⟩,q,.refl _⟩⟩
theorem au.Eu {P:Program}{f:Nat}{args:List Value}{Q:Value->Prop}{A:List kC}(q:wK P f=true)(h:∀w F,Sat w (A++F)->Calls P f args.toArray w λe w'=>∃v,e=.returned v/\Q v/\RowKit.Below w.heap.size w w'):au P f args [A] (λv Post=>Q v/\Post=[A]):=
 ⟨q,λF w g=>(h w F (by simpa using g)).mono λe w' ⟨v,j,m,d⟩=>⟨v,[A],j,⟨m,rfl⟩,g.below d,.below d⟩⟩
theorem kV(s:ByteArray):(kB s).length=s.size:=by simp[kB]
theorem KF {s:ByteArray}{i:Nat}{c:UInt8}(h:s[i]? =some c):(kB s)[i]? =some c.toNat:=by
 have d:i < s.size:=by
  by_cases d:i < s.size
  .exact d
  .simp[d]at h
 have g:s.data[i]? =some c:=by
  have j:s[i]? =some s[i]:=by simp[d]
  rw[j]at h;rw[<- h];exact v7 (xs:=s.data) d
 simp[kB,g]
theorem zt(s:ByteArray):∀c∈kB s,c < 256:=by
 intro c d;obtain⟨x,_,rfl⟩:=QO.1 d;exact x.toNat_lt
theorem jQ {s t:ByteArray}(h:kB s=kB t):s=t:=by
 have d:s.data.toList=t.data.toList:=by
  have g:∀l m:List UInt8,l.map UInt8.toNat=m.map UInt8.toNat->l=m:=by
   intro l
   induction l with
   |nil=>intro m e;cases m with|nil=>rfl|cons=>cases e
   |cons a l ih=>
    intro m e;cases m with
    |nil=>cases e
    |cons b m=>
     simp only[QD,vq]at e;rw[UInt8.toNat_inj.1 e.1,ih m e.2]
  exact g _ _ h
 exact ByteArray.ext (vD.1 d)
theorem wG {s:ByteArray}{i:Nat}(h:i < s.size):∃c:UInt8,s[i]? =some c/\(kB s)[i]? =some c.toNat:=⟨s[i],by simp[h],KF (by simp[h])⟩
def Kq:List Nat->Nat->Int
 |[],_=>-1
 |b::l,c=>if b=c then 0 else if Kq l c=-1 then -1 else Kq l c+1
theorem ix_eq(l:List UInt8)(c:UInt8):Lib.indexByte l c=Kq (l.map UInt8.toNat) c.toNat:=by
 induction l with
 |nil=>rfl
 |cons b l ih=>
  simp only[Lib.indexByte,QD,Kq,ih];by_cases h:b=c
  .subst h;simp
  .have:b.toNat≠c.toNat:=λe=>h (UInt8.toNat_inj.1 e)
   simp[h,this]
theorem ixN_bin {c:Nat}(h:c < 256):decide (0<=Kq [43,45,42,47,92,126,60,62,61,64,37,38,63,44,33] c)=cS c:=by
 have d:∀c:Fin 256,decide (0<=Kq [43,45,42,47,92,126,60,62,61,64,37,38,63,44,33] c.val)=cS c.val:=by decide+kernel
 exact d ⟨c,h⟩
theorem Pj(l:List Nat)(c:Nat):(Kq l c=-1/\c∉l)∨∃p r:List Nat,l=p++c::r/\c∉p/\Kq l c=p.length:=by
 induction l with
 |nil=>exact .inl ⟨rfl,Zs⟩
 |cons b l ih=>
  by_cases h:b=c
  .subst h;exact .inr ⟨[],l,rfl,Zs,by simp[Kq]⟩
  .rcases ih with⟨h1,h2⟩|⟨p,r,h1,h2,h3⟩
   .exact .inl ⟨by simp[Kq,h,h1],by simp[h2,Ne.symm h]⟩
   .refine .inr ⟨b::p,r,by simp[h1],by simp[h2,Ne.symm h],?_⟩;have d:¬((p.length:Int)=-1):=by omega
    simp[Kq,h,h3,d]
theorem uZ:∀{l:List Nat},58∉l->j9 l=[l]:=by
 intro l
 induction l with
 |nil=>intro _;rfl
 |cons b l ih=>
  intro h;simp only[QI,not_or]at h;simp only[j9,if_neg (Ne.symm h.1),ih h.2]
theorem oi:∀{p r:List Nat},58∉p->j9 (p++58::r)=(p++[58])::j9 r:=by
 intro p r
 induction p with
 |nil=>intro _;simp[j9]
 |cons b p ih=>
  intro h;simp only[QI,not_or]at h;simp only[vr,j9,if_neg (Ne.symm h.1),ih h.2]
theorem ML {l:List Nat}{p:Nat->Bool}{e:Nat}(h1:e<=l.length)(g:∀k,k < e->p (l.getD k 0)=true)(j:e < l.length->p (l.getD e 0)=false):l.all p=decide (e=l.length):=by
 by_cases h:e=l.length
 .rw[Zt h,vg];intro x q;obtain⟨i,m,rfl⟩:=List.getElem_of_mem q;have:=g i Zo
  rwa [Vh,Zg m]at this
 .rw[Zf h,List.all_eq_false];have d:e < l.length:=by omega
  have:=j d;rw[Vh,Zg d]at this;exact⟨_,List.getElem_mem d,by simpa using this⟩
theorem eK {s:ByteArray}(h:s≠⟨#[]⟩):∃(c:UInt8) (r:List Nat),s[0]? =some c/\kB s=c.toNat::r/\c.toNat < 256/\0 < s.size:=by
 have g:0 < s.size:=by
  rcases Qr s.size with h2|h2
  .exact absurd (ByteArray.ext (v6 h2)) h
  .exact h2
 obtain⟨c,j,d⟩:=wG g;refine⟨c,(kB s).tail,j,?_,c.toNat_lt,g⟩;cases hb:kB s with
 |nil=>rw[hb]at d;cases d
 |cons a r=>rw[hb]at d;cases d;rfl
theorem ji(s:ByteArray)(a b:Nat):kB (s.extract a b)=((kB s).take b).drop a:=by
 simp only[kB,ByteArray.data_extract,Array.toList_extract,List.extract_eq_take_drop,List.map_take,List.map_drop,List.drop_take]
def ofN(l:List Nat):ByteArray:=⟨(l.map Nat.toUInt8).toArray⟩
theorem KG {l:List Nat}(h:∀c∈l,c < 256):kB (ofN l)=l:=by
 simp only[kB,ofN,QE]
 conv=>rhs;rw[<- List.map_id l]
 refine QC λc d=>?_
 exact Nat.mod_eq_of_lt (h c d)
theorem uY(l:List Nat):(j9 l).flatten=l:=by
 induction l with
 |nil=>rfl
 |cons c r ih=>
  simp only[j9];split
  .rename_i h;simp[ih,h]
  .cases h:j9 r with
   |nil=>rw[h]at ih;simp at ih;simp[<- ih]
   |cons p ps=>rw[h]at ih;simp at ih|-;exact ih
theorem Rz(t:ByteArray):∃d:List ByteArray,d.map kB=j9 (kB t):=by
 have h:∀p∈j9 (kB t),∀c∈p,c < 256:=λp g c j=>zt t c (by rw[<- uY (kB t)];exact QN.2 ⟨p,g,j⟩)
 generalize j9 (kB t)=l at h;refine⟨l.map ofN,?_⟩;rw[QE]
 conv=>rhs;rw[<- List.map_id l]
 exact QC λp g=>KG (h p g)
theorem runL_eq {on:List Nat->Bool}:∀{l:List Nat} {e:Nat},e<=l.length->(∀k,k < e->on (l.drop k)=true)->(e < l.length->on (l.drop e)=false)->Dv on l=e:=by
 intro l
 induction l with
 |nil=>intro e h _ _;simp at h;simp[Dv,h]
 |cons c r ih=>
  intro e h g j;cases e with
  |zero=>
   have:=j Zs;simp only[vy]at this;simp[Dv,this]
  |succ e=>
   have d:=g 0 Zo;simp only[vy]at d;have:=ih (e:=e) (by simpa using h) (λk m=>by simpa using g (k+1) Zo) (λm=>by simpa using j (by simpa using m));simp[Dv,d,this];omega
theorem xi {l:List Nat}{k:Nat}{c:Nat}(h:l[k]? =some c):gV (l.drop k)=(cS c&&(decide (c≠45)||!wX (l.getD (k+1) 0))):=by
 obtain⟨d,rfl⟩:=Vt.1 h;rw[vw d];simp only[gV]
 congr 2
 rw[Vh];by_cases h2:k+1 < l.length
 .rw[vw h2];simp[h2]
 .rw[vx Zo,Vp Zo];rfl
theorem XQ {c:Nat}{r:List Nat}{e:Nat}(g:c≠124)(s:cS c=true)(j:e<=(c::r).length)(m:∀k,k < e->1<=k->gV ((c::r).drop k)=true)(q:e < (c::r).length->1<=e/\gV ((c::r).drop e)=false):fH (c::r)=e∨(e=0):=by
 cases e with
 |zero=>exact .inr rfl
 |succ e=>
  left;simp only[fH,if_neg g,s,if_true];have:=runL_eq (on:=gV) (l:=r) (e:=e) (by simpa using j) (λk d=>by simpa using m (k+1) Zo Zo) (λd=>by simpa using(q (by simpa using d)).2);omega
theorem pI(s t:ByteArray):kB (s++t)=kB s++kB t:=by
 simp[kB]
theorem O8 {w:World}{a b:kC}(B:a.holds w)(s:b.holds w)(h:a.loc=b.loc):a=b:=by
 cases a with
 |cell i k v=>
  cases b with
  |cell j l u=>
   simp only[kC.loc,XE,XD]at h;obtain⟨rfl,rfl⟩:=h;obtain⟨c,t,D,C,g,A,_⟩:=B;obtain⟨G,H,E,F,d,q,_⟩:=s;rw[g]at d;cases d;rw[A]at q;cases q;rfl
  |obj j o=>simp[kC.loc]at h
  |row j n=>simp[kC.loc]at h
  |own j n=>
   simp only[kC.loc,XE,XD]at h;obtain⟨rfl,rfl⟩:=h;obtain⟨c,t,D,C,g,A,_⟩:=B;obtain⟨G,H,E,F,d,q,_⟩:=s;rw[g]at d;cases d;have:=(v8.1 A).1;omega
 |own i n=>
  obtain⟨c,t,D,C,g,A,_⟩:=B;cases b with
  |cell j l u=>
   simp only[kC.loc,XE,XD]at h;obtain⟨rfl,rfl⟩:=h;obtain⟨G,H,E,F,d,q,_⟩:=s;rw[g]at d;cases d;have:=(v8.1 q).1;omega
  |obj j p=>simp[kC.loc]at h
  |row j m=>simp[kC.loc]at h
  |own j m=>
   simp only[kC.loc,XE,XD]at h;obtain⟨rfl,rfl⟩:=h;rfl
 |row i n=>
  obtain⟨c,t,D,C,g,A⟩:=B;cases b with
  |cell j l u=>simp[kC.loc]at h
  |obj j p=>
   simp only[kC.loc,XE,and_true]at h;subst h;have d:=s.1;rw[g]at d;cases d;exact absurd s.2 (by simp[zD])
  |row j m=>
   simp only[kC.loc,XE,and_true]at h;subst h;obtain⟨G,H,E,F,d,q⟩:=s;rw[g]at d;cases d;rw[A]at q;rw[q]
  |own j m=>simp[kC.loc]at h
 |obj i o=>
  cases b with
  |cell j l u=>simp[kC.loc]at h
  |obj j p=>
   simp only[kC.loc,XE,and_true]at h;subst h;have g:=B.1;rw[s.1]at g;cases g;rfl
  |row j n=>
   simp only[kC.loc,XE,and_true]at h;subst h;obtain⟨c,t,D,C,g,A⟩:=s;have d:=B.1;rw[g]at d;cases d;exact absurd B.2 (by simp[zD])
  |own j n=>simp[kC.loc]at h
theorem JJ {w:World}:∀L:List kC,(∀a∈L,a.holds w)->∃d,Sat w d/\∀a∈L,a∈d:=by
 intro L
 induction L with
 |nil=>intro _;exact⟨[],⟨Zs,Zs⟩,Zs⟩
 |cons x L ih=>
  intro h;obtain⟨d,g,j⟩:=ih (λa ha=>h a (by simp[ha]));by_cases hx:x.loc∈d.map kC.loc
  .obtain⟨y,m,e⟩:=QO.1 hx;have:y=x:=O8 (g.holds y m) (h x Zs) e;subst this;refine⟨d,g,λa ha=>?_⟩;rcases QI.1 ha with rfl|ha
   .exact m
   .exact j a ha
  .refine⟨x::d,⟨λa ha=>?_,by simp only[QD,QX];exact⟨hx,g.nodup⟩⟩,λa ha=>?_⟩
   .rcases QI.1 ha with rfl|ha
    .exact h a Zs
    .exact g.holds a ha
   .rcases QI.1 ha with rfl|ha
    .simp
    .simp[j a ha]
def dk(w:World)(i:Nat):List kC:=match w.heap[i]? with
 |some (.cells c _ (lo,hi))=>.row i c.size::(if lo<=c.size/\c.size < hi then []else [.own i c.size])++(List.range c.size).filterMap λj=>if lo<=j/\j < hi then none else(c[j]?).map λv=>.cell i j v
 |some o=>[.obj i o]
 |none=>[]
theorem sat_all(w:World):∃L,Sat w L/\∀a:kC,a.holds w->a∈L:=by
 obtain⟨L,C,D⟩:=JJ (w:=w) ((List.range w.heap.size).flatMap (dk w)) (by
  intro a ha;obtain⟨i,_,ha⟩:=QM.1 ha;unfold dk at ha;split at ha
  .rename_i c t q m hb;rcases QG.1 ha with ha|ha
   .rcases QI.1 ha with rfl|ha
    .exact⟨c,t,q,m,hb,rfl⟩
    .split at ha
     .cases ha
     .rename_i g;obtain rfl:=QU.1 ha;exact⟨c,t,q,m,hb,rfl,g⟩
   obtain⟨j,_,s⟩:=List.mem_filterMap.1 ha;split at s
   .cases s
   .rename_i g;simp only[X9]at s;obtain⟨v,A,rfl⟩:=s;exact⟨c,t,q,m,hb,A,g⟩
  .rename_i o B hb;simp only[QU]at ha;subst ha;refine⟨hb,?_⟩;cases o <;> first|rfl|(rename_i c t fr;exact absurd rfl (B c t fr.1 fr.2))
  .cases ha)
 refine⟨L,C,λa ha=>D a ?_⟩;cases a with
 |cell i k v=>
  obtain⟨c,t,q,m,hb,A,g⟩:=ha;have d:i < w.heap.size:=by
   exact zBZ
  refine QM.2 ⟨i,QS.2 d,?_⟩;unfold dk;rw[hb];refine QH _ (List.mem_filterMap.2 ⟨k,QS.2 (v8.1 A).1,?_⟩);rw[if_neg g,A];rfl
 |own i n=>
  obtain⟨c,t,q,m,hb,rfl,g⟩:=ha;have d:i < w.heap.size:=by
   exact zBZ
  refine QM.2 ⟨i,QS.2 d,?_⟩;unfold dk;rw[hb];refine Zw _ (QJ _ ?_);rw[if_neg g];exact QU.2 rfl
 |row i n=>
  obtain⟨c,t,q,m,hb,rfl⟩:=ha;have d:i < w.heap.size:=by
   exact zBZ
  refine QM.2 ⟨i,QS.2 d,?_⟩;unfold dk;rw[hb];exact Zw _ (QK ..)
 |obj i o=>
  obtain⟨hb,E⟩:=ha;have d:i < w.heap.size:=by
   exact zBZ
  refine QM.2 ⟨i,QS.2 d,?_⟩;unfold dk;rw[hb];cases o <;> first|(simp;done)|(simp[zD]at E)
theorem Xd {w w':World}{L:List kC}(C:∀a:kC,a.holds w->a∈L)(D:Sat w' L)(I:kz w w'):∀i,i < w.heap.size->w'.heap[i]? =w.heap[i]?:=by
 intro i G;have d:w.heap[i]? =some w.heap[i]:=v7 G;generalize w.heap[i]=o at d;rw[d];by_cases hc:zD o=false
 .exact(D.holds _ (C (.obj i o) ⟨d,hc⟩)).1
 .cases o <;> first|(exact absurd rfl hc)|skip
  rename_i c t fr;obtain⟨q,m⟩:=fr;obtain⟨c',B,E,F⟩:=I.cells i c t q m d;rw[B]
  congr 2
  apply Array.ext E;intro j g h;by_cases hf:q<=j/\j < m
  .have:=F j hf;rw[v7 g,v7 h]at this;exact XC this
  .obtain⟨c2,t2,J,H,s,A,_⟩:=D.holds _ (C (.cell i j c[j]) ⟨c,t,q,m,d,v7 h,hf⟩);rw[B]at s;cases s;rw[v7 g]at A;exact XC A
theorem mapM_mono {α j:Type}{f g:α->Option j}:∀{l:List α} {r:List j},(∀x∈l,∀y,f x=some y->g x=some y)->l.mapM f=some r->l.mapM g=some r:=by
 intro l
 induction l with
 |nil=>intro r _ h;simpa using h
 |cons a l ih=>
  intro r d h;simp only[List.mapM_cons,Option.bind_eq_bind,Option.pure_def,X6]at h|-;obtain⟨y,m,ys,q,s⟩:=h;exact⟨y,d a Zs y m,ys,ih (λx A=>d x (by simp[A])) q,s⟩
theorem uL {w w':World}(d:∀i,i < w.heap.size->w'.heap[i]? =w.heap[i]?){base n:Nat}{a:Addr}{cs:List Value}(h:w.cells? base a n=some cs):w'.cells? base a n=some cs:=by
 unfold World.cells? at h|-;split at h
 .rename_i m;rw[if_pos m];refine mapM_mono (λi _ v g=>?_) h;have j:=World.block_lt_of_cell? w _ g;unfold World.cell? at g|-;rw[d _ j];exact g
 .cases h
section
variable {H:Type} {enc:TypeId×Value->H} {P:Program} {w w':World} {base:Nat} {sp:Nat->Bool} {held:Bool}
structure s9 (P:Program)(ok:TypeId->Prop):Prop where
 ptr:∀t e,ok t->P.underlying t=some (.pointer e)->ok e
 slice:∀t e,ok t->P.underlying t=some (.slice e)->ok e/\0 < P.cellsOf e
 struct:∀t fs,ok t->P.underlying t=some (.struct fs)->∀f∈fs.toList,ok f.type
 array:∀t n e,ok t->P.underlying t=some (.array n e)->ok e
 map:∀t k e,ok t->P.underlying t=some (.map k e)->ok e
def MQ(P:Program)(S:List TypeId):Bool:=S.all λt=>match P.underlying t with
 |some (.pointer e)=>S.contains e
 |some (.slice e)=>S.contains e&&decide (0 < P.cellsOf e)
 |some (.struct fs)=>fs.toList.all λf=>S.contains f.type
 |some (.array _ e)=>S.contains e
 |some (.map _ e)=>S.contains e
 |_=>true
theorem Og {S:List TypeId}(h:MQ P S=true):s9 P (·∈S):=by
 have j:=vg.1 h;refine⟨λt e d g=>?_,λt e d g=>?_,λt fs d g f m=>?_,λt n e d g=>?_,λt k e d g=>?_⟩
 all_goals have:=j t d
 all_goals rw[g]at this
 all_goals simp only[vt,vG,decide_eq_true_eq,vg]at this
 .exact this
 .exact this
 .exact this f m
 .exact this
 .exact this
theorem DA {ok:TypeId->Prop}(L:s9 P ok)(s:∀i,i < w.heap.size->w'.heap[i]? =w.heap[i]?)(IF:∀b,b < w.heap.size->sp b=true)
 {r Y:TypeId->List Value->Option (DataW H×List MemPlace)} (I:∀t cs x,ok t->r t cs=some x->Y t cs=some x) {t:TypeId} {cs:List Value} {x:DataW H×List MemPlace} (J:ok t)
 (h:DataW.trodStep enc P w base (λ_=>true) true r t cs=some x):DataW.trodStep enc P w' base sp true Y t cs=some x:=by
 unfold DataW.trodStep at h;split at h
 case h_1 hu=>unfold DataW.trodStep;simp only[hu];exact h
 case h_2 hu=>unfold DataW.trodStep;simp only[hu];exact h
 case h_3 hu=>unfold DataW.trodStep;simp only[hu];exact h
 case h_4 hu=>unfold DataW.trodStep;simp only[hu];exact h
 case h_5 hu=>unfold DataW.trodStep;simp only[hu];exact h
 case h_6 e a hu=>
  unfold DataW.trodStep;simp only[hu];simp only[X9,X6]at h|-;obtain⟨y,⟨A,C,d⟩,E⟩:=h;exact⟨y,⟨A,uL s C,I _ _ _ (L.ptr t e J hu) d⟩,E⟩
 case h_7 hu=>unfold DataW.trodStep;simp only[hu];exact h
 case h_8 e a len cap hu=>
  unfold DataW.trodStep;simp only[hu];obtain⟨W,lh⟩:=L.slice t e J hu;simp only at h;split at h
  .rename_i N;rw[if_pos N];simp only[X9,X6,if_true]at h|-;obtain⟨B,S,rest,F,E⟩:=h;have K:∀i y,(w.cells? base (a.add (i*P.cellsOf e)) (P.cellsOf e)).bind (r e)=some y->(w'.cells? base (a.add (i*P.cellsOf e)) (P.cellsOf e)).bind (Y e)=some y:=by
    intro i y d;simp only[X6]at d|-;obtain⟨A,C,d⟩:=d;exact⟨A,uL s C,I _ _ _ W d⟩
   have pz:(cap - len=0)∨a.block < w.heap.size:=by
    rcases Qr (cap - len)with h0|h0
    .exact .inl h0
    .right;have cI:rest≠[]:=by
      intro hn;subst hn;have:=congrArg List.length (show []=_ from rfl:([]:List Nat)=[]);have G:∀{l:List Nat} {g:Nat->Option (DataW H×List MemPlace)} {q:List (DataW H×List MemPlace)},l.mapM g=some q->q.length=l.length:=by
       intro l g
       induction l with
       |nil=>intro q D;simp at D;subst D;rfl
       |cons a l ih=>
        intro q D;simp only[List.mapM_cons,Option.bind_eq_bind,Option.pure_def,X6]at D;obtain⟨y,_,ys,h2,h3⟩:=D;cases h3;simp[ih h2]
      have:=G F;simp at this;omega
     obtain⟨y,d⟩:=List.exists_mem_of_ne_nil _ cI;obtain⟨j,_,Z⟩:=mapM_mem_of F y d;simp only[X6]at Z;obtain⟨A,C,_⟩:=Z;have:=World.cells?_block C lh;have Q:(a.add ((len+j)*P.cellsOf e)).block=a.block:=by unfold Addr.add;split <;> rfl
     rw[Q]at this;exact this
   refine⟨B,mapM_mono (λi _ y d=>K i y d) S,rest,?_,E⟩;rcases pz with h0|h0
   .rw[h0]at F|-;simp at F|-;subst F;rfl
   .rw[IF _ h0];exact mapM_mono (λi _ y d=>K _ y d) F
  .cases h
 case h_9 fs hu=>
  unfold DataW.trodStep;simp only[hu];split at h
  .rename_i U;rw[if_pos U];simp only[X9]at h|-;obtain⟨xs,E,e⟩:=h;exact⟨xs,mapM_mono (λf T y d=>I _ _ _ (L.struct t fs J hu f T) d) E,e⟩
  .cases h
 case h_10 n e hu=>
  unfold DataW.trodStep;simp only[hu];split at h
  .rename_i U;rw[if_pos U];simp only[X9]at h|-;obtain⟨xs,E,Q⟩:=h;exact⟨xs,mapM_mono (λf _ y d=>I _ _ _ (L.array t n e J hu) d) E,Q⟩
  .cases h
 case h_11 hu=>unfold DataW.trodStep;simp only[hu];exact h
 case h_12 u v hu=>
  unfold DataW.trodStep;simp only[hu];exact h
 case h_13 hu=>unfold DataW.trodStep;simp only[hu];exact h
 case h_14 k e b hu=>
  unfold DataW.trodStep;simp only[hu];split at h
  .rename_i es O N;have aJ:b < w.heap.size:=by
    rcases Nat.lt_or_ge b w.heap.size with h'|h'
    .exact h'
    .simp[Array.getElem?_eq_none h']at N
   rw[s b aJ,N];dsimp only;split at h
   .rename_i C;rw[if_pos C];simp only[X6]at h|-;obtain⟨m,S,hd⟩:=h;refine⟨m,mapM_mono (λx _ y d=>?_) S,hd⟩;obtain⟨X,hk,M⟩:=X6.1 d;refine X6.2 ⟨X,hk,?_⟩;split at M
    .rename_i T;rw[if_pos T];simp only[X9]at M|-;obtain⟨q,D,e⟩:=M;exact⟨q,I _ _ _ (L.map t k _ J hu) D,e⟩
    .cases M
   .cases h
  .cases h
 case h_15 hu=>unfold DataW.trodStep;simp only[hu];exact h
 case h_16 hu=>unfold DataW.trodStep;simp only[hu];exact h
 case h_17 hu=>unfold DataW.trodStep;simp only[hu];exact h
 case h_18 hu=>unfold DataW.trodStep;simp only[hu];exact h
 case h_19 hu=>unfold DataW.trodStep;simp only[hu];exact h
 case h_20 hu=>unfold DataW.trodStep;simp only[hu];exact h
 case h_21=>cases h
theorem R1 {ok:TypeId->Prop}(m:s9 P ok)(d:∀i,i < w.heap.size->w'.heap[i]? =w.heap[i]?)(g:∀b,b < w.heap.size->sp b=true):
 ∀(n:Nat) (t:TypeId) (cs:List Value) (x:DataW H×List MemPlace),ok t->DataW.trod enc P w base (λ_=>true) true n t cs=some x->DataW.trod enc P w' base sp true n t cs=some x:=by
 intro n
 induction n with
 |zero=>intro t cs x _ h;simp[DataW.trod]at h
 |succ n ih=>
  intro t cs x j h;rw[DataW.trod_step]at h|-;exact DA m d g ih j h
theorem sT {ok:TypeId->Prop}(m:s9 P ok)(d:∀i,i < w.heap.size->w'.heap[i]? =w.heap[i]?)(j:∀b,b < w.heap.size->sp b=true):
 ∀{g:List TypeId} {vs:List Value} {ds:List (DataW H)} {s:List MemPlace},(∀t∈g,ok t)->DataW.TrodAll enc P w base (λ_=>true) true g vs ds s->DataW.TrodAll enc P w' base sp true g vs ds s
 |[],[],[],_,_,h=>h
 |_::_,_::_,_::_,_,ho,⟨p,q,⟨n,h1⟩,h2,e⟩=>⟨p,q,⟨n,R1 m d j n _ _ _ (ho _ Zs) h1⟩,sT m d j (λt A=>ho t (by simp[A])) h2,e⟩
end
open Go Go.ChangeShapes Go.WideShapes
section
variable {H:Type} {enc:TypeId×Value->H} {P:Program}
theorem glue {f:FuncId}{fn:Func}{s:ChangeSpec}{Q:TypeId}{g C j:Bool}{W:World}{args:List Value}{ds E:List (DataW H)}{d:List MemPlace}
 (m:s.vars=[]) (I:fn.resultTypes=#[Q]) (F:P.underlying Q=some .bool) (J:s.fn H (ds++E)={results:=[.lit (.bool true)],args:=ds})
 {ok:TypeId->Prop} (pA:s9 P ok) (T:∀t∈fn.params.toList,ok t) (N:DataW.Whole enc P fn.params.toList s.vars g W args ds E d)
 (Y:∀A,(∀a:kC,a.holds W->a∈A)->au P f args [A] λv Post=>v=.bool true/\Post=[A]):
 Calls P f args.toArray W λe D=>∃v,e=.returned v/\s.post enc P fn g C j false W args.toArray v D:=by
 obtain⟨A,X,K⟩:=sat_all W;have h:=(Y A K).2 [] W (by simpa using X);refine h.mono ?_
 rintro e D ⟨v,Post,rfl,⟨rfl,rfl⟩,Z,G⟩
 have S:Sat D A:=by simpa using Z
 have B:=Xd K S G;refine⟨_,rfl,ds,E,d,[],d,[],by simpa using N,?_,?_,?_,?_,λh=>by cases h⟩
 .rw[I,J];exact trodAll_mk1 ⟨1,by simp[DataW.trod,F,Value.cells]⟩
 .obtain⟨p,q,U,L,M,_,_⟩:=N;rw[m]at L;obtain⟨rfl,rfl⟩:=trodVars_none L;rw[J];simp only[vp]at M;subst M;simpa using sT pA B (λb F=>by simpa using F) T U
 .rw[J,m];rfl
 .refine⟨G.os,G.output,λi O=>?_⟩;rw[B i O];have:W.heap[i]? =some W.heap[i]:=v7 O;generalize W.heap[i]=o at this;rw[this];cases o <;> first|exact⟨rfl,rfl,rfl,λ_ _=>rfl⟩|exact .inr ⟨rfl,rfl⟩|rfl
theorem cz {W:World}{b o:Nat}{v:Value}(h:W.cell? ⟨b,o,none⟩=some v)(hf:W.frozen? ⟨b,o,none⟩=false):(kC.cell b o v).holds W:=by
 unfold World.cell? at h;unfold World.frozen? at hf;split at h
 .rename_i c t fr d;obtain⟨m,j⟩:=fr;simp only at d hf h;rw[d]at hf;simp only[vF,decide_eq_false_iff_not]at hf;refine⟨c,t,m,j,d,by simpa using h,λg=>?_⟩;rcases hf with hf|hf
  .exact hf g.1
  .exact hf g.2
 .cases h
end
open Go Go.ChangeShapes Go.WideShapes Go.Deep
inductive SC where
 |int (k:IntKind)
 |str
section
variable {H:Type} {enc:TypeId×Value->H} {P:Program} {W:World} {base:Nat}
theorem HD(b o i:Nat):(⟨b,o,none⟩:Addr).add i=⟨b,o+i,none⟩:=by
 unfold Addr.add;split
 .rename_i d;have:i=0:=by simpa using d
  subst this;rfl
 .rfl
theorem eL {α:Type}{Q:Nat->α->Prop}{n:Nat}(h:∀i,i < n->∃x,Q i x):∃l:List α,l.length=n/\∀i x,l[i]? =some x->Q i x:=by
 induction n with
 |zero=>exact⟨[],rfl,Zs⟩
 |succ n ih=>
  obtain⟨l,g,m⟩:=ih (λi j=>h i Zo);obtain⟨x,q⟩:=h n Zo;refine⟨l++[x],by simp[g],λi y d=>?_⟩;by_cases j:i < l.length
  .rw[Vj j]at d;exact m i y d
  .rw[Vl Zo]at d;have:i=n:=by
    have:=(Vt.1 d).1;simp at this;omega
   subst this;simp[g]at d;subst d;exact q
end
structure SE {H:Type}(bulk:DataW H->Nat):Prop where
 agg:∀l d,d∈l->bulk d < bulk (.agg l)
 sl:∀es sp d,d∈es->bulk d < bulk (.slice es sp)
 len:∀es sp,es.length<=bulk (.slice es sp)
 sls:∀es sp,(es.map bulk).sum<=bulk (.slice es sp)
 aggs:∀l,(l.map bulk).sum < bulk (.agg l)
 str:∀bs,bs.length<=bulk (.lit (.string bs))
theorem Ct {W:World}{a:Addr}{v:Value}(h:W.cell? a=some v):a=⟨a.block,a.off,none⟩:=by
 obtain⟨b,o,s⟩:=a;cases s with
 |none=>rfl
 |some s=>
  unfold World.cell? at h;split at h
  .simp at h
  .cases h
section
variable {H:Type} {enc:TypeId×Value->H} {P:Program} {bulk:DataW H->Nat}
theorem sB(J:SE bulk){t e:TypeId}{g:Nat}(ht:P.underlying t=some (.slice e))(N:P.cellsOf e=g)(S:0 < g){W:World}{u:Value}{n:Nat}{x:DataW H×List MemPlace}{A:List kC}(h:DataW.trod enc P W 0 (λ_=>true) true n t [u]=some x)(O:W.noneFrozen x.2)(Y:∀a:kC,a.holds W->a∈A):
 ∃(a:Option Addr) (k c bk o:Nat) (us:Nat->List Value) (D:Nat->DataW H) (s:Nat->List MemPlace) (m:Nat),u=.slice a k c/\(k<=bulk x.1/\((List.range' 0 k).map λi=>bulk (D i)).sum<=bulk x.1/\k<=c)/\(0 < k->a=some ⟨bk,o,none⟩)/\∀i,i < k->bulk (D i) < bulk x.1/\(us i).length=g/\(∀y∈kA bk (o+i*g) (us i),y∈A)/\DataW.trod enc P W 0 (λ_=>true) true m e (us i)=some (D i,s i)/\W.noneFrozen (s i):=by
 rcases open_slice ht h with⟨E,_⟩|⟨a,len,cap,m,T,D,s,Kh,_,hl,_,hm,hx,B⟩
 .simp only[vq,and_true]at E;exact⟨none,0,0,0,0,λ_=>[],λ_=>.nil,λ_=>[],0,E,⟨X3 _,X3 _,Qt _⟩,λh=>absurd h (Nat.lt_irrefl 0),λi B=>absurd B (Nat.not_lt_zero _)⟩
 .simp only[vq,and_true]at Kh;simp only[if_true]at hm;subst hm;subst hx;rw[N]at B;obtain⟨us,K⟩:∃us:Nat->List Value,∀i,i < m->W.cells? 0 (a.add (i*g)) g=some (us i)/\DataW.trod enc P W 0 (λ_=>true) true T e (us i)=some (D i,s i):=
   ⟨λi=>if h:i < m then(B i h).choose else [],λi h=>by simp only[dif_pos h];exact(B i h).choose_spec⟩
  refine⟨some a,len,m,a.block,a.off,us,D,s,T,Kh,⟨?_,?_,Zo⟩,λhk=>?_,λi U=>?_⟩
  .have:=J.len ((List.range len).map D) ((List.range (m - len)).map λj=>D (len+j));simpa using this
  .have:=J.sls ((List.range len).map D) ((List.range (m - len)).map λj=>D (len+j));rw[QE]at this;rw[<- List.range_eq_range'];exact this
  .obtain⟨C,_⟩:=K 0 Zo;obtain⟨_,_,F⟩:=World.cells?_some C;have d:=F 0 S;obtain⟨_,q,_⟩:=World.cells?_some C;rw[Zg Zo]at d;have G:(a.add (0*g)).add 0=a:=by rw[X4];rfl
   rw[G]at d;rw[<- Ct d]
  .obtain⟨C,E⟩:=K i Zo;obtain⟨_,q,F⟩:=World.cells?_some C;have Z:a=⟨a.block,a.off,none⟩:=by
    obtain⟨X,_⟩:=K 0 Zo;obtain⟨_,M,I⟩:=World.cells?_some X;have d:=I 0 S;rw[Zg Zo]at d;have G:(a.add (0*g)).add 0=a:=by rw[X4];rfl
    rw[G]at d;exact Ct d
   refine⟨J.sl _ _ _ (QO.2 ⟨i,QS.2 U,rfl⟩),q,λy hy=>?_,E,λb o η=>O b o ?_⟩
   .obtain⟨j,v,Q,rfl⟩:=kJ.1 hy;have rW:=(Vt.1 Q).1;have L:=F j Zo;rw[Z,HD,HD,Q]at L;refine Y _ (cz L (O _ _ ?_));refine Zw _ (MemPlace.mem_row.2 ⟨i*g+j,?_,?_⟩)
    .rw[N];have:(i+1)*g<=m*g:=Qy _ Zo;rw[X1]at this;omega
    .rw[Qn]
   .exact QH _ (QM.2 ⟨i,QS.2 Zo,η⟩)
theorem sC(g:SE bulk){t e:TypeId}(S:P.underlying t=some (.slice e))(K:P.underlying e=some .string)(I:P.cellsOf e=1){W:World}{u:Value}{n:Nat}{x:DataW H×List MemPlace}{A:List kC}(h:DataW.trod enc P W 0 (λ_=>true) true n t [u]=some x)(L:W.noneFrozen x.2)(F:∀a:kC,a.holds W->a∈A)(fq:bulk x.1<=1048576):
 ∃l:List ByteArray,cO A u l/\l.length<=bulk x.1:=by
 obtain⟨a,k,c,bk,o,us,D,Pl,m,rfl,⟨hk,_⟩,G,M⟩:=sB g S I Zd h L F;obtain⟨l,N,j⟩:=eL (α:=ByteArray) (Q:=λi t=>kC.cell bk (o+i) (.string t)∈A/\t.size<=140737488355328) (n:=k) (λi d=>by
  obtain⟨B,h2,C,E,h5⟩:=M i d;obtain⟨s,O,J,_⟩:=DataW.trod_string K E;refine⟨s,C _ (kJ.2 ⟨0,.string s,by rw[O];rfl,by rw[Nat.mul_one];rfl⟩),?_⟩;have q:D i=.lit (.string s.data.toList):=congrArg Prod.fst J;have:=g.str s.data.toList;rw[q]at B;have e2:s.data.toList.length=s.size:=by simp
  omega)
 refine⟨l,⟨a,c,by rw[N],Zo,λi t h=>?_⟩,Zo⟩;have d:i < k:=by have:=(Vt.1 h).1;omega
 exact⟨bk,o,G Zo,(j i t h).1,(j i t h).2⟩
structure LitT (P:Program)(t:TypeId)(sl:TypeId):Prop where
 str:∃fs:Array Field,P.underlying t=some (.struct fs)/\fs.size=5/\∃t0 t1 t2 t3,(fs.toList.map λf=>(f.type,f.offset))=[(t0,0),(t1,1),(t2,2),(t3,3),(sl,4)]/\P.underlying t0=some (.int .u8)/\P.underlying t1=some (.int .i64)/\P.underlying t2=some (.int .u64)/\P.underlying t3=some .string/\
  P.cellsOf t0=1/\P.cellsOf t1=1/\P.cellsOf t2=1/\P.cellsOf t3=1/\P.cellsOf sl=1
 cells:P.cellsOf t=5
 items:P.underlying sl=some (.slice t)
theorem wf_u8 {n:Int}(h:(Lit.int .u8 n).wf=true):∃k:Nat,n=k/\k < 256:=by
 simp[Lit.wf]at h;have e1:IntKind.u8.min=0:=by decide
 have e2:IntKind.u8.max=255:=by decide
 exact⟨n.toNat,Zo,Zo⟩
theorem wf_u64 {n:Int}(h:(Lit.int .u64 n).wf=true):∃k:Nat,n=k/\k < 18446744073709551616:=by
 simp[Lit.wf]at h;have e1:IntKind.u64.min=0:=by decide
 have e2:IntKind.u64.max=18446744073709551615:=by decide
 exact⟨n.toNat,Zo,Zo⟩
theorem wf_i64 {n:Int}(h:(Lit.int .i64 n).wf=true):-9223372036854775808<=n/\n<=9223372036854775807:=by
 simp[Lit.wf]at h;have e1:IntKind.i64.min=-9223372036854775808:=by decide
 have e2:IntKind.i64.max=9223372036854775807:=by decide
 omega
theorem zZ {α:Type}{l:List α}{i:Nat}{v:α}(h:(l.drop i).take 1=[v]):l[i]? =some v:=by
 have:=congrArg (λm:List α=>m[0]?) h;simp only[List.getElem?_take,Vo]at this;simpa using this
theorem AB {ys:List (DataW H×List MemPlace)}{i:Nat}{y:DataW H×List MemPlace}(h:ys[i]? =some y){q:MemPlace}(d:q∈y.2):q∈ys.flatMap (·.2):=QM.2 ⟨y,Zv h,d⟩
theorem rd_lit(hb:SE bulk){t T:TypeId}(B:LitT P t T){W:World}{A:List kC}(hA:∀a:kC,a.holds W->a∈A):∀(N:Nat) (n:Nat) (cs:List Value) (x:DataW H×List MemPlace),bulk x.1<=N->N<=1048576->DataW.trod enc P W 0 (λ_=>true) true n t cs=some x->W.noneFrozen x.2->∃l:Lt,zl A l cs/\l.size<=bulk x.1:=by
 obtain⟨fs,hu,fq,t0,t1,t2,t3,j,u0,u1,u2,u3,c0,c1,c2,c3,c4⟩:=B.str;intro N
 induction N using Nat.strongRecOn with
 |_ N ih=>
  intro n cs x g hN h hf;obtain⟨ys,k,_,rfl,hlen,eO,hfld⟩:=DataW.trod_struct hu h;rw[B.cells]at hlen
  replace g:bulk (.agg (ys.map (·.1)))<=N:=g
  have q:∀(i:Nat) (C off:Nat),(fs.toList.map λf=>(f.type,f.offset))[i]? =some (C,off)->DataW.trod enc P W 0 (λ_=>true) true k C ((cs.drop off).take (P.cellsOf C))=ys[i]?:=λi C off hi=>by
   exact zC0
  have d:∀i,i < 5->ys[i]? =some (ys.getD i (.nil,[])):=λi hi=>by
   rw[Vh,Zg Zo];rfl
  have G:=(q 0 t0 0 (by rw[j];rfl)).trans (d 0 Zo);have I:=(q 1 t1 1 (by rw[j];rfl)).trans (d 1 Zo);have J:=(q 2 t2 2 (by rw[j];rfl)).trans (d 2 Zo);have K:=(q 3 t3 3 (by rw[j];rfl)).trans (d 3 Zo);have F:=(q 4 T 4 (by rw[j];rfl)).trans (d 4 Zo);rw[c0]at G;rw[c1]at I;rw[c2]at J;rw[c3]at K;rw[c4]at F;obtain⟨z0,e0,_,w0⟩:=DataW.trod_int u0 G;obtain⟨U,e1,_,w1⟩:=DataW.trod_int u1 I;obtain⟨z2,e2,_,w2⟩:=DataW.trod_int u2 J;obtain⟨s,e3,d3,_⟩:=DataW.trod_string u3 K;have E:∀i,i < 5->bulk (ys.getD i (.nil,[])).1 < bulk (.agg (ys.map (·.1))):=λi hi=>hb.agg _ _ (QO.2 ⟨_,Zv (d i hi),rfl⟩)
  have X:∀i,i < 5->W.noneFrozen (ys.getD i (.nil,[])).2:=λi hi b o η=>hf b o (AB (d i hi) η)
  obtain⟨v4,e4⟩:∃v,(cs.drop 4).take 1=[v]:=Q1.1 tj;rw[e4]at F;obtain⟨a,kk,c,bk,o,us,D,Pl,m,rfl,⟨hk,Y,hkc⟩,ha,hi⟩:=sB hb B.items B.cells Zd F (X 4 Zo) hA;obtain⟨l,hl,L⟩:=eL (α:=Lt) (Q:=λi y=>zl A y (us i)/\y.size<=bulk (D i)) (n:=kk) (λi O3=>by
   obtain⟨q1,_,_,q4,q5⟩:=hi i O3;have q6:=E 4 Zo;exact ih (bulk (D i)) Zo m (us i) (D i,Pl i) (Qt _) Zo q4 q5)
  obtain⟨O,rfl,b0⟩:=wf_u8 w0;obtain⟨S,rfl,b2⟩:=wf_u64 w2;have b1:=wf_i64 w1;have Z:cs=[cv O,vi U,uv S,.string s,.slice a l.length c]:=by
   exact zB9
  have UF:s.size<=1048576:=by
   have h3:=E 3 Zo;have e:(ys.getD 3 (.nil,[])).1=.lit (.string s.data.toList):=congrArg Prod.fst d3;rw[e]at h3;exact zDG
  have h4:=E 4 Zo;have M:Lt.ap l<=bulk (ys.getD 4 (.nil,[])).1:=by
   refine Qv (Lt.XR (f:=λi=>bulk (D i)) (o:=0) (λi x g=>?_)) ?_
   .rw[X2];exact(L i x g).2
   .rw[hl];exact Y
  rw[Z];refine⟨.mk O U S s l,.mk ⟨b0,b1,b2,Zo,Zo⟩ (λhp=>ha Zo) (λi bU=>(hi i Zo).2.2.1) (λi x g=>(L i x g).1),?_⟩;show 1+Lt.ap l<=bulk (.agg (ys.map (·.1)));omega
structure NodT (P:Program)(t tl sl st:TypeId):Prop where
 str:∃fs:Array Field,P.underlying t=some (.struct fs)/\fs.size=7/\∃t0 t1 t6,(fs.toList.map λf=>(f.type,f.offset))=[(t0,0),(t1,1),(tl,2),(st,7),(st,8),(sl,9),(t6,10)]/\P.underlying t0=some (.int .u8)/\P.underlying t1=some .string/\P.underlying t6=some (.int .i64)/\
  P.cellsOf t0=1/\P.cellsOf t1=1/\P.cellsOf t6=1/\P.underlying st=some (.slice t1)
 cells:P.cellsOf t=11
 cs:P.cellsOf sl=1
 ct:P.cellsOf st=1
 cl:P.cellsOf tl=5
 kids:P.underlying sl=some (.slice t)
theorem rd_node(hb:SE bulk){t tl sl st ll:TypeId}(C:NodT P t tl sl st)(hL:LitT P tl ll){W:World}{A:List kC}(Z:∀a:kC,a.holds W->a∈A):∀(N:Nat) (n:Nat) (cs:List Value) (x:DataW H×List MemPlace),bulk x.1<=N->N<=1048576->DataW.trod enc P W 0 (λ_=>true) true n t cs=some x->W.noneFrozen x.2->∃l:Nd,jN A l cs/\l.w<=bulk x.1:=by
 obtain⟨fs,hu,fq,t0,t1,t6,q,u0,u1,u6,c0,c1,c6,I⟩:=C.str;intro N
 induction N using Nat.strongRecOn with
 |_ N ih=>
  intro n cs x E hN h hf;obtain⟨ys,k,_,rfl,j,eO,hfld⟩:=DataW.trod_struct hu h;rw[C.cells]at j
  replace E:bulk (.agg (ys.map (·.1)))<=N:=E
  have B:∀(i:Nat) (ty off:Nat),(fs.toList.map λf=>(f.type,f.offset))[i]? =some (ty,off)->DataW.trod enc P W 0 (λ_=>true) true k ty ((cs.drop off).take (P.cellsOf ty))=ys[i]?:=λi ty off hi=>by
   exact zC0
  have g:∀i,i < 7->ys[i]? =some (ys.getD i (.nil,[])):=λi hi=>by
   rw[Vh,Zg Zo];rfl
  have g0:=(B 0 t0 0 (by rw[q];rfl)).trans (g 0 Zo);have g1:=(B 1 t1 1 (by rw[q];rfl)).trans (g 1 Zo);have g2:=(B 2 tl 2 (by rw[q];rfl)).trans (g 2 Zo);have g3:=(B 3 st 7 (by rw[q];rfl)).trans (g 3 Zo);have g4:=(B 4 st 8 (by rw[q];rfl)).trans (g 4 Zo);have g5:=(B 5 sl 9 (by rw[q];rfl)).trans (g 5 Zo);have g6:=(B 6 t6 10 (by rw[q];rfl)).trans (g 6 Zo);rw[c0]at g0;rw[c1]at g1;rw[C.cl]at g2;rw[C.ct]at g3 g4;rw[C.cs]at g5;rw[c6]at g6;obtain⟨z0,e0,_,w0⟩:=DataW.trod_int u0 g0;obtain⟨s,e1,d1,_⟩:=DataW.trod_string u1 g1;obtain⟨z6,e6,_,w6⟩:=DataW.trod_int u6 g6;have F:∀i,i < 7->bulk (ys.getD i (.nil,[])).1 < bulk (.agg (ys.map (·.1))):=λi hi=>hb.agg _ _ (QO.2 ⟨_,Zv (g i hi),rfl⟩)
  have J:∀i,i < 7->W.noneFrozen (ys.getD i (.nil,[])).2:=λi hi b o η=>hf b o (AB (g i hi) η)
  obtain⟨v3,e3⟩:∃v,(cs.drop 7).take 1=[v]:=Q1.1 tj;obtain⟨v4,e4⟩:∃v,(cs.drop 8).take 1=[v]:=Q1.1 tj;obtain⟨v5,e5⟩:∃v,(cs.drop 9).take 1=[v]:=Q1.1 tj;rw[e3]at g3;rw[e4]at g4;rw[e5]at g5;have l2:=F 2 Zo;have l3:=F 3 Zo;have l4:=F 4 Zo;have l5:=F 5 Zo;obtain⟨lit,nM,Na⟩:=rd_lit hb hL Z 1048576 k _ _ Zo (Qt _) g2 (J 2 Zo);obtain⟨args,cE,hargl⟩:=sC hb I u1 c1 g3 (J 3 Zo) Z Zo;obtain⟨ab,F0,htempl⟩:=sC hb I u1 c1 g4 (J 4 Zo) Z Zo;obtain⟨a,kk,c,bk,o,us,D,Pl,m,rfl,⟨hk,AR,hkc⟩,ha,hi⟩:=sB hb C.kids C.cells Zd g5 (J 5 Zo) Z;obtain⟨l,hl,hq⟩:=eL (α:=Nd) (Q:=λi y=>jN A y (us i)/\y.w<=bulk (D i)) (n:=kk) (λi O3=>by
   obtain⟨q1,_,_,q4,q5⟩:=hi i O3;exact ih (bulk (D i)) Zo m (us i) (D i,Pl i) (Qt _) Zo q4 q5)
  have G:ys.length=7:=by rw[eO];exact fq
  obtain⟨k0,rfl,b0⟩:=wf_u8 w0;have b6:=wf_i64 w6;have Kh:cs=[cv k0,.string s]++(cs.drop 2).take 5++[v3,v4,.slice a l.length c,vi z6]:=by
   have p0:=zZ e0;have p1:=zZ e1;have p3:=zZ e3;have p4:=zZ e4;have p5:=zZ e5;have p6:=zZ e6;obtain⟨a0,K,L,M,O,S,T,U,X,Y,d,rfl⟩:∃a0 K L M O S T U X Y d,cs=[a0,K,L,M,O,S,T,U,X,Y,d]:=by
    match cs,j with
    |[a0,K,L,M,O,S,T,U,X,Y,d],_=>exact⟨a0,K,L,M,O,S,T,U,X,Y,d,rfl⟩
   simp only[Vn,Vm,XD]at p0 p1 p3 p4 p5 p6;rw[p0,p1,p3,p4,p5,p6,hl];rfl
  have Zb:s.size<=bulk (ys.getD 1 (.nil,[])).1:=by
   have e:(ys.getD 1 (.nil,[])).1=.lit (.string s.data.toList):=congrArg Prod.fst d1;rw[e];exact zDG
  have nU:s.size<=1048576:=by
   have h3:=F 1 Zo;have e:(ys.getD 1 (.nil,[])).1=.lit (.string s.data.toList):=congrArg Prod.fst d1;rw[e]at h3;exact zDG
  rw[Kh];have hsz5:Nd.ws l<=bulk (ys.getD 5 (.nil,[])).1:=by
   refine Qv (Nd.ws_le (f:=λi=>bulk (D i)) (o:=0) (λi x E=>?_)) ?_
   .rw[X2];exact(hq i x E).2
   .rw[hl];exact AR
  refine⟨.mk k0 s lit args ab l z6,.mk ⟨b0,Zo,Zo,b6⟩ nM cE F0 (λhp=>ha Zo) (λi bU=>(hi i Zo).2.2.1) (λi x E=>(hq i x E).1) Zo,?_⟩;have hag:=hb.aggs (ys.map (·.1));have hsum:bulk (ys.getD 1 (.nil,[])).1+bulk (ys.getD 2 (.nil,[])).1+bulk (ys.getD 3 (.nil,[])).1+bulk (ys.getD 4 (.nil,[])).1+bulk (ys.getD 5 (.nil,[])).1<=((ys.map (·.1)).map bulk).sum:=by
   match ys,G with
   |[y0,y1,y2,y3,y4,y5,y6],_=>simp only[QD,QF,List.sum_cons,List.sum_nil,List.getD_cons_zero,List.getD_cons_succ];omega
  show 1+s.size+lit.size+args.length+ab.length+Nd.ws l<=bulk (.agg (ys.map (·.1)));omega
end
section
variable {ops:Array Oper}
theorem coverC {j:Bool}{rs:List (RO×Oper)}{g:List (List Nat)}(E:gw j rs ops g=true)(t:Nat):
 ∃o∈g,o.Perm (jq ops ops.size t (Array.replicate ops.size false))/\(jq ops ops.size t (Array.replicate ops.size false)).Nodup/\(∀i∈o,i < ops.size)/\
  o.Pairwise (λx y=>indep (rs.getD y default) (rs.getD x default)=true∨[x,y].Sublist (jq ops ops.size t (Array.replicate ops.size false))):=by
 simp only[gw,vG]at E;obtain⟨⟨⟨D,hd⟩,K⟩,hp⟩:=E;have F:pR ops (Array.replicate ops.size false)=List.range ops.size:=by
  exact zAV
 obtain⟨s1,G,_⟩:=yR D ops.size t (Array.replicate ops.size false) Zs (by rw[F];simp);generalize J:jq ops ops.size t (Array.replicate ops.size false)=l at s1 G|-;have ε:∀{x y:Nat},y < ops.size->x∈(iV ops).getD y []->MG l x y:=λhy hx=>J ▸ xS D (Qt _) (lT hx) hy
 have bV:∀i,i∈l↔i < ops.size:=λi=>by rw[G,F];simp
 generalize K1:HX j rs (iV ops) ops.size=d at hd hp;have hdlt:∀x∈d,x < ops.size:=by
  exact zCV
 have I:(l.filter (d.contains ·)).Perm d:=by
  exact zBF
 have m:=vg.1 hp _ (ue I);simp only[vT,vO,vj]at m;have H:yE (λx y=>!((iV ops).getD x []).contains y) (l.filter (d.contains ·))=true:=by
  exact zAD
 rcases m with m|⟨o,B,hpo⟩
 .rw[H]at m;cases m
 have A:=vg.1 K o B;simp only[vG,beq_iff_eq,vg,decide_eq_true_eq]at A;obtain⟨⟨o1,o2⟩,o3⟩:=A;have C:o.Perm l:=by
  exact zAI
 refine⟨o,B,C,s1,λi hi=>(bV i).1 (C.subset hi),?_⟩;exact zAN
theorem uN {o l:List Nat}(m:o.Perm l)(d:l.Nodup)(h:o.Pairwise λx y=>[x,y].Sublist l):o=l:=by
 refine List.Perm.eq_of_pairwise (le:=λx y=>[x,y].Sublist l) (λa b _ _ g j=>?_) h (List.pairwise_iff_forall_sublist.2 λh=>h) m;have b1:=(yq d g).2.2;have b2:=(yq d j).2.2;omega
def iY(X:Nat->RO×Oper)(val:Nat->Value):List Nat->Env->Env
 |[],Γ=>Γ
 |i::r,Γ=>iY X val r (aq (X i).1.dst (val i) Γ)
def writes(X:Nat->RO×Oper)(t j:Nat):Bool:=(X j).1.dst==some t
theorem uM {X:Nat->RO×Oper}{val:Nat->Value}{t:Nat}:∀{p:List Nat} {Γ Δ:Env},look Γ t=look Δ t->look (iY X val p Γ) t=look (iY X val (p.filter (writes X t)) Δ) t:=by
 intro p
 induction p with
 |nil=>intro Γ Δ h;exact h
 |cons j p ih=>
  intro Γ Δ h;simp only[iY,V6];by_cases hw:writes X t j=true
  .rw[if_pos hw];simp only[iY];refine ih ?_;simp only[writes,beq_iff_eq]at hw;rw[hw];simp[aq,look]
  .rw[if_neg hw];refine ih ?_;simp only[writes,beq_iff_eq]at hw;rw[<- h];cases hd:(X j).1.dst with
   |none=>rfl
   |some d=>
    have:d≠t:=λe=>hw (by rw[hd,e])
    simp[aq,look,this]
theorem XW {i:Nat}:∀{a b c d:List Nat},a++i::b=c++i::d->i∉a->i∉c->a=c:=by
 intro a
 induction a with
 |nil=>
  intro b c d h _ g;cases c with
  |nil=>rfl
  |cons x c=>simp at h;exact absurd (by simp[h.1]) g
 |cons x a ih=>
  intro b c d h j g;cases c with
  |nil=>simp at h;exact absurd (by simp[h.1]) j
  |cons y c=>
   simp only[vr,vq]at h;rw[h.1,ih h.2 (λh=>j (by simp[h])) (λh=>g (by simp[h]))]
theorem Ou {X:Nat->RO×Oper}{val:Nat->Value}{Γ:Env}{p q d A:List Nat}{i t:Nat}(B:(p++i::q).Perm (d++i::A))(s:(d++i::A).Nodup)
 (H:(p++i::q).Pairwise (λx y=>indep (X y) (X x)=true∨[x,y].Sublist (d++i::A))) (G:t∈looks (X i)):look (iY X val p Γ) t=look (iY X val d Γ) t:=by
 have g:(p++i::q).filter (λj=>decide (j=i)||writes X t j)=(d++i::A).filter (λj=>decide (j=i)||writes X t j):=by
  refine uN (B.filter _) (s.filter _) ?_;have K:(p++i::q).Pairwise (λx y=>x≠y):=B.nodup_iff.2 s;refine((H.and K).filter _).imp_of_mem ?_;intro x y O Q ⟨h,J⟩;have fx:=(QL.1 O).2;have fy:=(QL.1 Q).2;rcases h with h|h
  .exfalso;simp only[indep,vG]at h;obtain⟨⟨L,m⟩,_⟩:=h;have D:=zj L;have I:=zj m;simp only[vT,decide_eq_true_eq,writes,beq_iff_eq]at fx fy;rcases fx with fx|fx <;> rcases fy with fy|fy
   .exact J (fx.trans fy.symm)
   .subst fx;exact(D t fy).1 G
   .subst fy;exact(I t fx).1 G
   .exact(D t fy).2 fx
  .have:=h.filter (λj=>decide (j=i)||writes X t j)
   rwa [show List.filter (λj=>decide (j=i)||writes X t j) [x,y]=[x,y] by simp only[List.filter,fx,fy]]at this
 have C:i∉p:=by
  have:=B.nodup_iff.2 s;intro h;exact(QW.1 this).2.2 i h i Zs rfl
 have E:i∉d:=λh=>(QW.1 s).2.2 i h i Zs rfl
 rw[V5,V5,List.filter_cons_of_pos Zs,List.filter_cons_of_pos Zs]at g;have m:=XW g (λh=>C ((QL.1 h).1)) (λh=>E ((QL.1 h).1));have F:∀l:List Nat,i∉l->l.filter (λj=>decide (j=i)||writes X t j)=l.filter (writes X t):=λl N=>List.filter_congr λj M=>by
  have:j≠i:=λe=>N (e ▸ M)
  simp[this]
 rw[F p C,F d E]at m;rw[uM (p:=p) rfl,uM (p:=d) rfl,m]
theorem Ot {X:Nat->RO×Oper}{val:Nat->Value}{i:Nat}:∀{p:List Nat} {Γ:Env},iY X val (p++[i]) Γ=aq (X i).1.dst (val i) (iY X val p Γ):=by
 intro p
 induction p with
 |nil=>intro Γ;rfl
 |cons j p ih=>intro Γ;exact ih
def StepZ(P:Program)(n:Nat)(X:Nat->RO×Oper)(PZ:List PanicEntry->SH->Prop)(Hs:SH->Prop)(val:Nat->Value)(φ:Nat->Prop)(i:Nat)(Δ:Env):Prop:=
 ∀Γ H,(∀t∈looks (X i),∀v,look Δ t=some v->look Γ t=some v)->Hs H->VO P n [(X i).1] Γ H (λch _ H'=>PZ ch H') (λaw H'=>aw=aq (X i).1.dst (val i) Γ/\Hs H'/\φ i)
theorem run_any {P:Program}{n:Nat}{X:Nat->RO×Oper}{T:List PanicEntry->SH->Prop}{G:SH->Prop}{val:Nat->Value}{φ:Nat->Prop}{Sl:Env}{o l:List Nat}(U:o.Perm l)(hn:l.Nodup)
 (W:o.Pairwise (λx y=>indep (X y) (X x)=true∨[x,y].Sublist l)) (nN:∀i∈l,tf P n [(X i).1] [X i]) (Y:∀p i q,o=p++i::q->StepZ P n X T G val φ i (iY X val p Sl))
 {F:List kC} {B:Exit->Act->World->Prop} {Q:Act->World->Prop} {a0:Act} {w0:World}
 (hq:∀d w' H',wH n (iY X val l Sl) d->d.defers=a0.defers->Sat w' (H'.flatten++F)->kz w0 w'->G H'->(∀i∈l,φ i)->Q d w')
 (hz:∀C d w' H',d.tmps.size=n->d.defers=a0.defers->Sat w' (H'.flatten++F)->kz w0 w'->T C H'->B (.panic C) d w'):
 ∀(A s:List Nat),l=s++A->∀a w H,wH n (iY X val s Sl) a->a.defers=a0.defers->Sat w (H.flatten++F)->kz w0 w->G H->(∀i∈s,φ i)->cH P B Q (A.map X) a w:=by
 intro A
 induction A with
 |nil=>
  intro s g a w H M D S E N m;rw[vp]at g;subst g;exact hq a w H M D S E N m
 |cons i A ih=>
  intro s g a w H M D S E N m;have hi:i∈o:=U.mem_iff.2 (by rw[g];simp);obtain⟨p,q,O⟩:=List.append_of_mem hi;have st:=Y p i q O (iY X val s Sl) H (λt ht v hv=>by
   rw[<- Ou (val:=val) (Γ:=Sl) (by rw[<- O,<- g];exact U) (by rw[<- g];exact hn) (by rw[<- O,<- g];exact W) ht];exact hv) N
  have:=st [X i] (nN i (by rw[g];simp)) a w F B (cH P B Q (A.map X)) M S
   (λd w' Z H' ⟨k1,k2,k3⟩ I J K L=>by
     subst k1;exact ih (s++[i]) (by rw[g];simp) d w' H' (by rw[Ot];exact I) (J.trans D) K (E.trans L) k2 (λj hj=>by
      rcases QG.1 hj with h|h
      .exact m j h
      .rw[QU.1 h];exact k3))
   (λC d w' Z H' k I J K L=>hz C d w' H' I.size (J.trans D) K (E.trans L) k)
  exact this
def argO:R->List Operand
 |.call _ xs=>xs
 |r=>mq r
def Bi(r:RO):List Nat:=dC r.guard++dN (argO r.op)
def okR(r:RO):Bool:=kg r.op||jL r.op||(match r.op with|.call _ _=>true|_=>false)
def Ac(P:Program)(n:Nat)(PZ:List PanicEntry->SH->Prop)(Hs:SH->Prop):List RO->Env->Prop->Prop
 |[],_,Φ=>¬Φ
 |r::rs,Δ,Φ=>okR r=true/\∃(v:Value) (φ:Prop),(∀Γ H,(∀t∈Bi r,∀u,look Δ t=some u->look Γ t=some u)->Hs H->VO P n [r] Γ H (λch _ H'=>PZ ch H') (λaw H'=>aw=aq r.dst v Γ/\Hs H'/\φ))/\
   Ac P n PZ Hs rs (aq r.dst v Δ) (Φ/\φ)
theorem kI {P:Program}{n:Nat}{j:List PanicEntry->SH->Prop}{g:SH->Prop}{r:RO}{rs:List RO}{Δ:Env}{q:Prop}{v:Value}(C:Ac P n j g rs (aq r.dst v Δ) (q/\True))(ok:okR r=true:=by rfl)
 (B:∀Γ H,(∀t∈Bi r,∀u,look Δ t=some u->look Γ t=some u)->g H->VO P n [r] Γ H (λA _ H'=>j A H') (λs H'=>s=aq r.dst v Γ/\g H'/\True):=by
   intro Γ H d m
   first
    |(subst m
      first
       |exact EX (d _ Zd _ rfl) rfl HC
       |exact sR (d _ Zd _ rfl) HC
       |exact z8 (d _ Zd _ rfl) rfl HC
       |exact jg (d _ Zd _ rfl) Zh HC
       |exact st_lenI (d _ Zd _ rfl) (VO.nil ⟨rfl,rfl,trivial⟩)
       |exact lI (d _ Zd _ rfl) rfl HC
       |exact lJ (d _ Zd _ rfl) (d _ Zd _ rfl) HC
       |exact sP (d _ Zd _ rfl) (z8 (d _ Zd _ rfl) rfl HC)
       |exact sP (d _ Zd _ rfl) (jg (d _ Zd _ rfl) Zh HC))
    |(obtain⟨mz,hz⟩:=m
      refine VO.imp hz ?_
      first
       |exact sR (d _ Zd _ rfl) Zae
       |exact z8 (d _ Zd _ rfl) rfl Zae
       |exact z8 (d _ Zd _ rfl) Zo (VO.nil ⟨rfl,⟨mz,ai.refl _⟩,trivial⟩)
       |exact jg (d _ Zd _ rfl) (by first|(exact Zh)|(exact Zm)) Zae
       |exact kR (d _ Zd _ rfl) CS eO Zae
       |exact sQ (d _ Zd _ rfl) rfl Zo Zz (VO.nil ⟨rfl,⟨mz,ai.refl _⟩,trivial⟩)
       |exact ox (d _ Zd _ rfl) rfl (l:=1) rfl Zo (VO.nil ⟨rfl,⟨mz,ai.refl _⟩,trivial⟩))):Ac P n j g (r::rs) Δ q:=⟨ok,v,True,B,C⟩
theorem LF {P:Program}{n:Nat}{x:RO×Oper}(m:eU P n ops x.2=some x.1)(d:okR x.1=true):∀t∈Bi x.1,t∈looks x:=by
 intro t ht;simp only[Bi,looks,QG]at ht|-;rcases ht with ht|ht
 .exact .inl ht
 right;by_cases hq:(kg x.1.op||jL x.1.op)=true
 .rw[if_pos hq];have:argO x.1.op=mq x.1.op:=by
   cases O9:x.1.op <;> first|rfl|(rw[O9]at hq;cases hq)
  rwa [this]at ht
 .rw[if_neg hq];simp only[okR,hq,vN]at d;cases O9:x.1.op with
  |call f xs=>
   have g:=(jP m).1;rw[O9]at g;obtain⟨c,h,h2,j,h4⟩:=sh g;rw[O9]at ht;simp only[argO]at ht;rw[h];simp only[Op.operands,Call.operands,Array.toList_append,j,dN,List.filterMap_append,QG];exact .inr ht
  |_=>rw[O9]at d;cases d
theorem KP {X:Nat->RO×Oper}{val d:Nat->Value}:∀{p:List Nat} {Γ:Env},(∀j∈p,val j=d j)->iY X val p Γ=iY X d p Γ:=by
 intro p
 induction p with
 |nil=>intro Γ _;rfl
 |cons j p ih=>intro Γ h;simp only[iY];rw[h j Zs];exact ih λk g=>h k (by simp[g])
theorem JS {P:Program}{n:Nat}{X:Nat->RO×Oper}{J:List PanicEntry->SH->Prop}{I:SH->Prop}:∀(o:List Nat) (Γ:Env) (B:Prop),o.Nodup->(∀i∈o,okR (X i).1=true->∀t∈Bi (X i).1,t∈looks (X i))->Ac P n J I (o.map λi=>(X i).1) Γ B->
 ∃(val:Nat->Value) (φ:Nat->Prop),(∀p i q,o=p++i::q->StepZ P n X J I val φ i (iY X val p Γ))/\¬(B/\∀i∈o,φ i):=by
 intro o
 induction o with
 |nil=>intro Γ B _ _ h;exact⟨λ_=>undef,λ_=>True,λp i q e=>by simp at e,λm=>h m.1⟩
 |cons i o ih=>
  intro Γ B W K h;obtain⟨L,v,G,O,Q⟩:=h;have A:=QX.1 W;obtain⟨val,φ,M,N⟩:=ih _ _ A.2 (λj d=>K j (by simp[d])) Q;refine⟨λj=>if j=i then v else val j,λj=>if j=i then G else φ j,λp j q e=>?_,λm=>N ⟨⟨m.1,?_⟩,λj d=>?_⟩⟩
  .cases p with
   |nil=>
    simp only[QV,vq]at e;obtain⟨rfl,rfl⟩:=e;intro D H s E;have:=O D H (λt Y=>s t (K i Zs L t Y)) E;simpa using this
   |cons k p=>
    simp only[vr,vq]at e;obtain⟨rfl,e⟩:=e;have d:j∈o:=by rw[e];simp
    have C:j≠i:=λg=>A.1 (g ▸ d)
    have st:=M p j q e;have T:iY X (λj=>if j=i then v else val j) p (aq (X i).1.dst v Γ)=iY X val p (aq (X i).1.dst v Γ):=KP λk U=>by
     have Z:k∈o:=by rw[e];simp[U]
     have F:k≠i:=λg=>A.1 (g ▸ Z)
     simp[F]
    intro D H s E;simp only[iY,if_pos]at s;rw[T]at s;have:=st D H s E;simpa[C]using this
  .have:=m.2 i Zs;simpa using this
  .have S:=m.2 j (by simp[d]);have C:j≠i:=λg=>A.1 (g ▸ d)
   simpa[C]using S
end
theorem VC.Av {P:Program}{n:Nat}{Γ:Env}{H:SH}{Q:Exit->Env->SH->Prop}{L:List (List RO)}{U:List Nat}(B:List PanicEntry->SH->Prop)(A:SH->Prop)(h0:A H)
 (h:∀rs∈L,Ac P n B A rs Γ True) (hz:∀j H',B j H'->Q (.panic j) [] H'):VC P n (.draw L U) Γ H Q:=by
 intro ρ kp od E hl a w F QQ hr ha hs hh;obtain⟨id,ops,rs,rfl,G,hm,hc,rfl,rfl⟩:=jn hl;have I:=(wD G).1;refine wpIn_region_draw (λt=>?_);have qM:Region.schedule (P.follows .mixedOrders) ops t=jq ops ops.size t (Array.replicate ops.size false):=by simp[Region.schedule,hm,Region.linearise,jq]
 rw[qM];obtain⟨g,O⟩:∃g,gw g (rs.zip ops.toList) ops (od id)=true:=by
  unfold qq at hc;rcases vU.1 hc with hc|hc
  .exact⟨_,hc⟩
  .exact⟨_,hc⟩
 obtain⟨o,S,q,J,s,N⟩:=coverC O t;have m:∀i,i < ops.size->ops[i]? =some ((rs.zip ops.toList).getD i default).2/\((rs.zip ops.toList).getD i default).1=rs.getD i default/\eU P n ops ((rs.zip ops.toList).getD i default).2=some ((rs.zip ops.toList).getD i default).1:=λi d=>zI G d
 have K:∀i∈jq ops ops.size t (Array.replicate ops.size false),i < ops.size:=λi d=>s i (q.mem_iff.2 d)
 refine fZ (P:=P) (ρ:=ρ) (n:=n) (ops:=ops) (X:=λi=>(rs.zip ops.toList).getD i default) (QQ:=QQ) (λi d=>⟨(m i d).1,(m i d).2.2⟩) _ a _ K ?_;have D:=h (o.map λi=>rs.getD i default) (QO.2 ⟨o,S,rfl⟩);have M:(o.map λi=>rs.getD i default)=o.map λi=>((rs.zip ops.toList).getD i default).1:=QC λi d=>(m i (s i d)).2.1.symm
 rw[M]at D;obtain⟨val,φ,Y,Z⟩:=JS (X:=λi=>(rs.zip ops.toList).getD i default) o Γ True (q.nodup_iff.2 J) (λi d T=>LF (m i (s i d)).2.2 T) D;refine run_any (X:=λi=>(rs.zip ops.toList).getD i default) (l:=jq ops ops.size t (Array.replicate ops.size false)) (val:=val) (φ:=φ) (Sl:=Γ) (a0:=a) (w0:={w with drawn:=w.drawn+1}) (F:=F) q J N (λi d=>⟨rfl,λx hx=>by rw[QU.1 hx];exact⟨ops,(m i (K i d)).2.2⟩⟩) Y ?_ ?_ _ [] rfl a _ H ha rfl (hs.drawn _) (.refl _) h0 (λi d=>by cases d)
 .intro C w' H' _ _ _ _ _ W;exact absurd ⟨trivial,λi d=>W i (q.mem_iff.1 d)⟩ Z
 .intro j C w' H' k1 k2 k3 k4 k5;exact hh (.panic j) C w' [] H' [] (hz j H' k5) ⟨k1,λt v e=>by cases e⟩ k2 k3.cy (((kz.refl w).drawn _).trans k4)
section
variable {P:Program} {n:Nat} {rs:List RO} {Γ:Env} {H:SH} {Z:List PanicEntry->Env->SH->Prop} {K:Env->SH->Prop} {d:Option Nat}
theorem GX {x y:Operand}{a b:Nat}(j:ev Γ x=some (vi a))(m:ev Γ y=some (vi b))(h:VO P n rs (aq d (vi (max a b:Nat)) Γ) H Z K):
 VO P n (⟨d,none,.max2 x y⟩::rs) Γ H Z K:=by
 refine VO.pure rfl (v:=vi (max a b:Nat)) (λρ g=>?_) h;have e:(if(b:Int) > (a:Int)then(b:Int)else(a:Int))=((max a b:Nat):Int):=by split <;> omega
 simp only[kW,g _ _ j,g _ _ m,vi,e]
theorem st_eqI {x y:Operand}{k:IntKind}{a b:Int}{t:Bool}(m:ev Γ x=some (.int k a))(q:ev Γ y=some (.int k b))(j:decide (a=b)=t)(h:VO P n rs (aq d (.bool t) Γ) H Z K):
 VO P n (⟨d,none,.bin .eql x y⟩::rs) Γ H Z K:=
 VO.pure rfl (v:=.bool t) (λρ g=>by subst j;simp[kW,g _ _ m,g _ _ q,y9,nY]) h
theorem XY {x y:Operand}{k:IntKind}{a b:Int}{t:Bool}(m:ev Γ x=some (.int k a))(q:ev Γ y=some (.int k b))(j:decide (a<=b)=t)(h:VO P n rs (aq d (.bool t) Γ) H Z K):
 VO P n (⟨d,none,.bin .leq x y⟩::rs) Γ H Z K:=
 VO.pure rfl (v:=.bool t) (λρ g=>by subst j;simp[kW,g _ _ m,g _ _ q,y9,nY]) h
theorem st_lenI {x:Operand}{a:Option Addr}{m c:Nat}(j:ev Γ x=some (.slice a m c))(h:VO P n rs (aq d (vi m) Γ) H Z K):
 VO P n (⟨d,none,.Lq x⟩::rs) Γ H Z K:=
 VO.pure rfl (v:=vi m) (λρ g=>by simp[kW,g _ _ j,vi]) h
end
theorem jH {R G:Prop}(r:R)(h:SJ R->G:=by
 intro d
 (repeat (first
   |(first
   |(apply sP;rfl)
   |(apply G2;rfl;rfl;omega;omega;exact Zi;exact Zi;(first|assumption|((try simp only[Nat.reducePow]);rfl));rfl)
   |(apply G1;rfl;rfl;omega;omega;exact Zi;exact Zi;(first|assumption|((try simp only[Nat.reducePow]);rfl));rfl)
   |(apply GV;rfl;rfl;exact Zl;exact Zl;exact Zi;exact Zi;(first|exact ZD _|exact ZE _|exact MM _|rfl))
   |(apply NP;rfl;rfl;exact Zl;exact Zl;exact Zi;exact Zi;rfl)
   |(apply yk;rfl;rfl;exact Zl;exact Zl;exact Zi;exact Zi)
   |(apply yp;rfl;rfl;omega;omega;exact Zi;exact Zi)
   |(apply x9;rfl;rfl;omega;omega;omega;exact Zi;exact Zi)
   |(apply sN;rfl;(first|exact J9 Zo|exact gZ Zo|exact oC Zo))
   |(apply yn;rfl;rfl;omega;omega;exact Zi;exact Zi)
   |(apply yo;rfl;rfl;omega;omega;exact Zi;exact Zi)
   |(apply EX;rfl;rfl)
   |(apply JQ;rfl)
   |(apply sR;rfl)
   |(apply GZ;rfl)
   |(apply lJ;rfl;rfl)
   |(apply lI;rfl;rfl)
   |(apply z8;rfl;exact Zz)
   |(apply jg;rfl;exact Zh)
   |(apply jg;rfl;exact Zm)
   |(apply yC;rfl;exact YV)
   |(apply yl;rfl;rfl)
   |(apply GW;rfl;rfl)
   |(apply GQ;rfl;rfl;omega)
   |(apply G3;rfl;rfl;omega)
   |(apply GY;rfl;rfl;omega)
   |(apply G0;rfl;rfl;decide)
   |(apply sQ;rfl;rfl;omega;exact Zz)
   |(apply ym;rfl;rfl;omega;exact Zz)
   |(apply sM;rfl;(focus (simp only[Zn,Value.cells,X2,Nat.reduceEqDiff,↓reduceIte,eq_self,Nat.reduceAdd,Nat.reduceSub,Qz,Nat.reduceLeDiff,Qt,and_self,rep,jB] <;> rfl)))
   |(apply yX;rfl;rfl;(focus (simp only[Zn,Value.cells,X2,Nat.reduceEqDiff,↓reduceIte,eq_self,Nat.reduceAdd,Nat.reduceSub,Qz,Nat.reduceLeDiff,Qt,and_self,rep,jB] <;> rfl));rfl;rfl;exact Zac)
   |(apply o6;rfl;rfl;rfl))
    |(refine VO.nil ?_;simp only[V.aM,V.aT,V.look,V.aq,V.bK,V.bG,X2,Nat.reduceAdd,Nat.reduceEqDiff,↓reduceIte,eq_self])
    |refine VC.x8 ?_
    |refine VC.oY ?_
    |refine VC.oX ?_
    |refine VC.sI ?_
    |refine VC.mY ?_
    |refine VC.DT ?_
    |refine VC.block ?_
    |(refine VC.skip ?_;try simp only[V.aM,V.aT,V.look,V.aq,V.bK,V.bG,X2,Nat.reduceAdd,Nat.reduceEqDiff,↓reduceIte,eq_self])
    |(refine VC.exit ?_;try simp only[V.aM,V.aT,V.look,V.aq,V.bK,V.bG,X2,Nat.reduceAdd,Nat.reduceEqDiff,↓reduceIte,eq_self])
    |(refine VC.ret ?_;try simp only[V.bK,V.bG])
    |(apply VC.mw;rfl)
    |(apply VC.mu;rfl)
    |(apply VC.tB;rfl)
    |(apply VC.tA;rfl)))
 exact d.out):G:=h ⟨r⟩
structure Hd where
 cls:Nat
 fmt:Nat
 spare:Nat
 hash:Nat
 age:Nat
 slots:Nat
 marked:Bool
 Bx:Bool
def b2n(b:Bool):Nat:=if b then 1 else 0
structure Hd.May (h:Hd):Prop where
 cls:h.cls<=4095
 hash:h.hash<=4194303
 age:h.age<=15
 slots:h.slots<=65536
 spare:h.spare<=7
 fmt:1<=h.fmt/\h.fmt<=6
 plain:h.fmt<=4->h.spare=0
 eph:h.fmt=3->0 < h.slots
 meth:h.fmt=6->0 < h.slots
 some:h.spare≠0->(if h.fmt=6 then 1 else 0) < h.slots
def pk(h:Hd):Nat:=h.cls+h.fmt*4096+h.spare*32768+h.hash*262144+h.age*1099511627776+b2n h.marked*17592186044416+b2n h.Bx*35184372088832
structure Ob where
 at_:Nat
 hd:Hd
 body:List Nat
def Ob.stop(b:Ob):Nat:=b.at_+2+b.hd.slots
structure Ob.Ok (b:Ob):Prop where
 may:b.hd.May
 len:b.body.length=b.hd.slots
 small:∀x∈b.body,x < 18446744073709551616
 meth:b.hd.fmt=6->∃n r,b.body=(8*n+1)::r/\n<=r.length
structure Lay (ws st:List Nat)(W8:List Ob):Prop where
 small:∀x∈ws,x < 18446744073709551616
 sts:∀x∈st,x < 18446744073709551616
 stl:st.length=ws.length / 64+1
 len:ws.length < 4194304
 ok:∀b∈W8,b.Ok
 low:∀b∈W8,2<=b.at_
 high:∀b∈W8,b.stop<=ws.length
 head:∀b∈W8,ws[b.at_]? =some (pk b.hd)/\ws[b.at_+1]? =some b.hd.slots
 body:∀b∈W8,∀i < b.hd.slots,ws[b.at_+2+i]? =b.body[i]?
 sort:W8.Pairwise λa b=>a.stop<=b.at_
 bits:∀w,w < ws.length->(bitAt st w=true↔∃b∈W8,b.at_=w)
def kU:N1 Nat:=⟨.int,uv,λa b=>by
 show some (decide (((a:Nat):Int)=((b:Nat):Int)))=some (decide (a=b))
 congr 1;rw[decide_eq_decide];omega⟩
structure AH where
 rm:List (Nat×Nat×Nat)
 W8:List Ob
 sp:List Nat
 cl:List Nat
 stack:List Nat
 queue:List Nat
 Bx:List Nat
 ahead:List (Nat×Nat)
 given:Nat
structure HW where
 a:AH
 ws:List Nat
 st:List Nat
 wb:Nat
 sb:Nat
 kv:Value
 qv:Value
 nv:Value
 ks:List Value
 qs:List Value
 ns:List Value
 mb:Nat
 es:Array MapEntry
 mc:Nat
def rmEnc(r:Nat×Nat×Nat):List Value:=[vi r.1,vi r.2.1,vi r.2.2]
def arrV(b:Nat)(l:List Nat):Value:=.slice (some ⟨b,0,none⟩) l.length l.length
def HMem(p:Nat)(x:HW):SH:=
 [kA p 0 [arrV x.wb x.ws,arrV x.sb x.st],kA p 4180 [x.kv,x.qv,x.nv,.map (some x.mb),vi x.a.given],kA p 2 (x.a.rm.flatMap rmEnc),kA p 20 (x.a.sp.map uv),kA p 84 (x.a.cl.map uv),
  kA x.wb 0 (x.ws.map uv),kA x.sb 0 (x.st.map uv),ao x.kv (x.a.stack.map uv) x.ks,ao x.qv (x.a.queue.map uv) x.qs,ao x.nv (x.a.Bx.map uv) x.ns,[.obj x.mb (.map x.es x.mc)]]
def HA(p:Nat)(x:HW):List kC:=(HMem p x).flatten
structure RmOk (a:AH)(n:Nat):Prop where
 len:a.rm.length=6
 zero:a.rm[0]? =some (0,0,0)
 rng:∀(i:Nat) (r:Nat×Nat×Nat),a.rm[i]? =some r->r.1<=r.2.2/\r.2.2<=r.2.1/\r.2.1<=n
 low:∀(i:Nat) (r:Nat×Nat×Nat),1<=i->a.rm[i]? =some r->2<=r.1
 apart:∀(i j:Nat) (r s:Nat×Nat×Nat),i < j->a.rm[i]? =some r->a.rm[j]? =some s->1<=i->r.2.1<=s.1∨s.2.1<=r.1
 inn:∀b∈a.W8,∃(i:Nat) (r:Nat×Nat×Nat),1<=i/\a.rm[i]? =some r/\r.1<=b.at_/\b.stop<=(if i=5 then r.2.1 else r.2.2)
structure HOk (x:HW):Prop where
 lay:Lay x.ws x.st x.a.W8
 rm:RmOk x.a x.ws.length
 spl:x.a.sp.length=64
 cll:x.a.cl.length=4096
 sps:∀o∈x.a.sp,o < 18446744073709551616
 cls:∀o∈x.a.cl,o < 18446744073709551616
 stks:∀o∈x.a.stack,o < 18446744073709551616
 ques:∀o∈x.a.queue,o < 18446744073709551616
 nots:∀o∈x.a.Bx,o < 18446744073709551616
 stk:ky 1 x.kv x.a.stack.length (x.a.stack.map uv) x.ks
 que:ky 1 x.qv x.a.queue.length (x.a.queue.map uv) x.qs
 note:ky 1 x.nv x.a.Bx.length (x.a.Bx.map uv) x.ns
 map:yK kU uv x.es x.mc x.a.ahead
 given:x.a.given<=4194303
 deep:x.a.stack.length<=4096
 few:x.a.queue.length<=1073741823/\x.a.Bx.length<=1073741823
section
variable {P:Program} {n:Nat} {rs:List RO} {Γ:Env} {H:SH} {Z:List PanicEntry->Env->SH->Prop} {K:Env->SH->Prop}
end
structure Keep (f:Ob->Ob):Prop where
 at_:∀b,(f b).at_=b.at_
 slots:∀b,(f b).hd.slots=b.hd.slots
section
variable {ws st:List Nat} {W8:List Ob}
end
section
variable {P:Program} {n:Nat} {rs:List RO} {Γ:Env} {H:SH} {Z:List PanicEntry->Env->SH->Prop} {K:Env->SH->Prop} {d:Option Nat}
end
section
variable {P:Program} {n:Nat} {rs:List RO} {Γ:Env} {H:SH} {Z:List PanicEntry->Env->SH->Prop} {K:Env->SH->Prop} {d:Option Nat}
theorem ox {size len cap l b o:Nat}{x m:Operand}{j:IntKind}{h:Int}(B:ev Γ x=some (.slice (some ⟨b,o,none⟩) len cap))(q:ev Γ m=some (.int j h))(s:h=(l:Int))(hr:l<=len/\len<=cap)
 (k:VO P n rs (aq d (.slice (some ⟨b,if cap=l then o else o+l*size,none⟩) (len - l) (cap - l)) Γ) H Z K):
 VO P n (⟨d,none,.sL size x (some m) none none⟩::rs) Γ H Z K:=by
 subst s;refine VO.pure rfl (λρ g=>?_) k;have A:bound (Value.int j (l:Int)) len=some l:=by simp[bound];omega
 simp[kW,g _ _ B,g _ _ q,y8,A,wY]
end
theorem Sat.alloc {w:World}{L:List kC}(h:Sat w L)(o:Obj):Sat (w.alloc o) L/\kz w (w.alloc o):=by
 have:=h.push o [] (λx d=>by cases d) Zs;simpa using this
theorem Sat.set {w:World}{L R:List kC}{b off:Nat}{v u:Value}(h:Sat w L)(p:L.Perm (.cell b off v::R)):Sat (w.setCell ⟨b,off,none⟩ u) (.cell b off u::R)/\kz w (w.setCell ⟨b,off,none⟩ u):=(h.perm p).store
theorem Sat.allocs {L:List kC}:∀(d:List Obj) {w:World},Sat w L->Sat (d.foldl World.alloc w) L/\kz w (d.foldl World.alloc w):=by
 intro d
 induction d with
 |nil=>intro w h;exact⟨h,.refl w⟩
 |cons o d ih=>
  intro w h;obtain⟨g,j⟩:=h.alloc o;obtain⟨m,q⟩:=ih g;exact⟨m,j.trans q⟩
theorem au.LV {P:Program}{f:Nat}{args:List Value}{A:List kC}{b o:Nat}{d new v:Value}(B:wK P f=true)
 (h:∀w,(∀a∈A,a.holds w)->w.cell? ⟨b,o,none⟩=some d->w.frozen? ⟨b,o,none⟩=false->Calls P f args.toArray w λe w'=>e=.returned v/\∃j:List Obj,w'=(j.foldl World.alloc w).setCell ⟨b,o,none⟩ new):
 au P f args [A,[.cell b o d]] (λu Post=>u=v/\Post=[A,[.cell b o new]]):=by
 refine⟨B,λF w C=>?_⟩;have g:Sat w ((.cell b o d)::(A++F)):=C.perm (by simp only[Vd,Ve,vp,vm,vr,QV];exact Qe);obtain⟨m,q⟩:=g.cell (QK ..);refine(h w (λa s=>g.holds a (QJ _ (Zw _ s))) m q).mono ?_
 rintro e w' ⟨rfl,j,rfl⟩
 obtain⟨G,D⟩:=g.allocs j;obtain⟨H,E⟩:=G.set (u:=new) (.refl _);refine⟨_,_,rfl,⟨rfl,rfl⟩,H.perm ?_,D.trans E⟩;simp only[Vd,Ve,vp,vm,vr,QV];exact Qe.symm
structure yA where
 name:ByteArray
 unit:Nat
 arg:Bool
 own:Int
structure jZ where
 kind:Nat
 index:Int
 slot:Int
 name:ByteArray
inductive PN where
 |mk (kind:Nat) (name:ByteArray) (lit:Lt) (refs:List jZ) (unit:Int) (super:Bool) (kids:List PN)
def PN.kind:PN->Nat|.mk k _ _ _ _ _ _=>k
def PN.name:PN->ByteArray|.mk _ s _ _ _ _ _=>s
def PN.lit:PN->Lt|.mk _ _ l _ _ _ _=>l
def PN.refs:PN->List jZ|.mk _ _ _ r _ _ _=>r
def PN.unit:PN->Int|.mk _ _ _ _ u _ _=>u
def PN.super:PN->Bool|.mk _ _ _ _ _ b _=>b
def PN.kids:PN->List PN|.mk _ _ _ _ _ _ l=>l
def PN.lG(b:Bool):PN->PN|.mk k s l r u _ ks=>.mk k s l r u b ks
structure ah where
 vars:List yA
 outer:List Int
 args:List Nat
 uses:List (Nat×Nat)
 bodies:List (List PN)
 f:Option (Nat×Int)
def e0:ByteArray:=⟨#[]⟩
def eV:Lt:=.mk 0 0 0 e0 []
def ah.wrong(st:ah)(e:Nat)(at_:Int):ah:=if st.f.isNone then {st with f:=some (e,at_)}else st
def nmIfT:ByteArray:=⟨#[105,102,84,114,117,101,58]⟩
def nmIfF:ByteArray:=⟨#[105,102,70,97,108,115,101,58]⟩
def nmAnd:ByteArray:=⟨#[97,110,100,58]⟩
def nmOr:ByteArray:=⟨#[111,114,58]⟩
def nmTF:ByteArray:=⟨#[105,102,84,114,117,101,58,105,102,70,97,108,115,101,58]⟩
def nmFT:ByteArray:=⟨#[105,102,70,97,108,115,101,58,105,102,84,114,117,101,58]⟩
def nmWT1:ByteArray:=⟨#[119,104,105,108,101,84,114,117,101,58]⟩
def nmWF1:ByteArray:=⟨#[119,104,105,108,101,70,97,108,115,101,58]⟩
def nmWT:ByteArray:=⟨#[119,104,105,108,101,84,114,117,101]⟩
def nmWF:ByteArray:=⟨#[119,104,105,108,101,70,97,108,115,101]⟩
def nmTo:ByteArray:=⟨#[116,111,58,100,111,58]⟩
def jW(s:ByteArray):Nat:=
 if s=nmIfT∨s=nmIfF∨s=nmAnd∨s=nmOr then 1
 else if s=nmTF∨s=nmFT then 2
 else if s=nmWT1∨s=nmWF1 then 3
 else if s=nmWT∨s=nmWF then 4
 else if s=nmTo then 5 else 0
def jf(x:Nd):Bool:=decide (x.kind=7)&&decide (x.args.length=0)
def jO:List Nd->Bool
 |r::_=>jR r
 |[]=>false
def dw(n:Nat)(kids:List Nd):Bool:=
 match n with
 |1=>match kids with|[_,b]=>jf b|_=>false
 |2=>match kids with|[_,b,c]=>jf b&&jf c|_=>false
 |3=>match kids with|[a,b]=>jf a&&jf b|_=>false
 |4=>match kids with|[a]=>jf a|_=>false
 |5=>match kids with|[_,_,b]=>decide (b.kind=7)&&decide (b.args.length=1)|_=>false
 |_=>false
def eR(k:Nat)(s:ByteArray)(kids:List Nd):Bool:=decide (k=4)&&!jO kids&&dw (jW s) kids
def iH(x:Nd):Bool:=eR x.kind x.name x.kids
def cY(s:ByteArray)(i:Nat):Bool:=
 match jW s with
 |3=>true
 |4=>true
 |5=>decide (i=2)
 |_=>decide (0 < i)
def iP(s:ByteArray):Nat:=match jW s with|3=>12|4=>12|5=>13|_=>11
def mD(s:ByteArray):ByteArray:=if jW s=5 then e0 else s
def qX:ByteArray:=⟨#[115,101,108,102]⟩
def eg:ByteArray:=⟨#[115,117,112,101,114]⟩
def Bv:ByteArray:=⟨#[110,105,108]⟩
def qY:ByteArray:=⟨#[116,114,117,101]⟩
def mi:ByteArray:=⟨#[102,97,108,115,101]⟩
def wV(s:ByteArray):Nat:=if s=qX∨s=eg then 1 else if s=Bv then 2 else if s=qY then 3 else if s=mi then 4 else 0
def jk(vs:List yA)(env:List Nat)(nm:ByteArray):Option Nat:=env.reverse.find? λv=>decide ((vs[v]?).map (·.name)=some nm)
def cZ(v:Nat):jZ:=⟨99,v,0,e0⟩
def kP(unit:Nat)(arg own:Bool)(at_:Int):List ByteArray->Nat->ah->List Nat->ah×List Nat
 |[],_,st,env=>(st,env)
 |nm::r,i,st,env=>
  kP unit arg own at_ r (i+1) {(if(jk st.vars env nm).isSome then st.wrong 180 at_ else st)with vars:=st.vars++[⟨nm,unit,arg,if arg&&own then i else -1⟩]} (env++[st.vars.length])
def wC(F G:List ByteArray)(st:ah)(env:List Nat)(nm:ByteArray)(u:Nat)(at_:Int)(put:Bool):jZ×ah:=
 if wV nm≠0 then(⟨wV nm,0,0,e0⟩,st)
 else match jk st.vars env nm with
  |some v=>(cZ v,{(if put&&((st.vars[v]?).map (·.arg)).getD false then st.wrong 182 at_ else st)with uses:=st.uses++[(u,v)]})
  |none=>match F.findIdx? (λs=>decide (s=nm))with
   |some i=>(⟨7,i,0,e0⟩,st)
   |none=>(⟨8,0,0,nm⟩,if G.any (λs=>decide (s=nm))then st else st.wrong 181 at_)
def wL(b:Bool):List PN->List PN
 |x::r=>x::r.map (PN.lG b)
 |[]=>[]
mutual
def jD(F G:List ByteArray):Nd->ah->List Nat->Nat->PN×ah
 |.mk k s lit args ab kids p,st,env,u=>
  if eR k s kids then
   match ki F G s kids 0 st env u with
   |(ks,rs,bS)=>(.mk (iP s) (mD s) eV rs 0 false ks,bS)
  else if k=1 then(.mk 1 e0 lit [] 0 false [],st)
  else if k=2 then
   match wC F G st env s u p false with
   |(r,bS)=>(.mk 2 e0 eV [r] 0 false [],bS)
  else if k=3 then
   match wC F G st env s u p true with
   |(r,bS)=>match kT F G kids bS env u with
    |(ks,RS)=>(.mk 3 e0 eV [r] 0 false ks,RS)
  else if k=7 then
   match kP st.outer.length true true p args 0 {st with outer:=st.outer++[(u:Int)],args:=st.args++[args.length],bodies:=st.bodies++[[]]} env with
   |(bS,C6)=>match kP st.outer.length false true p ab 0 bS C6 with
    |(RS,Tu)=>match kT F G kids RS Tu st.outer.length with
     |(b,st3)=>(.mk 8 e0 eV [] st.outer.length false [],{st3 with bodies:=st3.bodies.set st.outer.length b})
  else if k=8 then match kT F G kids st env u with|(ks,bS)=>(.mk 9 e0 eV [] 0 false ks,bS)
  else if k=9 then match kT F G kids st env u with|(ks,bS)=>(.mk 10 e0 eV [] 0 false ks,bS)
  else if k=6 then match kT F G kids st env u with|(ks,bS)=>(.mk 7 s eV [] 0 false ks,bS)
  else if k=5 then match kT F G kids st env u with|(ks,bS)=>(.mk 6 e0 eV [] 0 false (wL (jO kids) ks),bS)
  else if jO kids then match kids with
   |[]=>(.mk 5 s eV [] 0 false [],st)
   |_::r=>match kT F G r st env u with|(ks,bS)=>(.mk 5 s eV [] 0 false ks,bS)
  else match kT F G kids st env u with|(ks,bS)=>(.mk 4 s eV [] 0 false ks,bS)
def kT(F G:List ByteArray):List Nd->ah->List Nat->Nat->List PN×ah
 |[],st,_,_=>([],st)
 |x::r,st,env,u=>
  match jD F G x st env u with
  |(q,bS)=>match kT F G r bS env u with
   |(qs,RS)=>(q::qs,RS)
def ki(F G:List ByteArray)(s:ByteArray):List Nd->Nat->ah->List Nat->Nat->List PN×List jZ×ah
 |[],_,st,_,_=>([],[],st)
 |x::r,i,st,env,u=>
  if cY s i then
   match zh F G x st env u with
   |(q,bS)=>match ki F G s r (i+1) bS env u with
    |(qs,fs,RS)=>(q::qs,(if jW s=5 then cZ st.vars.length::fs else fs),RS)
  else match jD F G x st env u with
   |(q,bS)=>match ki F G s r (i+1) bS env u with
    |(qs,fs,RS)=>(q::qs,fs,RS)
def zh(F G:List ByteArray):Nd->ah->List Nat->Nat->PN×ah
 |.mk _ _ _ args ab kids p,st,env,u=>
  match kP u true false p args 0 st env with
  |(bS,C6)=>match kP u false false p ab 0 bS C6 with
   |(RS,Tu)=>match kT F G kids RS Tu u with
    |(ks,st3)=>(.mk 14 e0 eV ((List.range' bS.vars.length ab.length).map cZ) 0 false ks,st3)
end
def lN(F G:List ByteArray)(args ab:List ByteArray)(kids:List Nd)(p:Int)(st:ah)(env:List Nat)(o:Int):ah:=
 match kP st.outer.length true true p args 0 {st with outer:=st.outer++[o],args:=st.args++[args.length],bodies:=st.bodies++[[]]} env with
 |(bS,C6)=>match kP st.outer.length false true p ab 0 bS C6 with
  |(RS,Tu)=>match kT F G kids RS Tu st.outer.length with
   |(b,st3)=>{st3 with bodies:=st3.bodies.set st.outer.length b}
def fR:ah:=⟨[],[],[],[],[],none⟩
def zu(F G:List ByteArray)(args ab:List ByteArray)(kids:List Nd):ah:=lN F G args ab kids 0 fR [] (-1)
def Cx(outer:List Int):Nat->Int->List Nat
 |0,_=>[]
 |n+1,u=>if u < 0 then []else u.toNat::Cx outer n (outer.getD u.toNat (-1))
def ah.line(st:ah)(u:Nat):List Nat:=Cx st.outer (st.outer.length+1) u
def ah.af(st:ah)(v:Nat):Nat:=((st.vars[v]?).map (·.unit)).getD 0
def ah.bt(st:ah)(v:Nat):Int:=((st.vars[v]?).map (·.own)).getD 0
def ah.rem(st:ah)(v:Nat):Bool:=st.uses.any λq=>decide (q.2=v)&&decide (st.bt v < 0)&&decide (st.af v≠q.1)
def ah.way(st:ah)(u v:Nat):List Nat:=(st.line u).takeWhile λw=>decide (w≠st.af v)
def ah.bi(st:ah)(u:Nat)(t:Nat×Int):Bool:=st.uses.any λq=>decide ((st.af q.2,st.bt q.2)=t)&&decide (u∈st.way q.1 q.2)
def ah.things(st:ah)(o:Nat):List (Nat×Int):=(List.range (st.args.getD o 0+1)).map λi:Nat=>(o,(i:Int) - 1)
def ah.copied(st:ah)(u:Nat):List (Nat×Int):=((st.line u).drop 1).reverse.flatMap λo=>(st.things o).filter (st.bi u)
def ah.locals(st:ah)(u:Nat)(r:Bool):List Nat:=(List.range st.vars.length).filter λv=>decide (st.af v=u)&&decide (st.bt v < 0)&&decide (st.rem v=r)
def nW {α:Type}[DecidableEq α](l:List α)(x:α):Int:=match l.findIdx? (λy=>decide (y=x))with|some i=>i|none=>-1
def ah.place(st:ah)(u:Nat)(t:Nat×Int):Int:=
 if t.1=u then(if 0<=t.2 then t.2 else st.args.getD u 0+(st.copied u).length+(st.locals u false).length)
 else match(st.copied u).findIdx? (λy=>decide (y=t))with
  |some i=>st.args.getD u 0+i
  |none=>-1
def ah.known(st:ah)(u v:Nat):jZ:=
 if 0<=st.bt v then⟨5,st.place u (st.af v,st.bt v),0,e0⟩
 else if st.rem v then⟨6,st.place u (st.af v,-1),nW (st.locals (st.af v) true) v,e0⟩
 else⟨5,st.args.getD u 0+(st.copied u).length+nW (st.locals u false) v,0,e0⟩
def ah.fix(st:ah)(u:Nat)(r:jZ):jZ:=if r.kind=99 then st.known u r.index.toNat else r
mutual
def eM(st:ah)(u:Nat):PN->PN
 |.mk k s l rs n b kids=>.mk k s l (rs.map (st.fix u)) n b (zv st u kids)
def zv(st:ah)(u:Nat):List PN->List PN
 |[]=>[]
 |x::r=>eM st u x::zv st u r
end
structure jp where
 outer:Int
 args:Int
 copied:List jZ
 locals:Int
 ay:Int
 body:List PN
def ah.aB(st:ah)(u:Nat):jp:=
 ⟨st.outer.getD u (-1),st.args.getD u 0,(st.copied u).map λt=>⟨5,st.place (st.outer.getD u (-1)).toNat t,0,e0⟩,(st.locals u false).length,(st.locals u true).length,zv st u (st.bodies.getD u [])⟩
def jp.frame(x:jp):Int:=x.args+x.copied.length+x.locals+(if 0 < x.ay then 1 else 0)
def jp.Ta(x:jp):Bool:=decide (63 < x.frame)||decide (63 < x.ay)
def ah.answer(st:ah):List jp×Nat×Int:=
 match st.f with
 |some f=>([],f)
 |none=>if 255 < st.outer.length then([],183,0)
  else if((List.range st.outer.length).map st.aB).any jp.Ta then([],183,0)
  else((List.range st.outer.length).map st.aB,0,0)
structure Gr (a b:ah):Prop where
 f:∀e,a.f=some e->b.f=some e
 vars:a.vars <+:b.vars
 outer:a.outer <+:b.outer
 args:a.args <+:b.args
 uses:a.uses <+:b.uses
 bod:b.bodies.length=b.outer.length↔a.bodies.length=a.outer.length
theorem Gr.refl(a:ah):Gr a a:=⟨λ_ h=>h,Qg _,Qg _,Qg _,Qg _,Iff.rfl⟩
theorem Gr.trans {a b c:ah}(h:Gr a b)(k:Gr b c):Gr a c:=
 ⟨λe d=>k.f e (h.f e d),h.vars.trans k.vars,h.outer.trans k.outer,h.args.trans k.args,h.uses.trans k.uses,k.bod.trans h.bod⟩
theorem AI(a:ah)(e:Nat)(p:Int):Gr a (a.wrong e p):=by
 unfold ah.wrong;split
 .rename_i h;refine⟨λx d=>?_,Qg _,Qg _,Qg _,Qg _,Iff.rfl⟩;rw[d]at h;cases h
 .exact Gr.refl a
theorem Fi(a:ah)(l:List yA):Gr a {a with vars:=a.vars++l}:=⟨λ_ h=>h,Qf _ _,Qg _,Qg _,Qg _,Iff.rfl⟩
theorem Fh(a:ah)(l:List (Nat×Nat)):Gr a {a with uses:=a.uses++l}:=⟨λ_ h=>h,Qg _,Qg _,Qg _,Qf _ _,Iff.rfl⟩
theorem M0(a:ah)(o:Int)(n:Nat):Gr a {a with outer:=a.outer++[o],args:=a.args++[n],bodies:=a.bodies++[[]]}:=
 ⟨λ_ h=>h,Qg _,Qf _ _,Qf _ _,Qg _,Zs⟩
theorem Z5(a:ah)(i:Nat)(b:List PN):Gr a {a with bodies:=a.bodies.set i b}:=
 ⟨λ_ h=>h,Qg _,Qg _,Qg _,Qg _,Zs⟩
theorem dX(a:ah)(e:Nat)(p:Int):(a.wrong e p).vars=a.vars:=by unfold ah.wrong;split <;> rfl
theorem CP(a:ah)(e:Nat)(p:Int):(a.wrong e p).uses=a.uses:=by unfold ah.wrong;split <;> rfl
theorem fp(a:ah)(e:Nat)(p:Int):(a.wrong e p).outer=a.outer:=by unfold ah.wrong;split <;> rfl
theorem zr(unit:Nat)(arg own:Bool)(p:Int):∀(l:List ByteArray) (i:Nat) (st:ah) (env:List Nat),Gr st (kP unit arg own p l i st env).1
 |[],_,st,_=>Gr.refl st
 |nm::r,i,st,env=>by
  unfold kP;refine Gr.trans ?_ (zr unit arg own p r _ _ _);split
  .refine Gr.trans (AI st 180 p) ?_;have:=Fi (st.wrong 180 p) [⟨nm,unit,arg,if arg&&own then i else -1⟩];rw[dX]at this;exact this
  .exact Fi st _
theorem AG(F G:List ByteArray)(st:ah)(env:List Nat)(nm:ByteArray)(u:Nat)(p:Int)(put:Bool):Gr st (wC F G st env nm u p put).2:=by
 unfold wC;split
 .exact Gr.refl st
 .split
  .rename_i v _;simp only;split
   .refine Gr.trans (AI st 182 p) ?_;have:=Fh (st.wrong 182 p) [(u,v)];rw[CP]at this;exact this
   .exact Fh st _
  .split
   .exact Gr.refl st
   .simp only;split
    .exact Gr.refl st
    .exact AI st 181 p
section
variable (F G:List ByteArray) (k:Nat) (s:ByteArray) (lit:Lt) (args ab:List ByteArray) (kids:List Nd) (p:Int) (st:ah) (env:List Nat) (u:Nat)
theorem jc(x:Nd)(r:List Nd):kT F G (x::r) st env u=((jD F G x st env u).1::(kT F G r (jD F G x st env u).2 env u).1,(kT F G r (jD F G x st env u).2 env u).2):=by rw[kT]
theorem zJ(x:Nd)(r:List Nd)(i:Nat)(h:cY s i=true):ki F G s (x::r) i st env u=((zh F G x st env u).1::(ki F G s r (i+1) (zh F G x st env u).2 env u).1,
 (if jW s=5 then cZ st.vars.length::(ki F G s r (i+1) (zh F G x st env u).2 env u).2.1 else(ki F G s r (i+1) (zh F G x st env u).2 env u).2.1),(ki F G s r (i+1) (zh F G x st env u).2 env u).2.2):=by rw[ki,if_pos h]
theorem wd(x:Nd)(r:List Nd)(i:Nat)(h:cY s i=false):ki F G s (x::r) i st env u=((jD F G x st env u).1::(ki F G s r (i+1) (jD F G x st env u).2 env u).1,
 (ki F G s r (i+1) (jD F G x st env u).2 env u).2.1,(ki F G s r (i+1) (jD F G x st env u).2 env u).2.2):=by rw[ki,if_neg (by rw[h];simp)]
theorem zN(h:eR k s kids=true):jD F G (.mk k s lit args ab kids p) st env u=(.mk (iP s) (mD s) eV (ki F G s kids 0 st env u).2.1 0 false (ki F G s kids 0 st env u).1,(ki F G s kids 0 st env u).2.2):=by
 unfold jD;rw[if_pos h]
def aS(o:Int):ah×List Nat:=
 kP st.outer.length false true p ab 0 (kP st.outer.length true true p args 0 (({st with outer:=st.outer++[o],args:=st.args++[args.length],bodies:=st.bodies++[[]]}:ah)) env).1 (kP st.outer.length true true p args 0 (({st with outer:=st.outer++[o],args:=st.args++[args.length],bodies:=st.bodies++[[]]}:ah)) env).2
theorem w7(o:Int):lN F G args ab kids p st env o={(kT F G kids (aS args ab p st env o).1 (aS args ab p st env o).2 st.outer.length).2 with bodies:=(kT F G kids (aS args ab p st env o).1 (aS args ab p st env o).2 st.outer.length).2.bodies.set st.outer.length (kT F G kids (aS args ab p st env o).1 (aS args ab p st env o).2 st.outer.length).1}:=by
 unfold lN aS;rfl
section
variable (h:eR k s kids=false)
include h
theorem eo(d:k=1):jD F G (.mk k s lit args ab kids p) st env u=(.mk 1 e0 lit [] 0 false [],st):=by
 unfold jD;rw[if_neg (by rw[h];simp),if_pos d]
theorem ep(d:k=2):jD F G (.mk k s lit args ab kids p) st env u=(.mk 2 e0 eV [(wC F G st env s u p false).1] 0 false [],(wC F G st env s u p false).2):=by
 unfold jD;rw[if_neg (by rw[h];simp),if_neg Zo,if_pos d]
theorem et(d:k=3):jD F G (.mk k s lit args ab kids p) st env u=(.mk 3 e0 eV [(wC F G st env s u p true).1] 0 false (kT F G kids (wC F G st env s u p true).2 env u).1,(kT F G kids (wC F G st env s u p true).2 env u).2):=by
 unfold jD;rw[if_neg (by rw[h];simp),if_neg Zo,if_neg Zo,if_pos d]
theorem eA(d:k=7):jD F G (.mk k s lit args ab kids p) st env u=(.mk 8 e0 eV [] st.outer.length false [],lN F G args ab kids p st env u):=by
 unfold jD;rw[if_neg (by rw[h];simp),if_neg Zo,if_neg Zo,if_neg Zo,if_pos d];rfl
theorem eB(d:k=8):jD F G (.mk k s lit args ab kids p) st env u=(.mk 9 e0 eV [] 0 false (kT F G kids st env u).1,(kT F G kids st env u).2):=by
 unfold jD;rw[if_neg (by rw[h];simp),if_neg Zo,if_neg Zo,if_neg Zo,if_neg Zo,if_pos d]
theorem eC(d:k=9):jD F G (.mk k s lit args ab kids p) st env u=(.mk 10 e0 eV [] 0 false (kT F G kids st env u).1,(kT F G kids st env u).2):=by
 unfold jD;rw[if_neg (by rw[h];simp),if_neg Zo,if_neg Zo,if_neg Zo,if_neg Zo,if_neg Zo,if_pos d]
theorem ez(d:k=6):jD F G (.mk k s lit args ab kids p) st env u=(.mk 7 s eV [] 0 false (kT F G kids st env u).1,(kT F G kids st env u).2):=by
 unfold jD;rw[if_neg (by rw[h];simp),if_neg Zo,if_neg Zo,if_neg Zo,if_neg Zo,if_neg Zo,if_neg Zo,if_pos d]
theorem ew(d:k=5):jD F G (.mk k s lit args ab kids p) st env u=(.mk 6 e0 eV [] 0 false (wL (jO kids) (kT F G kids st env u).1),(kT F G kids st env u).2):=by
 unfold jD;rw[if_neg (by rw[h];simp),if_neg Zo,if_neg Zo,if_neg Zo,if_neg Zo,if_neg Zo,if_neg Zo,if_neg Zo,if_pos d]
theorem yD(E:k≠1/\k≠2/\k≠3/\k≠5/\k≠6/\k≠7/\k≠8/\k≠9)(d:jO kids=true):jD F G (.mk k s lit args ab kids p) st env u=(.mk 5 s eV [] 0 false (kT F G kids.tail st env u).1,(kT F G kids.tail st env u).2):=by
 obtain⟨g,j,m,q,A,B,C,D⟩:=E;unfold jD;rw[if_neg (by rw[h];simp),if_neg g,if_neg j,if_neg m,if_neg B,if_neg C,if_neg D,if_neg A,if_neg q,if_pos d];cases kids with
 |nil=>cases d
 |cons x r=>rfl
theorem eu(D:k≠1/\k≠2/\k≠3/\k≠5/\k≠6/\k≠7/\k≠8/\k≠9)(E:jO kids=false):jD F G (.mk k s lit args ab kids p) st env u=(.mk 4 s eV [] 0 false (kT F G kids st env u).1,(kT F G kids st env u).2):=by
 obtain⟨d,g,j,m,q,A,B,C⟩:=D;unfold jD;rw[if_neg (by rw[h];simp),if_neg d,if_neg g,if_neg j,if_neg A,if_neg B,if_neg C,if_neg q,if_neg m,if_neg (by rw[E];simp)]
end
theorem ye:zh F G (.mk k s lit args ab kids p) st env u=
 (.mk 14 e0 eV ((List.range' (kP u true false p args 0 st env).1.vars.length ab.length).map cZ) 0 false
   (kT F G kids (kP u false false p ab 0 (kP u true false p args 0 st env).1 (kP u true false p args 0 st env).2).1 (kP u false false p ab 0 (kP u true false p args 0 st env).1 (kP u true false p args 0 st env).2).2 u).1,
  (kT F G kids (kP u false false p ab 0 (kP u true false p args 0 st env).1 (kP u true false p args 0 st env).2).1 (kP u false false p ab 0 (kP u true false p args 0 st env).1 (kP u true false p args 0 st env).2).2 u).2):=by rw[zh]
end
theorem zq(F G:List ByteArray):∀(N:Nat) (x:Nd),x.size<=N->∀st env u,Gr st (jD F G x st env u).2/\Gr st (zh F G x st env u).2:=by
 intro N
 induction N with
 |zero=>intro x g;have:=x.size_pos;omega
 |succ N ih=>
  have d:∀l:List Nd,Nd.ap l<=N->∀st env u,Gr st (kT F G l st env u).2:=by
   intro l
   induction l with
   |nil=>intro _ st env u;rw[kT];exact Gr.refl st
   |cons x r iR=>
    exact zEN
  have j:∀(s:ByteArray) (l:List Nd),Nd.ap l<=N->∀i st env u,Gr st (ki F G s l i st env u).2.2:=by
   intro s l
   induction l with
   |nil=>intro _ i st env u;rw[ki];exact Gr.refl st
   |cons x r iR=>
    exact zC3
  intro x g st env u;cases x with
  |mk k s lit args ab kids p=>
  simp only[Nd.size]at g;have hk:Nd.ap kids<=N:=by omega
  refine⟨?_,?_⟩
  .cases h:eR k s kids with
   |true=>rw[zN _ _ _ _ _ _ _ _ _ _ _ _ h];exact j s kids hk 0 st env u
   |false=>
    by_cases h1:k=1
    .rw[eo _ _ _ _ _ _ _ _ _ _ _ _ h h1];exact Gr.refl st
    by_cases h2:k=2
    .rw[ep _ _ _ _ _ _ _ _ _ _ _ _ h h2];exact AG F G st env s u p false
    by_cases h3:k=3
    .rw[et _ _ _ _ _ _ _ _ _ _ _ _ h h3];exact(AG F G st env s u p true).trans (d kids hk _ env u)
    by_cases h7:k=7
    .rw[eA _ _ _ _ _ _ _ _ _ _ _ _ h h7];simp only;rw[w7];refine Gr.trans ?_ (Gr.trans (d kids hk _ _ _) (Z5 _ _ _));exact Gr.trans (M0 st _ _) (Gr.trans (zr _ _ _ _ _ _ _ _) (zr _ _ _ _ _ _ _ _))
    by_cases h8:k=8
    .rw[eB _ _ _ _ _ _ _ _ _ _ _ _ h h8];exact d kids hk st env u
    by_cases h9:k=9
    .rw[eC _ _ _ _ _ _ _ _ _ _ _ _ h h9];exact d kids hk st env u
    by_cases h6:k=6
    .rw[ez _ _ _ _ _ _ _ _ _ _ _ _ h h6];exact d kids hk st env u
    by_cases h5:k=5
    .rw[ew _ _ _ _ _ _ _ _ _ _ _ _ h h5];exact d kids hk st env u
    cases hs:jO kids with
    |true=>
     rw[yD _ _ _ _ _ _ _ _ _ _ _ _ h ⟨h1,h2,h3,h5,h6,h7,h8,h9⟩ hs];refine d kids.tail ?_ st env u;exact zBS
    |false=>rw[eu _ _ _ _ _ _ _ _ _ _ _ _ h ⟨h1,h2,h3,h5,h6,h7,h8,h9⟩ hs];exact d kids hk st env u
  .rw[ye];exact Gr.trans (zr _ _ _ _ _ _ _ _) (Gr.trans (zr _ _ _ _ _ _ _ _) (d kids hk _ _ _))
structure Wf (st:ah):Prop where
 al:st.args.length=st.outer.length
 bl:st.bodies.length=st.outer.length
 low:∀(i:Nat) o,st.outer[i]? =some o->-1<=o/\o < i
 vu:∀(v:Nat) x,st.vars[v]? =some x->x.unit < st.outer.length/\-1<=x.own/\x.own < st.args.getD x.unit 0
 uu:∀q∈st.uses,q.1 < st.outer.length/\q.2 < st.vars.length
theorem Wf.fu {st:ah}(h:Wf st)(i:Nat):st.outer.getD i (-1) < i:=by
 rw[Vh];cases e:st.outer[i]? with
 |none=>simp only[Option.getD_none];omega
 |some o=>exact(h.low i o e).2
theorem G6(o:List Int)(n:Nat){u:Int}(h:u < 0):Cx o n u=[]:=by
 cases n with
 |zero=>rfl
 |succ n=>simp only[Cx];rw[if_pos h]
theorem Ys {o:List Int}(h:∀i,o.getD i (-1) < (i:Int)):∀(u n m:Nat),u < n->u < m->Cx o n u=Cx o m u:=by
 intro u
 induction u using Nat.strongRecOn with
 |_ u ih=>
  intro n m hn hm;cases n with
  |zero=>omega
  |succ n=>
   cases m with
   |zero=>omega
   |succ m=>
    simp only[Cx];rw[if_neg Zo,if_neg Zo]
    congr 1
    rw[vX];have hl:=h u;by_cases c:o.getD u (-1) < 0
    .rw[G6 o n c,G6 o m c]
    .have e:o.getD u (-1)=((o.getD u (-1)).toNat:Int):=by omega
     rw[e];exact ih _ Zo n m Zo Zo
theorem Wf.line {st:ah}(h:Wf st){u:Nat}(hu:u<=st.outer.length):st.line u=u::(if st.outer.getD u (-1) < 0 then []else st.line (st.outer.getD u (-1)).toNat):=by
 unfold ah.line;have hl:=h.fu u;rw[Cx,if_neg Zo,vX]
 congr 1
 by_cases c:st.outer.getD u (-1) < 0
 .rw[if_pos c,G6 _ _ c]
 .rw[if_neg c];have e:st.outer.getD u (-1)=((st.outer.getD u (-1)).toNat:Int):=by omega
  have:=Ys h.fu (st.outer.getD u (-1)).toNat st.outer.length (st.outer.length+1) Zo Zo;rw[<- e]at this;rw[<- e];exact this
theorem Wf.sV {st:ah}(h:Wf st){u v:Nat}(d:u<=st.outer.length)(e:u=st.af v):st.way u v=[]:=by
 unfold ah.way;rw[h.line d,List.takeWhile_cons,if_neg (by simp[e])]
theorem Wf.sW {st:ah}(h:Wf st){u v:Nat}(d:u<=st.outer.length)(e:u≠st.af v):st.way u v=u::(if st.outer.getD u (-1) < 0 then []else st.way (st.outer.getD u (-1)).toNat v):=by
 unfold ah.way;rw[h.line d,List.takeWhile_cons,if_pos (by simp[e])]
 congr 1
 split <;> rfl
theorem Wf.xW {st:ah}(h:Wf st):∀(u:Nat),u<=st.outer.length->∀w∈st.line u,w<=u:=by
 intro u
 induction u using Nat.strongRecOn with
 |_ u ih=>
  intro d w hw;rw[h.line d]at hw;rcases QI.1 hw with rfl|hw
  .exact Qt _
  .have hl:=h.fu u;split at hw
   .cases hw
   .have:=ih (st.outer.getD u (-1)).toNat Zo Zo w hw;omega
def ah.use(st:ah)(u v:Nat):ah:={st with uses:=st.uses++[(u,v)]}
theorem Nx(st:ah)(u v w:Nat):(st.use u v).rem w=(st.rem w||(decide (v=w)&&decide (st.bt w < 0)&&decide (st.af w≠u))):=by
 unfold ah.rem ah.use;simp only[List.any_append,vh,List.any_nil,vV];rfl
theorem Ja(st:ah)(u v j:Nat)(t:Nat×Int):(st.use u v).bi j t=(st.bi j t||(decide ((st.af v,st.bt v)=t)&&decide (j∈st.way u v))):=by
 unfold ah.bi ah.use;simp only[List.any_append,vh,List.any_nil,vV];rfl
theorem Wf.use {st:ah}(h:Wf st){u v:Nat}(d:u < st.outer.length)(g:v < st.vars.length):Wf (st.use u v):=
 ⟨h.al,h.bl,h.low,h.vu,λq hq=>by
   rcases QG.1 hq with hq|hq
   .exact h.uu q hq
   .obtain rfl:=QU.1 hq;exact⟨d,g⟩⟩
def ah.aX(st:ah)(x:yA):ah:={st with vars:=st.vars++[x]}
theorem dT(st:ah)(x:yA){v:Nat}(d:v < st.vars.length):(st.aX x).af v=st.af v:=by
 unfold ah.af ah.aX;simp only;rw[Vj d]
theorem ui(st:ah)(x:yA){v:Nat}(d:v < st.vars.length):(st.aX x).bt v=st.bt v:=by
 unfold ah.bt ah.aX;simp only;rw[Vj d]
theorem any_congr {α:Type}{l:List α}{p q:α->Bool}(h:∀x∈l,p x=q x):l.any p=l.any q:=by
 induction l with
 |nil=>rfl
 |cons x l ih=>rw[vh,vh,h x Zs,ih (λy d=>h y (by simp[d]))]
theorem way_add(st:ah)(x:yA)(u:Nat){v:Nat}(d:v < st.vars.length):(st.aX x).way u v=st.way u v:=by
 unfold ah.way;rw[dT st x d];rfl
theorem Wf.WZ {st:ah}(h:Wf st)(x:yA)(j:Nat)(t:Nat×Int):(st.aX x).bi j t=st.bi j t:=by
 unfold ah.bi;refine any_congr (l:=st.uses) (λq d=>?_);have:=(h.uu q d).2;rw[dT st x this,ui st x this,way_add st x _ this]
theorem Wf.rem_add {st:ah}(h:Wf st)(x:yA){v:Nat}(d:v < st.vars.length):(st.aX x).rem v=st.rem v:=by
 unfold ah.rem;refine any_congr (l:=st.uses) (λq hq=>?_);rw[dT st x d,ui st x d]
theorem Wf.rem_new {st:ah}(h:Wf st)(x:yA):(st.aX x).rem st.vars.length=false:=by
 unfold ah.rem;rw[List.any_eq_false];intro q d;have:=(h.uu q d).2;simp only[vG,decide_eq_true_eq,not_and];intro e;omega
theorem Wf.aX {st:ah}(h:Wf st){x:yA}(m:x.unit < st.outer.length)(j:-1<=x.own/\x.own < st.args.getD x.unit 0):Wf (st.aX x):=
 ⟨h.al,h.bl,h.low,λv y d=>by
   unfold ah.aX at d;simp only at d;rw[Vi]at d;split at d
   .exact h.vu v y d
   .have:=(Vt.1 d).1;simp only[Q9]at this;have e:v - st.vars.length=0:=by omega
    rw[e]at d;obtain rfl:x=y:=by simpa using d
    exact⟨m,j⟩,λq g=>⟨(h.uu q g).1,by have:=(h.uu q g).2;show q.2 < (st.vars++[x]).length;rw[Vy];omega⟩⟩
def ah.aF(st:ah)(o:Int)(n:Nat):ah:={st with outer:=st.outer++[o],args:=st.args++[n],bodies:=st.bodies++[[]]}
theorem dB {α:Type}{l:List α}{x d:α}{i:Nat}(h:i < l.length):(l++[x]).getD i d=l.getD i d:=by
 rw[Vh,Vh,Vj h]
theorem Wf.aF {st:ah}(h:Wf st){o:Int}{n:Nat}(ho:-1<=o/\o < st.outer.length):Wf (st.aF o n):=by
 refine⟨?_,?_,λi p d=>?_,λv x A=>?_,λq s=>?_⟩
 .unfold ah.aF;simp only[Vy,Q9];rw[h.al]
 .unfold ah.aF;simp only[Vy,Q9];rw[h.bl]
 .unfold ah.aF at d;simp only at d;rw[Vi]at d;split at d
  .exact h.low i p d
  .have:=(Vt.1 d).1;simp only[Q9]at this;have e:i - st.outer.length=0:=by omega
   rw[e]at d;obtain rfl:o=p:=by simpa using d
   omega
 .obtain⟨j,g,m⟩:=h.vu v x A;refine⟨?_,g,?_⟩
  .show x.unit < (st.outer++[o]).length;rw[Vy];omega
  .show x.own < (st.args++[n]).getD x.unit 0;rw[dB (by rw[h.al];exact j)];exact m
 .obtain⟨j,g⟩:=h.uu q s;refine⟨?_,g⟩;show q.1 < (st.outer++[o]).length;rw[Vy];omega
theorem Wf.sf {st:ah}(h:Wf st){o:Int}{n:Nat}(g:-1<=o/\o < st.outer.length):∀(u:Nat),u < st.outer.length->(st.aF o n).line u=st.line u:=by
 intro u
 induction u using Nat.strongRecOn with
 |_ u ih=>
  intro j;have d:=h.aF (n:=n) g;have e:(st.aF o n).outer.getD u (-1)=st.outer.getD u (-1):=dB j;have hl:=h.fu u;rw[d.line (by show u<=(st.outer++[o]).length;rw[Vy];omega),h.line Zo,e]
  congr 1
  split
  .rfl
  .exact ih _ Zo Zo
theorem Wf.Yw {st:ah}(h:Wf st){o:Int}{n:Nat}(d:-1<=o/\o < st.outer.length){u v:Nat}(g:u < st.outer.length):(st.aF o n).way u v=st.way u v:=by
 unfold ah.way;rw[h.sf d u g];rfl
theorem Wf.Es {st:ah}(h:Wf st){o:Int}{n:Nat}(d:-1<=o/\o < st.outer.length)(j:Nat)(t:Nat×Int):(st.aF o n).bi j t=st.bi j t:=by
 unfold ah.bi;refine any_congr (l:=st.uses) (λq g=>?_);rw[h.Yw d (h.uu q g).1];rfl
theorem Wf.W0 {st:ah}(h:Wf st)(j:Nat)(hj:st.outer.length<=j)(t:Nat×Int):st.bi j t=false:=by
 unfold ah.bi;rw[List.any_eq_false];intro q g;simp only[vG,decide_eq_true_eq,not_and];intro _ d;have h1:=(h.uu q g).1;have:=h.xW q.1 Zo j ((List.takeWhile_prefix _).subset d);omega
end Go.V

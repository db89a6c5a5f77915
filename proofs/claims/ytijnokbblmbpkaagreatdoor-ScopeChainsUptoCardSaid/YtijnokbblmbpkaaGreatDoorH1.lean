/-
  A part of the proof.
-/
import Derived.Orders
import Derived.Laws.Sem
import Derived.Laws.World
import GoSem.Dispatch
import Derived.Laws.Strings
import Derived.Laws.StructEq
set_option linter.all false
namespace Go
abbrev Ne1:List Value:=[.string ⟨#[]⟩,.int .i64 0,.slice none 0 0]
abbrev rP(k:Int)(s:ByteArray)(a b c:Int)(t:ByteArray)(d:Option Addr)(e f:Nat)(g:Option Addr)(h i:Nat)(u:Int)(v:Bool)(w:Option Addr)(x y:Nat):List Value:=[.int .u8 k,.string s,.int .u8 a,.int .i64 b,.int .u64 c,.string t,.slice d e f,.slice g h i,.int .i64 u,.bool v,.slice w x y]
abbrev rA(k:Nat)(s:ByteArray)(a:Nat)(b:Int)(c:Nat)(t:ByteArray)(d:Option Addr)(e f:Nat)(g:Option Addr)(h i:Nat)(l:Option Addr)(m n:Nat)(w:Option Addr)(x y:Nat)(p:Int):List Value:=[.int .u8 k,.string s,.int .u8 a,.int .i64 b,.int .u64 c,.string t,.slice d e f,.slice g h i,.slice l m n,.slice w x y,.int .i64 p]
abbrev rB(k:Nat)(s:ByteArray)(a:Nat)(b:Int)(c:Nat)(t:ByteArray)(d:Option Addr)(e f:Nat)(g:Option Addr)(h i:Nat)(u:Int)(v:Bool)(w:Option Addr)(x y:Nat):List Value:=[.int .u8 k,.string s,.int .u8 a,.int .i64 b,.int .u64 c,.string t,.slice d e f,.slice g h i,.int .i64 u,.bool v,.slice w x y]
abbrev rN(k:Int)(s:ByteArray)(a b c:Int)(t:ByteArray)(d:Option Addr)(e f:Nat)(g:Option Addr)(h i:Nat)(l:Option Addr)(m n:Nat)(w:Option Addr)(x y:Nat)(p:Int):List Value:=[.int .u8 k,.string s,.int .u8 a,.int .i64 b,.int .u64 c,.string t,.slice d e f,.slice g h i,.slice l m n,.slice w x y,.int .i64 p]
abbrev Nz:Value:=.slice none 0 0
abbrev rZ1(s:ByteArray):List Value:=[.int .u8 0,.string s,.int .u8 0,.int .i64 0,.int .u64 0,.string s,Nz,Nz,.int .i64 0,.bool false,Nz,Nz,Nz]
abbrev rY1(s:ByteArray):List Value:=[.int .u8 0,.string s,.int .u8 0,.int .i64 0,.int .u64 0,.string s,Nz,Nz,.int .i64 0,.bool false,Nz]
abbrev rU1:List Value:=[.int .i64 0,.int .i64 0,Nz,.int .i64 0,.int .i64 0,Nz]
def v7:=@Array.eq_empty_of_size_eq_zero
def v8:=@Array.getElem?_eq_getElem
def v9:=@Array.getElem?_eq_some_iff
def vA:=@Array.getElem?_modify
def vB:=@Array.getElem?_setIfInBounds_ne
def vC:=@Array.getElem?_toList
def vD:=@Array.toList_inj
def vE:=@Array.toList_map
def vF:=@Bool.and_eq_false_iff
def vG:=@Bool.and_eq_true
def vH:=@Bool.and_eq_true_iff
def vI:=@Bool.and_true
def vJ:=@Bool.decide_and
def vK:=@Bool.eq_false_iff
def vL:=@Bool.eq_iff_iff
def vM:=@Bool.false_and
def vN:=@Bool.false_eq_true
def vO:=@Bool.false_or
def vP:=@Bool.not_eq_true'
def vQ:=@Bool.not_false
def vR:=@Bool.or_assoc
def vS:=@Bool.or_eq_true
def vT:=@Bool.or_eq_true_iff
def vU:=@Bool.or_false
def vV:=@Bool.true_and
def vW:=@Int.toNat_natCast
def vX:=@Int.toNat_of_nonneg
def vY:=@List.Perm.append_left
def vZ:=@List.Perm.append_right
def vd:=@List.Perm.refl
def ve:=@List.all_cons
def vf:=@List.all_eq_true
def vg:=@List.any_cons
def vh:=@List.any_eq_true
def vj:=@List.append_assoc
def vm:=@List.append_nil
def vp:=@List.cons.injEq
def vq:=@List.cons_append
def vr:=@List.contains_iff_mem
def vt:=@List.drop_eq_getElem_cons
def vw:=@List.drop_eq_nil_of_le
def vx:=@List.drop_zero
def vy:=@List.eq_nil_of_length_eq_zero
def vz:=@List.ext_getElem?
def V0:=@List.filter_append
def V5:=@List.filter_cons
def V6:=@List.filter_eq_nil_iff
def V7:=@List.filter_eq_self
def V8:=@List.findIdx?_cons
def V9:=@List.flatMap_append
def VV:=@List.flatMap_cons
def Va:=@List.flatMap_def
def Vb:=@List.flatMap_singleton
def Vc:=@List.flatten_append
def Vd:=@List.flatten_cons
def Ve:=@List.flatten_nil
def Vg:=@List.foldl_cons
def Vh:=@List.getD_eq_getElem?_getD
def Vi:=@List.getElem?_append
def Vj:=@List.getElem?_append_left
def Vl:=@List.getElem?_append_right
def Vm:=@List.getElem?_cons_succ
def Vn:=@List.getElem?_cons_zero
def Vo:=@List.getElem?_drop
def Vp:=@List.getElem?_eq_none
def Vr:=@List.getElem?_eq_none_iff
def Vt:=@List.getElem?_eq_some_iff
def Vu:=@List.getElem?_map
def Vv:=@List.getElem?_of_mem
def Vw:=@List.getElem?_range
def Vx:=@List.getElem?_set
def Vy:=@List.getElem?_toArray
def Vz:=@List.length_append
def Q0:=@List.length_cons
def Q1:=@List.length_drop
def Q3:=@List.length_eq_one_iff
def Q4:=@List.length_eq_zero_iff
def Q5:=@List.length_filter_le
def Q6:=@List.length_map
def Q7:=@List.length_nil
def Q8:=@List.length_range
def Q9:=@List.length_set
def QA:=@List.length_singleton
def QB:=@List.length_take
def QC:=@List.map_append
def QD:=@List.map_congr_left
def QE:=@List.map_cons
def QF:=@List.map_map
def QG:=@List.map_nil
def QH:=@List.mem_append
def QI:=@List.mem_append_right
def QJ:=@List.mem_cons
def QK:=@List.mem_cons_of_mem
def QL:=@List.mem_cons_self
def QM:=@List.mem_filter
def QN:=@List.mem_flatMap
def QO:=@List.mem_map
def QP:=@List.mem_of_mem_take
def QR:=@List.mem_or_eq_of_mem_set
def QS:=@List.mem_range
def QT:=@List.mem_range'_1
def QU:=@List.mem_singleton
def QV:=@List.nil_append
def QW:=@List.nodup_append
def QX:=@List.nodup_cons
def QY:=@List.nodup_range
def QZ:=@List.perm_append_comm
def Qa:=@List.perm_append_comm_assoc
def Qc:=@List.perm_ext_iff_of_nodup
def Qd:=@List.perm_middle
def Qe:=@List.prefix_append
def Qf:=@List.prefix_refl
def Qg:=@List.singleton_append
def Qh:=@List.sublist_cons_self
def Qi:=@List.take_add_one
def Qj:=@List.take_append_drop
def Qk:=@List.take_length
def Ql:=@List.take_of_length_le
def Qm:=@List.take_zero
def Qn:=@Nat.add_assoc
def Qo:=@Nat.add_zero
def Qp:=@Nat.and_two_pow_sub_one_eq_mod
def Qq:=@Nat.eq_zero_or_pos
def Qr:=@Nat.le_of_ble_eq_true
def Qs:=@Nat.le_refl
def Qt:=@Nat.le_succ
def Qu:=@Nat.le_trans
def Qv:=@Nat.lt_of_lt_of_le
def Qw:=@Nat.lt_succ_self
def Qx:=@Nat.mul_le_mul_right
def Qy:=@Nat.sub_self
def Qz:=@Nat.zero_add
def X0:=@Nat.zero_le
def X1:=@Nat.zero_mul
def X2:=@Option.bind_eq_some_iff
def X3:=@Option.getD_some
def X4:=@Option.isSome_iff_exists
def X5:=@Option.map_eq_some_iff
def X6:=@Option.map_none
def X7:=@Option.map_some
def X8:=@Option.some.inj
def X9:=@Option.some.injEq
def XA:=@Prod.mk.injEq
def zA0 {P:Prop}(h:P:=by
 have hwk:∀(Uc:List UC),Uc.map UC.q=U.map UC.q->∀{k:Nat} {z:UC},U[k]? =some z->∃z',Uc[k]? =some z'/\z'.q=z.q:=λUc hq k z hk=>by
  have:=Gl hq k;rw[hk]at this;cases e:Uc[k]? with
  |none=>rw[e]at this;cases this
  |some z'=>rw[e]at this;exact⟨z',rfl,X8 this⟩
 refine VC.loop (α:=Nat×Nat×List UC×List Nat) (bg:=λs=>[(0,kE s.2.1),(1,kE y.q)]) (Hf:=λs=>[WK s.2.2.1 rX])
  (I:=λs=>s.1<st.a7.length/\(∃z,s.2.2.1[s.1]? =some z/\z.q=s.2.1)/\s.2.2.1.map UC.q=U.map UC.q/\s.2.2.1.map UC.body=U.map UC.body/\s.2.2.2++st.way s.1 v=st.way i v/\st.ah v∈st.line s.1/\(∀d∈s.2.2.2,s.1<d)/\cT st (nU st v s.2.2.2) Tf (λk=>st.dg.length+(if k∈s.2.2.2 then 1 else 0)) s.2.2.1 rX) (μ:=λs=>s.1) (i,u.q,U,[])
  ⟨cm,⟨u,hu,rfl⟩,rfl,rfl,rfl,hl,Zs,NU⟩ ZU ZI ?_
 clear NU
 rintro⟨c,q,Uc,dn⟩ ⟨hc,⟨z,hz,rfl⟩,KS,hmb,Rw,H7,hdn,hRc⟩
 simp only at hc hz KS hmb Rw H7 hdn hRc;dsimp only;obtain⟨w',uy,rV⟩:=hwk Uc KS hw;have n0':kC.cell y2.q 0 (kN (some y2.cg))∈WK Uc rX:=nh ZX _ (kI.2 ⟨0,kN (some y2.cg),rfl,Zs⟩);have n1':kC.cell y2.q 1 (.int .i64 y2.arg)∈WK Uc rX:=nh ZX _ (kI.2 ⟨1,.int .i64 y2.arg,rfl,Zs⟩);rw[hyq2,hyu2,hyw]at n0';rw[hyq2,hya2,hya]at n1';have n0:kC.cell y.q 0 (kE w.q)∈WK Uc rX:=n0';have n1:kC.cell y.q 1 (.int .i64 x.own)∈WK Uc rX:=n1';have lw:z7 (WK Uc rX) w.q:=rV ▸ iE uy;have lz:z7 (WK Uc rX) z.q:=iE hz;obtain⟨R2,sj,de⟩:=Zc (V:=rX) hz;have k0:=iF sj n0 Zs;have k1:=iF sj n1 Zs;have k6:kC.cell z.q 6 (.map (some z.nb))∈R2:=iF sj (yV hz _ (QK _ (Zw _ (kI.2 ⟨6,.map (some z.nb),rfl,Zs⟩)))) Zs;have k3:kC.cell z.q 3 (kN z.a7)∈R2:=iF sj (yV hz _ (QK _ (Zw _ (kI.2 ⟨3,kN z.a7,rfl,Zs⟩)))) Zs;have U0:∀{k:Nat} {z':UC},Uc[k]? =some z'->z7 R2 z'.q:=λ{k z'} hk=>by
  obtain⟨⟨n,h1⟩,⟨vv,h2⟩⟩:=iE (V:=rX) hk;exact⟨⟨n,iF sj h1 Zs⟩,⟨vv,iF sj h2 Zs⟩⟩
 refine VC.imp (H':=[[.obj z.nb (.map z.es z.cl)],R2]) (ap.perm (by simpa using sj)) ?_;have N3:=rV ▸ U0 uy;have hlz:=U0 hz;refine af ?_;refine Yw u124 GU GW Zr Zr (hlz.more (λ_ hx=>by simp[hx])) (N3.more (λ_ hx=>by simp[hx])) ?_;refine af ?_;by_cases hqe:z.q=w.q
 .rw[Zt hqe];refine af ?_;have e1:c=st.ah v:=by rw[huo];exact hRc.XK hz uy (hqe.trans rV.symm)
  rw[hwf.oO Zo e1,vm]at Rw;refine kG (dl:=[WK Uc rX]) (.inl rfl) .nil ⟨Uc,rX,⟨rfl,?_,KS,hmb,hvq2⟩,rfl⟩ (ap.perm (by simpa using sj.symm));refine cT.congr (hRc.useS cm xE) (λk t=>?_) hrem2 (λk=>?_)
  .rw[Ps,Rw]
  .show st.dg.length+_<=(st.dg++[(i,v)]).length;rw[Vz,QA];split<;>omega
 rw[Zf hqe];have hcu:c≠st.ah v:=λe=>by
  rw[huo]at e;rw[<- e,hz]at uy;exact hqe (by rw[X8 uy];exact rV)
 have Jc:=H7;rw[hwf.line Zo]at Jc;have ZT:¬st.a7.getD c (-1)<0:=λh'=>by
  rw[if_pos h']at Jc;rcases QJ.1 Jc with h''|h''
  .exact hcu h''.symm
  .cases h''
 rw[if_neg ZT]at Jc;have hln':st.ah v∈st.line (st.a7.getD c (-1)).toNat:=by
  rcases QJ.1 Jc with h''|h''
  .exact absurd h''.symm hcu
  .exact h''
 have hwst:=hwf.oP (v:=v) (by omega:c<=st.a7.length) hcu;rw[if_neg ZT]at hwst;have mq:=hwf.gk c;obtain⟨c',Rf⟩:∃c',c'=(st.a7.getD c (-1)).toNat:=⟨_,rfl⟩;rw[<- Rf]at hln' hwst;obtain⟨z',Ml⟩:∃z',Uc[c']? =some z':=⟨_,Zg (by rw[hRc.ul];omega)⟩;have hzo:z.a7=some z'.q:=by
  rw[hRc.ou c z hz,if_neg ZT,<- Rf,Ml];rfl
 rw[hzo]at k3;obtain⟨m,t1,t2,t3,t4⟩:=hRc.nd c z hz;have xC:∀p∈m,z7 R2 p.1.1:=λp hp=>by
  obtain⟨⟨j,wj,h1,h2⟩,_⟩:=t3 p hp;rw[h2];exact U0 h1
 have UP:c∉dn:=λh'=>Nat.lt_irrefl _ (hdn c h')
 have L4:0<=(jI (w.q,x.own) m).getD 0/\(jI (w.q,x.own) m).getD 0<=st.dg.length:=by
  cases e:jI (w.q,x.own) m with
  |none=>exact⟨Zs,Zs⟩
  |some cn=>
   obtain⟨_,h1,h2⟩:=t3 _ (Cz e);rw[if_neg UP]at h2;simp only[X3];omega
 have hput:∀cX pH,iH cX pH (js (w.q,x.own) ((jI (w.q,x.own) m).getD 0+1) m)->cT st (nU st v (dn++[c])) Tf (λk=>st.dg.length+(if k∈dn++[c]then 1 else 0)) (Uc.set c {z with es:=cX,cl:=pH}) rX:=λcX pH nF=>by
  rw[<- rV]at nF;refine(hRc.put hz uy t2 t3 t4 nF (by rw[rV];omega) (by rw[if_neg UP,rV];omega)).congr (λk t=>?_) (λk=>rfl) (λk=>?_)
  .rw[LK,huo,hoo]
  .by_cases e1:k∈dn
   .rw[if_pos e1,if_pos (Zw _ e1),if_neg (λe=>UP (by rw[<- e];exact e1))];omega
   .rw[if_neg e1];by_cases e2:k=c
    .rw[if_pos e2,if_pos (by simp[e2])];omega
    .rw[if_neg e2];omega
 have eA:∀cX pH,iH cX pH (js (w.q,x.own) ((jI (w.q,x.own) m).getD 0+1) m)->∃s:Nat×Nat×List UC×List Nat,(s.1<st.a7.length/\(∃z,s.2.2.1[s.1]? =some z/\z.q=s.2.1)/\s.2.2.1.map UC.q=U.map UC.q/\s.2.2.1.map UC.body=U.map UC.body/\s.2.2.2++st.way s.1 v=st.way i v/\st.ah v∈st.line s.1/\(∀d∈s.2.2.2,s.1<d)/\cT st (nU st v s.2.2.2) Tf (λk=>st.dg.length+(if k∈s.2.2.2 then 1 else 0)) s.2.2.1 rX)/\s.1<c/\s.2.1=z'.q/\
  ap [[.obj z.nb (.map cX pH)],R2] [WK s.2.2.1 rX]:=λcX pH nF=>by
  have hq:=zu (w':={z with es:=cX,cl:=pH}) hz rfl;refine⟨(c',z'.q,Uc.set c {z with es:=cX,cl:=pH},dn++[c]),⟨by simp only;omega,?_,hq.trans KS,(uG (w':={z with es:=cX,cl:=pH}) hz rfl).trans hmb,?_,hln',?_,hput cX pH nF⟩,by simp only;omega,rfl,ap.perm (by simpa using(de cX pH).symm)⟩
  .have:=Gl hq c';rw[Ml]at this;cases e:(Uc.set c {z with es:=cX,cl:=pH})[c']? with
   |none=>rw[e]at this;cases this
   |some z2=>rw[e]at this;exact⟨z2,rfl,X8 this⟩
  .rw[<- Rw,hwst];simp
  .intro d hd;rcases QH.1 hd with hd|hd
   .have:=hdn d hd;simp only;omega
   .rw[QU.1 hd];simp only;omega
 clear hput hRc de sj;generalize Gs:(jI (w.q,x.own) m).getD 0=cn at L4 eA;refine af ?_;refine VC.draws ⟨?_,?_,trivial⟩
 .refine af ?_;refine uW (k:=(w.q,x.own)) thP Zr Zr .here t1.of (N3.more (λ_ hx=>by simp[hx])) (λp hp=>(xC p hp).more (λ_ hx=>by simp[hx])) ?_;rw[Gs];refine af ?_;refine OK (k:=(w.q,x.own)) thP Zr Zr .here t1 (N3.more (λ_ hx=>by simp[hx])) (λp hp=>(xC p hp).more (λ_ hx=>by simp[hx])) (λes1 cl1 s1 Gu Wm _=>?_);refine af ?_;refine Yu (k:=(w.q,x.own)) Zr Zr Zr .here Gu Wm ?_ (λHZ B7=>?_)
  .split
   .exact t2
   .exact ru t2
  have hes3:iH HZ cl1 (js (w.q,x.own) (cn+1) m):=by
   split at B7
   .exact B7
   .rw[E3]at B7;exact B7
  obtain⟨s2,i1,i2,i3,i4⟩:=eA HZ cl1 hes3;refine af ?_;exact⟨s2,i1,i2,by rw[i3];exact Du,i4⟩
 .refine af ?_;refine OK (k:=(w.q,x.own)) thP Zr Zr .here t1 (N3.more (λ_ hx=>by simp[hx])) (λp hp=>(xC p hp).more (λ_ hx=>by simp[hx])) (λes1 cl1 s1 Gu Wm _=>?_);rw[Gs];have hcn2:(jI (w.q,x.own) (if(jI (w.q,x.own) m).isSome=true then m else js (w.q,x.own) 0 m)).getD 0=cn:=by
   split
   .exact Gs
   .rename_i eT;rw[wT,if_pos rfl];cases e:jI (w.q,x.own) m with
    |none=>rw[e]at Gs;exact Gs
    |some _=>rw[e]at eT;exact absurd rfl eT
  have hls1:∀p∈(if(jI (w.q,x.own) m).isSome=true then m else js (w.q,x.own) 0 m),z7 R2 p.1.1:=λp hp=>by
   split at hp
   .exact xC p hp
   .rcases JD hp with rfl|hp
    .exact N3
    .exact xC p hp
  refine af ?_;refine uW (k:=(w.q,x.own)) thP Zr Zr .here Gu.of (N3.more (λ_ hx=>by simp[hx])) (λp hp=>(hls1 p hp).more (λ_ hx=>by simp[hx])) ?_;rw[hcn2];refine af ?_;refine Yu (k:=(w.q,x.own)) Zr Zr Zr .here Gu Wm ?_ (λHZ B7=>?_)
  .split
   .exact t2
   .exact ru t2
  have hes3:iH HZ cl1 (js (w.q,x.own) (cn+1) m):=by
   split at B7
   .exact B7
   .rw[E3]at B7;exact B7
  obtain⟨s2,i1,i2,i3,i4⟩:=eA HZ cl1 hes3;refine af ?_;exact⟨s2,i1,i2,by rw[i3];exact Du,i4⟩):P:=h
def zA1 {P:Prop}(h:P:=by
 refine jB ?_;refine VC.join (α:=Nat×Bool) (λz=>[(0,kE lb),(3,kE q),(5,kE r),(6,vi z.1)]) (λz=>[A,bt lb (mB||z.2) deep,kA r 0 (rA 5 s lk ln bF lt la ci.length lc aa a5.length ac ta ae.length tc none 0 0 p),kA q 0 (rA 5 s lk ln bF lt la ci.length lc aa a5.length ac ta ae.length tc (some ⟨bk,o,none⟩) ak.length c p)]) (λe=>jh ((z::l).map λy=>kT (decide (y.kind=6)) (kP y))=some (e.1,e.2)) ?_ ?_
 .refine af ?_;refine lQ Zr Zr (l:=1) rfl Zo ?_;rw[<- xC,if_neg Zo];refine af ?_;refine VC.loop (α:=Nat×Nat×Bool) (bg:=λs=>[(0,kE lb),(3,kE q),(5,kE r),(6,vi s.2.1),(123,.slice (some ⟨bk,o+1*11,none⟩) (z::l).length (c-1)),(124,vi (z::l).length),(125,vi s.1)]) (Hf:=λe=>[A,bt lb (mB||e.2.2) deep,kA r 0 (rA 5 s lk ln bF lt la ci.length lc aa a5.length ac ta ae.length tc none 0 0 p),kA q 0 (rA 5 s lk ln bF lt la ci.length lc aa a5.length ac ta ae.length tc (some ⟨bk,o,none⟩) ak.length c p)])
   (I:=λs=>s.1<=(z::l).length/\jh (((z::l).take s.1).map λy=>kT (decide (y.kind=6)) (kP y))=some (s.2.1,s.2.2)) (μ:=λs=>(z::l).length-s.1) (0,0,false) ⟨X0 _,rfl⟩ ZU (by show ap _ [A,bt lb (mB||false) deep,kA r 0 (rA 5 s lk ln bF lt la ci.length lc aa a5.length ac ta ae.length tc none 0 0 p),kA q 0 (rA 5 s lk ln bF lt la ci.length lc aa a5.length ac ta ae.length tc (some ⟨bk,o,none⟩) ak.length c p)];rw[vU,Je];exact bH) ?_
  rintro⟨j,d,mm⟩ ⟨i1,i2⟩
  simp only at i1 i2;dsimp only;have aL:∀j y,(z::l)[j]? =some y->ak[j+1]? =some y:=λj y e=>by rw[H5];exact e
  have hmul:(z::l).length<=140737488355328:=by omega
  generalize sr:z::l=tl at*;refine af ?_;by_cases hj:j<tl.length;rotate_left
  .rw[show decide ((j:Int)<(tl.length:Int))=false from Zf Zo];rw[Ql Zo]at i2;refine af ?_;exact⟨(d,mm),i2,ZU,ZI⟩
  rw[show decide ((j:Int)<(tl.length:Int))=true from Zt Zo];obtain⟨u,hu⟩:∃u,tl[j]? =some u:=⟨_,Zg hj⟩;have hur:=hr (j+1) u (aL j u hu);have hum:=hm (j+1) Zo;have huok:=bz.ok (j+1) u (aL j u hu);rw[show o+(j+1)*11=o+(11+j*11) by omega]at hum;have hv:=huok.1 lb (mB||mm) deep;generalize us (j+1)=uj at hur hum hv;obtain⟨e1,e2,e3,e4,e5,e6,e7,e8,e9,xl,xm,xn,xp,IM,IN,IP,ZA,rfl,eU,iL⟩:=eH hur;have df:tl.take (j+1)=tl.take j++[u]:=by rw[Qi,hu];rfl
  refine af ?_;refine kR Zr (λz hz=>Zw _ (hum z hz)) rfl ?_;refine af ?_;refine kJ (λq9=>?_);refine af ?_;by_cases h6:u.kind=6;rotate_left
  .have aN:RR=none:=by
    rw[hR5,mf (.inl (dH (QO.2 ⟨u,Zv hu,by simp[kT,h6]⟩)))];unfold kT;split<;>rfl
   rw[show decide ((u.kind:Int)=6)=false from Zf Zo];refine af ?_;refine kM (jK false) Zr ZP Zai (λch dl hz=>?_);obtain⟨_,rfl,rfl⟩:=hz;exact⟨[A,bt lb (mB||mm) deep],ZI,aN,rfl,_,rfl⟩
  rw[show decide ((u.kind:Int)=6)=true from Zt Zo];refine af ?_;refine kM (jK true) Zr ZP (λv dl hv=>?_) Kx;obtain⟨_,rfl,rfl⟩:=hv;simp only[QV];refine af ?_;refine kM hv Zr ZP (λv dl hv=>?_) (λch dl hz=>?_);rotate_left
  .obtain⟨hb,rfl,m2,rfl⟩:=hz;have aN:RR=none:=by
    rw[hR5,mf (.inl (dH (QO.2 ⟨u,Zv hu,by simp[kT,h6,hb]⟩)))];unfold kT;split<;>rfl
   exact⟨[A,bt lb m2 deep],ZI,aN,rfl,m2,rfl⟩
  obtain⟨e,m2,he,rfl,rfl⟩:=hv;simp only[aE];refine af ?_;rw[show(if(e:Int)>(d:Int)then(e:Int)else(d:Int))=((max d e:Nat):Int) by split<;>omega];refine⟨(j+1,max d e,mm||m2),⟨by simp only;omega,?_⟩,by simp only;omega,ZU,?_⟩
  .simp only[df,QC,QE,QG,he];simp only[h6,decide_true];exact dI i2
  .simp only[vR];exact bH
 .rintro⟨d,mm⟩ i2
  simp only at i2;dsimp only;cases hf:zl y z.name (kP y)with
  |some pf=>
   obtain⟨dF,mF⟩:=pf;have hFf:=uF (hF (mB||mm)) hf;refine VC.draws ⟨?_,trivial⟩;refine af ?_;refine kR Zr (λz hz=>by simp only[Vd,QH];simp[cA z hz]) cS ?_;refine af ?_;refine kH hFf Zr ZP (λv dl hv=>?_);obtain⟨rfl,rfl⟩:=hv;simp only[aE];refine af ?_;rw[show(if(dF:Int)>(d:Int)then(dF:Int)else(d:Int))=((max d dF:Nat):Int) by split<;>omega];refine⟨⟨max d dF,decide (256<ak.length)||(mm||mF),s,lk,ln,bF,lt,la,ci.length,lc,aa,a5.length,ac,ta,ae.length,tc⟩,?_,ZU,?_⟩
   .rw[hR5,hf,i2];simp[zb.ok,kT,yN,z9,pR,z4,Lt.kind,Lt.n,Lt.bits,Lt.text,Lt.ci];simp only[and_assoc]
   .simp only;rw[<- vR,<- N4,<- vR];show ap _ [A,bt lb (mB||mm||mF) deep,kA r 0 (rA 5 s lk ln bF lt la ci.length lc aa a5.length ac ta ae.length tc none 0 0 p)];exact bH
  |none=>
   have aN:RR=none:=by
    rw[hR5,mf (.inr hf)];unfold kT;split<;>rfl
   obtain⟨dF,φF,hFφ,hFz⟩:=Cn hF;refine VC.Bp (λch H'=>ch=wo/\∃m,ap H' [A,bt lb m deep]) (λH'=>∃m,ap H' [A,bt lb m deep,kA q 0 (rA 5 s lk ln bF lt la ci.length lc aa a5.length ac ta ae.length tc (some ⟨bk,o,none⟩) ak.length c p)]) ⟨mB||mm,ZI⟩ ?_ (λch H' hp=>?_)
   .skip
    intro rs da;rcases QJ.1 da with rfl|da
    .skip
     (iterate 11 refine kK ?_);refine⟨rfl,vi dF,φF,λΓ H bC hH=>?_,?_⟩
     .obtain⟨mz,hz⟩:=hH;refine VO.imp hz ?_;refine kM (hFz mz) (by simp only[V.nW,V.ev,bC 140 Zd _ rfl,bC 144 Zd _ rfl,bC 149 Zd _ rfl]) ZP (λv dl hv=>?_) (λch dl hz=>?_)
      .obtain⟨rfl,hφ,m',rfl⟩:=hv;exact VO.nil ⟨rfl,⟨m',ap.refl _⟩,hφ⟩
      .obtain⟨rfl,m',rfl⟩:=hz;exact⟨rfl,m',ZI⟩
     refine⟨rfl,vi (max d dF:Nat),True,λΓ H bC hH=>?_,?_⟩
     .obtain⟨mz,hz⟩:=hH;refine VO.imp hz ?_;exact HL (by simp only[V.ev,bC 139 Zd _ rfl]) (by simp only[V.ev,bC 150 Zd _ rfl]) (VO.nil ⟨rfl,⟨mz,ap.refl _⟩,trivial⟩)
     refine kK ?_;exact λhh=>by
      simp only[true_and,and_true]at hh;exact hFφ hh hf
    .cases da
   .obtain⟨rfl,m,hi⟩:=hp;exact⟨_,hi,aN,rfl,m,rfl⟩):P:=h
def zA2 {P:Prop}(h:P:=by
 refine af ?_;refine VC.loop (α:=Nat×Nat×Bool) (bg:=λs=>[(0,kE lb),(1,.string aX),(8,vi s.2.1),(29,.slice a l.length c),(30,vi l.length),(31,vi s.1)]) (Hf:=λs=>[A,bt lb (mB||s.2.2) deep])
  (I:=λs=>s.1<=l.length/\jh ((l.take s.1).map λx=>je x (nD aX) (kP x))=some (s.2.1,s.2.2)) (μ:=λs=>l.length-s.1) (0,0,false) ⟨X0 _,rfl⟩ ZU (by show ap _ [A,bt lb (mB||false) deep];rw[vU,Je];exact bH) ?_
 rintro⟨j,d,mm⟩ ⟨i1,i2⟩
 simp only at i1 i2;dsimp only;refine af ?_;by_cases hj:j<l.length;rotate_left
 .rw[show decide ((j:Int)<(l.length:Int))=false from Zf Zo];have df:l.take j=l:=Ql Zo;rw[df]at i2;refine af ?_;refine jU (kG (dl:=[A,bt lb (m0'||(decide (15<kW aX)||mm)) deep]) (.inr rfl) (.tmp Zr .nil) ⟨d,_,by rw[tB,i2];rfl,rfl,by rw[hm0']⟩ (by rw[hm0',<- vR,<- N4];exact bH))
 obtain rfl:=hk.at_ Zo;rw[show decide ((j:Int)<(l.length:Int))=true from Zt Zo];obtain⟨y,hy⟩:∃y,l[j]? =some y:=⟨_,Zg hj⟩;have bQ:=hk.rd j y hy;have cA:=hk.mem j hj;have hv:=yW A y _ bQ (hk.ok j y hy) (nD aX) lb (mB||mm) deep;generalize us j=uj at bQ cA hv;obtain⟨e1,e2,e3,e4,e5,e6,e7,e8,e9,xl,xm,xn,xp,IM,IN,IP,ZA,rfl,eU,iL⟩:=eH bQ;have df:l.take (j+1)=l.take j++[y]:=by rw[Qi,hy];rfl
 refine af ?_;refine kR Zr Gb rfl ?_;refine af ?_;refine kJ (λq=>?_);refine af ?_;cases he:je y (nD aX) (kP y)with
 |some dm=>
  obtain⟨e,m2⟩:=dm;rw[he]at hv;have Jk:jr Tryz.prog 170 [kE lb,.agg #[cv y.kind,.string y.name,cv e1,vi e2,uv e3,.string e4,.slice e5 e6 e7,.slice e8 e9 xl,.slice xm xn xp,.slice IM IN IP,vi ZA],vi (nD aX)] [A,bt lb (mB||mm) deep] (λv dl=>v=vi e/\dl=[A,bt lb (mB||mm||m2) deep]) (λ_ _=>False):=
   jr.mono hv (λv dl ⟨d',m',e,h1,h2⟩=>by cases e;exact⟨h1,h2⟩) (λch dl hz=>by cases hz.1)
  refine VC.draws ⟨?_,?_,trivial⟩
  .skip
   refine af ?_;refine kL (dV aX bR) Zr ?_;refine af ?_;refine kH Jk.fun Zr ZP (λv dl hv=>?_);obtain⟨rfl,rfl⟩:=hv;simp only[aE];refine af ?_;rw[show(if(e:Int)>(d:Int)then(e:Int)else(d:Int))=((max d e:Nat):Int) by split<;>omega];refine⟨(j+1,max d e,mm||m2),⟨by simp only;omega,?_⟩,by simp only;omega,ZU,?_⟩
   .simp only[df,QC,QE,QG,he];exact dI i2
   .simp only[vR];exact bH
  .skip
   refine af ?_;refine kL (dV aX bR) Zr ?_;refine af ?_;refine kH Jk.fun Zr ZP (λv dl hv=>?_);obtain⟨rfl,rfl⟩:=hv;simp only[aE];refine af ?_;rw[show(if(e:Int)>(d:Int)then(e:Int)else(d:Int))=((max d e:Nat):Int) by split<;>omega];refine⟨(j+1,max d e,mm||m2),⟨by simp only;omega,?_⟩,by simp only;omega,ZU,?_⟩
   .simp only[df,QC,QE,QG,he];exact dI i2
   .simp only[vR];exact bH
 |none=>
  rw[he]at hv;have aN:RR=none:=by
   rw[cE,dH (QO.2 ⟨y,Zv hy,he⟩)];unfold kT;split<;>rfl
  have hvz:jr Tryz.prog 170 [kE lb,.agg #[cv y.kind,.string y.name,cv e1,vi e2,uv e3,.string e4,.slice e5 e6 e7,.slice e8 e9 xl,.slice xm xn xp,.slice IM IN IP,vi ZA],vi (nD aX)] [A,bt lb (mB||mm) deep] (λv dl=>False) (λch dl=>ch=wo/\∃m,dl=[A,bt lb m deep]):=
   jr.mono hv (λv dl ⟨d',m',e,_⟩=>by cases e) (λch dl hz=>hz.2)
  refine VC.Bp (λch H'=>ch=wo/\∃m,ap H' [A,bt lb m deep]) (λH'=>H'=[kA q 0 (rA y.kind y.name e1 e2 e3 e4 e5 e6 e7 e8 e9 xl xm xn xp IM IN IP ZA),A,bt lb (mB||mm) deep]) rfl ?_ (λch H' hp=>?_)
  .intro rs da;rcases QJ.1 da with rfl|da
   .skip
    (iterate 2 refine kK ?_);refine⟨rfl,.agg #[cv y.kind,.string y.name,cv e1,vi e2,uv e3,.string e4,.slice e5 e6 e7,.slice e8 e9 xl,.slice xm xn xp,.slice IM IN IP,vi ZA],True,λΓ H bC hH=>?_,?_⟩
    .subst hH;exact eP (bC 10 Zd _ rfl) Zab Iq
    refine kK ?_;refine⟨rfl,vi (nD aX),True,λΓ H bC hH=>?_,?_⟩
    .subst hH;exact kL (dV aX bR) (by simp only[V.nW,V.ev,bC 38 Zd _ rfl]) Iq
    refine⟨rfl,vi 0,False,λΓ H bC hH=>?_,?_⟩
    .subst hH;refine kM hvz Zao ZP (λv dl hv=>hv.elim) (λch dl hz=>?_);obtain⟨rfl,m,rfl⟩:=hz;exact⟨rfl,m,ZI⟩
    refine⟨rfl,vi d,True,λΓ H bC hH=>?_,?_⟩
    .subst hH;exact HL (a:=d) (b:=0) (by simp only[V.ev,bC 35 Zd _ rfl]) (by simp only[V.ev,bC 40 Zd _ rfl];rfl) (VO.nil ⟨by rw[Nat.max_zero],rfl,trivial⟩)
    refine kK ?_;exact λhh=>by simp at hh
   rcases QJ.1 da with rfl|da
   .skip
    (iterate 3 refine kK ?_);refine⟨rfl,vi (nD aX),True,λΓ H bC hH=>?_,?_⟩
    .subst hH;exact kL (dV aX bR) (by simp only[V.nW,V.ev,bC 38 Zd _ rfl]) Iq
    refine⟨rfl,.agg #[cv y.kind,.string y.name,cv e1,vi e2,uv e3,.string e4,.slice e5 e6 e7,.slice e8 e9 xl,.slice xm xn xp,.slice IM IN IP,vi ZA],True,λΓ H bC hH=>?_,?_⟩
    .subst hH;exact eP (bC 10 Zd _ rfl) Zab Iq
    refine⟨rfl,vi 0,False,λΓ H bC hH=>?_,?_⟩
    .subst hH;refine kM hvz Zao ZP (λv dl hv=>hv.elim) (λch dl hz=>?_);obtain⟨rfl,m,rfl⟩:=hz;exact⟨rfl,m,ZI⟩
    refine⟨rfl,vi d,True,λΓ H bC hH=>?_,?_⟩
    .subst hH;exact HL (a:=d) (b:=0) (by simp only[V.ev,bC 35 Zd _ rfl]) (by simp only[V.ev,bC 40 Zd _ rfl];rfl) (VO.nil ⟨by rw[Nat.max_zero],rfl,trivial⟩)
    refine kK ?_;exact λhh=>by simp at hh
   .cases da
  .obtain⟨rfl,m,hi⟩:=hp;exact⟨_,hi,aN,rfl,m,rfl⟩):P:=h
def zA3 {P:Prop}(h:P:=by
 refine af ?_;refine kR Zr (λz hz=>by simp only[Vd,QH];simp[cA z hz]) cS ?_;refine af ?_;refine kH hFf Zr ZP (λv dl hv=>?_);obtain⟨rfl,rfl⟩:=hv;simp only[aE];refine af ?_;refine lQ Zr Zr (l:=1) rfl Zo ?_;refine af ?_;refine kH hAf Zr ZP (λv dl hv=>?_);obtain⟨rfl,rfl⟩:=hv;simp only[aE];refine af ?_;rw[show(if(dA:Int)>(dF:Int)then(dA:Int)else(dF:Int))=((max dF dA:Nat):Int) by split<;>omega];refine⟨⟨max dF dA,mF||mA,⟨#[]⟩,lk,ln,bF,lt,la,ci.length,lc,aa,a5.length,ac,ta,ae.length,tc⟩,?_,ZU,?_⟩
 .rw[hR4,hf,hal2];simp[zb.ok,kT,yN,eS,z4,Lt.kind,Lt.n,Lt.bits,Lt.text,Lt.ci,show(⟨#[]⟩:ByteArray).size=0 from rfl];simp only[and_assoc]
 .simp only;rw[<- vR];show ap _ [A,bt lb (m0||mF||mA) deep,kA r 0 [cv 4,.string ⟨#[]⟩,cv lk,vi ln,uv bF,.string lt,.slice la ci.length lc,.slice aa a5.length ac,.slice ta ae.length tc,.slice none 0 0,vi p]];exact bH):P:=h
def zA4 {P:Prop}(h:P:=by
 refine af ?_;refine kM aw Zr ZP (λv dl hv=>?_) (λch dl hz=>?_);rotate_left
 .obtain⟨q1,e1,p1,cM,rfl,rfl⟩:=hz;rw[ZN]at cM;cases cM
 obtain⟨ng,dR,U4,V4,T4,B4,⟨hS4,Rt,GJ,rows,uV,B5,nH,dB,rfl⟩,rfl⟩:=hv;simp only[aE];obtain⟨w4,hw4,hwq4⟩:∃w,U4[st.a7.length]? =some w/\w.q=q:=mZ rfl (by
  obtain⟨t,ht⟩:=Rt;have h1:(U3.map UC.q)[st.a7.length]? =some q:=by rw[Mg,lY];exact Ia
  rw[<- ht,Vj (Vt.1 h1).1];exact h1)
 obtain⟨Rb,hpb,hrb⟩:=wk_body (V:=V4) hw4
 replace hpb:(WK U4 V4).Perm (kA q 8 [w4.body]++Rb):=by rw[<- hwq4];exact hpb
 replace hrb:∀bv,(WK (U4.set st.a7.length {w4 with body:=bv}) V4).Perm (kA q 8 [bv]++Rb):=λbv=>by rw[<- hwq4];exact hrb bv
 obtain⟨va,vc,rfl⟩:=nH.form;refine VO.imp (H':=[kA q 8 [w4.body],Rb,kA k9 0 [kE q],kA X.wq 0 [.map (some X.fb),.map (some X.gb),ng],aj ng (U4.map λu=>kN (some u.q)) dR,[.obj X.fb (.map X.bS X.fc)],[.obj X.gb (.map X.bW X.gc)],T4,[.obj b (.map es c)],X.S,aj (.slice va (kQ X.F X.G ak (bq a5 ae p st a6 o).1 (bq a5 ae p st a6 o).2 st.a7.length).1.length vc) rows.flatten uV++B5]) (ap.cut (M:=[WK U4 V4,kA k9 0 [kE q],kA X.wq 0 [.map (some X.fb),.map (some X.gb),ng],aj ng (U4.map λu=>kN (some u.q)) dR,[.obj X.fb (.map X.bS X.fc)],[.obj X.gb (.map X.bW X.gc)],T4,[.obj b (.map es c)],X.S,aj (.slice va (kQ X.F X.G ak (bq a5 ae p st a6 o).1 (bq a5 ae p st a6 o).2 st.a7.length).1.length vc) rows.flatten uV++B5]) ZI (ap.perm (by
  simp only[Vd,Ve,vm];rw[<- vj (kA q 8 [w4.body])];exact vZ _ hpb))) ?_
 refine af ?_;obtain⟨j1,j2,j3,⟨w5,j4,j5⟩,j6⟩:=hend ng dR U4 V4 T4 rows uV B5 va vc w4 hS4 nH dB hw4 hwq4 Rt GJ;refine jU (kG (dl:=[kA X.wq 0 [.map (some X.fb),.map (some X.gb),ng],aj ng ((U4.set st.a7.length {w4 with body:=.slice va (kQ X.F X.G ak (bq a5 ae p st a6 o).1 (bq a5 ae p st a6 o).2 st.a7.length).1.length vc}).map λu=>kN (some u.q)) dR,[.obj X.fb (.map X.bS X.fc)],[.obj X.gb (.map X.bW X.gc)],WK (U4.set st.a7.length {w4 with body:=.slice va (kQ X.F X.G ak (bq a5 ae p st a6 o).1 (bq a5 ae p st a6 o).2 st.a7.length).1.length vc}) V4,T4++(aj (.slice va (kQ X.F X.G ak (bq a5 ae p st a6 o).1 (bq a5 ae p st a6 o).2 st.a7.length).1.length vc) rows.flatten uV++B5),[.obj b (.map es c)],X.S]) (.inr rfl) (.tmp (v:=kE q) Zr .nil) ⟨ng,dR,_,V4,_,⟨j1,j2,j3,w5,j4,j5⟩,rfl⟩ ?_);rw[j6];refine ap.cut (M:=[kA X.wq 0 [.map (some X.fb),.map (some X.gb),ng],aj ng (U4.map λu=>kN (some u.q)) dR,[.obj X.fb (.map X.bS X.fc)],[.obj X.gb (.map X.bW X.gc)],kA q 8 [.slice va (kQ X.F X.G ak (bq a5 ae p st a6 o).1 (bq a5 ae p st a6 o).2 st.a7.length).1.length vc],Rb,T4,aj (.slice va (kQ X.F X.G ak (bq a5 ae p st a6 o).1 (bq a5 ae p st a6 o).2 st.a7.length).1.length vc) rows.flatten uV++B5,[.obj b (.map es c)],X.S]) ZI (ap.perm ?_);have h:=λR=>(vZ R (hrb (.slice va (kQ X.F X.G ak (bq a5 ae p st a6 o).1 (bq a5 ae p st a6 o).2 st.a7.length).1.length vc))).symm
 simp only[vj]at h;simp only[Vd,Ve,vm,vj];exact vY _ (vY _ (vY _ (vY _ (h _))))):P:=h
def zA5 {P:Prop}(h:P:=by
 refine kK ?_;refine⟨rfl,vi dA,φA,λΓ H bC hH=>?_,?_⟩
 .obtain⟨mz,hz⟩:=hH;refine VO.imp hz ?_;refine kM (hAz mz) Zaq ZP (λv dl hv=>?_) (λch dl hz=>?_)
  .obtain⟨rfl,hφ,m',rfl⟩:=hv;exact VO.nil ⟨rfl,⟨m',ap.refl _⟩,hφ⟩
  .obtain⟨rfl,m',rfl⟩:=hz;exact⟨rfl,m',ZI⟩
 refine⟨rfl,vi (max dF dA:Nat),True,λΓ H bC hH=>?_,?_⟩
 .obtain⟨mz,hz⟩:=hH;refine VO.imp hz ?_;exact HL Zar Zas (VO.nil ⟨rfl,⟨mz,ap.refl _⟩,trivial⟩)
 refine kK ?_;exact λhh=>by
  simp only[true_and,and_true]at hh;rcases eT with h1|h1
  .exact hFφ hh.1 h1
  .exact hAφ hh.2 h1):P:=h
def zA6 {P:Prop}(h:P:=by
 refine af ?_;refine VC.loop (α:=Nat×Nat×Bool) (bg:=λs=>[(0,kE lb),(5,kE r),(6,vi s.2.1),(185,.slice a ak.length c),(186,vi ak.length),(187,vi s.1)]) (Hf:=λz=>[A,bt lb (mB||z.2.2) deep,kA r 0 (rA 8 s lk ln bF lt la ci.length lc aa a5.length ac ta ae.length tc none 0 0 p)])
  (I:=λs=>s.1<=ak.length/\jh ((ak.take s.1).map λx=>je x 1 (kP x))=some (s.2.1,s.2.2)) (μ:=λs=>ak.length-s.1) (0,0,false) ⟨X0 _,rfl⟩ ZU (by show ap _ [A,bt lb (mB||false) deep,kA r 0 (rA 8 s lk ln bF lt la ci.length lc aa a5.length ac ta ae.length tc none 0 0 p)];rw[vU,Je];exact bH) ?_
 rintro⟨j,d,mm⟩ ⟨i1,i2⟩
 simp only at i1 i2;dsimp only;have hdb:d<=1099511627777:=hK (λr hr d m e=>by
  obtain⟨y,hy,rfl⟩:=QO.1 hr;obtain⟨i,hi⟩:=Vv (QP hy);exact xe (bz.ok i _ hi).2 e) i2
 refine af ?_;by_cases hj:j<ak.length;rotate_left
 .rw[show decide ((j:Int)<(ak.length:Int))=false from Zf Zo];rw[Ql Zo]at i2;refine af ?_;refine⟨⟨d+1,decide (255<ak.length)||mm,s,lk,ln,bF,lt,la,ci.length,lc,aa,a5.length,ac,ta,ae.length,tc⟩,?_,ZU,?_⟩
  .simp only[hR8,i2,wz,z9];simp[zb.ok,kT,z4,Lt.kind,Lt.n,Lt.bits,Lt.text,Lt.ci];simp only[and_assoc]
  .simp only;rw[<- vR,<- N4];show ap _ [A,bt lb (mB||mm) deep,kA r 0 (rA 8 s lk ln bF lt la ci.length lc aa a5.length ac ta ae.length tc none 0 0 p)];exact bH
 obtain rfl:=ha Zo;rw[show decide ((j:Int)<(ak.length:Int))=true from Zt Zo];obtain⟨y,hy⟩:∃y,ak[j]? =some y:=⟨_,Zg hj⟩;have bQ:=hr j y hy;have cA:=hm j hj;have hv:=yW A y _ bQ (bz.ok j y hy) 1 lb (mB||mm) deep;generalize us j=uj at bQ cA hv;obtain⟨e1,e2,e3,e4,e5,e6,e7,e8,e9,xl,xm,xn,xp,IM,IN,IP,ZA,rfl,eU,iL⟩:=eH bQ;have df:ak.take (j+1)=ak.take j++[y]:=by rw[Qi,hy];rfl
 refine af ?_;refine kR Zr Gb rfl ?_;refine af ?_;refine kJ (λq9=>?_);refine af ?_;refine kM hv Zr ZP (λv dl hv=>?_) (λch dl hz=>?_);rotate_left
 .obtain⟨hb,rfl,m2,rfl⟩:=hz;have aN:RR=none:=by
   rw[hR8,dH (QO.2 ⟨y,Zv hy,hb⟩)];unfold kT;split<;>rfl
  exact⟨[A,bt lb m2 deep],ZI,aN,rfl,m2,rfl⟩
 obtain⟨e,m2,he,rfl,rfl⟩:=hv;simp only[aE];refine af ?_;rw[show(if(e:Int)>(d:Int)then(e:Int)else(d:Int))=((max d e:Nat):Int) by split<;>omega];refine⟨(j+1,max d e,mm||m2),⟨by simp only;omega,?_⟩,by simp only;omega,ZU,?_⟩
 .simp only[df,QC,QE,QG,he];exact dI i2
 .simp only[vR];exact bH):P:=h
def El {P:Prop}(h:P:=by
 refine af ?_;refine kM (jK false) Zr ZP Zai (λch dl hz=>?_);obtain⟨_,rfl,rfl⟩:=hz;exact⟨[A,bt lb m0 deep],ZI,aN,rfl,m0,rfl⟩):P:=h
def zA8 {P:Prop}(h:P:=by
 refine af ?_;refine VC.loop (α:=Nat×Nat×Bool) (bg:=λs=>[(0,kE lb),(7,vi s.2.1),(8,kE r),(114,.slice a ci.length c),(115,vi ci.length),(116,vi s.1)]) (Hf:=λs=>[A,bt lb (true||s.2.2) deep,kA r 0 [cv 10,vi n,uv b,.string t,.slice a ci.length c]])
  (I:=λs=>s.1<=ci.length/\jh ((ci.take s.1).map λx=>jS x true)=some (s.2.1,s.2.2)) (μ:=λs=>ci.length-s.1) (0,0,false) ⟨X0 _,rfl⟩ ZU (by rw[vU];exact bH) ?_
 rintro⟨j,d,mm⟩ ⟨i1,i2⟩
 simp only at i1 i2;dsimp only;have bN:=wf.many;simp only[Lt.size]at ZF;have hdb:d<=Lt.ay ci:=hK (λr hr d m e=>by
  obtain⟨y,hy,rfl⟩:=QO.1 hr;have h1:=Lt.aJ (QP hy);have h2:=G6 _ y (Qs _) true d m e;omega) i2
 refine af ?_;by_cases hj:j<ci.length;rotate_left
 .rw[show decide ((j:Int)<(ci.length:Int))=false from Zf Zo];have df:ci.take j=ci:=Ql Zo;rw[df,<- dE]at i2;refine af ?_;refine⟨⟨d+1,decide (255<ci.length)||mm,n,b,t,.slice none 0 0,0⟩,⟨⟨_,_,rfl⟩,?_⟩,ZU,?_⟩
  .simp[jS,i2,z9,wz,kT,pF.ok]
  .rw[hmm1];exact bH
 obtain rfl:=ha Zo;rw[show decide ((j:Int)<(ci.length:Int))=true from Zt Zo];obtain⟨y,hy⟩:∃y,ci[j]? =some y:=⟨_,Zg hj⟩;have bQ:=hr j y hy;have cA:=hm j hj;have Wv:y.size<=N:=by
  have h1:=Lt.aJ (Zv hy);simp only[Lt.size]at hx;omega
 have ZW:=Lt.aJ (Zv hy);have aK:=ih y Wv Zo _ bQ lb (true||mm) deep true;generalize us j=uj at bQ cA aK;have hyr2:=bQ;cases hyr2 with
 |@mk k2 n2 b2 t2 Mt a2 c2 O6 o2 Dl Tj Gp rT de=>
 refine af ?_;refine kR Zr Gb rfl ?_;refine af ?_;refine kJ (λq2=>?_);refine af ?_;refine kM aK Zr ZP (λv dl hv=>?_) (λch dl hz=>?_);rotate_left
 .obtain⟨hb,rfl,m2,rfl⟩:=hz;have aN:jS (.mk 10 n b t ci) inside=none:=by
   have h1:jh (xH ci)=none:=by
    rw[dE];exact dH (QO.2 ⟨_,Zv hy,hb⟩)
   simp[jS,h1,z9,wz,kT]
  exact⟨[A,bt lb m2 deep],ZI,aN,rfl,m2,rfl⟩
 obtain⟨e,m2,he,rfl,rfl⟩:=hv;simp only[aE];have df:ci.take (j+1)=ci.take j++[.mk k2 n2 b2 t2 Mt]:=by rw[Qi,hy];rfl
 refine af ?_;rw[show(if(e:Int)>(d:Int)then(e:Int)else(d:Int))=((max d e:Nat):Int) by split<;>omega];refine⟨(j+1,max d e,mm||m2),⟨by simp only;omega,?_⟩,by simp only;omega,ZU,?_⟩
 .simp only[df,QC,QE,QG,he];exact dI i2
 .simp only[vR];exact bH):P:=h
def zA9 {P:Prop}(h:P:=by
 refine af ?_;refine VO.imp (H':=[kA X.q 0 [X.fv,X.gv,.slice va st.vars.length vc,.slice oa st.a7.length oc,av,.slice ua st.dg.length uc,bv,.int .i64 (zw st.f),.int .i64 (yC st.f),.slice (some ⟨rb,0,none⟩) st.vars.length st.vars.length,.slice (some ⟨nb,0,none⟩) st.a7.length st.a7.length,.slice ha j hc]++S3,aj (.slice ha j hc) hs pY,B]) (ap.cut (M:=[kA X.q 0 [X.fv,X.gv,.slice va st.vars.length vc,.slice oa st.a7.length oc,av,.slice ua st.dg.length uc,bv,.int .i64 (zw st.f),.int .i64 (yC st.f),.slice (some ⟨rb,0,none⟩) st.vars.length st.vars.length,.slice (some ⟨nb,0,none⟩) st.a7.length st.a7.length,.slice ha j hc],S3,aj (.slice ha j hc) hs pY,B]) ZI (ap.perm Zs)) ?_;refine kH H4 Zr ZP (λv dl hv=>?_);obtain⟨C,bf,ax,rfl⟩:=hv;simp only[aE];obtain⟨pa,pc,rfl⟩:=ax.form;refine VO.imp (H':=[kA X.q 0 [X.fv,X.gv,.slice va st.vars.length vc,.slice oa st.a7.length oc,av,.slice ua st.dg.length uc,bv,.int .i64 (zw st.f),.int .i64 (yC st.f),.slice (some ⟨rb,0,none⟩) st.vars.length st.vars.length,.slice (some ⟨nb,0,none⟩) st.a7.length st.a7.length,.slice ha j hc],S3,aj (.slice ha j hc) hs pY,B++aj (.slice pa (st.a9 j).length pc) ((st.a9 j).flatMap jm) bf]) (ap.cut (M:=[kA X.q 0 [X.fv,X.gv,.slice va st.vars.length vc,.slice oa st.a7.length oc,av,.slice ua st.dg.length uc,bv,.int .i64 (zw st.f),.int .i64 (yC st.f),.slice (some ⟨rb,0,none⟩) st.vars.length st.vars.length,.slice (some ⟨nb,0,none⟩) st.a7.length st.a7.length,.slice ha j hc]++S3,aj (.slice ha j hc) hs pY,B,aj (.slice pa (st.a9 j).length pc) ((st.a9 j).flatMap jm) bf]) ZI (ap.perm Zs)) ?_;refine af ?_;refine kV (out:=[.slice pa (st.a9 j).length pc]) Zr Zr (λr2=>?_);refine kX (k:=j) (m:=1) (xs:=hs) (sp:=pY) (ys:=[.slice pa (st.a9 j).length pc]) Zr Zr aM ZK Zr ?_ rfl Zr Zr Zd Zo (λYC KZ pJ=>?_)
 .exact l9
 obtain⟨Z4,Yi,rfl⟩:=pJ.form;refine af ?_;refine⟨(j+1,.slice Z4 (j+1) Yi,hs++[.slice pa (st.a9 j).length pc],KZ,B++aj (.slice pa (st.a9 j).length pc) ((st.a9 j).flatMap jm) bf),⟨by simp only;omega,pJ,λi hi=>?_⟩,by simp only;omega,ZU,ZI⟩;simp only at hi|-;by_cases e:i<j
 .obtain⟨v,k1,k2⟩:=lW i e;exact⟨v,by rw[Vj Zo];exact k1,wZ k2 λa h=>Zw _ h⟩
 .obtain rfl:i=j:=by omega
  refine⟨.slice pa (st.a9 i).length pc,?_,wZ (s9 (enc:=jm) (λ_=>rfl) ax) λa h=>QI _ h⟩;rw[Vl Zo,show i-hs.length=0 by omega];rfl):P:=h
def zAA {P:Prop}(h:P:=by
 refine af ?_;refine⟨.inr rfl,_,[DM X w3 (kQ X.F X.G x.ak ff a6 u).2,R++(B3++(aj (.slice gQ (kQ X.F X.G x.ak ff a6 u).1.length eV) rows.flatten iW++kA r 0 [.int .u8 rk,.int .i64 ri,.int .i64 rs,.string rn]))],.az (us:=[.int .u8 3,.string ⟨#[]⟩,.int .u8 0,.int .i64 0,.int .u64 0,.string ⟨#[]⟩,.slice none 0 0,.slice (some ⟨r,0,none⟩) 1 1,.int .i64 0,.bool false,.slice gQ (kQ X.F X.G x.ak ff a6 u).1.length eV]) Zr Zr (λy hy=>by simp only[Vd,QH];repeat (first|exact Or.inl hy|refine Or.inr ?_)) .nil,ap.cut (M:=[DM X w3 (kQ X.F X.G x.ak ff a6 u).2,R++B3,aj (.slice gQ (kQ X.F X.G x.ak ff a6 u).1.length eV) rows.flatten iW,kA r 0 [.int .u8 rk,.int .i64 ri,.int .i64 rs,.string rn]]) ZI (ap.perm Zs),w3,_,_,⟨rfl,ss.more (λy hy=>?_),yq (zT _) (JW (rr:=⟨rk,ri,rs,rn⟩) (λy hy=>?_)) ((zZ bV bB).more (λy hy=>?_))⟩,rfl⟩
 .simp only[QH]at hy|-;rcases hy with hy|hy<;>simp only[hy,or_true,true_or]
 .have hy:y∈kA r 0 [.int .u8 rk,.int .i64 ri,.int .i64 rs,.string rn]:=hy;simp only[QH];simp only[hy,or_true]
 .simp only[QH]at hy|-;rcases hy with hy|hy|hy<;>simp only[hy,or_true,true_or]):P:=h
def zAB {P:Prop}(h:P:=by
 have Ji:s1=seen:=by rw[Wh];rfl
 refine af ?_;refine zO (E:=yw) (V:=λn:Nat=>.int .i64 n) (k:=s) Zr Zr rfl Zaz hH1 ?_;rw[Of];generalize hgn:(jI s mH).getD 0=gn at hgs;refine af ?_;by_cases g0:gn=0
 .rw[show decide ((gn:Int)=0)=true from Zt Zo];refine af ?_;refine zO (E:=yw) (V:=λn:Nat=>.int .i64 n) (k:=s) Zr Zr rfl Zaz hM1 ?_;rw[Of];generalize hgm:(jI s mM).getD 0=gm at hms;refine af ?_;by_cases g1:gm=0
  .rw[show decide ((gm:Int)=0)=true from Zt Zo];refine af ?_;refine zO (E:=yw) (V:=λn:Nat=>.int .i64 n) (k:=s) Zr Zr rfl Zaz hM1 ?_;rw[Of,hgm];refine af ?_;refine zN (E:=yw) (V:=λn:Nat=>.int .i64 n) (k:=s) (v:=gm+1) Zr Zr Zr rfl ZK hM1 (λcX c' hes'=>?_);refine af ?_;refine kV (out:=[.string s]) Zr Zr (λqb=>?_);refine af ?_;refine kX (k:=out.length) (m:=1) (xs:=out.map Value.string) (sp:=sp) (ys:=[.string s]) Zr Zr aM ZK Zr ?_ rfl Zr Zr Zd Zo (λbZ bf ax=>?_)
   .exact l9
   have DL:o1=out++[s]:=by rw[Rm,if_pos ⟨Zs,(hms.1 g1).1,hgs.1 g0,(hms.1 g1).2⟩]
   have pJ:ke 1 bZ o1.length (o1.map Value.string) bf:=by rw[DL];simpa using ax
   obtain⟨dZ,ed,rfl⟩:=ax.form;refine af ?_;refine⟨(cX,c',.slice dZ (out.length+1) ed,bf,hb,nF,hc,[]),⟨⟨⟨_,hes',by rw[DL];exact met_put hM2⟩⟩,?_,pJ,Zs⟩,ZU,?_⟩
   .rw[Ji];exact xB
   .dsimp only;rw[DL,QC,QE,QG];exact bH
  .rw[show decide ((gm:Int)=0)=false from Zf Zo];refine af ?_;have DL:o1=out:=by rw[Rm,if_neg (λc=>g1 (hms.2 ⟨c.2.1,c.2.2.2⟩))]
   refine⟨(DZ,mc,.slice sa out.length sc,sp,hb,nF,hc,[]),⟨by rw[DL];exact U6,?_,by rw[DL];exact aM,Zs⟩,ZU,?_⟩
   .rw[Ji];exact xB
   .dsimp only;rw[DL];exact bH
 .rw[show decide ((gn:Int)=0)=false from Zf Zo];refine af ?_;have DL:o1=out:=by rw[Rm,if_neg (λc=>g0 (hgs.2 c.2.2.1))]
  refine⟨(DZ,mc,.slice sa out.length sc,sp,hb,nF,hc,[]),⟨by rw[DL];exact U6,?_,by rw[DL];exact aM,Zs⟩,ZU,?_⟩
  .rw[Ji];exact xB
  .dsimp only;rw[DL];exact bH):P:=h
def zAC {P:Prop}(h:P:=by
 refine af ?_;refine VO.imp (imp_tk (x:=ND.flatMap ncA) [aj y.v (y.l.flatMap jm) y.sp,rest] ZK (by simpa[ncA]using hr1)) ?_;simp only[aE];refine kH (XI y.l y.v y.sp Wu cS (x.cg,x.own)) Zr ZP (λv' dl hv=>?_);obtain⟨bf,ax,rfl⟩:=hv;obtain⟨pa,pc,rfl⟩:=ax.form;simp only[aE];refine af ?_;refine zr (us:=[(.slice pa (gw y.l (x.cg,x.own)).length pc)]) Zr Zr Zr Zr Zr (.there (.there (.there (.there (.there (.there (Kv.Yk (i:=c) Zo (by rw[Q6];omega)))))))) ?_;rw[show(ND.map NC.v).set c (.slice pa (gw y.l (x.cg,x.own)).length pc)=(ND.set c ⟨(.slice pa (gw y.l (x.cg,x.own)).length pc),gw y.l (x.cg,x.own),bf⟩).map NC.v from by rw[List.map_set]];refine af ?_;refine⟨(o,ND.set c ⟨(.slice pa (gw y.l (x.cg,x.own)).length pc),gw y.l (x.cg,x.own),bf⟩,D++[c]),⟨by simp only;omega,?_,hol1,?_,?_⟩,by simp only;omega,ZU,?_⟩
 .show st.way u v=(D++[c])++st.way o v;rw[hD,Rw];simp
 .have:=pT.put hyn;rw[hu,ho]at this;rw[List.map_set];exact this
 .intro z hz;rcases QR hz with hz|rfl
  .exact N5 z hz
  .exact ax
 .refine ap.cut (M:=[kA q5 0 [.string x.name,.int .i64 (x.cg:Int),.bool x.arg,.int .i64 x.own],kA X.q 0 [X.fv,X.gv,.slice (some ⟨vb,vo,none⟩) st.vars.length vc,.slice (some ⟨ob,oo,none⟩) st.a7.length oc,av,.slice (some ⟨ub,uo,none⟩) st.dg.length uc,bv,.int .i64 (zw st.f),.int .i64 (yC st.f),.slice (some ⟨rb,0,none⟩) st.vars.length st.vars.length,.slice (some ⟨nb,0,none⟩) st.a7.length st.a7.length,.slice none 0 0],S,RB,kA nb 0 ((ND.set c ⟨(.slice pa (gw y.l (x.cg,x.own)).length pc),gw y.l (x.cg,x.own),bf⟩).map NC.v),aj (.slice pa (gw y.l (x.cg,x.own)).length pc) ((gw y.l (x.cg,x.own)).flatMap jm) bf,rest]) ZI (ap.perm ?_);have:=(de ⟨(.slice pa (gw y.l (x.cg,x.own)).length pc),gw y.l (x.cg,x.own),bf⟩).symm;simp only[Vd,Ve,vm];refine vY _ (vY _ (vY _ (vY _ (vY _ ?_))));exact this):P:=h
def zAD {P:Prop}(h:P:=by
 refine af ?_;refine kR (us:=uj) Zr (λz hz=>by have:=cA z hz;simp[this]) cS ?_;refine af ?_;refine kH hyc Zr ZP (λv dl hv=>?_);obtain⟨B2,ws,rfl,hn,rfl⟩:=hv;simp only[aE];have nG:=hn;obtain⟨g1,g2,g3,g4,g5,g7,r1,r3,k1,k3,O6,o2,Dl,Az,_⟩:=oD hn;subst Az;generalize oV:eW st u y=pn at nG|-;refine af ?_;refine kV (out:=(rP pn.kind pn.name g1 g2 g3 g4 g5 pn.lit.ci.length g7 r1 pn.refs.length r3 pn.cg pn.super k1 pn.ak.length k3)) Zr Zr (λr=>?_);refine kX (k:=j) (m:=1) (xs:=rows.flatten) (sp:=Fw) (ys:=(rP pn.kind pn.name g1 g2 g3 g4 g5 pn.lit.ci.length g7 r1 pn.refs.length r3 pn.cg pn.super k1 pn.ak.length k3)) Zr Zr om ZK Zr ?_ rfl Zr Zr Zd Zo (λbZ bf ax=>?_)
 .exact l9
 have cf:rows.flatten++((rP pn.kind pn.name g1 g2 g3 g4 g5 pn.lit.ci.length g7 r1 pn.refs.length r3 pn.cg pn.super k1 pn.ak.length k3):List Value)=(rows++[((rP pn.kind pn.name g1 g2 g3 g4 g5 pn.lit.ci.length g7 r1 pn.refs.length r3 pn.cg pn.super k1 pn.ak.length k3):List Value)]).flatten:=by simp
 rw[cf]at ax|-;obtain⟨dZ,ed,rfl⟩:=ax.form;refine af ?_;refine⟨(j+1,(T++B)++B2,.slice dZ (j+1) ed,rows++[(rP pn.kind pn.name g1 g2 g3 g4 g5 pn.lit.ci.length g7 r1 pn.refs.length r3 pn.cg pn.super k1 pn.ak.length k3)],bf),⟨by simp only;omega,⟨B++B2,by simp only;rw[vj]⟩,ax,?_⟩,by simp only;omega,ZU,ZI⟩;show wk ((T++B)++B2) ((bl.take (j+1)).map (eW st u)) _;rw[Qi,hy,QC];exact(bA.more (λz hz=>Zw _ hz)).snoc (by rw[oV];exact nG)):P:=h
def zAE {P:Prop}(h:P:=by
 refine af ?_;refine kL (fU aX bR) Zr ?_;refine af ?_;rw[cM];refine af ?_;rw[mo];refine af ?_;rw[NX];refine af ?_;refine kH ((jK true).mono (Z':=λ_ _=>False) (λv dl h=>h) Kx).fun Zr ZP (λv dl hv=>?_);obtain⟨_,rfl,rfl⟩:=hv;simp only[QV];refine af ?_;refine kM (gq A _ a5 bI lb 15 false false) Zr ZP (λv dl hv=>?_) (λch dl hz=>?_);rotate_left
 .obtain⟨hb,rfl,m2,rfl⟩:=hz;exact⟨[bt lb m2 false,A],by simp only[aE];exact bH,rfl,m2,false,[A],rfl,by simp[hm,kT,zE,hb],rfl⟩
 obtain⟨KQ,rfl,rfl⟩:=hv;rw[vO];obtain⟨m1,tB⟩:∃m1,m1=decide (15<a5.length):=⟨_,rfl⟩;rw[<- tB];simp only[aE];refine af ?_;refine kM (gq A _ ae bL lb 63 m1 false) Zr ZP (λv dl hv=>?_) (λch dl hz=>?_);rotate_left
 .obtain⟨hb,rfl,m2,rfl⟩:=hz;have aN:RR=none:=by
   simp only[hm,zE,hb];simp[kT,z9]
  exact⟨[bt lb m2 false,A],by simp only[aE];exact bH,rfl,m2,false,[A],rfl,aN,rfl⟩
 obtain⟨Gv,rfl,rfl⟩:=hv;obtain⟨m2,rT⟩:∃m2,m2=(m1||decide (63<ae.length)):=⟨_,rfl⟩;rw[<- rT];simp only[aE];refine af ?_;refine kM (nB A body a c bk o us bz lb m2 false) Zr ZP (λv dl hv=>?_) (λch dl hz=>?_);rotate_left
 .obtain⟨hb,rfl,m3,rfl⟩:=hz;have aN:RR=none:=by
   simp only[hm,zE,hb,z9];simp[kT]
  exact⟨[bt lb m3 false,A],by simp only[aE];exact bH,rfl,m3,false,[A],rfl,aN,rfl⟩
 obtain⟨d,m3,he,rfl,rfl⟩:=hv;simp only[aE];refine af ?_;refine jU (kG (dl:=[bt lb (m2||m3) (decide ((d:Int)>40)),A]) (.inl rfl) .nil ⟨m2||m3,_,[A],rfl,⟨d,?_,decide_eq_decide.2 Zo⟩,rfl⟩ ZI);simp only[hm,zE,KQ,Gv,he,z9,kT,if_true,rT,tB,vR]):P:=h
def Tl {P:Prop}(h:P:=by
 refine jB ?_;refine kM (jK false) Zr ZP Zai (λch dl hz=>?_);obtain⟨_,rfl,rfl⟩:=hz;exact⟨[A,bt lb (m0||mm) deep],ZI,if_neg eT,rfl,_,rfl⟩):P:=h
def zAG {P:Prop}(h:P:=by
 refine af ?_;refine kR Zr (λz hz=>by have h9:=hRT z (hR z (cA z hz));simp[h9]) rfl ?_;refine af ?_;refine kH aK Zr ZP (λv dl hv=>?_);obtain⟨w2,B2,ws,⟨rfl,lE,hn⟩,rfl⟩:=hv;simp only[aE];have nG:=hn;obtain⟨f1,f2,f3,f4,f5,f7,r1,r3,k1,k3,O6,o2,Dl,Az,_⟩:=oD hn;subst Az;generalize oV:(jF X.F X.G y bx a6 u).1=pn at nG|-;refine af ?_;refine kV (out:=(rP pn.kind pn.name f1 f2 f3 f4 f5 pn.lit.ci.length f7 r1 pn.refs.length r3 pn.cg pn.super k1 pn.ak.length k3)) Zr Zr (λr=>?_);refine kX (k:=j) (m:=1) (xs:=rows.flatten) (sp:=sp) (ys:=(rP pn.kind pn.name f1 f2 f3 f4 f5 pn.lit.ci.length f7 r1 pn.refs.length r3 pn.cg pn.super k1 pn.ak.length k3)) Zr Zr aM ZK Zr ?_ rfl Zr Zr Zd Zo (λbZ bf ax=>?_)
 .exact l9
 have cf:rows.flatten++((rP pn.kind pn.name f1 f2 f3 f4 f5 pn.lit.ci.length f7 r1 pn.refs.length r3 pn.cg pn.super k1 pn.ak.length k3):List Value)=(rows++[((rP pn.kind pn.name f1 f2 f3 f4 f5 pn.lit.ci.length f7 r1 pn.refs.length r3 pn.cg pn.super k1 pn.ak.length k3):List Value)]).flatten:=by simp
 rw[cf]at ax|-;have hI2:=hI.out hy cm lE oV.symm nG ax;obtain⟨dZ,ed,rfl⟩:=ax.form;refine af ?_;exact⟨_,hI2,by simp only;omega,ZU,ZI⟩):P:=h
def zAH {P:Prop}(h:P:=by
 refine kK ?_;refine⟨rfl,.tuple #[],False,λΓ H bC hH=>?_,?_⟩
 .subst hH;refine kM (jK false) Zau fq.nil Zai (λch dl hz=>?_);obtain⟨_,rfl,rfl⟩:=hz;exact⟨rfl,by simp only[QV];exact ap.refl _⟩
 exact λhh=>by simp at hh):P:=h
def zAI {P:Prop}(h:P:=by
 have key:∀(s:List Nat),s.Sublist l->yI (λx y=>!((lh ops).getD x []).contains y) s=true:=by
  intro s
  induction s with
  |nil=>intro _;rfl
  |cons x s ih=>
   intro hs;simp only[yI,vG,vf,vP];refine⟨λy hy=>?_,ih ((Qh x s).trans hs)⟩;have h2:[x,y].Sublist l:=(List.Sublist.cons_cons x (List.singleton_sublist.2 hy)).trans hs;have b1:=AR s1 h2;cases hcc:((lh ops).getD x []).contains y with
   |false=>rfl
   |true=>
    have b2:=hanc ((bX x).1 b1.1) (vr.1 hcc);have:=b1.2.2;have:=b2.2.2;omega
 exact key _ List.filter_sublist):P:=h
def zAJ {P:Prop}(h:P:=by
 refine af ?_;refine lQ (l:=1) Zr Zr rfl ⟨Zo,lW⟩ ?_;rw[<- si,show x.ak.length-1=x.ak.tail.length from sr.symm];refine af ?_;refine kH aw Zr ZP (λv3 dl hv=>?_);obtain⟨w3,B3,rows,iW,⟨ss,bV,bB⟩,rfl⟩:=hv;simp only[aE];obtain⟨gQ,eV,rfl⟩:=bV.form;refine af ?_;refine⟨.inr rfl,_,[DM X w3 (kQ X.F X.G x.ak.tail st a6 u).2,R++(B3++aj (.slice gQ (kQ X.F X.G x.ak.tail st a6 u).1.length eV) rows.flatten iW)],.az (us:=[.int .u8 5,.string x.name,.int .u8 0,.int .i64 0,.int .u64 0,.string ⟨#[]⟩,.slice none 0 0,.slice none 0 0,.int .i64 0,.bool false,.slice gQ (kQ X.F X.G x.ak.tail st a6 u).1.length eV]) Zr Zr (λy hy=>by simp only[Vd,QH];repeat (first|exact Or.inl hy|refine Or.inr ?_)) .nil,ap.cut (M:=[DM X w3 (kQ X.F X.G x.ak.tail st a6 u).2,R++B3,aj (.slice gQ (kQ X.F X.G x.ak.tail st a6 u).1.length eV) rows.flatten iW]) ZI (ap.perm Zs),w3,_,_,⟨rfl,ss.more (λy hy=>?_),yq (zT _) (jd.nil _) ((zZ bV bB).more (λy hy=>?_))⟩,rfl⟩
 .simp only[QH]at hy|-;rcases hy with hy|hy<;>simp only[hy,or_true,true_or]
 .simp only[QH]at hy|-;rcases hy with hy|hy|hy<;>simp only[hy,or_true,true_or]):P:=h
def zAK {P:Prop}(h:P:=by
 obtain⟨mz,hz⟩:=hH;refine VO.imp hz ?_;refine kM (hFz mz) Zap ZP (λv dl hv=>?_) (λch dl hz=>?_)
 .obtain⟨rfl,hφ,m',rfl⟩:=hv;exact VO.nil ⟨rfl,⟨m',ap.refl _⟩,hφ⟩
 .obtain⟨rfl,m',rfl⟩:=hz;exact⟨rfl,m',ZI⟩):P:=h
def zAL {P:Prop}(h:P:=by
 obtain⟨g1,g2,g3,g4,g5⟩:=pX;refine VO.imp (ap.cut (M:=[DM X w ff,R,kA dN 0 [.int .u8 0,.int .i64 0,.int .i64 0,.string ⟨#[]⟩]]) ZI (fw X w ff _)) ?_;have re:=lE.u;unfold et;rw[g2]at re;rw[huf]at re|-;refine af ?_;refine kV (out:=[.int .i64 (u:Int),.int .i64 (v:Int)]) Zr Zr (λr=>?_);refine kX (k:=st.dg.length) (m:=1) (xs:=ff.dg.flatMap ym) (sp:=w.Ie) (ys:=[.int .i64 (u:Int),.int .i64 (v:Int)]) Zr Zr (by rw[g2];exact re) ZK Zr ?_ rfl Zr Zr Zd Zo (λbZ bf ax=>?_)
 .exact l9
 obtain⟨va',vc',rfl⟩:=ax.form;refine af ?_;rw[<- g2]at ax;have ss:=lE.addUse (u,v) ax;refine⟨.inr rfl,_,[DM X {w with wv:=.slice va' (ff.dg.length+1) vc',Ie:=bf} {ff with dg:=ff.dg++[(u,v)]},R],.az (us:=kS (wM v)) Zr Zr (λy hy=>by simp only[Vd,QH];unfold kS wM at hy;repeat (first|exact Or.inl hy|refine Or.inr ?_)) .nil,?_,_,⟨rfl,ss⟩,rfl⟩;refine ap.cut ?_ (zK X {w with wv:=.slice va' (ff.dg.length+1) vc',Ie:=bf} {ff with dg:=ff.dg++[(u,v)]} _);unfold et;simp only[V9,VV,List.flatMap_nil,vm,ym];rw[g2];exact bH):P:=h
def zAM {P:Prop}(h:P:=by
 refine af ?_;refine⟨_,og,by simp only;omega,ZU,?_⟩;simp only;refine ap.cut (M:=[kA KY 0 [.int .u8 (zB s:Nat),.string (yA s),.int .u8 0,.int .i64 0,.int .u64 0,.string e0,.slice none 0 0,.slice none 0 0,.int .i64 0,.bool false,.slice none 0 0,.slice pa nI.length pc,.slice dZ (j+1) ed],kA dN 0 [.int .u8 0,.string e0,.int .u8 0,.int .i64 0,.int .u64 0,.string e0,.slice none 0 0,.slice none 0 0,.int .i64 0,.bool false,.slice none 0 0,.slice none 0 0,.slice none 0 0],kA X.wq 0 [.map (some X.fb),.map (some X.gb),pM],aj pM (U2.map λu=>kN (some u.q)) lU,[.obj X.fb (.map X.bS X.fc)],[.obj X.gb (.map X.bW X.gc)],WK U2 V2,T2,[.obj b (.map es c)],X.S,aj (.slice dZ (j+1) ed) (rows++[([.int .u8 pn.kind,.string pn.name,.int .u8 f1,.int .i64 f2,.int .u64 f3,.string f4,.slice f5 f6 f7,.slice r1 r2 r3,.int .i64 pn.cg,.bool pn.super,.slice none 0 0,.slice p1 p2 p3,.slice k1 k2 k3]:List Value)]).flatten bf,B,aj (.slice pa nI.length pc) (nI.map λb=>kN (some b)) pD,B2]) ZI (ap.perm ?_);simp only[Vd,Ve,vm,vj]
 repeat (first|exact vY _ QZ|refine vY _ ?_)):P:=h
def zAN {P:Prop}(h:P:=by
 refine af ?_;refine kH (x9 S (.slice aa a5.length ac) a5 bI) Zr ZP (λv dl hv=>?_);obtain⟨B,⟨sp0,ZV,rfl,_,_⟩,rfl⟩:=hv;obtain⟨va,vc,rfl⟩:=ZV.form;simp only[aE];refine af ?_;refine M6 (k:=a5.length) (xs:=a5.map Value.string) (sp:=sp0) (l:=ae) Zr Zr ZV ZK bL (λy hy=>by simp[hy]) Zo (λbZ bf hg=>?_);obtain⟨xa,xc,rfl⟩:=hg.form;refine af ?_;refine⟨(.slice xa (a5.length+ae.length) xc,aj (.slice xa (a5.length+ae.length) xc) (a5.map Value.string++ae.map Value.string) bf),⟨xa,xc,by rw[hnl],?_⟩,ZU,ZI⟩;have hto:AZ (.slice xa (a5.length+ae.length) xc) (a5++ae) (aj (.slice xa (a5.length+ae.length) xc) (a5.map Value.string++ae.map Value.string) bf):=by
  refine⟨bf,by rw[Vz,QC];exact hg,by rw[QC],by rw[Vz];omega,λt ht=>?_⟩;rcases QH.1 ht with ht|ht
  .obtain⟨i,hi⟩:=Vv ht;obtain⟨_,_,_,_,g⟩:=iJ i t hi;exact g
  .obtain⟨i,hi⟩:=Vv ht;obtain⟨_,_,_,_,g⟩:=iM i t hi;exact g
 exact hto.rd):P:=h
def zAO {P:Prop}(h:P:=by
 refine af ?_;refine kM hv Zr ZP (λv dl hv=>?_) (λch dl hz=>?_);rotate_left
 .obtain⟨hb,rfl,m2,rfl⟩:=hz;exact⟨[A,bt lb m2 deep],ZI,dH (by rw[<- hb];exact Zv aL),rfl,m2,rfl⟩
 obtain⟨e,m2,he,rfl,rfl⟩:=hv;simp only[aE];refine af ?_;rw[show(if(e:Int)>(d:Int)then(e:Int)else(d:Int))=((max d e:Nat):Int) by split<;>omega];refine⟨(j+1,max d e,mm||m2),⟨by simp only;omega,?_⟩,by simp only;omega,ZU,?_⟩
 .simp only;rw[Qi,aL,he];exact dI i2
 .simp only[vR];exact bH):P:=h
def zAP {P:Prop}(h:P:=by
 refine af ?_;refine⟨.inr rfl,_,[DM X w3 (kQ X.F X.G x.ak D2.1 D2.2 u).2,R++(B1++(B2++(B3++(aj (.slice gQ (kQ X.F X.G x.ak D2.1 D2.2 u).1.length eV) rows.flatten iW++aj (.slice sa x.ae.length sc) (((List.range' D1.1.vars.length x.ae.length).map wM).flatMap kS) sp))))],.az (us:=[.int .u8 14,.string ⟨#[]⟩,.int .u8 0,.int .i64 0,.int .u64 0,.string ⟨#[]⟩,.slice none 0 0,.slice sa x.ae.length sc,.int .i64 0,.bool false,.slice gQ (kQ X.F X.G x.ak D2.1 D2.2 u).1.length eV]) Zr Zr (λy hy=>by simp only[Vd,QH];repeat (first|exact Or.inl hy|refine Or.inr ?_)) (.az (us:=kS (wM st.vars.length)) Zr Zr (λy hy=>by simp only[Vd,QH];unfold kS wM e0 at hy;repeat (first|exact Or.inl hy|refine Or.inr ?_)) .nil),?_,w3,_,_,⟨rfl,hwF,hpr⟩,rfl⟩;exact ap.cut (M:=[DM X w3 (kQ X.F X.G x.ak D2.1 D2.2 u).2,((R++B1)++B2)++B3,aj (.slice gQ (kQ X.F X.G x.ak D2.1 D2.2 u).1.length eV) rows.flatten iW,aj (.slice sa x.ae.length sc) (((List.range' D1.1.vars.length x.ae.length).map wM).flatMap kS) sp]) ZI (ap.perm Zs)):P:=h
def zAQ {P:Prop}(h:P:=by
 refine af ?_;refine kH aw Zr ZP (λv3 dl hv=>?_);obtain⟨w3,B3,rows,iW,⟨ss,bV,bB⟩,rfl⟩:=hv;simp only[aE];obtain⟨gQ,eV,rfl⟩:=bV.form;refine af ?_;refine⟨.inr rfl,_,[DM X w3 (kQ X.F X.G x.ak st a6 u).2,R++(B3++aj (.slice gQ (kQ X.F X.G x.ak st a6 u).1.length eV) rows.flatten iW)],.az (us:=[.int .u8 7,.string x.name,.int .u8 0,.int .i64 0,.int .u64 0,.string ⟨#[]⟩,.slice none 0 0,.slice none 0 0,.int .i64 0,.bool false,.slice gQ (kQ X.F X.G x.ak st a6 u).1.length eV]) Zr Zr (λy hy=>by simp only[Vd,QH];repeat (first|exact Or.inl hy|refine Or.inr ?_)) .nil,ap.cut (M:=[DM X w3 (kQ X.F X.G x.ak st a6 u).2,R++B3,aj (.slice gQ (kQ X.F X.G x.ak st a6 u).1.length eV) rows.flatten iW]) ZI (ap.perm Zs),w3,_,_,⟨rfl,ss.more (λy hy=>?_),yq (zT _) (jd.nil _) ((zZ bV bB).more (λy hy=>?_))⟩,rfl⟩
 .simp only[QH]at hy|-;rcases hy with hy|hy<;>simp only[hy,or_true,true_or]
 .simp only[QH]at hy|-;rcases hy with hy|hy|hy<;>simp only[hy,or_true,true_or]):P:=h
def zAR {P:Prop}(h:P:=by
 refine af ?_;refine kH aw Zr ZP (λv3 dl hv=>?_);obtain⟨w3,B3,rows,iW,⟨ss,bV,bB⟩,rfl⟩:=hv;simp only[aE];obtain⟨gQ,eV,rfl⟩:=bV.form;refine af ?_;refine⟨.inr rfl,_,[DM X w3 (kQ X.F X.G x.ak st a6 u).2,R++(B3++aj (.slice gQ (kQ X.F X.G x.ak st a6 u).1.length eV) rows.flatten iW)],.az (us:=[.int .u8 4,.string x.name,.int .u8 0,.int .i64 0,.int .u64 0,.string ⟨#[]⟩,.slice none 0 0,.slice none 0 0,.int .i64 0,.bool false,.slice gQ (kQ X.F X.G x.ak st a6 u).1.length eV]) Zr Zr (λy hy=>by simp only[Vd,QH];repeat (first|exact Or.inl hy|refine Or.inr ?_)) .nil,ap.cut (M:=[DM X w3 (kQ X.F X.G x.ak st a6 u).2,R++B3,aj (.slice gQ (kQ X.F X.G x.ak st a6 u).1.length eV) rows.flatten iW]) ZI (ap.perm Zs),w3,_,_,⟨rfl,ss.more (λy hy=>?_),yq (zT _) (jd.nil _) ((zZ bV bB).more (λy hy=>?_))⟩,rfl⟩
 .simp only[QH]at hy|-;rcases hy with hy|hy<;>simp only[hy,or_true,true_or]
 .simp only[QH]at hy|-;rcases hy with hy|hy|hy<;>simp only[hy,or_true,true_or]):P:=h
def zAS {P:Prop}(h:P:=by
 simp only[QH]at hy|-;rcases hy with hy|hy|hy<;>simp only[hy,or_true,true_or]):P:=h
def zAT {P:Prop}(h:P:=by
 have ZS:o.Subset l:=λx hx=>(bX x).2 (o3 x hx)
 have eT:=xJ o2;have Ad:l.length=ops.size:=by
  have:l.Perm (List.range ops.size):=(Qc s1 QY).2 (λx=>by simp[bX]);simpa using this.length_eq
 have hor:o.Perm (List.range ops.size):=by
  refine(Qc eT QY).2 (λx=>?_);refine⟨λhx=>by simpa using o3 x hx,λhx=>?_⟩;exact JA eT o3 o1 (by simpa using hx)
 exact hor.trans ((Qc s1 QY).2 (λx=>by simp[bX])).symm):P:=h
def zAU {P:Prop}(h:P:=by
 refine af ?_;refine jU ⟨.inr rfl,_,[kA X.wq 0 [.map (some X.fb),.map (some X.gb),ng],aj ng (U4.map λu=>kN (some u.q)) dR,[.obj X.fb (.map X.bS X.fc)],[.obj X.gb (.map X.bW X.gc)],WK U4 V4,T4,[.obj b (.map es c)],X.S,aj (.slice va (kQ X.F X.G ak D2.1 D2.2 i).1.length vc) rows.flatten uV++(B5++aj (.slice YV Fb.length YW) (Fb.map λb=>kN (some b)) lS)],.az (us:=jv (.slice YV Fb.length YW) (.slice va (kQ X.F X.G ak D2.1 D2.2 i).1.length vc)) Zr Zr (λy hy=>by simp only[Vd,QH];repeat (first|exact Or.inl hy|refine Or.inr ?_)) (.tmp Zr .nil),?_,⟨ng,dR,U4,V4,T4,_,⟨hS4,by rw[<- hqq];exact Rt,(sj.trans hp3).trans GJ,eB⟩,rfl⟩⟩;refine ap.cut (M:=[kA X.wq 0 [.map (some X.fb),.map (some X.gb),ng],aj ng (U4.map λu=>kN (some u.q)) dR,[.obj X.fb (.map X.bS X.fc)],[.obj X.gb (.map X.bW X.gc)],WK U4 V4,T4,[.obj b (.map es c)],X.S,aj (.slice va (kQ X.F X.G ak D2.1 D2.2 i).1.length vc) rows.flatten uV++B5,aj (.slice YV Fb.length YW) (Fb.map λb=>kN (some b)) lS]) ?_ (ap.perm Zs);exact bH):P:=h
def zAV {P:Prop}(h:P:=by
 refine af ?_;refine kM (jK _) Zr ZP (λv dl hv=>?_) (λch dl hz=>?_);rotate_left
 .obtain⟨hb,rfl,rfl⟩:=hz;exact⟨[A,bt lb m0 deep],ZI,by first|(simp[jS,kT,hb];done)|(simp at hb;simp[jS,kT,hb];done)|(simp at hb;simp[jS,kT];omega),rfl,m0,rfl⟩
 obtain⟨hb,rfl,rfl⟩:=hv;simp only[QV];refine af ?_;refine⟨⟨0,false,n,b,t,_,_⟩,⟨⟨_,_,rfl⟩,?_⟩,ZU,by rw[vU];exact bH⟩;simp[jS,kT,pF.ok,hb]):P:=h
def zAW {P:Prop}(h:P:=by
 simp only[QH]at hy|-;rcases hy with hy|hy<;>simp only[hy,or_true,true_or]):P:=h
def zAX {P:Prop}(h:P:=by
 refine af ?_;rw[<- hB];refine kH (SD st U Vs hR i v u y hu hy (H7 v hg3) hb) Zr ZP (λr dl hr=>?_);obtain⟨U',pG,⟨rfl,h6,h7,h7b,h8⟩,rfl⟩:=hr;simp only[aE];have hqo:xP pG v=xP Vs v:=by
  have e1:=congrArg (λl=>l[v]?) h8;simp only[Vu]at e1;unfold xP;rw[Vh,Vh];cases e2:pG[v]? <;> cases e3:Vs[v]? <;> rw[e2,e3]at e1<;>simp_all
 refine af ?_;rw[JY hk L7 gY];have og:uQ pG (wM v)=.tuple #[.agg rz.toArray,kE y.q]:=by
  unfold uQ wM;simp only[if_true];rw[show((v:Nat):Int).toNat=v from rfl,hqo,<- hyq];rfl
 exact jU ⟨.inr rfl,_,[kA wq 0 [.map (some fb),.map (some gb),us],[.obj fb (.map bS fc)],[.obj gb (.map bW gc)],WK U' pG,[.obj b (.map es c)]],.az (us:=rz) Zr Zr Zak (.tmp Zr .nil),ZI,U',pG,⟨hf,og.symm,h6,h7,h7b,h8⟩,rfl⟩):P:=h
def zAY {P:Prop}(h:P:=by
 refine af ?_;refine kR (us:=[.int .i64 (t1:Int),.int .i64 t2]) Zr (λz hz=>by have:=htc z hz;simp[this]) rfl ?_;refine af ?_;refine kH (oG T q st hF b qW.wf on ZT t1 t2) Zr ZP (λv dl hv=>?_);obtain⟨B1,rfl,rfl⟩:=hv;simp only[aE];refine af ?_;refine kV (out:=[.int .u8 5,.int .i64 (st.place on (t1,t2)),.int .i64 0,.string ⟨#[]⟩]) Zr Zr (λr=>?_);refine kX (k:=j) (m:=1) (xs:=(((st.a9 u).map λt=>(⟨5,st.place ((on:Int)).toNat t,0,e0⟩:wY)).take j).flatMap kS) (sp:=sp) (ys:=[.int .u8 5,.int .i64 (st.place on (t1,t2)),.int .i64 0,.string ⟨#[]⟩]) Zr Zr aM ZK Zr ?_ rfl Zr Zr Zd Zo (λbZ bf ax=>?_)
 .exact l9
 rw[cZ]at ax|-;obtain⟨dZ,ed,rfl⟩:=ax.form;refine af ?_;exact⟨(j+1,.slice dZ (j+1) ed,bf),⟨by simp only;omega,ax⟩,by simp only;omega,ZU,ZI⟩):P:=h
def zAZ {P:Prop}(h:P:=by
 refine af ?_;refine kH (oG T q st h b wf u hu x.cg (-1)) Zr ZP (λv dl hv=>?_);obtain⟨B1,rfl,rfl⟩:=hv;simp only[aE];refine af ?_;refine kH hls1 Zr ZP (λv0 dl hv=>?_);obtain⟨Fw,om,rfl⟩:=hv;simp only[aE];have NW:=Ny (aj v0 ((st.bi x.cg true).map λb:Nat=>Value.int .i64 (b:Int)) Fw) (st.bi x.cg true) v0 (fI rfl om) Zo v;obtain⟨Tg,Th,rfl⟩:=om.form;refine af ?_;refine kH NW Zr ZP (λv1 dl hv=>?_);obtain⟨rfl,rfl⟩:=hv;simp only[aE];refine af ?_;exact⟨.inr rfl,_,[T,B1],.az (us:=[.int .u8 6,.int .i64 (st.place u (x.cg,-1)),.int .i64 (dC (st.bi x.cg true) v),.string ⟨#[]⟩]) Zr Zr (λy hy=>by simp only[Vd,QH];repeat (first|exact Or.inl hy|refine Or.inr ?_)) .nil,ZI,_,by rw[KR];rfl,rfl⟩):P:=h
def Zx {P:Prop}(h:P:=by
 refine af ?_;exact kG (dl:=[A]) (.inr rfl) (.tmp Zr .nil) ⟨by simp[bU],rfl⟩ ZI):P:=h
def zB1 {P:Prop}(h:P:=by
 have hany:((List.range st.a7.length).map st.aG).any zM.SU=true:=vh.2 ⟨un,by rw[hune];exact QO.2 ⟨i,QS.2 cm,rfl⟩,by rw[hbg,vS,decide_eq_true_eq,decide_eq_true_eq];first|exact .inl cM|exact .inr mo⟩;rw[if_pos hany];refine af ?_;refine⟨.inr rfl,_,[A++(B1++(B2++(B3++B4)))],.az (us:=[.string ⟨#[]⟩,.int .i64 0,.slice none 0 0]) Zr Zr (λy hy=>by simp only[Vd,QH];repeat (first|exact Or.inl hy|refine Or.inr ?_)) (.az (us:=[.int .i64 183,.int .i64 0]) Zr Zr (λy hy=>by simp only[Vd,QH];repeat (first|exact Or.inl hy|refine Or.inr ?_)) .nil),ap.cut (M:=[(T++B3)++B4]) ZI (ap.perm (by rw[hT];simp)),_,⟨.slice none 0 0,rfl,wn.nil _⟩,rfl⟩):P:=h
def Tm {P:Prop}(h:P:=by
 exact kG (dl:=[A]) (.inr rfl) (.tmp Zr .nil) ⟨by rw[dw];rfl,rfl⟩ ZI):P:=h
def zB3 {P:Prop}(h:P:=by
 refine af ?_;refine kR (us:=[.int .i64 (e:Int),.int .i64 p]) Zr (λz hz=>by
  obtain⟨k,v,hk,rfl⟩:=kI.1 hz;simp only[Vd,QH]
  match k,hk with
  |0,hk=>obtain rfl:=X8 hk;simp[m7]
  |1,hk=>obtain rfl:=X8 hk;simp[m8]) rfl ?_
 refine af ?_;exact⟨.inr rfl,_,[A++B1],.az (us:=[.string ⟨#[]⟩,.int .i64 0,.slice none 0 0]) Zr Zr (λy hy=>by simp only[Vd,QH];repeat (first|exact Or.inl hy|refine Or.inr ?_)) (.az (us:=[.int .i64 (e:Int),.int .i64 p]) Zr Zr (λy hy=>by simp only[Vd,QH];repeat (first|exact Or.inl hy|refine Or.inr ?_)) .nil),ZI,B1,⟨.slice none 0 0,by rw[if_neg cz,if_neg cz];rfl,wn.nil _⟩,rfl⟩):P:=h
def zB4 {P:Prop}(h:P:=by
 refine(D5 hpo).imp_of_mem (λ{x y} hx hy h=>?_);simp only[vS]at h;rcases h with(h|h)|h
 .left;simp only[oW]at h;split at h
  .rename_i p q hp hq;simp only[Vh,hp,hq,X3];exact h
  .cases h
 .right;exact(hanc (o3 y hy) (vr.1 h)).sub
 .right;exact(Ua h).trans List.filter_sublist):P:=h
def zB5 {P:Prop}(h:P:=by
 rw[Vi]at hy hs;rw[h.len]at hs;split at hy
 .rename_i hi;rw[if_pos hi]at hs;exact h.rd i y s hy hs
 .rename_i hi;rw[if_neg hi]at hs;have:=(Vt.1 hy).1;simp only[QA]at this;have e:i-l.length=0:=by omega
  rw[e]at hy hs;obtain rfl:x=y:=by simpa using hy
  obtain rfl:r=s:=by simpa using hs
  exact hx):P:=h
def Z7 {P:Prop}(h:P:=by
 refine af ?_;refine kG (dl:=[]) (.inr rfl) (.tmp Zr .nil) ⟨by rw[hf];rfl,rfl⟩ ZI):P:=h
def Ds {P:Prop}(h:P:=by
 refine af ?_;exact⟨(),trivial,ZU,ZI⟩):P:=h
def zB8 {P:Prop}(h:P:=by
 obtain⟨dZ,ed,rfl⟩:=ax.form;refine af ?_;exact⟨(j+1,.slice dZ (j+1) ed,bf),⟨by simp only;omega,ax⟩,by simp only;omega,ZU,ZI⟩):P:=h
def zB9 {P:Prop}(h:P:=by
 refine af ?_;refine kH xC Zr ZP (λv dl hv=>?_);obtain⟨Fw,om,rfl⟩:=hv;simp only[aE];obtain⟨Tg,Th,rfl⟩:=om.form;refine af ?_;exact kG (dl:=[T,aj (.slice Tg (st.bi u false).length Th) ((st.bi u false).map λb:Nat=>Value.int .i64 (b:Int)) Fw]) (.inr rfl) (.tmp Zr .nil) ⟨_,by rw[mr];rfl,rfl⟩ ZI):P:=h
def zBA {P:Prop}(h:P:=by
 obtain⟨_,h2⟩:=Hb e;simp only[Nat.sub_zero]at h2;have aI:t<a5.length:=(Vt.1 h2).1;simp only[Array.getElem?_append,List.size_toArray,aI,if_true];simpa using h2):P:=h
def zBB {P:Prop}(h:P:=by
 refine af ?_;refine kZ Zr (λq=>?_);simp only[Value.cells];refine af ?_;by_cases h1:k=2
 .rw[show decide ((k:Int)=2)=true from Zt Zo];refine af ?_;refine kG (dl:=[]) (.inr rfl) (.tmp Zr .nil) ⟨?_,rfl⟩ ZI;have:(s=⟨#[115,117,112,101,114]⟩)↔kB s=[115,117,112,101,114]:=⟨λe=>by rw[e];rfl,λe=>jY (by rw[e];rfl)⟩;simp[bU,zY,h1,this]
 .rw[show decide ((k:Int)=2)=false from Zf Zo];refine af ?_;refine kG (dl:=[]) (.inr rfl) (.tmp Zr .nil) ⟨by simp[bU,zY,h1],rfl⟩ ZI):P:=h
def zBC {P:Prop}(h:P:=by
 refine af ?_;refine kR Zr (λz hz=>by have h9:=hR z (hr0m z hz);simp[h9]) rfl ?_;refine af ?_;refine kH (xW (R++B3) r _ (hrr.more (λy hy=>Zw _ (hR y hy)))) Zr ZP (λv dl hv=>?_);obtain⟨rfl,rfl⟩:=hv;simp only[aE];refine af ?_;refine zr (us:=[.bool (kg r)]) Zr Zr Zr Zr Zr (.there (.there (Kv.Yk (i:=(j+1)*11+9) Zo ?_))) ?_
 .have cf:=ew (zQ (b:=kg r) (j:=j) bB.w);rw[jg]at cf;rw[Vz,cf];omega
 rw[uw];refine af ?_;exact⟨j+1,Zo,Zo,ZU,ZI⟩):P:=h
def zBD {P:Prop}(h:P:=by
 rintro e w' ⟨dl,h5,Ib,hk⟩
 have Al:Sat w' ((dl++R).flatten++F):=by rw[Vc,vj];exact Ib
 rcases h5 with⟨v,rfl,hQ⟩|⟨ch,rfl,hQ⟩
 .refine .inl ⟨v,rfl,?_⟩;rw[<- g2];exact h v dl hQ l' Ad _ w' F ZZ Q' (ha.au g3 v) Al (λa2 w2 cL H2 k1 k2 k3 k4 k5=>hq a2 w2 cL H2 k1 k2 (k3.trans (jp ..)) k4 (hk.trans k5)) (λch a2 w2 cL H2 k1 k2 k3 k4 k5=>hz ch a2 w2 cL H2 k1 k2 (k3.trans (jp ..)) k4 (hk.trans k5))
 .exact .inr ⟨ch,rfl,hz ch a w' Γ _ (Ml ch dl hQ) ha rfl Al hk⟩):P:=h
def zBE {P:Prop}(h:P:=by
 rw[<- vj,<- vj];exact vZ _ QZ):P:=h
def zBF {P:Prop}(h:P:=by
 simp only[qg];refine V7.2 (λi hi=>?_);have:=QS.1 hi;simp[this]):P:=h
def zBG {P:Prop}(h:P:=by
 refine af ?_;refine kG (dl:=[]) (.inr rfl) (.tmp Zr .nil) ⟨by rw[hb];rfl,rfl⟩ ZI):P:=h
def zBH {P:Prop}(h:P:=by
 refine af ?_;have hr:=fG (F:=F) (G:=G) (st:=st) (a6:=a6) (nm:=nm) (u:=i) (p:=p) (put:=decide (k=3)) (by rw[hk];decide);rw[hr,hk];exact jU ⟨.inr rfl,_,[kA wq 0 [.map (some fb),.map (some gb),us],[.obj fb (.map bS fc)],[.obj gb (.map bW gc)],WK U Vs,[.obj b (.map es c)]],.az (us:=kS ⟨1,0,0,e0⟩) Zr Zr (λy hy=>by simp only[Vd,QH];exact .inl hy) (.tmp Zr .nil),ZI,U,Vs,⟨hf,rfl,hR,rfl,rfl,rfl⟩,rfl⟩):P:=h
def zBI {P:Prop}(h:P:=by
 generalize fp (kB s)=z at eS|-;refine af ?_;by_cases he:z=(kB s).length
 .rw[Zt (show((z:Nat):Int)=(s.size:Int) by omega)];rw[if_pos he]at eS;refine af ?_;rw[eS];exact⟨.inr rfl,[vi 1],[],.cC (v:=vi 1) Zr Nt .nil,ap.nil,⟨rfl,rfl⟩⟩
 .rw[Zf (show ¬((z:Nat):Int)=(s.size:Int) by omega)];rw[if_neg he]at eS;refine af ?_;rw[eS];exact⟨.inr rfl,[vi (-1)],[],.cC (v:=vi (-1)) Zr Nt .nil,ap.nil,⟨rfl,rfl⟩⟩):P:=h
def zBJ {P:Prop}(h:P:=by
 subst hH;exact st_eqI (bC 5 Zd _ rfl) (bC 8 Zd _ rfl) (by simp only[cM]) (VO.nil ⟨rfl,rfl,trivial⟩)):P:=h
def zBK {P:Prop}(h:P:=by
 refine af ?_;refine kH hc Zr ZP (λv dl hv=>?_);obtain⟨rfl,rfl⟩:=hv;simp only[aE];refine af ?_;refine kM (jK _) Zr ZP (λv dl hv=>?_) (λch dl hz=>?_)
 .obtain⟨h1,rfl,rfl⟩:=hv;simp only[QV];refine af ?_;exact jU (kG (dl:=[B,bt lb true deep]) (.inl rfl) .nil ⟨by simpa using h1,rfl,rfl⟩ ZI)
 .obtain⟨h1,rfl,rfl⟩:=hz;exact⟨[B,bt lb true deep],ZI,by simpa using h1,rfl,true,rfl⟩):P:=h
def zBL {P:Prop}(h:P:=by
 refine af ?_;by_cases h:k<s.size
 .rw[Zt Zo];obtain⟨c,hc,pQ⟩:=wD h;refine af ?_;refine wL Zr Zr (j:=k) rfl hc ?_;refine af ?_;refine⟨.inr rfl,_,_,.tmp Zr .nil,ZI,?_,rfl⟩;simp[bU,Vh,pQ]
 .rw[Zf Zo];refine af ?_;refine⟨.inr rfl,_,_,.tmp Zr .nil,ZI,?_,rfl⟩;have:(kB s)[k]? =none:=Vp (by rw[kY];omega);simp[bU,Vh,this]):P:=h
def zBM {P:Prop}(h:P:=by
 rintro dl rfl
 refine⟨.inr rfl,[.agg #[.string e0,.int .i64 0,.slice none 0 0],.iface 80 (kE q)],[S,jT q e p],.az (us:=[.string e0,.int .i64 0,.slice none 0 0]) Zr Zr (λy hy=>by simp only[vq,QV,Vd,QH];repeat (first|exact Or.inl hy|refine Or.inr ?_)) (.cC Zr (by simp[kA,IT]) .nil),by simp only[aE];exact bH,.inr ⟨e,p,q,DH.trans hae,he0,rfl,rfl⟩⟩):P:=h
def zBN {P:Prop}(h:P:=by
 refine af ?_;refine gH Zr Zr hcat ?_;refine af ?_;refine⟨.inr rfl,_,_,.az (us:=[cv 5,vi 0,uv 0,.string (⟨#[45]⟩++t),.slice none 0 0]) Zr Zr Kw .nil,ZI,.inr ⟨DK,_,rfl,by rw[pO];rfl⟩,rfl⟩):P:=h
def zBO {P:Prop}(h:P:=by
 rw[hk x Zs];have hkb:iN 7 (l++[x]).length (0+l.length) x=(!kg x&&decide (x.kind≠6)):=by
  unfold iN;rw[Zt (show 0+l.length+1=(l++[x]).length by simp)];by_cases h6:x.kind=6<;>simp[h6]
 rw[hkb];by_cases h9:x.kind=9
 .rw[if_pos h9];have:kg x=false:=by rw[vK];intro h;have:=gI h;omega
  simp[this,h9]
 .rw[if_neg h9,lV,l1]
  congr 1
  simp[yZ,h9]):P:=h
def zBP {P:Prop}(h:P:=by
 refine af ?_;refine kL hsg Zr ?_;refine af ?_;by_cases he:z=(kB s).length
 .rw[Zt (show((z:Nat):Int)=(s.size:Int) by omega)];rw[if_pos he]at S0;refine af ?_;refine⟨.inr rfl,_,_,.tmp Zr .nil,ZI,?_,rfl⟩;rw[S0];rfl
 .rw[Zf (show ¬((z:Nat):Int)=(s.size:Int) by omega)];rw[if_neg he]at S0;refine af ?_;refine⟨.inr rfl,_,_,.tmp Zr .nil,ZI,?_,rfl⟩;rw[S0];rfl):P:=h
def zBQ {P:Prop}(h:P:=by
 refine VO.read rfl rfl (λρ aU=>⟨_,rfl,λF w hs=>?_⟩) h;rw[aU _ _ hx,aU _ _ hy];have hm:∀c∈H.flatten,c∈H.flatten++F:=λc hc=>Zw _ hc
 have:=Fo (P:=P) hs ht hi hz (ha.more hm) (hb.more hm) 9999;have h2:(Op.equal t (.pointer (some ⟨a,0,none⟩)) (.pointer (some ⟨b,0,none⟩))).run P w=.ok (decide (a=b)) w:=this;rw[Sem.run_bind,yo Zs Zs];simp[Go.binOp,h2]):P:=h
def zBR {P:Prop}(h:P:=by
 have p0:=zd e0;have p1:=zd e1;have p2:=zd e2;have p3:=zd e3;have p4:=zd e4;obtain⟨a0,a1,a2,a3,a4,rfl⟩:∃a0 a1 a2 a3 a4,cs=[a0,a1,a2,a3,a4]:=by
  match cs,hlen with
  |[a0,a1,a2,a3,a4],_=>exact⟨a0,a1,a2,a3,a4,rfl⟩
 simp only[Vn,Vm,X9]at p0 p1 p2 p3 p4;rw[p0,p1,p2,p3,p4,hl]):P:=h
def zBS {P:Prop}(h:P:=by
 have hzl:(rs.zip ops.toList).length=ops.size:=by simp[hlen]
 apply vz;intro i;simp only[Vu];by_cases hi:i<ops.size
 .rw[Vw hi,X7];rw[Vh];have:i<(rs.zip ops.toList).length:=by omega
  rw[Zg this];rfl
 .rw[Vp (l:=List.range ops.size) (by simpa using hi),Vp Zo];rfl):P:=h
def zBT {P:Prop}(h:P:=by
 have hf:jL (kd s)=1:=by rw[h];rfl
 have e1:zB s=11:=by simp[zB,h]
 have e2:yA s=s:=by simp[yA,h]
 rw[e1,e2];rw[show decide ((jL (kd s):Int)=0)=false from Zf Zo];refine af ?_;rw[show decide (s=⟨#[116,111,58,100,111,58]⟩)=false from Zf (λe=>by have:=hto.1 e;omega)];refine af ?_;exact⟨(),trivial,ZU,by simp only[e0];exact ap.refl _⟩):P:=h
def zBU {P:Prop}(h:P:=by
 intro k
 induction k with
 |zero=>intro i acc w1 r w2 h;simp[loadCellsFrom]at h;exact h.2.symm
 |succ k ih=>
  intro i acc w1 r w2 h;simp only[loadCellsFrom,Sem.run_bind]at h;obtain⟨v,w3,h1,h2⟩:=jH h;have hw:w3=w1:=by
   simp only[Go.load,Sem.run]at h1;split at h1
   .cases h1;rfl
   .split at h1<;>cases h1;rfl
  rw[ih _ _ _ _ _ h2,hw]):P:=h
def zBV {P:Prop}(h:P:=by
 refine af ?_;exact kG (dl:=[A]) (.inr rfl) (.tmp Zr .nil) ⟨rfl,rfl⟩ ZI):P:=h
def zBW {P:Prop}(h:P:=by
 rintro e w' ⟨rfl,rfl⟩
 have hp:=Sat.push hs (.map es c) [.obj w.heap.size (.map es c)] (λx hx=>by
  obtain rfl:=QU.1 hx;exact⟨rfl,Zs,rfl⟩) Zs
 refine⟨_,_,rfl,⟨_,rfl,rfl⟩,?_,hp.2⟩;refine hp.1.perm ?_;simp only[Vd,Ve,vm,vq,QV];exact List.Perm.swap _ _ _):P:=h
def zBX {P:Prop}(h:P:=by
 refine(Qc (s1.filter _) (xJ hd)).2 (λx=>?_);simp only[QM,bX,vr];exact⟨λh=>h.2,λh=>⟨hdlt x h,h⟩⟩):P:=h
def zBY {P:Prop}(h:P:=by
 rw[vK];intro h;rw[vr]at h;simp only[gJ,QJ,List.not_mem_nil,or_false]at h;rcases h with h|h|h|h|h
 .exact h1 (jY (by rw[h];rfl))
 .exact h2 (jY (by rw[h];rfl))
 .exact h3 (jY (by rw[h];rfl))
 .exact h4 (jY (by rw[h];rfl))
 .exact h5 (jY (by rw[h];rfl))):P:=h
def zBZ {P:Prop}(h:P:=by
 intro x hx;obtain⟨i,hi⟩:=Vv hx;have Gx:i<(rs.zip ops.toList).length:=(Vt.1 hi).1;have hi3:i<ops.size:=by simp[hlen]at Gx;omega
 obtain⟨g1,g2,g3⟩:=zJ h1 hi3;have:(rs.zip ops.toList).getD i default=x:=by rw[Vh,hi];rfl
 rw[this]at g3;exact⟨ops,g3⟩):P:=h
def zC0 {P:Prop}(h:P:=by
 exact⟨.inr rfl,[vi (-1)],[],.cC (v:=vi (-1)) Zr Nt .nil,ap.nil,⟨rfl,rfl⟩⟩):P:=h
def zC1 {P:Prop}(h:P:=by
 subst hH;exact ti (bC 10 Zd _ rfl) (Ys rfl (bC 12 Zd _ rfl) (by simp only[mo]) (VO.nil ⟨rfl,rfl,trivial⟩))):P:=h
def zC2 {P:Prop}(h:P:=by
 refine af ?_;exact kG (dl:=[A]) (.inr rfl) (.tmp Zr .nil) ⟨by rw[stop _ (by rw[Zf Zo];rfl)];rfl,rfl⟩ ZI):P:=h
def zC3 {P:Prop}(h:P:=by
 show wI P ZZ (⟨d,some (s,b),r⟩,o) (cK P ZZ Q l') a w;unfold wI;rw[if_neg (by simp[hw])];exact h l' Ad _ w F ZZ Q (ha.au g3 undef) lD (λa2 w2 cL H2 k1 k2 k3 k4 k5=>hq a2 w2 cL H2 k1 k2 (k3.trans (jp ..)) k4 k5) (λch a2 w2 cL H2 k1 k2 k3 k4 k5=>hz ch a2 w2 cL H2 k1 k2 (k3.trans (jp ..)) k4 k5)):P:=h
def zC4 {P:Prop}(h:P:=by
 refine af ?_;refine kM aw Zr ZP (λv dl hv=>?_) (λch dl hz=>?_)
 .obtain⟨ng,dR,U4,V4,T4,B4,⟨hS4,_⟩,_⟩:=hv;have:=hS4.ok;rw[ZN]at this;cases this
 .obtain⟨q1,e1,p1,cM,rfl,rfl⟩:=hz;refine⟨[X.S,jT q1 e1 p1],ZI,q1,e1,p1,?_,rfl,rfl⟩;rw[wu];exact cM):P:=h
def zC5 {P:Prop}(h:P:=by
 refine af ?_;rw[fG (F:=X.F) (G:=X.G) (st:=st) (a6:=a6) (nm:=nm) (u:=u) (p:=p) (put:=put) (by rw[hk];decide),hk];exact⟨.inr rfl,_,[DM X w st,R],.az (us:=kS ⟨1,0,0,e0⟩) Zr Zr (λy hy=>by simp only[Vd,QH];exact .inl hy) .nil,ZI,w,⟨rfl,hw⟩,rfl⟩):P:=h
def zC6 {P:Prop}(h:P:=by
 obtain⟨q1,SV,p1,cM,rfl,rfl⟩:=hz;exact⟨[X.S,jT q1 SV p1],ZI,q1,SV,p1,iK _ cM,rfl,rfl⟩):P:=h
def zC7 {P:Prop}(h:P:=by
 simp only[wd,X9]at hs;subst hs;simpa[execOp]using hr):P:=h
def zC8 {P:Prop}(h:P:=by
 rw[<- g2];refine h v dl hQ l' Ad _ w' F ZZ Q' (ha.au g3 v) ?_ (λa2 w2 cL H2 k1 k2 k3 k4 k5=>hq a2 w2 cL H2 k1 k2 (k3.trans (jp ..)) k4 (hk.trans k5)) (λch a2 w2 cL H2 k1 k2 k3 k4 k5=>hz ch a2 w2 cL H2 k1 k2 (k3.trans (jp ..)) k4 (hk.trans k5));rw[Vc,vj];exact Ib):P:=h
def zC9 {P:Prop}(h:P:=by
 refine⟨rfl,vi 0,False,λΓ H bC hH=>?_,?_⟩
 .subst hH;refine kM hvz (by simp only[V.nW,V.ev,bC 12 Zd _ rfl,bC 13 Zd _ rfl,bC 15 Zd _ rfl]) ZP (λv dl hv=>hv.elim) (λch dl hz=>?_);obtain⟨rfl,m,rfl⟩:=hz;exact⟨rfl,m,ZI⟩
 refine kK ?_;exact λhh=>by simp at hh):P:=h
def zCA {P:Prop}(h:P:=by
 rename_i i hu hi;simp only[X5]at h1;obtain⟨r',h3,rfl⟩:=h1;cases h2 with
 |az k1 k2 k3 k4=>
  simp only[List.mapM_cons,Sem.run_bind,Gv,slot k1,asAddr,Sem.run_pure,Result.andThen_ok,loadVar,eE hu,if_true,kw hi,run_loadCells k2 k3 hs,ih r' _ f hf Gv h3 k4]):P:=h
def zCB {P:Prop}(h:P:=by
 rw[Zt h2];refine af ?_;refine kM (jK true) Zr ZP (λv dl hv=>?_) Kx;obtain⟨_,rfl,rfl⟩:=hv;simp only[QV];refine af ?_;refine⟨⟨0,false,0,b,t,_,_⟩,⟨⟨_,_,rfl⟩,?_⟩,ZU,by rw[vU];exact bH⟩;simp[jS,kT,pF.ok,h1,h2]):P:=h
def zCC {P:Prop}(h:P:=by
 refine af ?_;refine⟨.inr rfl,_,_,.az (us:=[cv 5,vi 0,uv 0,.string t,.slice none 0 0]) Zr Zr Kw .nil,ZI,.inr ⟨DK,_,rfl,rfl⟩,rfl⟩):P:=h
def zCD {P:Prop}(h:P:=by
 refine af ?_;refine⟨.inr rfl,_,_,.az (us:=[cv 0,vi 0,uv 0,.string ⟨#[]⟩,.slice none 0 0]) Zr Zr Kw (.tmp Zr .nil),ZI,NT hb,rfl⟩):P:=h
def zCE {P:Prop}(h:P:=by
 refine af ?_;refine kL (iS aX bR) Zr ?_;refine af ?_;refine kH Jk.fun Zr ZP (λv dl hv=>?_);obtain⟨rfl,rfl⟩:=hv;simp only[aE];refine af ?_;refine jU (kG (dl:=[A,bt lb (m0||m2) deep]) (.inr rfl) (.tmp Zr .nil) ⟨d,m2,rfl,rfl,rfl⟩ ZI)):P:=h
def zCF {P:Prop}(h:P:=by
 rw[hr]at aw;simp only[bU,hr,Zt h2,hl,aw,vV,Value.bool.injEq];rw[<- hr,hlen]
 (rw[vL];simp only[vS,vG,vP,decide_eq_true_eq,decide_eq_false_iff_not,true_iff,iff_true,reduceCtorEq,false_iff,iff_false];omega)):P:=h
def zCG {P:Prop}(h:P:=by
 obtain⟨ng,dR,U4,V4,T4,B4,⟨hS4,_⟩,_⟩:=hv;have:=hS4.ok;rw[ZN]at this;cases this):P:=h
def zCH {P:Prop}(h:P:=by
 rcases Nat.lt_or_ge i w.heap.size with h|h
 .exact h
 .rw[Array.getElem?_eq_none h]at hb;cases hb):P:=h
def zCI {P:Prop}(h:P:=by
 rw[Vu]at hi;obtain⟨f,KQ,Gv⟩:=X5.1 hi;cases Gv;exact hfld i f (by rw[<- KQ,vC])):P:=h
def zCJ {P:Prop}(h:P:=by
 simp only[QE,QG,cP,fO,pu,k1];show _=[Value.int .u8 (k.toNat:Nat),.string s,.int .u8 (lk.toNat:Nat),.int .i64 ln,.int .u64 (lb.toNat:Nat),_,_,_,_,_,_];rw[vX b1,vX b3,vX b5]):P:=h
def zCK {P:Prop}(h:P:=by
 cases lX:x.ak with
 |nil=>rw[lX]at sq;cases sq
 |cons y l=>rw[lX]at sq;obtain rfl:y=r:=by simpa using sq
            rfl):P:=h
def zCL {P:Prop}(h:P:=by
 have hf:jL (kd s)=0:=by rw[h];rfl
 have e1:zB s=12:=by simp[zB,h]
 have e2:yA s=s:=by simp[yA,h]
 rw[e1,e2];rw[show decide ((jL (kd s):Int)=0)=true from Zt Zo];refine af ?_;exact⟨(),trivial,ZU,by simp only[e0];exact ap.refl _⟩):P:=h
def zCM {P:Prop}(h:P:=by
 intro hl i st a6 u;simp only[Nd.ay]at hl;obtain⟨h1,h2⟩:=ih x Zo st a6 u;cases h:zc s i with
 |true=>rw[yF _ _ _ _ _ _ _ _ _ h];exact h2.trans (tC Zo (i+1) _ a6 u)
 |false=>rw[zP _ _ _ _ _ _ _ _ _ h];exact h1.trans (tC Zo (i+1) _ a6 u)):P:=h
def zCN {P:Prop}(h:P:=by
 rw[rls];simp only[Sem.run_bind,XE,parts44,Result.andThen];simp[ReflectliteValue.flagAddr,loadVar,isAgg,underlying,Tryz.underlying44,hb,Result.andThen,Uo,storeVar,Value.cells,storeCells,Addr.add];rw[run_store Tryz.prog W ta _ _ Zr];simp[ht,hf]):P:=h
def zCO {P:Prop}(h:P:=by
 refine af ?_;exact kG (dl:=[T,[]]) (.inr rfl) (.tmp Zr .nil) ⟨[],by rw[mr];rfl,rfl⟩ (ap.cut (M:=[T]) ZI (ap.perm Zs))):P:=h
def zCP {P:Prop}(h:P:=by
 refine af ?_;exact kG (dl:=[A]) (.inr rfl) (.tmp Zr .nil) ⟨by rw[i2];rfl,rfl⟩ ZI):P:=h
def zCQ {P:Prop}(h:P:=by
 obtain⟨k1,k2⟩:=aw ak hk st a6 u h hu he;exact⟨k1,cq _ _ _ _ _ _ _ k2⟩):P:=h
def zCR {P:Prop}(h:P:=by
 rw[Vh,Vl (Qs _),Qy];rfl):P:=h
def zCS {P:Prop}(h:P:=by
 simp only[kb]at hv;split at hv<;>try (cases hv;done)
 rename_i cs k m hx hi;split at hv<;>try (cases hv;done)
 rename_i hb;simp at hv;subst hv;simp[execOp,Instr.index,kF hs,hx,hi,asIntOf,hb,kw hj,part,eE hu]):P:=h
def zCT {P:Prop}(h:P:=by
 refine af ?_;refine⟨.inr rfl,_,_,.tmp Zr .nil,ZI,?_,rfl⟩;rfl):P:=h
def zCU {P:Prop}(h:P:=by
 rw[Zt g0];refine af ?_;exact⟨true,by rw[g0];decide,ZU,by subst SZ;exact bH⟩):P:=h
def zCV {P:Prop}(h:P:=by
 refine af ?_;refine⟨.inr rfl,_,_,.tmp Zr .nil,ZI,?_,rfl⟩;simp[bU,pK,hl]):P:=h
def zCW {P:Prop}(h:P:=by
 rcases QJ.1 h with rfl|h
 .omega
 .have:=ih h;omega):P:=h
def zCX {P:Prop}(h:P:=by
 refine af ?_;refine⟨⟨true,n,b,⟨#[]⟩,_,_⟩,⟨⟨_,_,rfl⟩,?_⟩,ZU,ZI⟩;simp only[hz];simp[jS,sm]):P:=h
def zCY {P:Prop}(h:P:=by
 intro l
 induction l with
 |nil=>simp
 |cons o r ih=>
  rw[VV,Vz,Q0,Nat.succ_mul];have h1:=Q5 (st.aD u) (st.things o);rw[gK]at h1;have:=h o;omega):P:=h
def zCZ {P:Prop}(h:P:=by
 refine af ?_;refine kH hcut Zr ZP (λv dl hv=>?_);obtain⟨t,rfl,h1,h2,rfl⟩:=hv;simp only[QV];refine af ?_;refine kG (dl:=[]) (.inr rfl) (.tmp Zr (.tmp Zr .nil)) ⟨t,rfl,h1,h2,rfl⟩ ZI):P:=h
def zD0 {P:Prop}(h:P:=by
 refine af ?_;refine kG (dl:=[]) (.inr rfl) (.tmp Zr .nil) ⟨rfl,rfl⟩ ZI):P:=h
def zD1 {P:Prop}(h:P:=by
 exact kG (dl:=[A]) (.inr rfl) (.tmp Zr .nil) ⟨by rw[eB];rfl,rfl⟩ ZI):P:=h
def zD2 {P:Prop}(h:P:=by
 refine⟨Zs,λx hx=>?_⟩;obtain⟨i,v,hi,rfl⟩:=kI.1 hx;rw[Vu]at hi;obtain⟨u,hu,rfl⟩:=X5.1 hi;obtain⟨b2,o2,h1,h2,_⟩:=hr i u hu;cases h1;simpa using h2):P:=h
def zD3 {P:Prop}(h:P:=by
 simp only[aE];refine af ?_;refine⟨(j+1,r'),⟨by simp only;omega,by simp only;omega,by simp only;unfold wN;omega,λhh=>by simp only at hh|-;have:=h9 hh;rw[df];omega⟩,by simp only;omega,ZU,ZI⟩):P:=h
def zD4 {P:Prop}(h:P:=by
 rw[vt aI]
 congr 1
 exact(Vt.1 hy).2):P:=h
def zD5 {P:Prop}(h:P:=by
 obtain⟨rfl,hi⟩:=hp;exact⟨[bt lb false false,A],ap.cut hi ZI,rfl,false,false,[A],rfl,aN,rfl⟩):P:=h
def zD6 {P:Prop}(h:P:=by
 subst hH;exact kL (fU aX bR) Zat Iq):P:=h
def zD7 {P:Prop}(h:P:=by
 rcases Nat.lt_or_ge t.block w.heap.size with h|h
 .exact h
 .simp[World.cell?,Array.getElem?_eq_none h]at ht0):P:=h
def zD8 {P:Prop}(h:P:=by
 cases h with
 |mk wf hl bI bL ha hm hr=>
  obtain⟨_,_,rfl,_⟩:=bI;obtain⟨_,_,rfl,_⟩:=bL;cases hl with
  |mk Tj Gp rT de=>exact⟨_,_,_,_,_,_,_,_,_,_,_,_,_,_,_,_,rfl⟩):P:=h
def zD9 {P:Prop}(h:P:=by
 refine(vZ _ QZ).trans ?_;rw[vj];exact vd _):P:=h
def zDA {P:Prop}(h:P:=by
 obtain⟨x,hx,he⟩:=QO.1 hm;obtain⟨i,v,hi,rfl⟩:=kI.1 hx;simp only[kC.loc,XA,X9,true_and]at he;have:=(Vt.1 hi).1;omega):P:=h
def zDB {P:Prop}(h:P:=by
 cases ak with
 |nil=>exact hk
 |cons x r=>simp only[Nd.ay]at hk;simp only[List.tail_cons];omega):P:=h
def zDC {P:Prop}(h:P:=by
 refine af ?_;refine⟨⟨0,false,n,b,⟨#[]⟩,_,_⟩,⟨⟨_,_,rfl⟩,?_⟩,ZU,by rw[vU];exact bH⟩;simp[jS,kT,pF.ok,show(⟨#[]⟩:ByteArray).size=0 from rfl]):P:=h
def zDD {P:Prop}(h:P:=by
 simp only[V.marks,QE];rw[<- vj,<- vj];exact Qd):P:=h
def zDE {P:Prop}(h:P:=by
 rw[World.cell?_alloc_lt _ _ ⟨0,0,none⟩ Zs,World.cell?_alloc_lt _ _ ⟨0,0,none⟩ aI];exact hg):P:=h
def zDF {P:Prop}(h:P:=by
 intro h;split at h
 .assumption
 .repeat' (split at h)
  all_goals omega):P:=h
def zDG {P:Prop}(h:P:=by
 refine⟨Y++R,?_,λu' X' h'=>?_⟩
 .rw[<- vj];exact h1.trans (vZ _ hx)
 .rw[<- vj];exact(h2 u').trans (vZ _ h')):P:=h
def zDH {P:Prop}(h:P:=by
 refine af ?_;refine⟨⟨inside,n,b,t,_,_⟩,⟨⟨_,_,rfl⟩,?_⟩,ZU,ZI⟩;simp[jS,sm]):P:=h
def zDI {P:Prop}(h:P:=by
 simp only[kb]at hv;split at hv<;>try (cases hv;done)
 rename_i cs hx;simp at hv;subst hv;simp[execOp,Instr.field,kF hs,hf,hx,asAgg,part,eE hu,kw hj]):P:=h
def zDJ {P:Prop}(h:P:=by
 intro x hx;rw[<- L5]at hx;simp only[IF,QM,QS]at hx;exact hx.1):P:=h
def zDK {P:Prop}(h:P:=by
 rw[Zf Zo];refine af ?_;refine⟨.inr rfl,_,_,.tmp Zr .nil,ZI,?_,rfl⟩;have h2:¬(c.toNat::r).length<=40:=by rw[<- hr];omega
 simp only[bU,hr,Zf h2,vM]):P:=h
def zDL {P:Prop}(h:P:=by
 rcases QJ.1 hx with rfl|hx
 .exact⟨rfl,_,_,_,_,hb,Zs,Zo⟩
 .obtain⟨i,v,hi,rfl⟩:=kI.1 hx;exact⟨rfl,_,_,_,_,hb,by simpa using hi,Zo⟩):P:=h
def zDM {P:Prop}(h:P:=by
 refine kZ Zr (λq=>?_);simp only[Value.cells];refine af ?_;exact⟨q,trivial,ZU,ZI⟩):P:=h
def zDN {P:Prop}(h:P:=by
 refine af ?_;exact kG (dl:=[A]) (.inr rfl) (.tmp Zr .nil) ⟨by simp[bU,h1],rfl⟩ ZI):P:=h
def zDO {P:Prop}(h:P:=by
 intro F w hs;refine⟨h.1,?_⟩;have aw:first++a5.toArray++cap=(first.toList++a5++cap.toList).toArray:=by
  apply vD.1;simp
 rw[aw];exact h.2 F w hs):P:=h
def zDP {P:Prop}(h:P:=by
 rw[Zf (show ¬(s.size:Int)≥1 by omega)];refine af ?_;refine⟨.inr rfl,_,_,.tmp Zr .nil,ZI,?_,rfl⟩;have:kB s=[]:=Q4.1 Zo;simp[bU,this]):P:=h
def zDQ {P:Prop}(h:P:=by
 obtain⟨d,m2,he,rfl,rfl⟩:=hv;simp only[aE];refine af ?_;refine jU (kG (dl:=[A,bt lb (m0||m2) deep]) (.inr rfl) (.tmp Zr .nil) ⟨d,m2,he,rfl,rfl⟩ ZI)):P:=h
def zDR {P:Prop}(h:P:=by
 simp only[zV,X5]at h;obtain⟨x,h1,rfl⟩:=h;exact⟨b,rfl,h1⟩):P:=h
def zDS {P:Prop}(h:P:=by
 obtain⟨hb,rfl,m2,rfl⟩:=hz;exact⟨[A,bt lb m2 deep],ZI,by simp[cE,zb.ok,w8,kT,z4,Lt.kind,Lt.n,Lt.bits,Lt.text,Lt.ci,H5,hb],rfl,m2,rfl⟩):P:=h
def zDT {P:Prop}(h:P:=by
 simp only[mS,QJ,QH]at h;simp only[kb,h x (.inl rfl),lI (λy hy=>h y (.inr (.inl hy))),lI (λy hy=>h y (.inr (.inr hy)))]):P:=h
def zDU {P:Prop}(h:P:=by
 simp only[ja];refine QD (λp hp=>?_);obtain⟨a,b,c⟩:=p;have hc:=vf.1 hk c (QO.2 ⟨_,hp,rfl⟩);simp[UF hc aU]):P:=h
def zDV {P:Prop}(h:P:=by
 intro e he;rw[Array.toList_push,QH]at he;rcases he with he|he
 .exact Nat.lt_succ_of_lt (h.clock e he)
 .rw[QU.1 he];exact Qw c):P:=h
def zDW {P:Prop}(h:P:=by
 obtain⟨hb,rfl,m2,rfl⟩:=hz;exact⟨[A,bt lb m2 deep],ZI,by simp[cE,zb.ok,w8,kT,z4,Lt.kind,Lt.n,Lt.bits,Lt.text,Lt.ci,hb],rfl,m2,rfl⟩):P:=h
def zDX {P:Prop}(h:P:=by
 rw[Value.slice.injEq]at hf;exact⟨b,o,hf.1,hc _ (kI.2 ⟨0,_,rfl,Zs⟩)⟩):P:=h
def zDY {P:Prop}(h:P:=by
 unfold ai.aD at h;obtain⟨q,hq,hk⟩:=vh.1 h;rw[vG,decide_eq_true_eq]at hk;exact QO.2 ⟨q,QP hq,hk.1⟩):P:=h
def zDZ {P:Prop}(h:P:=by
 rcases Qq w.heap.size with h0|h
 .simp[World.cell?,h0]at hg
 .exact h):P:=h
def zE0 {P:Prop}(h:P:=by
 cases agg with
 |true=>simp only[if_true]at h|-;cases h;simp[Array.map_extract]
 |false=>simp only[vN,if_false]at h|-;exact nZ h):P:=h
def zE1 {P:Prop}(h:P:=by
 refine Zw _ ?_;simp only[aj,j7];exact Zw _ (lp hr.w (aL i hi) y hy)):P:=h
def zE2 {P:Prop}(h:P:=by
 refine af ?_;refine kG (.inr rfl) (.tmp Zr .nil) ⟨by simp[bU,h0,SY],rfl⟩ ZI):P:=h
def zE3 {P:Prop}(h:P:=by
 refine af ?_;exact kG (dl:=[A]) (.inr rfl) (.tmp Zr .nil) ⟨rfl,rfl⟩ (ap.cut (M:=[A++B2]) ZI (ap.cut (ap.perm Zs) (show ap [A,B2] [A] by exact bH)))):P:=h
def zE4 {P:Prop}(h:P:=by
 obtain⟨h1,h2⟩:=Vt.1 hy;rw[vt h1,h2]):P:=h
def zE5 {P:Prop}(h:P:=by
 rw[<- vj];exact lD.perm (hs.append_right F)):P:=h
def zE6 {P:Prop}(h:P:=by
 rw[show decide ((k:Int)=4)=false from Zf Zo];refine af ?_;refine kG (dl:=[]) (.inr rfl) (.tmp Zr .nil) ⟨by simp[bU,fC,h3,h4,h5],rfl⟩ ZI):P:=h
def zE7 {P:Prop}(h:P:=by
 simp only[Instr.mapUpdate,Sem.run_bind,kF hu,Result.andThen_ok,hx,Oc,yp hd I9,run_findKey hd I9 hf];simpa[jC]using h2):P:=h
def zE8 {P:Prop}(h:P:=by
 have h5:=hb.str s.data.toList;have e2:s.data.toList.length=s.size:=by simp
 omega):P:=h
def zE9 {P:Prop}(h:P:=by
 obtain⟨g1,g2,g3⟩:=zJ h1 hi;exact⟨g1,g3⟩):P:=h
def zEA {P:Prop}(h:P:=by
 rename_i i hu hi;simp only[wd,X9]at hs;subst hs;simpa[execOp,Instr.loadAt,loadVar,eE hu,kw hi,jC]using hr):P:=h
def zEB {P:Prop}(h:P:=by
 refine af ?_;exact kG (dl:=[S]) (.inr rfl) (.tmp Zr .nil) ⟨rfl,rfl⟩ ZI):P:=h
def zEC {P:Prop}(h:P:=by
 split
 .rfl
 .split
  .simp only;split
   .exact hw _
   .rfl
  .split
   .rfl
   .simp only;split
    .rfl
    .exact hw _):P:=h
def zED {P:Prop}(h:P:=by
 exact⟨a1,by simp only[PN.w,Q7];omega⟩):P:=h
def zEE {P:Prop}(h:P:=by
 rw[if_neg e]at bm;refine af ?_;exact⟨j+1,⟨Zo,bm⟩,Zo,ZU,ZI⟩):P:=h
def zEF {P:Prop}(h:P:=by
 refine af ?_;exact⟨.inr rfl,_,_,.az (us:=[cv 0,vi 0,uv 0,.string ⟨#[]⟩,.slice none 0 0]) Zr Zr Kw (.tmp Zr .nil),ZI,NT hb,rfl⟩):P:=h
def zEG {P:Prop}(h:P:=by
 obtain⟨t,rfl⟩:=hq;show(qs++t).getD v 0=qs.getD v 0;rw[Vh,Vh,Vj hv]):P:=h
def zEH {P:Prop}(h:P:=by
 rcases QJ.1 hy with rfl|hy
 .exact tq (h _ (QL ..))
 .exact ih (λr hr=>h r (QK _ hr)) y hy):P:=h
def zEI {P:Prop}(h:P:=by
 rw[Va];refine lp (λr hr=>?_) (by rw[Vu,hx];rfl) y hy;obtain⟨z,_,rfl⟩:=QO.1 hr;rfl):P:=h
def zEJ {P:Prop}(h:P:=by
 refine⟨h3,?_⟩;simp only[wH,vG];exact⟨mT (λv hv=>iP (wa F G r _ a6 u) u v hv) _ h2,h4⟩):P:=h
def zEK {P:Prop}(h:P:=by
 unfold kd at h
 repeat' (split at h)
 all_goals first|assumption|omega):P:=h
def zEL {P:Prop}(h:P:=by
 rw[Array.toList_push,List.pairwise_append];refine⟨h.born,Zs,λa ha b hb=>?_⟩;rw[QU.1 hb];exact h.clock a ha):P:=h
def zEM {P:Prop}(h:P:=by
 have:=h.nodup;simp only[QE,QX,QO,not_exists,not_and]at this;intro e;exact this.1 x hx e.symm):P:=h
def zEN {P:Prop}(h:P:=by
 exact leaf _ _ λh=>by simp only[decide_eq_true_eq]at h;exact⟨vy h.2.2.2.2,Zo,by simp;omega⟩):P:=h
def zEO {P:Prop}(h:P:=by
 show(s.rs++_).length<=s.j+1;rw[Vz];split
 .rw[QA];omega
 .rw[Q7];omega):P:=h
def zEP {P:Prop}(h:P:=by
 exact vY _ QZ):P:=h
def zEQ {P:Prop}(h:P:=by
 refine af ?_;exact kG (dl:=[A]) (.inr rfl) (.tmp Zr .nil) ⟨r,rfl,i2,by unfold wB;omega,λ_=>by omega,rfl⟩ ZI):P:=h
def zER {P:Prop}(h:P:=by
 obtain⟨⟨a,z,k5,k6⟩,k7⟩:=k3 p hp;obtain⟨z',k8,k9⟩:=fh k5;exact⟨⟨a,z',k8,k6.trans k9.symm⟩,k7⟩):P:=h
def zES {P:Prop}(h:P:=by
 rename_i sk Am;obtain⟨d,hd,I9⟩:=Yo Am;simp only[wd,X9]at hs;subst hs;exact upd_aux hu hd I9 hr):P:=h
def zET {P:Prop}(h:P:=by
 obtain⟨q1,SV,p1,cM,rfl,rfl⟩:=hz;exact⟨[X.S,jT q1 SV p1],ZI,q1,SV,p1,by rw[hP];exact cM,rfl,rfl⟩):P:=h
def zEU {P:Prop}(h:P:=by
 refine⟨h3,?_⟩;simp only[wP,vG];exact⟨mQ (wa F G r _ a6 u).a7.length_le _ h2,h4⟩):P:=h
def zEV {P:Prop}(h:P:=by
 simp only[hx,Sem.run_bind,Oc,Result.andThen_ok,yp hd I9,run_findKey hd I9 hf];simpa[jC]using h2):P:=h
def zEW {P:Prop}(h:P:=by
 simp only[IntKind.wrap,IntKind.bits,IntKind.signed];simp;omega):P:=h
def zEX {P:Prop}(h:P:=by
 rw[Vh,Zg (by rw[hr.len];exact hi)];rfl):P:=h
def zEY {P:Prop}(h:P:=by
 have e2:l=l.take (j+1)++l.drop (j+1):=(Qj _ _).symm;rw[e2,List.findIdx?_append,bm];rfl):P:=h
def zEZ {P:Prop}(h:P:=by
 subst hH;exact ti (bC 15 Zd _ rfl) (Ys (bC 17 Zd _ rfl) rfl (by simp only[NX]) (VO.nil ⟨rfl,rfl,trivial⟩))):P:=h
def zF0 {P:Prop}(h:P:=by
 have:=(QM.1 hi).1;simp only[QH,QJ]at this|-;rcases this with h|h<;>simp[h]):P:=h
def zF1 {P:Prop}(h:P:=by
 obtain rfl:x=y:=by simpa[we]using hy
 rw[if_neg Zo]at hr;rw[<- X8 hr];exact h.rd 0 x r0 rfl h0):P:=h
def zF2 {P:Prop}(h:P:=by
 simp only[aE];refine af ?_;exact kG (dl:=[B']) (.inr rfl) .nil ⟨rfl,.inr ⟨_,B',aR,hB',rfl⟩⟩ ZI):P:=h
def zF3 {P:Prop}(h:P:=by
 cases e with
 |returned v=>exact⟨a.defers,v,w1,hR⟩
 |panicked c=>exact hR.elim
 |outgrown=>exact hR.elim):P:=h
def zF4 {P:Prop}(h:P:=by
 refine af ?_;exact kG (dl:=[A]) (.inr rfl) (.tmp Zr .nil) ⟨_,rfl,λhh=>(by simp at hh),rfl⟩ ZI):P:=h
def zF5 {P:Prop}(h:P:=by
 exact⟨a1,cq _ _ _ _ _ _ _ Zo a2⟩):P:=h
def zF6 {P:Prop}(h:P:=by
 refine af ?_;exact⟨(j+1,M),⟨by simp only;omega,by simp only;omega⟩,by simp only;omega,ZU,ZI⟩):P:=h
def zF7 {P:Prop}(h:P:=by
 cases r with
 |none=>simp[ky hi hiz,AA]
 |some p=>obtain⟨j,v⟩:=p;simp[AA]):P:=h
def zF8 {P:Prop}(h:P:=by
 unfold z5 fA;rw[sh];have:yi (kd x.name) []=false:=by unfold yi;split<;>rfl
 rw[this];simp):P:=h
def zF9 {P:Prop}(h:P:=by
 simp only[QH]at hy|-;rcases hy with((hy|hy)|hy)|hy<;>simp only[hy,or_true,true_or]):P:=h
def zFA {P:Prop}(h:P:=by
 rw[Vr]at h0;have:=(Vt.1 hr).1;rw[jg]at this;omega):P:=h
def zFB {P:Prop}(h:P:=by
 obtain⟨Fw,h1,rfl⟩:=hv;exact VO.nil ⟨v,_,rfl,⟨Fw,h1,rfl⟩,by simp only[aE];exact bH⟩):P:=h
def zFC {P:Prop}(h:P:=by
 obtain⟨_,bD,Rr,Q2,ZO,Wj,eA⟩:=q;exact go .returning .returning bD Rr Q2 Zs rfl ZO Wj eA):P:=h
def zFD {P:Prop}(h:P:=by
 have ge:es[j]=e:=by rw[v8 g2']at this;exact X8 this
 simp[g2',ge]):P:=h
def zFE {P:Prop}(h:P:=by
 simp only[zV]at h;split at h
 case h_2=>cases h
 rename_i x y h1 h2;cases h;exact⟨a,b,rfl,h1,h2⟩):P:=h
def zFF {P:Prop}(h:P:=by
 simp[Instr.takeDeferred,Go.getObj,Go.setObj,Sem.run,k1]):P:=h
def zFG {P:Prop}(h:P:=by
 refine Hh (λb=>⟨_,_,.inl rfl,?_,h b⟩);simp):P:=h
def zFH {P:Prop}(h:P:=by
 rw[EH Zo]at i3;refine af ?_;refine⟨.inr rfl,_,_,.tmp Zr .nil,ZI,?_,rfl⟩;rw[<- i3];rfl):P:=h
def zFI {P:Prop}(h:P:=by
 rcases vT.1 hc with hc|hc<;>(simp only[fW,vG]at hc;exact hc.1.1.1)):P:=h
def zFJ {P:Prop}(h:P:=by
 intro hl st a6 u;simp only[Nd.ay]at hl;rw[wE];exact(ih x Zo st a6 u).1.trans (tC Zo _ a6 u)):P:=h
def zFK {P:Prop}(h:P:=by
 simp only[QH]at hy|-;rcases hy with hy|hy
 .simp only[hy,or_true,true_or]
 .cases hy):P:=h
def zFL {P:Prop}(h:P:=by
 rw[vj]at this;exact this.sub ((List.Sublist.refl _).append (List.sublist_append_right _ _))):P:=h
def zFM {P:Prop}(h:P:=by
 refine af ?_;refine⟨⟨false,0,b,t,_,_⟩,⟨⟨_,_,rfl⟩,?_⟩,ZU,ZI⟩;simp[jS,sm,h1]):P:=h
def zFN {P:Prop}(h:P:=by
 rcases QH.1 KV with h1|h1
 .exact h.w r' h1
 .rw[QU.1 h1];exact hx.len):P:=h
def zFO {P:Prop}(h:P:=by
 refine af ?_;refine kG (dl:=[]) (.inr rfl) (.tmp Zr .nil) ⟨by simp[bU,nD,h],rfl⟩ ZI):P:=h
def zFP {P:Prop}(h:P:=by
 refine af ?_;exact kG (dl:=[A]) (.inr rfl) (.tmp Zr .nil) ⟨by rw[stop _ Zs];rfl,rfl⟩ ZI):P:=h
def zFQ {P:Prop}(h:P:=by
 rw[show decide ((y.kind:Int)=9)=false from Zf Zo];refine af ?_;exact⟨by simp[k9],ZU,ZI⟩):P:=h
def zFR {P:Prop}(h:P:=by
 cases x;simp only[ML,vG,decide_eq_true_eq]at aR;exact⟨aR.1.1,aR.1.2,aR.2⟩):P:=h
def zFS {P:Prop}(h:P:=by
 simp only[Vd,Ve,vm];exact vY _ h9.symm):P:=h
def zFT {P:Prop}(h:P:=by
 have:=(Vt.1 hx).1;simp only[Q0,Q7]at this;omega):P:=h
def zFU {P:Prop}(h:P:=by
 obtain⟨c,t,lo,hi,hb,hn⟩:=hh;exact⟨c,t,lo,hi,by rw[h.block b hl];exact hb,hn⟩):P:=h
def zFV {P:Prop}(h:P:=by
 apply vD.1;rw[vE,h3,hm]):P:=h
def Zo {P:Prop}(h:P:=by omega):P:=h
def Zr {P:Prop}(h:P:=by rfl):P:=h
def Zn9{a b:Nat}(h:Nat.ble a b=true:=by rfl):a<=b:=Nat.le_of_ble_eq_true h
def Zd {P:Prop}(h:P:=by decide):P:=h
def Zs {P:Prop}(h:P:=by simp):P:=h
def ZI {P:Prop}(h:P:=by exact bH):P:=h
def ZP {P:Prop}(h:P:=by exact SPx):P:=h
def ZU {P:Prop}(h:P:=by exact Du):P:=h
def ZK {P:Prop}(h:P:=by exact TKx):P:=h
def Zab {P:Prop}(h:P:=by(focus ((repeat (first|(apply Ij.cells;omega;(focus (simp only[Q0,Q7,Nat.reduceAdd,Qz,Nat.reduceSub,Qy,Nat.reduceLeDiff,Qs];done));(focus (simp only[Z0,Value.cells,Qz,Nat.reduceEqDiff,↓reduceIte,eq_self,Nat.reduceAdd,Nat.reduceSub,Qy,Nat.reduceLeDiff,Qs,and_self,rep,jA]<;>rfl));rfl)|apply Ij.there));first|done|fail))):P:=h
def Zac {P:Prop}(h:P:=by(focus ((repeat (first|(apply Kv.cells;omega;(focus (simp only[Q0,Q7,Nat.reduceAdd,Qz,Nat.reduceSub,Qy,Nat.reduceLeDiff,Qs];done));(focus (simp only[Z0,Value.cells,Qz,Nat.reduceEqDiff,↓reduceIte,eq_self,Nat.reduceAdd,Nat.reduceSub,Qy,Nat.reduceLeDiff,Qs,and_self,rep,jA]<;>rfl)))|apply Kv.there));first|done|fail))):P:=h
def Zl {P:Prop}(h:P:=by(first|exact ltM|(focus (apply ltB;(repeat' (first|exact modM|apply orC|apply ζ|apply divC|omega));done))|omega)):P:=h
def Zz {P:Prop}(h:P:=by((try simp only[Qz,Qo,Nat.reduceAdd,Nat.reduceMul,Qn,vW,Nat.mul_one]);rfl)):P:=h
def Zi {P:Prop}(h:P:=by(first|with_reducible exact vW _|((try simp only[Int.reduceToNat]);rfl))):P:=h
def Zh {P:Prop}(h:P:=by(focus ((repeat (first|(apply Has.cells;omega;rfl)|apply Has.there));first|done|fail))):P:=h
def Zm {P:Prop}(h:P:=by(focus ((repeat (first|(apply Has.among;assumption)|apply Has.there));first|done|fail))):P:=h
def Zay {P:Prop}(h:P:=by first|exact .here|exact .there .here|exact .there (.there .here)|exact .there (.there (.there .here))|exact .there (.there (.there (.there .here)))|exact .there (.there (.there (.there (.there .here))))|exact .there (.there (.there (.there (.there (.there .here)))))):P:=h
def Zaw {P:Prop}(h:P:=by rw[World.frozen?_alloc_old _ _ t (by simp;omega),World.frozen?_alloc_old _ _ t (by simp;omega),World.frozen?_alloc_old _ _ t (by simp;omega),World.frozen?_alloc_old _ _ t (Nat.ne_of_lt sr)];exact hf0):P:=h
def Zav {P:Prop}(h:P:=by rw[World.cell?_alloc_lt _ _ t (by simp;omega),World.cell?_alloc_lt _ _ t (by simp;omega),World.cell?_alloc_lt _ _ t (by simp;omega),World.cell?_alloc_lt _ _ t sr];exact ht0):P:=h
def Zao {P:Prop}(h:P:=by simp only[V.nW,V.ev,bC 36 (by decide) _ rfl,bC 37 (by decide) _ rfl,bC 39 (by decide) _ rfl]):P:=h
def Zap {P:Prop}(h:P:=by simp only[V.nW,V.ev,bC 76 (by decide) _ rfl,bC 80 (by decide) _ rfl,bC 82 (by decide) _ rfl]):P:=h
def Zaq {P:Prop}(h:P:=by simp only[V.nW,V.ev,bC 84 (by decide) _ rfl,bC 86 (by decide) _ rfl,bC 89 (by decide) _ rfl]):P:=h
def Zaz {P:Prop}(h:P:=by(focus ((repeat (first|with_reducible exact AU.here|apply AU.there));done))):P:=h
def Zau {P:Prop}(h:P:=by simp only[V.nW,V.ev,bC 19 (by decide) _ rfl]):P:=h
def Zat {P:Prop}(h:P:=by simp only[V.nW,V.ev,bC 4 (by decide) _ rfl]):P:=h
def Zar {P:Prop}(h:P:=by simp only[V.ev,bC 83 (by decide) _ rfl]):P:=h
def Zas {P:Prop}(h:P:=by simp only[V.ev,bC 90 (by decide) _ rfl]):P:=h
def Nt {P:Prop}(h:P:=by simp[kA]):P:=h
def tK {P:Prop}(h:P:=by simp;omega):P:=h
def K5 {P:Prop}(h:P:=by simp[yM]):P:=h
def A4 {P:Prop}(h:P:=by simp[aj]):P:=h
def Ga {P:Prop}(h:P:=by exact(VO.nil ⟨_,[],rfl,⟨rfl,rfl⟩,ap.perm (by simp)⟩)):P:=h
def Zae {P:Prop}(h:P:=by exact(VO.nil ⟨rfl,⟨mz,ap.refl _⟩,trivial⟩)):P:=h
def Iq {P:Prop}(h:P:=by exact(VO.nil ⟨rfl,rfl,trivial⟩)):P:=h
def Kw {P:Prop}(h:P:=by exact(λx hx=>by simp only[Vd,QH];first|exact .inl hx|exact .inr (.inl hx))):P:=h
def Gb {P:Prop}(h:P:=by exact(λz hz=>List.mem_append_left _ (cA z hz))):P:=h
def Zai {P:Prop}(h:P:=by exact(λv dl hv=>absurd hv.1 (by decide))):P:=h
def Kx {P:Prop}(h:P:=by exact(λch dl hz=>absurd hz.1 (by decide))):P:=h
def Zak {P:Prop}(h:P:=by exact(λy hy=>by simp only[Vd,QH];first|exact .inl hy|exact .inr (.inl hy)|exact .inr (.inr (.inl hy)))):P:=h
def l9 {P:Prop}(h:P:=by exact⟨rfl,λa ha=>by simp only[Vd,QH];exact .inl ha⟩):P:=h
def Zf {p:Prop}[Decidable p](h:¬p):decide p=false:=decide_eq_false h
def Zt {p:Prop}[Decidable p](h:p):decide p=true:=decide_eq_true h
def A0(p:Prop)[Decidable p](h:p:=by omega):decide p=true:=Zt h
def A1(p:Prop)[Decidable p](h:¬p:=by omega):decide p=false:=Zf h
def zSb{P:Prop}(h:P:=by intro y hy;simp only[Vd,QH];repeat (first|exact Or.inl hy|refine Or.inr ?_)):P:=h
def Zg {α:Type _}{l:List α}{i}(h:i < l.length):l[i]? =some l[i]:=List.getElem?_eq_getElem h
def Zv {α:Type _}{l:List α}{i:Nat}{a:α}(h:l[i]? =some a):a∈l:=List.mem_of_getElem? h
def Zw {α:Type _}{a:α}{s:List α}(t:List α)(h:a∈s):a∈s++t:=List.mem_append_left t h
end Go
namespace Go.V
open Go
inductive kC where
 |cell (b off:Nat) (v:Value)
 |obj (b:Nat) (o:Obj)
 |row (b n:Nat)
 |own (b n:Nat)
def kC.loc:kC->Nat×Option Nat
 |.cell b off _=>(b,some off)
 |.obj b _=>(b,none)
 |.row b _=>(b,none)
 |.own b n=>(b,some n)
def zF:Obj->Bool
 |.cells .. =>true
 |_=>false
def kC.holds(w:World):kC->Prop
 |.cell b off v=>∃c t lo hi,w.heap[b]? =some (Obj.cells c t (lo,hi))/\c[off]? =some v/\¬(lo<=off/\off<hi)
 |.obj b o=>w.heap[b]? =some o/\zF o=false
 |.row b n=>∃c t lo hi,w.heap[b]? =some (Obj.cells c t (lo,hi))/\c.size=n
 |.own b n=>∃c t lo hi,w.heap[b]? =some (Obj.cells c t (lo,hi))/\c.size=n/\¬(lo<=n/\n<hi)
structure Sat (w:World)(L:List kC):Prop where
 holds:∀x∈L,x.holds w
 nodup:(L.map kC.loc).Nodup
structure j9 (w w':World):Prop where
 os:w'.os=w.os
 output:w'.output=w.output
 size:w.heap.size<=w'.heap.size
 cells:∀(i:Nat) c t lo hi,w.heap[i]? =some (Obj.cells c t (lo,hi))->∃c',w'.heap[i]? =some (Obj.cells c' t (lo,hi))/\c'.size=c.size/\∀j,lo<=j/\j<hi->c'[j]? =c[j]?
def j9.refl(w):j9 w w:=⟨rfl,rfl,Qs _,λ_ c _ _ _ h=>⟨c,h,rfl,λ_ _=>rfl⟩⟩
def j9.trans {a b c}(h:j9 a b)(k:j9 b c):j9 a c:=by
 refine⟨k.os.trans h.os,k.output.trans h.output,Qu h.size k.size,λi x t lo hi hx=>?_⟩;obtain⟨y,hy,sy,fy⟩:=h.cells i x t lo hi hx;obtain⟨z,hz,sz,fz⟩:=k.cells i y t lo hi hy;exact⟨z,hz,sz.trans sy,λj hj=>(fz j hj).trans (fy j hj)⟩
def j9.drawn {a b}(h:j9 a b)(n):j9 a {b with drawn:=n}:=⟨h.os,h.output,h.size,h.cells⟩
def Sat.drawn {w L}(h:Sat w L)(n):Sat {w with drawn:=n} L:=⟨λx hx=>by
 have:=h.holds x hx;cases x<;>exact this,h.nodup⟩
def Sat.perm {w L M}(h:Sat w L)(p:L.Perm M):Sat w M:=
 ⟨λx hx=>h.holds x (p.mem_iff.2 hx),(p.map kC.loc).nodup_iff.1 h.nodup⟩
def Sat.sub {w L M}(h:Sat w L)(p:M.Sublist L):Sat w M:=
 ⟨λx hx=>h.holds x (p.subset hx),(p.map kC.loc).nodup h.nodup⟩
def Sat.left {w L M}(h:Sat w (L++M)):Sat w L:=h.sub (List.sublist_append_left L M)
def Sat.lt {w L}(h:Sat w L){x}(hx:x∈L):x.loc.1<w.heap.size:=by
 have:=h.holds x hx;cases x with
 |cell b off v=>obtain⟨c,t,lo,hi,hb,_⟩:=this;exact(v9.1 hb).1
 |obj b o=>exact(v9.1 this.1).1
 |row b n=>obtain⟨c,t,lo,hi,hb,_⟩:=this;exact(v9.1 hb).1
 |own b n=>obtain⟨c,t,lo,hi,hb,_⟩:=this;exact(v9.1 hb).1
def Sat.cell {w L}(h:Sat w L){b off v}(hx:kC.cell b off v∈L):
 w.cell? ⟨b,off,none⟩=some v/\w.frozen? ⟨b,off,none⟩=false:=by
 obtain⟨c,t,lo,hi,hb,hc,hf⟩:=h.holds _ hx;refine⟨by simp[World.cell?,hb,hc],?_⟩;simp only[World.frozen?,hb];simp only[vF,decide_eq_false_iff_not];by_cases h1:lo<=off
 .right;intro h2;exact hf ⟨h1,h2⟩
 .left;exact h1
def Sat.obj {w L}(h:Sat w L){b o}(hx:kC.obj b o∈L):w.heap[b]? =some o/\zF o=false:=h.holds _ hx
def Sat.store {w L b off v u}(h:Sat w (.cell b off v::L)):
 Sat (w.setCell ⟨b,off,none⟩ u) (.cell b off u::L)/\j9 w (w.setCell ⟨b,off,none⟩ u):=by
 obtain⟨c,t,lo,hi,hb,hc,hf⟩:=h.holds _ (QL ..);have aI:off<c.size:=(v9.1 hc).1;have gg:∀i,(w.setCell ⟨b,off,none⟩ u).heap[i]? =if b=i then some (Obj.cells (c.setIfInBounds off u) t (lo,hi))else w.heap[i]?:=by
  intro i;simp only[World.setCell,vA];by_cases e:b=i
  .subst e;simp[hb]
  .simp[e]
 refine⟨⟨λx hx=>?_,?_⟩,⟨rfl,rfl,by simp[World.setCell],λi c' t' EZ ck hi''=>?_⟩⟩
 .rcases QJ.1 hx with rfl|hx
  .exact⟨c.setIfInBounds off u,t,lo,hi,by rw[gg];simp,by simp[aI],hf⟩
  .have cz:(b,some off)≠x.loc:=zEM
   have hh:=h.holds x (QK _ hx);cases x with
   |cell b' off' v'=>
    obtain⟨c',t',EZ,ck,nK,Rf,hf'⟩:=hh;by_cases e:b=b'
    .subst e;rw[hb]at nK;obtain⟨rfl,rfl,rfl,rfl⟩:c=c'/\t=t'/\lo=EZ/\hi=ck:=by simpa using nK
     have hoff:off≠off':=λe=>cz (by simp[kC.loc,e])
     exact⟨c.setIfInBounds off u,t,lo,hi,by rw[gg];simp,by simp[vB hoff,Rf],hf'⟩
    .exact⟨c',t',EZ,ck,by rw[gg];simp[e,nK],Rf,hf'⟩
   |obj b' o=>
    obtain⟨nK,ho⟩:=hh;have e:b≠b':=λe=>by
     subst e;rw[hb]at nK;cases nK;simp[zF]at ho
    exact⟨by rw[gg];simp[e,nK],ho⟩
   |row b' n=>
    obtain⟨c',t',EZ,ck,nK,hn⟩:=hh;by_cases e:b=b'
    .subst e;rw[hb]at nK;obtain⟨rfl,rfl,rfl,rfl⟩:c=c'/\t=t'/\lo=EZ/\hi=ck:=by simpa using nK
     exact⟨c.setIfInBounds off u,t,lo,hi,by rw[gg];simp,by simpa using hn⟩
    .exact⟨c',t',EZ,ck,by rw[gg];simp[e,nK],hn⟩
   |own b' n=>
    obtain⟨c',t',EZ,ck,nK,hn,hf'⟩:=hh;by_cases e:b=b'
    .subst e;rw[hb]at nK;obtain⟨rfl,rfl,rfl,rfl⟩:c=c'/\t=t'/\lo=EZ/\hi=ck:=by simpa using nK
     exact⟨c.setIfInBounds off u,t,lo,hi,by rw[gg];simp,by simpa using hn,hf'⟩
    .exact⟨c',t',EZ,ck,by rw[gg];simp[e,nK],hn,hf'⟩
 .have:=h.nodup;simpa[kC.loc]using this
 .rw[gg];by_cases e:b=i
  .subst e;rw[hb]at hi'';obtain⟨rfl,rfl,rfl,rfl⟩:c=c'/\t=t'/\lo=EZ/\hi=ck:=by simpa using hi''
   refine⟨c.setIfInBounds off u,Zs,Zs,λj hj=>?_⟩;have cz:off≠j:=λe=>hf (e ▸ hj)
   simp[vB cz]
  .simp[e,hi'']
def kA(b:Nat):Nat->List Value->List kC
 |_,[]=>[]
 |off,v::r=>.cell b off v::kA b (off+1) r
def kI {b x}:∀{off:Nat} {vs:List Value},x∈kA b off vs↔∃i v,vs[i]? =some v/\x=.cell b (off+i) v:=by
 intro off vs
 induction vs generalizing off with
 |nil=>simp[kA]
 |cons u r ih=>
  simp only[kA,QJ,ih];constructor
  .rintro(rfl|⟨i,v,h,rfl⟩)
   .exact⟨0,u,rfl,rfl⟩
   .exact⟨i+1,v,by simpa using h,by simp;omega⟩
  .rintro⟨i,v,h,rfl⟩
   cases i with
   |zero=>left;simp at h;simp[h]
   |succ i=>right;exact⟨i,v,by simpa using h,by simp;omega⟩
def dY(b vs):∀off,((kA b off vs).map kC.loc).Nodup:=by
 induction vs with
 |nil=>intro off;simp[kA]
 |cons u r ih=>
  intro off;simp only[kA,QE,QX,ih,and_true];simp only[QO,not_exists,not_and];intro x hx e;obtain⟨i,v,_,rfl⟩:=kI.1 hx;simp[kC.loc]at e;omega
def Sat.push {w:World}{L:List kC}(h:Sat w L)(o:Obj)(M:List kC)(hM:∀x∈M,x.loc.1=w.heap.size/\x.holds {w with heap:=w.heap.push o})
 (hn:(M.map kC.loc).Nodup):Sat {w with heap:=w.heap.push o} (M++L)/\j9 w {w with heap:=w.heap.push o}:=by
 have hold:∀i,i<w.heap.size->(w.heap.push o)[i]? =w.heap[i]?:=λi hi=>by
  rw[Array.getElem?_push];simp[Nat.ne_of_lt hi]
 refine⟨⟨λx hx=>?_,?_⟩,⟨rfl,rfl,Zs,λi c t lo hi ck=>?_⟩⟩
 .rcases QH.1 hx with hx|hx
  .exact(hM x hx).2
  .have hl:=h.lt hx;have:=h.holds x hx;cases x with
   |cell b off v=>obtain⟨c,t,lo,hi,hb,r⟩:=this;exact⟨c,t,lo,hi,by simpa[hold b hl]using hb,r⟩
   |obj b o'=>exact⟨by simpa[hold b hl]using this.1,this.2⟩
   |row b n=>obtain⟨c,t,lo,hi,hb,hn⟩:=this;exact⟨c,t,lo,hi,by simpa[hold b hl]using hb,hn⟩
   |own b n=>obtain⟨c,t,lo,hi,hb,hn⟩:=this;exact⟨c,t,lo,hi,by simpa[hold b hl]using hb,hn⟩
 .rw[QC,QW];refine⟨hn,h.nodup,λx hx y hy e=>?_⟩;obtain⟨m,hm,rfl⟩:=QO.1 hx;obtain⟨l,hl,rfl⟩:=QO.1 hy;have h1:=(hM m hm).1;have h2:=h.lt hl;rw[e]at h1;omega
 .have hl:i<w.heap.size:=(v9.1 ck).1;exact⟨c,by simpa[hold i hl]using ck,rfl,λ_ _=>rfl⟩
def Sat.Xj {w L}(h:Sat w L)(c t):
 Sat {w with heap:=w.heap.push (.cells c t)} (kA w.heap.size 0 c.toList++L)/\j9 w {w with heap:=w.heap.push (.cells c t)}:=by
 refine h.push _ _ (λx hx=>?_) (dY _ _ _);obtain⟨i,v,hi,rfl⟩:=kI.1 hx;exact⟨rfl,c,t,0,0,Zs,by simpa using hi,Zs⟩
def Sat.newObj {w L}(h:Sat w L)(o)(ho:zF o=false):
 Sat {w with heap:=w.heap.push o} (.obj w.heap.size o::L)/\j9 w {w with heap:=w.heap.push o}:=by
 refine h.push o [.obj w.heap.size o] (λx hx=>?_) Zs;rw[QU.1 hx];exact⟨rfl,Zs,ho⟩
def Sat.setObj {w L b o u}(h:Sat w (.obj b o::L))(hu:zF u=false):
 Sat {w with heap:=w.heap.setIfInBounds b u} (.obj b u::L)/\j9 w {w with heap:=w.heap.setIfInBounds b u}:=by
 obtain⟨hb,ho⟩:=h.holds _ (QL ..);have aI:b<w.heap.size:=(v9.1 hb).1;have gg:∀i,(w.heap.setIfInBounds b u)[i]? =if b=i then some u else w.heap[i]?:=by
  intro i;by_cases e:b=i
  .subst e;simp[aI]
  .simp[vB e,e]
 refine⟨⟨λx hx=>?_,?_⟩,⟨rfl,rfl,Zs,λi c t lo hi ck=>?_⟩⟩
 .rcases QJ.1 hx with rfl|hx
  .exact⟨by simp[aI],hu⟩
  .have cz:(b,none)≠x.loc:=zEM
   have hh:=h.holds x (QK _ hx);cases x with
   |cell b' off' v'=>
    obtain⟨c',t',EZ,ck,nK,r⟩:=hh;have e:b≠b':=λe=>by subst e;rw[hb]at nK;cases nK;cases ho
    exact⟨c',t',EZ,ck,by simpa[gg,e]using nK,r⟩
   |obj b' o'=>
    have e:b≠b':=λe=>cz (by simp[kC.loc,e])
    exact⟨by simpa[gg,e]using hh.1,hh.2⟩
   |row b' n=>
    have e:b≠b':=λe=>cz (by simp[kC.loc,e])
    obtain⟨c',t',EZ,ck,nK,hn⟩:=hh;exact⟨c',t',EZ,ck,by simpa[gg,e]using nK,hn⟩
   |own b' n=>
    obtain⟨c',t',EZ,ck,nK,hn⟩:=hh;have e:b≠b':=λe=>by subst e;rw[hb]at nK;cases nK;cases ho
    exact⟨c',t',EZ,ck,by simpa[gg,e]using nK,hn⟩
 .have:=h.nodup;simpa[kC.loc]using this
 .have e:b≠i:=λe=>by subst e;rw[hb]at ck;cases ck;cases ho
  exact⟨c,by simpa[gg,e]using ck,rfl,λ_ _=>rfl⟩
def aS(P:Program){α:Type}(s:Sem α)(H:List kC)(K:α->List kC->Prop):Prop:=
 ∀F w,Sat w (H++F)->∃v w' H',s.run P w=.ok v w'/\K v H'/\Sat w' (H'++F)/\j9 w w'
section
variable {P:Program} {α β:Type} {H:List kC} {K:α->List kC->Prop}
def aS.pure {v:α}(h:K v H):aS P (Pure.pure v) H K:=λ_ w hs=>⟨v,w,H,rfl,h,hs,.refl w⟩
def aS.bind {s:Sem α}{f:α->Sem β}{K:β->List kC->Prop}(h:aS P s H λv H'=>aS P (f v) H' K):aS P (s >>=f) H K:=by
 intro F w hs;obtain⟨v,w1,H1,h1,h2,h3,h4⟩:=h F w hs;obtain⟨u,w2,H2,k1,k2,k3,k4⟩:=h2 F w1 h3;exact⟨u,w2,H2,by simp[h1,k1],k2,k3,h4.trans k4⟩
def aS.mono {s:Sem α}{K':α->List kC->Prop}(h:aS P s H K)(hk:∀v H',K v H'->K' v H'):aS P s H K':=λF w hs=>
 let⟨v,w',H',a,b,c⟩:=h F w hs;⟨v,w',H',a,hk _ _ b,c⟩
def aS.perm {s:Sem α}{H':List kC}(p:H.Perm H')(h:aS P s H' K):aS P s H K:=λF w hs=>
 h F w (hs.perm (p.append_right F))
def aS.load {b off:Nat}{v:Value}{K:Value->List kC->Prop}(hx:kC.cell b off v∈H)(h:K v H):aS P (Go.load ⟨b,off,none⟩) H K:=λF w hs=>by
 have:=(hs.cell (Zw F hx)).1;exact⟨v,w,H,by simp[Go.load,Sem.run,this],h,hs,.refl w⟩
def jk:Value->Bool
 |.agg _|.tuple _=>false
 |_=>true
def aS.store {b off:Nat}{v u:Value}{K:Unit->List kC->Prop}(hu:jk u=true)(h:K () (.cell b off u::H)):
 aS P (Go.store ⟨b,off,none⟩ u) (.cell b off v::H) K:=λF w hs=>by
 have hc:=hs.cell (Zw F (QL (a:=kC.cell b off v) (l:=H)));obtain⟨s1,s2⟩:=Sat.store (u:=u) (L:=H++F) (by simpa using hs);refine⟨(),_,_,?_,h,s1,s2⟩;cases u<;>simp_all [Go.store,Sem.run,jk]
def aS.RX {c:Array Value}{t:TypeId}{K:Nat->List kC->Prop}(h:∀b,K b (kA b 0 c.toList++H)):aS P (Go.newObj (.cells c t)) H K:=λF w hs=>by
 obtain⟨s1,s2⟩:=hs.Xj c t;exact⟨w.heap.size,_,_,by simp[Go.newObj,Sem.run],h _,by rw[vj];exact s1,s2⟩
def aS.new_obj {o:Obj}{K:Nat->List kC->Prop}(ho:zF o=false)(h:∀b,K b (.obj b o::H)):aS P (Go.newObj o) H K:=λF w hs=>by
 obtain⟨s1,s2⟩:=hs.newObj o ho;exact⟨w.heap.size,_,_,by simp[Go.newObj,Sem.run],h _,s1,s2⟩
def aS.getObj {b:Nat}{o:Obj}{K:Obj->List kC->Prop}(hx:kC.obj b o∈H)(h:K o H):aS P (Go.getObj b) H K:=λF w hs=>by
 obtain⟨h1,h2⟩:=hs.obj (Zw F hx);refine⟨o,w,H,?_,h,hs,.refl w⟩;cases o<;>simp_all [Go.getObj,Sem.run,zF]
def aS.setObj {b:Nat}{o u:Obj}{K:Unit->List kC->Prop}(hu:zF u=false)(h:K () (.obj b u::H)):aS P (Go.setObj b u) (.obj b o::H) K:=λF w hs=>by
 obtain⟨h1,h2⟩:=hs.obj (Zw F (QL (a:=kC.obj b o) (l:=H)));obtain⟨s1,s2⟩:=Sat.setObj (u:=u) (L:=H++F) (by simpa using hs) hu;refine⟨(),_,_,?_,h,s1,s2⟩;cases o<;>simp_all [Go.setObj,Sem.run,zF]
def aS.choose {q:Question}{K:Nat->List kC->Prop}(h0:q.forced=true->K 0 H)(h:∀n,K (q.cut n) H):aS P (Go.choose q) H K:=λF w hs=>by
 by_cases e:q.forced=true
 .exact⟨0,w,H,by simp[Go.choose,Sem.run,e],h0 e,hs,.refl w⟩
 .exact⟨_,_,H,by simp[Go.choose,Sem.run,e];exact⟨rfl,rfl⟩,h _,hs.drawn _,(j9.refl w).drawn _⟩
end
inductive SK where
 |int|str|bool
 deriving DecidableEq,Repr
inductive NK where
 |ptr|map|slice|func|iface
 deriving DecidableEq,Repr
inductive R where
 |mv (x:Operand)
 |pick (c a b:Operand)
 |bin (op:BinOp) (x y:Operand)
 |eqb (neq:Bool) (x y:Operand)
 |EK (neq:Bool) (k:NK) (x:Operand)
 |EJ (neq:Bool) (ks:List SK) (x y:Operand)
 |un (op:UnOp) (x:Operand)
 |conv (k:IntKind) (x:Operand)
 |cvs (x:Operand)
 |JB (t:TypeId) (x:Operand)
 |DF (f:Fn) (first captured:List Operand)
 |ext (x:Operand) (i:Nat)
 |build (zero:List Value) (parts:List (Nat×Nat×Operand))
 |qd (x:Operand)
 |Ω (off:Nat) (x:Operand)
 |LX (off size:Nat) (agg:Bool) (x:Operand)
 |Ry (len size:Nat) (x i:Operand)
 |GX (size:Nat) (x i:Operand)
 |Rz (x i:Operand)
 |Mm (len size:Nat) (agg:Bool) (x i:Operand)
 |M5 (x:Operand) (lo hi:Option Operand)
 |tf (size:Nat) (x:Operand) (lo hi mx:Option Operand)
 |M4 (len size:Nat) (x:Operand) (lo hi:Option Operand)
 |WW (x:Operand)
 |G4 (x:Operand)
 |cap (x:Operand)
 |min2 (x y:Operand)
 |max2 (x y:Operand)
 |iB (t:TypeId) (zero:Value) (ok:Bool) (x:Operand)
 |lH (x:Operand)
 |ny (n:Nat) (x:Operand)
 |Xa (m:Operand)
 |lookup (k:SK) (zero:Value) (ok:Bool) (m key:Operand)
 |entry (it:Operand)
 |b2s (x:Operand)
 |alloc (t:TypeId) (zero:List Value)
 |box (t:TypeId) (x:Operand)
 |nP (t:TypeId) (len:Nat) (zero:List Value) (parts:List (Nat×Nat×Operand))
 |p8
 |Hk (t:TypeId) (size bytes:Nat) (zero:List Value) (l c:Operand)
 |XN (x:Operand)
 |XM (x:Operand)
 |s2b (t:TypeId) (x:Operand)
 |store (n:Nat) (x v:Operand)
 |Cv (k:SK) (m key v:Operand)
 |delete (k:SK) (m key:Operand)
 |UD (op:BinOp) (t:TypeId) (x y:Operand)
 |Jw (t:TypeId) (ok:Bool) (m key:Operand)
 |updt (t:TypeId) (m key v:Operand)
 |ment (t:TypeId) (m key:Operand)
 |mst (t:TypeId) (m s v:Operand)
 |append (t:TypeId) (size bytes:Nat) (zero:List Value) (s x:Operand)
 |grow (t:TypeId) (size bytes:Nat) (zero:List Value) (s x:Operand)
 |copy (size:Nat) (d s:Operand)
 |clr (zero:List Value) (x:Operand)
 |next (it:Operand) (isString:Bool)
 |call (f:Nat) (a5:List Operand)
 |sd (x:Operand) (a5:List Operand)
 |pnc (x:Operand)
def oM:TypeDesc->Option SK
 |.int _=>some .int
 |.string=>some .str
 |.bool=>some .bool
 |_=>none
def wK(P:Program)(f:Nat):Bool:=
 match P.funcs[f]? with
 | some fn => fn.name != "runtime.NumGoroutine" && fn.body.isSome
 |none=>false
def scalars(P:Program):List Field->Nat->Option (List SK)
 |[],_=>some []
 | f :: r, off => if f.offset = off ∧ f.name ≠ "_" then
     match(P.underlying f.type).bind oM,scalars P r (off+1)with
     |some k,some l=>some (k::l)
     |_,_=>none
   else none
def placesOf(P:Program)(fs:List Field):List (Nat×Nat):=fs.map λf=>(f.offset,P.cellsOf f.type)
def gl(place:Nat->Option (Nat×Nat)):List (Nat×Operand)->Option (List (Nat×Nat×Operand))
 |[]=>some []
 |(i,x)::r=>match place i,gl place r with
  |some (off,size),some l=>some ((off,size,x)::l)
  |_,_=>none
def zeroOf(P:Program)(t:TypeId):Option (List Value):=((P.info? t).bind (·.zero)).map (·.cells.toList)
def o7:TypeDesc->Operand->Option NK
 |.pointer _,.const (.pointer none)=>some .ptr
 |.map _ _,.const (.map none)=>some .map
 |.slice _,.const (.slice none 0 0)=>some .slice
 |.func ..,.const .nilFunc=>some .func
 |.interface _,.const .nilIface=>some .iface
 |_,_=>none
def isPtr:TypeDesc->Bool
 |.pointer _=>true
 |.interface _=>true
 |_=>false
def Ms(P:Program):List TypeId->Bool
 |u::_=>match P.underlying u with|some (.int _)=>true|_=>false
 |[]=>false
def WL(P:Program):List TypeId->Bool
 |u::_=>match P.underlying u with|some (.slice _)|some .string=>true|_=>false
 |[]=>false
def jJ(P:Program):Op->Option R
 |.move x|.assign x=>some (.mv x)
 |.pick c a b=>some (.pick c a b)
 |.alloc t=>(zeroOf P t).map (R.alloc t)
 |.box t x=>some (.box t x)
 |.load t a=>match P.underlying t,P.info? t with
  |some (.struct _),some i=>some (.ny i.size a)
  |some (.array _ _),some i=>some (.ny i.size a)
  |some _,some _=>some (.lH a)
  |_,_=>none
 |.store t a x=>(P.info? t).map λi=>.store i.size a x
 |.nilCheck x=>some (.qd x)
 |.binOp op t x y _=>
  match P.underlying t with
  |some (.int _)=>some (.bin op x y)
  |some .string=>some (.bin op x y)
  |some .bool=>match op with|.eql=>some (.eqb false x y)|.neq=>some (.eqb true x y)|_=>none
  |some (.struct fs)=>
   if P.eqGuardType P.depth t=false/\P.stoodInHeld t=false then
    match op,scalars P fs.toList 0 with
    |.eql,some ks=>some (.EJ false ks x y)
    |.neq,some ks=>some (.EJ true ks x y)
    |.eql,none=>some (.UD .eql t x y)
    |.neq,none=>some (.UD .neq t x y)
    |_,_=>none
   else none
  |some d=>
   match op,o7 d y with
   |.eql,some k=>some (.EK false k x)
   |.neq,some k=>some (.EK true k x)
   |.eql,none=>if isPtr d then some (.UD .eql t x y)else none
   |.neq,none=>if isPtr d then some (.UD .neq t x y)else none
   |_,_=>none
  |_=>none
 |.unOp op _ x=>some (.un op x)
 |.convert s d x=>match P.underlying s,P.underlying d with
  |some (.int _),some (.int k)=>some (.conv k x)
  |some .string,some .string=>some (.cvs x)
  |some .string,some (.slice e)=>match P.underlying e with|some (.int .u8)=>some (.s2b e x)|_=>none
  |some (.slice e),some .string=>match P.underlying e with|some (.int .u8)=>some (.b2s x)|_=>none
  |_,_=>none
 |.makeInterface t x=>match P.underlying t with
  |some (.interface _)|none=>none
  |some _=>some (.JB t x)
 |.makeFunc fn f c=>some (.DF fn f.toList c.toList)
 |.makeMap t r=>match P.underlying t with
  |some (.map _ _)=>match r with|none=>some .p8|some (.const (.int _ _))=>some .p8|_=>none
  |_=>none
 |.makeSlice t l c=>match P.underlying t with
  |some (.slice e)=>match P.info? e,zeroOf P e with|some i,some z=>some (.Hk e i.size i.bytes z l c)|_,_=>none
  |_=>none
 |.extract x i=>some (.ext x i)
 |.build t parts=>match P.underlying t,zeroOf P t with
  |some (.struct fs),some z=>if fs.toList.all (λf=>(P.info? f.type).isSome)then(gl (λi=>(placesOf P fs.toList)[i]?) parts.toList).map (R.build z)else none
  |some (.array _ e),some z=>match P.info? e with|some j=>(gl (λi=>some (i*j.size,j.size)) parts.toList).map (R.build z)|none=>none
  |_,_=>none
 |.buildSlice t len parts=>match P.underlying t with
  |some (.slice e)=>match P.info? e,zeroOf P e with
   |some i,some z=>if len*i.size<=2 ^ 24/\z.length=i.size then(gl (λj=>some (j*i.size,i.size)) parts.toList).map (R.nP e len z)else none
   |_,_=>none
  |_=>none
 |.fieldAddr s x f=>match P.underlying s with
  |some (.struct fs)=>match fs[f]? with
   |some fd=>match P.info? fd.type with|some i=>if i.size=0 then none else some (.Ω fd.offset x)|none=>none
   |none=>none
  |_=>none
 |.field s x f=>match P.underlying s with
  |some (.struct fs)=>match fs[f]? with
   |some fd=>match P.underlying fd.type,P.info? fd.type with
    |some (.struct _),some i=>some (.LX fd.offset i.size true x)
    |some (.array _ _),some i=>some (.LX fd.offset i.size true x)
    |some _,some i=>some (.LX fd.offset i.size false x)
    |_,_=>none
   |none=>none
  |_=>none
 |.indexAddr t x i=>match P.underlying t with
  |some (.array n e)=>(P.info? e).map λj=>.Ry n j.size x i
  |some (.slice e)=>(P.info? e).map λj=>.GX j.size x i
  |_=>none
 |.index t x i=>match P.underlying t with
  |some .string=>some (.Rz x i)
  |some (.array n e)=>match P.underlying e,P.info? e with
    |some (.struct _),some j=>some (.Mm n j.size true x i)
    |some (.array _ _),some j=>some (.Mm n j.size true x i)
    |some _,some j=>some (.Mm n j.size false x i)
    |_,_=>none
  |_=>none
 |.slice t x lo hi mx=>match P.underlying t with
  |some .string=>if mx.isNone then some (.M5 x lo hi)else none
  |some (.slice e)=>(P.info? e).map λj=>.tf j.size x lo hi mx
  |some (.array n e)=>if mx.isNone then(P.info? e).map λj=>.M4 n j.size x lo hi else none
  |_=>none
 |.lookup t m k ok=>match P.underlying t with
  |some (.map kt e)=>match(P.underlying kt).bind oM,(P.info? e).bind (·.zero)with
   |some sk,some z=>some (.lookup sk z ok m k)
   |none,some _=>some (.Jw t ok m k)
   |_,_=>none
  |_=>none
 |.mapUpdate t m k v|.insert t m k v=>match P.underlying t with
  |some (.map kt _)=>match(P.underlying kt).bind oM with
   |some sk=>some (.Cv sk m k v)
   |none=>some (.updt t m k v)
  |_=>none
 |.mapEntry t m k=>some (.ment t m k)
 |.entryStore t m s v=>some (.mst t m s v)
 |.range t x=>match P.underlying t with
  |some .string=>some (.XN x)
  |some (.map _ _)=>some (.XM x)
  |_=>none
 |.next it s=>some (.next it s)
 |.panic x=>some (.pnc x)
 |.entry it=>some (.entry it)
 |.typeAssert x _ t ok=>match P.underlying t with
  |some (.interface _)|none=>none
  |some _=>((P.info? t).bind (·.zero)).map λz=>.iB t z ok x
 |.call c=>match c.callee with
  |.value (.func f)=>if wK P f then some (.call f c.args.toList)else none
  |.value x=>some (.sd x c.args.toList)
  |.builtin .len=>match c.args.toList,c.argTypes.toList with
   |[x],[t]=>match P.underlying t with
    |some .string=>some (.WW x)
    |some (.slice _)=>some (.G4 x)
    |some (.map _ _)=>some (.Xa x)
    |_=>none
   |_,_=>none
  |.builtin .cap=>match c.args.toList,c.argTypes.toList with
   |[x],[t]=>match P.underlying t with|some (.slice _)=>some (.cap x)|_=>none
   |_,_=>none
  |.builtin .min=>match c.args.toList with|[x,y]=>some (.min2 x y)|_=>none
  |.builtin .max=>match c.args.toList with|[x,y]=>some (.max2 x y)|_=>none
  |.builtin .append=>match c.args.toList,c.argTypes.toList with
   |[s,x],t::xt=>match P.underlying t with
    |some (.slice e)=>match P.info? e,zeroOf P e with
     |some i,some z=>if WL P xt then some (.append e i.size i.bytes z s x)else if Ms P xt then some (.grow e i.size i.bytes z s x)else none
     |_,_=>none
    |_=>none
   |_,_=>none
  |.builtin .copy=>match c.args.toList,c.argTypes.toList with
   |[d,s],t::_=>match P.underlying t with
    |some (.slice e)=>(P.info? e).map λi=>.copy i.size d s
    |_=>none
   |_,_=>none
  |.builtin .clear=>match c.args.toList,c.argTypes.toList with
   |[x],[t]=>match P.underlying t with
    |some (.slice e)=>(zeroOf P e).map λz=>.clr z x
    |_=>none
   |_,_=>none
  |.builtin .delete=>match c.args.toList,c.argTypes.toList with
   |[m,k],t::_=>match P.underlying t with
    |some (.map kt _)=>((P.underlying kt).bind oM).map λsk=>.delete sk m k
    |_=>none
   |_,_=>none
  |_=>none
 |_=>none
def ot(op:BinOp)(k:IntKind)(a:Int)(k':IntKind)(b:Int):Option Value:=
 match op with
 |.shl=>if b<0 then none else some (.int k (k.wrap (a*2 ^ (min b.toNat k.bits))))
 |.shr=>if b<0 then none else some (.int k (a.fdiv (2 ^ (min b.toNat k.bits))))
 |.add=>if k=k' then some (.int k (k.wrap (a+b)))else none
 |.sub=>if k=k' then some (.int k (k.wrap (a-b)))else none
 |.mul=>if k=k' then some (.int k (k.wrap (a*b)))else none
 |.quo=>if k=k'/\b≠0 then some (.int k (k.wrap (a.tdiv b)))else none
 |.rem=>if k=k'/\b≠0 then some (.int k (a.tmod b))else none
 |.and=>if k=k' then some (.int k (k.wrap (BitVec.ofInt k.bits a&&&BitVec.ofInt k.bits b).toNat))else none
 |.or=>if k=k' then some (.int k (k.wrap (BitVec.ofInt k.bits a|||BitVec.ofInt k.bits b).toNat))else none
 |.xor=>if k=k' then some (.int k (k.wrap (BitVec.ofInt k.bits a ^^^ BitVec.ofInt k.bits b).toNat))else none
 |.andNot=>if k=k' then some (.int k (k.wrap (BitVec.ofInt k.bits a&&&~~~ BitVec.ofInt k.bits b).toNat))else none
 |.eql=>if k=k' then some (.bool (decide (a=b)))else none
 |.neq=>if k=k' then some (.bool (!decide (a=b)))else none
 |.lss=>if k=k' then some (.bool (decide (a<b)))else none
 |.leq=>if k=k' then some (.bool (decide (a<=b)))else none
 |.gtr=>if k=k' then some (.bool (decide (b<a)))else none
 |.geq=>if k=k' then some (.bool (decide (b<=a)))else none
def Yz(op:BinOp)(x y:ByteArray):Option Value:=
 match op with
 |.add=>if(x.size+y.size:Nat)<=9223372036854775807 then some (.string (x++y))else none
 |.eql=>some (.bool (decide (x=y)))
 |.neq=>some (.bool (!decide (x=y)))
 |.lss=>some (.bool (Op.bytesLess x.toList y.toList))
 |.leq=>some (.bool (Op.bytesLess x.toList y.toList||decide (x=y)))
 |.gtr=>some (.bool !(Op.bytesLess x.toList y.toList||decide (x=y)))
 |.geq=>some (.bool !(Op.bytesLess x.toList y.toList))
 |_=>none
def yO(op:BinOp):Value->Value->Option Value
 |.int k a,.int k' b=>ot op k a k' b
 |.string x,.string y=>Yz op x y
 |_,_=>none
def isNil:NK->Value->Option Bool
 |.ptr,.pointer a=>some a.isNone
 |.map,.map a=>some a.isNone
 |.slice,.slice a _ _=>some a.isNone
 |.func,.nilFunc=>some true
 |.func,.func .. =>some false
 |.iface,.nilIface=>some true
 |.iface,.iface .. =>some false
 |_,_=>none
def rK:SK->Value->Value->Option Bool
 |.int,.int k a,.int k' b=>if k=k' then some (decide (a=b))else none
 |.str,.string a,.string b=>some (decide (a=b))
 |.bool,.bool a,.bool b=>some (a==b)
 |_,_,_=>none
def gT:List SK->List Value->List Value->Option Bool
 |[],_,_=>some true
 |k::ks,x::xs,y::ys=>match rK k x y,gT ks xs ys with
  |some a,some b=>some (a&&b)
  |_,_=>none
 |_,_,_=>none
def jb:List Value->List (Nat×Nat×Value)->Option (List Value)
 |cs,[]=>some cs
 |cs,(off,size,v)::r=>
  if v.cells.size=size/\off+size<=cs.length then jb (cs.take off++v.cells.toList++cs.drop (off+size)) r else none
def ja(ρ:Operand->Value)(l:List (Nat×Nat×Operand)):List (Nat×Nat×Value):=l.map fun(o,s,x)=>(o,s,ρ x)
def bound(x:Value)(y:Nat):Option Nat:=match x with
 |.int _ i=>if 0<=i/\i<=y then some i.toNat else none
 |_=>none
def wX(y:Nat)(d:Option Nat):Option Value->Option Nat
 |some v=>bound v y
 |none=>d
def yD(len cap:Nat)(lo hi mx:Option Value):Option (Nat×Nat×Nat):=
 (wX cap (some cap) mx).bind λm=>(wX m (if mx.isSome then none else some len) hi).bind λh=>(wX h (some 0) lo).bind λl=>some (l,h,m)
def kb(ρ:Operand->Value):R->Option Value
 |.mv x=>some (ρ x)
 |.pick c a b=>match ρ c with|.bool t=>some (if t then ρ a else ρ b)|_=>none
 |.bin op x y=>yO op (ρ x) (ρ y)
 |.eqb neq x y=>match ρ x,ρ y with|.bool a,.bool b=>some (.bool (if neq then !(a==b)else a==b))|_,_=>none
 |.EK neq k x=>(isNil k (ρ x)).map λb=>.bool (if neq then !b else b)
 |.EJ neq ks x y=>match ρ x,ρ y with
  |.agg a,.agg b=>if a.size=ks.length/\b.size=ks.length then(gT ks a.toList b.toList).map λr=>.bool (if neq then !r else r)else none
  |_,_=>none
 |.un .not x=>match ρ x with|.bool b=>some (.bool !b)|_=>none
 |.un .neg x=>match ρ x with|.int k n=>some (.int k (k.wrap (0-n)))|_=>none
 |.un .xor x=>match ρ x with|.int k n=>some (.int k (k.wrap (BitVec.ofInt k.bits (if k.signed then -1 else k.max) ^^^ BitVec.ofInt k.bits n).toNat))|_=>none
 |.un .plus _=>none
 |.conv k x=>match ρ x with|.int _ n=>some (.int k (k.wrap n))|_=>none
 |.cvs x=>match ρ x with|.string s=>some (.string s)|_=>none
 |.JB t x=>some (.iface t (ρ x))
 |.DF f first captured=>some (.func f (first.map ρ).toArray (captured.map ρ).toArray)
 |.ext x i=>match ρ x with|.tuple vs=>vs[i]?|_=>none
 |.build zero parts=>(jb zero (ja ρ parts)).map λl=>.agg l.toArray
 |.qd x=>match ρ x with
  |.pointer (some a)=>some (.pointer (some a))
  |_=>none
 |.Ω off x=>match ρ x with|.pointer (some ⟨b,o,none⟩)=>some (.pointer (some ⟨b,o+off,none⟩))|_=>none
 |.LX off size agg x=>match ρ x with
  |.agg cs=>if agg then some (.agg (cs.extract off (off+size)))else cs[off]?
  |_=>none
 |.Ry len size x i=>match ρ x,ρ i with
  |.pointer (some ⟨b,o,none⟩),.int _ n=>if 0<=n/\n<len then some (.pointer (some ⟨b,o+n.toNat*size,none⟩))else none
  |_,_=>none
 |.GX size x i=>match ρ x,ρ i with
  |.slice (some ⟨b,o,none⟩) len _,.int _ n=>if 0<=n/\n<len then some (.pointer (some ⟨b,o+n.toNat*size,none⟩))else none
  |_,_=>none
 |.Rz x i=>match ρ x,ρ i with
  |.string s,.int _ n=>if 0<=n then(s[n.toNat]?).map λb=>.int .u8 b.toNat else none
  |_,_=>none
 |.Mm len size agg x i=>match ρ x,ρ i with
  |.agg cs,.int _ n=>if 0<=n/\n<len then(if agg then some (.agg (cs.extract (n.toNat*size) (n.toNat*size+size)))else cs[n.toNat*size]?)else none
  |_,_=>none
 |.M5 x lo hi=>match ρ x with
  |.string s=>(yD s.size s.size (lo.map ρ) (hi.map ρ) none).map fun(l,h,_)=>.string (s.extract l h)
  |_=>none
 |.tf size x lo hi mx=>match ρ x with
  |.slice (some ⟨b,o,none⟩) len cap=>(yD len cap (lo.map ρ) (hi.map ρ) (mx.map ρ)).map fun(l,h,m)=>.slice (some ⟨b,if m=l then o else o+l*size,none⟩) (h-l) (m-l)
  |.slice none len cap=>(yD len cap (lo.map ρ) (hi.map ρ) (mx.map ρ)).map fun(l,h,m)=>.slice none (h-l) (m-l)
  |_=>none
 |.M4 n size x lo hi=>match ρ x with
  |.pointer (some ⟨b,o,none⟩)=>(yD n n (lo.map ρ) (hi.map ρ) none).map fun(l,h,m)=>.slice (some ⟨b,if m=l then o else o+l*size,none⟩) (h-l) (m-l)
  |_=>none
 |.WW x=>match ρ x with|.string s=>some (.int .i64 s.size)|_=>none
 |.G4 x=>match ρ x with|.slice _ n _=>some (.int .i64 n)|_=>none
 |.cap x=>match ρ x with|.slice _ _ n=>some (.int .i64 n)|_=>none
 |.min2 x y=>match ρ x,ρ y with|.int k a,.int _ b=>some (.int k (if b<a then b else a))|_,_=>none
 |.max2 x y=>match ρ x,ρ y with|.int k a,.int _ b=>some (.int k (if b>a then b else a))|_,_=>none
 |.iB t zero ok x=>match ρ x with
  |.nilIface=>if ok then some (.tuple #[zero,.bool false])else none
  |.iface u v=>if u=t then some (if ok then .tuple #[v,.bool true]else v)else if ok then some (.tuple #[zero,.bool false])else none
  |_=>none
 |_=>none
section
variable {P:Program} {ρ:Operand->Value} {w:World} {v:Value} {xo:Operand}
def kF {t:TypeId}{d:TypeDesc}(h:P.underlying t=some d):(underlying t).run P w=.ok d w:=by simp[underlying,h]
def wG {t:TypeId}{i:TypeInfo}(h:P.info? t=some i):(typeInfo t).run P w=.ok i w:=by simp[typeInfo,h]
def kw {t:TypeId}{i:TypeInfo}(h:P.info? t=some i):(sizeOf t).run P w=.ok i.size w:=by simp[sizeOf,wG h]
def M8(a b:ByteArray):(a.toList==b.toList)=decide (a=b):=by
 rw[ByteArray.toList_eq,ByteArray.toList_eq,vL];simp only[beq_iff_eq,decide_eq_true_eq];constructor
 .intro h;cases a;cases b;simp only[ByteArray.mk.injEq];exact vD.1 h
 .rintro rfl;rfl
def Yf {op:BinOp}{t:TypeId}{k g:IntKind}{a b:Int}(h:ot op k a g b=some v):(Go.binOp op t (.int k a) (.int g b)).run P w=.ok v w:=by
 cases op<;>simp only[ot]at h<;>split at h<;>first|(cases h;done)|skip
 all_goals (cases h;rename_i d)
 case quo|rem=>obtain⟨rfl,j⟩:=d;simp[Go.binOp,Op.intDiv,j]
 case shl|shr=>simp[Go.binOp,Op.shift,d]
 all_goals (subst d;simp[Go.binOp,Op.intArith,Op.intBits,Op.intCmp])
 all_goals (rw[vL];simp)
def Yh {op:BinOp}{t:TypeId}{a b:ByteArray}(h:Yz op a b=some v):(Go.binOp op t (.string a) (.string b)).run P w=.ok v w:=by
 cases op<;>simp only[Yz]at h<;>first|(cases h;done)|skip
 case add=>
  split at h<;>cases h;rename_i hc;have:¬(((a.size+b.size:Nat):Int)>IntKind.i64.max):=by
   have:IntKind.i64.max=9223372036854775807:=by decide
   rw[this];omega
  simp only[Go.binOp,Op.stringOp,this,if_false,Sem.run_pure]
 all_goals (cases h;simp[Go.binOp,Op.stringOp,M8])
def Yc {op:BinOp}{t:TypeId}{x y:Value}(h:yO op x y=some v):(Go.binOp op t x y).run P w=.ok v w:=by
 cases x<;>cases y<;>first|(simp[yO]at h;done)|exact Yf h|exact Yh h
def yo {op:BinOp}{t:TypeId}{x y:Operand}{a b:Value}(g:¬(a=.nilIface/\b=.nilIface))(h:∀c d,¬(a=.agg c/\b=.agg d)):
 (eqGuard op t x y a b).run P w=.ok () w:=by
 cases op<;>simp only[eqGuard]<;>first|(simp;done)|skip
 all_goals (cases a<;>cases b<;>first|(exact absurd ⟨rfl,rfl⟩ g)|(exact absurd ⟨rfl,rfl⟩ (h _ _))|simp)
def nz {t:TypeId}{cs:Array Value}{off:Nat}{d:TypeDesc}{k:SK}(h:P.underlying t=some d)(g:oM d=some k)(j:cs[off]? =some v):(part t cs off).run P w=.ok v w:=by
 cases d<;>simp[oM]at g<;>simp[part,isAgg,kF h,j]
def dP {t:TypeId}{n:Nat}{x y:Value}{r:Bool}{d:TypeDesc}{k:SK}(h:P.underlying t=some d)(j:oM d=some k)(g:rK k x y=some r):
 (Op.equalIn (n+1) t x y).run P w=.ok r w:=by
 cases d<;>simp[oM]at j<;>subst j<;>cases x<;>simp[rK]at g<;>cases y<;>simp at g
 .subst g;simp[Op.equalIn,kF h]
 .obtain⟨rfl,rfl⟩:=g;simp[Op.equalIn,kF h];rw[vL];simp
 .subst g;simp[Op.equalIn,kF h,beq_toListBytes,M8]
def Hx {n:Nat}{xs ys:Array Value}:∀(j:List Field) (m:List SK) (off:Nat) (r:Bool),scalars P j off=some m->
 gT m (xs.toList.drop off) (ys.toList.drop off)=some r->(Op.eqFields (n+1) xs ys j).run P w=.ok r w:=by
 intro j
 induction j with
 |nil=>intro m off r h g;simp[scalars]at h;subst h;simp[gT]at g;subst g;simp[Op.eqFields]
 |cons f j ih=>
  intro m off r h g;simp only[scalars]at h;split at h
  case isFalse=>simp at h
  rename_i H;obtain⟨rfl,A⟩:=H;split at h
  case h_2=>simp at h
  rename_i k l I J;simp at h;subst h;obtain⟨d,s,q⟩:=X2.1 I;cases hx:xs.toList.drop f.offset with
  |nil=>rw[hx]at g;simp[gT]at g
  |cons x xr=>
  cases hy:ys.toList.drop f.offset with
  |nil=>rw[hx,hy]at g;simp[gT]at g
  |cons y yr=>
  rw[hx,hy]at g;simp only[gT]at g;have D:xs[f.offset]? =some x:=by have:=congrArg (·[0]?) hx;simpa using this
  have E:ys[f.offset]? =some y:=by have:=congrArg (·[0]?) hy;simpa using this
  have B:xs.toList.drop (f.offset+1)=xr:=by have:=congrArg (List.drop 1) hx;simpa using this
  have C:ys.toList.drop (f.offset+1)=yr:=by have:=congrArg (List.drop 1) hy;simpa using this
  split at g
  case h_2=>simp at g
  rename_i a b F G;simp at g;subst g;simp only[Op.eqFields,ne_eq,A,not_false_eq_true,if_true,Sem.run_bind,nz s q D,nz s q E,dP s q F,Result.andThen_ok];cases a
  .simp
  .have:=ih l (f.offset+1) b J (by rw[B,C];exact G);simpa using this
def C6(place:Nat->Option (Nat×Nat)):∀(parts:List (Nat×Operand)) (l:List (Nat×Nat×Operand)) (cs:List Value) (out:List Value),gl place parts=some l->
 jb cs (ja ρ l)=some out->Instr.fill place cs.toArray (parts.map fun(i,x)=>(i,ρ x))=some out.toArray:=by
 intro parts
 induction parts with
 |nil=>intro l cs out g m;simp[gl]at g;subst g;simp[ja,jb]at m;subst m;simp[Instr.fill]
 |cons p parts ih=>
  obtain⟨i,x⟩:=p;intro l cs out g m;simp only[gl]at g;split at g
  case h_2=>simp at g
  rename_i off size r D E;simp at g;subst g;simp only[ja,QE,jb]at m;split at m
  case isFalse=>simp at m
  rename_i C;obtain⟨B,h4⟩:=C;have:=ih r _ out E m;simp only[QE,Instr.fill,D];have gY:¬((ρ x).cells.size≠size∨off+(ρ x).cells.size>cs.toArray.size):=by
   simp;omega
  have d:(decide ((ρ x).cells.size≠size)||decide (off+(ρ x).cells.size>cs.toArray.size))=false:=by
   simp;omega
  have q:∀(vs:List Value) (k:Nat) (c:List Value),off+k+vs.length<=c.length->
   (vs.zipIdx k).foldl (fun(cs:Array Value) (p:Value×Nat)=>cs.setIfInBounds (off+p.2) p.1) c.toArray=(c.take (off+k)++vs++c.drop (off+k+vs.length)).toArray:=by
   intro vs
   induction vs with
   |nil=>intro k c s;simp
   |cons v vs ihv=>
    intro k c s;simp only[List.zipIdx_cons,Vg,List.setIfInBounds_toArray];rw[ihv (k+1) (c.set (off+k) v) (by simp at s|-;omega)]
    congr 1
    simp at s;apply vz;intro j;simp only[Vi,List.getElem?_take,Vo,Vz,QB,Q9,Vx,Q0,List.getElem?_cons]
    grind
  have A:((ρ x).cells.zipIdx.foldl (fun(cs:Array Value) (p:Value×Nat)=>cs.setIfInBounds (off+p.2) p.1) cs.toArray)=(cs.take off++(ρ x).cells.toList++cs.drop (off+size)).toArray:=by
   have:=q (ρ x).cells.toList 0 cs tK;simp only[Qo,Array.length_toList,B]at this;rw[<- this,<- Array.foldl_toList,Array.toList_zipIdx]
  simp only[d,vN,if_false];rw[A];exact this
def run_sliceBound {x:Value}{y n:Nat}{c:BoundsCode}(h:bound x y=some n):(Instr.sliceBound x y c).run P w=.ok n w:=by
 cases x<;>simp[bound]at h;obtain⟨⟨d,g⟩,rfl⟩:=h;simp[Instr.sliceBound,asIntOf,d,g]
def yT {b:Bool}{len cap:Nat}{B A mx:Option Value}{r:Nat×Nat×Nat}(h:yD len cap B A mx=some r):(Instr.sliceBounds b len cap B A mx).run P w=.ok r w:=by
 simp only[yD,X2]at h;obtain⟨m,j,hh,g,l,s,h⟩:=h;cases h;have q:∀{y n:Nat} {d:Option Nat} {v:Value} {c:BoundsCode},wX y d (some v)=some n->(Instr.sliceBound v y c).run P w=.ok n w:=λh=>run_sliceBound h
 simp only[Instr.sliceBounds];cases mx<;>cases A<;>cases B
 all_goals first
  |(simp[wX]at g;done)
  |skip
 .simp[wX]at j g s;subst j g s;simp
 .simp[wX]at j g;subst j g;simp[q s]
 .simp[wX]at j s;subst j s;simp[q g]
 .simp[wX]at j;subst j;simp[q s,q g]
 .simp[wX]at s;subst s;simp[q j,q g]
 .simp[q s,q j,q g]
def gS(b o n:Nat):(⟨b,o,none⟩:Addr).add n=⟨b,o+n,none⟩:=by
 by_cases h:n=0<;>simp[Addr.add,h]
def Fp {op:BinOp}{t:TypeId}{x:Value}{y:Operand}{neq b:Bool}{k:NK}{d:TypeDesc}(m:P.underlying t=some d)(s:op=if neq then .neq else .eql)(h:isNil k x=some b)
 (g:o7 d y=some k):∃u,y=.const u/\(eqGuard op t xo y x u).run P w=.ok () w/\(Go.binOp op t x u).run P w=.ok (.bool (if neq then !b else b)) w:=by
 have q:∀u,y=.const u->(Op.equal t x u).run P w=.ok b w:=by
  rintro u rfl
  show(Op.equalIn (9999+1) t x u).run P w=_;generalize 9999=n;cases d<;>try (simp[o7]at g;done)
  all_goals (simp only[o7]at g;split at g<;>try (cases g;done))
  all_goals simp_all only[TypeDesc.pointer.injEq,TypeDesc.slice.injEq,TypeDesc.map.injEq,TypeDesc.func.injEq,TypeDesc.interface.injEq,reduceCtorEq,X9,Operand.const.injEq]
  all_goals subst_vars
  all_goals (cases x<;>simp[isNil]at h)
  all_goals first
   |(subst h;simp[Op.equalIn,kF m];done)
   |(rename_i a;cases a<;>simp at h<;>subst h<;>simp[Op.equalIn,kF m];done)
   |(rename_i a _ _;cases a<;>simp at h<;>subst h<;>simp[Op.equalIn,kF m];done)
 subst s;cases d<;>try (simp[o7]at g;done)
 all_goals (simp only[o7]at g;split at g<;>try (cases g;done))
 all_goals simp_all only[TypeDesc.pointer.injEq,TypeDesc.slice.injEq,TypeDesc.map.injEq,TypeDesc.func.injEq,TypeDesc.interface.injEq,reduceCtorEq,X9,Operand.const.injEq]
 all_goals subst_vars
 all_goals (refine⟨_,rfl,?_,?_⟩)
 all_goals (have j:=q _ rfl;cases x<;>simp[isNil]at h)
 all_goals first
  |(cases neq<;>simp[eqGuard];done)
  |(cases neq<;>simp[Go.binOp,j];done)
end
section
variable {P:Program} {ρ:Operand->Value} {w:World} {v:Value} {r:R}
def iG {t:TypeId}{z:List Value}(h:zeroOf P t=some z):∃i u,P.info? t=some i/\i.zero=some u/\u.cells.toList=z:=by
 simp only[zeroOf,X5,X2]at h;obtain⟨u,⟨i,d,g⟩,j⟩:=h;exact⟨i,u,d,g,j⟩
def ky {t:TypeId}{i:TypeInfo}{u:Value}(h:P.info? t=some i)(d:i.zero=some u):(zeroValue t).run P w=.ok u w:=by
 simp[zeroValue,wG h,d]
def run_places(d:List Field)(m:∀f∈d,∃j,P.info? f.type=some j):(d.mapM λf=>do pure (f.offset,<- sizeOf f.type):Sem (List (Nat×Nat))).run P w=.ok (placesOf P d) w:=by
 induction d with
 |nil=>simp[placesOf]
 |cons f d ih=>
  obtain⟨j,q⟩:=m f Zs;have:=ih (λg s=>m g (by simp[s]));simp only[List.mapM_cons,Sem.run_bind,kw q,Result.andThen_ok,Sem.run_pure,this];simp[placesOf,Program.cellsOf,q]
def eE {t:TypeId}{d:TypeDesc}(h:P.underlying t=some d):(isAgg t).run P w=.ok (match d with|.struct _|.array _ _=>true|_=>false) w:=by
 cases d<;>simp[isAgg,kF h]
set_option maxHeartbeats 1000000 in
def rF {o:Oper}(O:∀u,ρ (.const u)=u)(g:jJ P o.op=some r)(hv:kb ρ r=some v):(execOp ρ o).run P w=.ok (.value v) w:=by
 obtain⟨J,op,A,pos,C,guard⟩:=o;simp only at g;cases op
 case move x=>simp[jJ]at g;subst g;simp[kb]at hv;subst hv;simp[execOp]
 case assign x=>simp[jJ]at g;subst g;simp[kb]at hv;subst hv;simp[execOp]
 case pick c a b=>
  simp[jJ]at g;subst g;simp only[kb]at hv;split at hv<;>simp at hv;subst hv;rename_i t ht;simp[execOp,ht,asBool]
 case nilCheck x=>
  simp[jJ]at g;subst g;simp only[kb]at hv;split at hv<;>simp at hv;subst hv;rename_i a H;simp[execOp,H]
 case extract x i=>
  simp[jJ]at g;subst g;simp only[kb]at hv;split at hv<;>try (cases hv;done)
  rename_i vs lZ;simp[execOp,Instr.extract,lZ,hv]
 case makeFunc fn f c=>
  simp[jJ]at g;subst g;simp[kb]at hv;subst hv;obtain⟨f⟩:=f;obtain⟨c⟩:=c;simp[execOp,Instr.makeFunc]
 case makeInterface t x=>
  simp only[jJ]at g;split at g<;>try (cases g;done)
  rename_i d Y B;cases g;simp[kb]at hv;subst hv;have:(Instr.makeInterface t (ρ x)).run P w=.ok (.iface t (ρ x)) w:=by
   cases d<;>simp_all [Instr.makeInterface,underlying]
  simp[execOp,this]
 case unOp op t x=>
  simp[jJ]at g;subst g;cases op<;>simp only[kb]at hv<;>try (cases hv;done)
  all_goals (split at hv<;>try (cases hv;done))
  all_goals (cases hv;rename_i M;simp[execOp,Op.unary,M,Op.intArith,Op.intBits])
 case convert s d x=>
  simp only[jJ]at g;split at g<;>try (cases g;done)
  .rename_i hs B;cases g;simp only[kb]at hv;split at hv<;>cases hv;rename_i n M;simp[execOp,Go.convert,kF hs,kF B,M,Conv.intToInt]
  .rename_i hs B;cases g;simp only[kb]at hv;split at hv<;>cases hv;rename_i n M;simp[execOp,Go.convert,kF hs,kF B,M]
  .split at g<;>cases g<;>simp[kb]at hv
  .split at g<;>cases g<;>simp[kb]at hv
 case binOp op t x y yt=>
  have fin:∀{u:Value},(Go.binOp op t (ρ x) (ρ y)).run P w=.ok u w->(eqGuard op t x y (ρ x) (ρ y)).run P w=.ok () w->(execOp ρ ⟨J,.binOp op t x y yt,A,pos,C,guard⟩).run P w=.ok (.value u) w:=by
   intro u D F;simp[execOp,D,F]
  have bin:yO op (ρ x) (ρ y)=some v->(execOp ρ ⟨J,.binOp op t x y yt,A,pos,C,guard⟩).run P w=.ok (.value v) w:=by
   intro h;refine fin (Yc h) (yo ?_ ?_)
   .rintro⟨D,F⟩;rw[D,F]at h;simp[yO]at h
   .rintro c d ⟨D,F⟩;rw[D,F]at h;simp[yO]at h
  simp only[jJ]at g;split at g
  .cases g;exact bin hv
  .cases g;exact bin hv
  .rename_i B;split at g<;>cases g
   all_goals
    simp only[kb]at hv;split at hv<;>cases hv;rename_i a b H hb;refine fin ?_ (yo (by simp[H]) (by simp[H]));have:(Op.equal t (.bool a) (.bool b)).run P w=.ok (a==b) w:=dP (n:=9999) B rfl rfl;simp[H,hb,Go.binOp,this]
  .rename_i G B;split at g<;>try (cases g;done)
   rename_i X;obtain⟨X,nu⟩:=X;have W:P.underlying t=some (.struct (P.fieldsOf t)):=by simp[Program.fieldsOf,B]
   have Jb:P.fieldsOf t=G:=by simp[Program.fieldsOf,B]
   split at g<;>cases g
   case h_3=>simp[kb]at hv
   case h_4=>simp[kb]at hv
   all_goals
    rename_i ks lX;simp only[kb]at hv;split at hv<;>try (cases hv;done)
    rename_i a b H hb;split at hv<;>try (cases hv;done)
    simp only[X5]at hv;obtain⟨q,hq,rfl⟩:=hv;have hr:(Op.equal t (.agg a) (.agg b)).run P w=.ok q w:=by
     show(Op.equalIn (9999+1) t (.agg a) (.agg b)).run P w=_;rw[run_equalIn_struct w 9999 t a b W nu,Jb];exact Hx (n:=9998) G.toList ks 0 q lX (by simpa using hq)
    refine fin ?_ ?_
    .simp[H,hb,Go.binOp,hr]
    .rw[H,hb];exact run_eqGuard_agg w _ t x y a b X
  .rename_i d _ _ _ _ B;split at g
   case h_3=>split at g<;>first|(cases g;done)|(cases g;simp[kb]at hv;done)
   case h_4=>split at g<;>first|(cases g;done)|(cases g;simp[kb]at hv;done)
   case h_5=>cases g
   all_goals
    cases g;rename_i k hk;simp only[kb,X5]at hv;obtain⟨b,hb,rfl⟩:=hv
   .obtain⟨u,rfl,D,F⟩:=Fp (w:=w) (xo:=x) (op:=.eql) (neq:=false) B rfl hb hk;exact fin (by rw[O];exact F) (by rw[O];exact D)
   .obtain⟨u,rfl,D,F⟩:=Fp (w:=w) (xo:=x) (op:=.neq) (neq:=true) B rfl hb hk;exact fin (by rw[O];exact F) (by rw[O];exact D)
  .cases g
 case fieldAddr s x f=>
  simp only[jJ]at g;split at g<;>try (cases g;done)
  rename_i G hs;split at g<;>try (cases g;done)
  rename_i Q hf;split at g<;>try (cases g;done)
  rename_i i hi;split at g<;>cases g;rename_i I;simp only[kb]at hv;split at hv<;>cases hv;rename_i b o hx;have D:(fieldPlace ⟨b,o,none⟩ Q).run P w=.ok ⟨b,o+Q.offset,none⟩ w:=by
   simp[fieldPlace,kw hi,I,gS]
  simp[execOp,Instr.fieldAt,kF hs,hf,hx,Instr.sureAddr,D]
 case field s x f=>
  simp only[jJ]at g;split at g<;>try (cases g;done)
  rename_i G hs;split at g<;>try (cases g;done)
  rename_i Q hf;split at g<;>cases g
  .rename_i _ j hu hj;exact zDI
  .rename_i _ _ j hu hj;exact zDI
  .rename_i d j D F hu hj;simp only[kb]at hv;split at hv<;>try (cases hv;done)
   rename_i cs hx;simp at hv;have:(isAgg Q.type).run P w=.ok false w:=by rw[eE hu];cases d<;>simp_all
   simp[execOp,Instr.field,kF hs,hf,hx,asAgg,part,this,hv]
 case indexAddr t x i=>
  simp only[jJ]at g;split at g<;>try (cases g;done)
  .rename_i n e hs;simp only[X5]at g;obtain⟨j,hj,rfl⟩:=g;simp only[kb]at hv;split at hv<;>try (cases hv;done)
   rename_i b o k m hx hi;split at hv<;>cases hv;rename_i hb;simp[execOp,Instr.indexAt,kF hs,hx,hi,asIntOf,Instr.sureAddr,hb,kw hj,gS]
  .rename_i e hs;simp only[X5]at g;obtain⟨j,hj,rfl⟩:=g;simp only[kb]at hv;split at hv<;>try (cases hv;done)
   rename_i b o n c k m hx hi;split at hv<;>cases hv;rename_i hb;simp[execOp,Instr.indexAt,kF hs,hx,hi,asIntOf,hb,kw hj,gS]
 case index t x i=>
  simp only[jJ]at g;split at g<;>try (cases g;done)
  .rename_i hs;cases g;simp only[kb]at hv;split at hv<;>try (cases hv;done)
   rename_i s k m hx hi;split at hv<;>try (cases hv;done)
   rename_i h0;simp only[X5]at hv;obtain⟨b,hb,rfl⟩:=hv;simp[execOp,Instr.index,kF hs,hx,hi,asIntOf,h0,hb]
  .rename_i n e hs;split at g<;>cases g
   .rename_i _ j hu hj;exact zCS
   .rename_i _ _ j hu hj;exact zCS
   .rename_i d j D F hu hj;simp only[kb]at hv;split at hv<;>try (cases hv;done)
    rename_i cs k m hx hi;split at hv<;>try (cases hv;done)
    rename_i hb;simp at hv;have:(isAgg e).run P w=.ok false w:=by rw[eE hu];cases d<;>simp_all
    simp[execOp,Instr.index,kF hs,hx,hi,asIntOf,hb,kw hj,part,this,hv]
 case slice t x lo hi mx=>
  simp only[jJ]at g;split at g<;>try (cases g;done)
  .rename_i hs;split at g<;>cases g;rename_i T;obtain rfl:mx=none:=by simpa using T
   simp only[kb]at hv;split at hv<;>try (cases hv;done)
   rename_i s hx;simp only[X5]at hv;obtain⟨⟨l,h,m⟩,hb,rfl⟩:=hv;simp[execOp,Instr.sliceAt,Instr.slice,kF hs,hx,yT hb]
  .rename_i e hs;simp only[X5]at g;obtain⟨j,hj,rfl⟩:=g;simp only[kb]at hv;split at hv<;>try (cases hv;done)
   .rename_i b o len cap hx;simp only[X5]at hv;obtain⟨⟨l,h,m⟩,hb,rfl⟩:=hv;simp only[execOp,Instr.sliceAt,Instr.slice,Sem.run_bind,kF hs,hx,yT hb,kw hj,Result.andThen_ok,Sem.run_pure,gS,X7];by_cases e:m=l<;>simp[e]
   .rename_i len cap hx;simp only[X5]at hv;obtain⟨⟨l,h,m⟩,hb,rfl⟩:=hv;simp[execOp,Instr.sliceAt,Instr.slice,kF hs,hx,yT hb,kw hj]
  .rename_i n e hs;split at g<;>try (cases g;done)
   rename_i T;obtain rfl:mx=none:=by simpa using T
   simp only[X5]at g;obtain⟨j,hj,rfl⟩:=g;simp only[kb]at hv;split at hv<;>try (cases hv;done)
   rename_i b o hx;simp only[X5]at hv;obtain⟨⟨l,h,m⟩,hb,rfl⟩:=hv;simp only[execOp,Instr.sliceAt,Sem.run_bind,kF hs,hx,Instr.sureAddr,yT hb,kw hj,Result.andThen_ok,Sem.run_pure,gS,X6];by_cases e:m=l<;>simp[e]
 case build t parts=>
  simp only[jJ]at g;split at g<;>try (cases g;done)
  .rename_i G z hs I;split at g<;>try (cases g;done)
   rename_i aw;simp only[X5]at g;obtain⟨l,K,rfl⟩:=g;obtain⟨i,u,hi,hu,rfl⟩:=iG I;simp only[kb,X5]at hv;obtain⟨out,Z,rfl⟩:=hv;have mr:(G.mapM λf=>do pure (f.offset,<- sizeOf f.type):Sem (Array (Nat×Nat))).run P w=.ok (placesOf P G.toList).toArray w:=by
    rw[Array.mapM_eq_mapM_toList];simp only[Sem.run_map];rw[run_places G.toList (λf hf=>by
     have:=vf.1 aw f hf;exact X4.1 this)]
    simp
   have N:=C6 (ρ:=ρ) (λi=>(placesOf P G.toList)[i]?) parts.toList l u.cells.toList out K Z;have hpe:(λi:Nat=>(placesOf P G.toList).toArray[i]?)=λi:Nat=>(placesOf P G.toList)[i]?:=by funext i;simp
   have S:(parts.map λp=>(p.1,ρ p.2)).toList=parts.toList.map λp=>(p.1,ρ p.2):=by simp
   simp only[Array.toArray_toList]at N;have:(Instr.build t (parts.map λp=>(p.1,ρ p.2))).run P w=.ok (.agg out.toArray) w:=by
    simp only[Instr.build,Sem.run_bind,ky hi hu,Result.andThen_ok,kF hs,mr,S];rw[hpe];simp[N]
   simp[execOp,this]
  .rename_i n e z hs I;split at g<;>try (cases g;done)
   rename_i j hj;simp only[X5]at g;obtain⟨l,K,rfl⟩:=g;obtain⟨i,u,hi,hu,rfl⟩:=iG I;simp only[kb,X5]at hv;obtain⟨out,Z,rfl⟩:=hv;have N:=C6 (ρ:=ρ) (λi=>some (i*j.size,j.size)) parts.toList l u.cells.toList out K Z;have S:(parts.map λp=>(p.1,ρ p.2)).toList=parts.toList.map λp=>(p.1,ρ p.2):=by simp
   simp only[Array.toArray_toList]at N;have:(Instr.build t (parts.map λp=>(p.1,ρ p.2))).run P w=.ok (.agg out.toArray) w:=by
    simp only[Instr.build,Sem.run_bind,ky hi hu,Result.andThen_ok,kF hs,kw hj,S];simp[N]
   simp[execOp,this]
 case typeAssert x xt t ok=>
  simp only[jJ]at g;split at g<;>try (cases g;done)
  rename_i d Y B;simp only[X5,X2]at g;obtain⟨z,⟨i,hi,I⟩,rfl⟩:=g;simp only[kb]at hv;split at hv<;>try (cases hv;done)
  .rename_i hx;split at hv<;>cases hv;rename_i U;have:(Instr.typeAssert .nilIface xt t true).run P w=.ok (.tuple #[z,.bool false]) w:=by
    cases d<;>simp_all [Instr.typeAssert,ky hi I,underlying]
   simp[execOp,hx,U,this]
  .rename_i u y hx;split at hv
   .rename_i hut;cases hv;have:(Instr.typeAssert (.iface u y) xt t ok).run P w=.ok (if ok=true then .tuple #[y,.bool true]else y) w:=by
     cases d<;>simp_all [Instr.typeAssert,underlying]
    simp[execOp,hx,this]
   .rename_i hut;split at hv<;>cases hv;rename_i U;have:(Instr.typeAssert (.iface u y) xt t true).run P w=.ok (.tuple #[z,.bool false]) w:=by
     cases d<;>simp_all [Instr.typeAssert,ky hi I,underlying]
    simp[execOp,hx,U,this]
 case call c=>
  obtain⟨E,a5,L⟩:=c;obtain⟨a5⟩:=a5;obtain⟨L⟩:=L;have fin:∀{b:Builtin} {s:Sem Value},E=.builtin b->(∀cs,Go.builtin b L.toArray A cs (a5.map ρ).toArray=(do pure (.value (<- s))))->s.run P w=.ok v w->
   (execOp ρ ⟨J,.call ⟨E,a5.toArray,L.toArray⟩,A,pos,C,guard⟩).run P w=.ok (.value v) w:=by
   rintro b s rfl D F
   simp[execOp,resolve,invoke,D,F]
  simp only[jJ]at g;split at g
  .split at g<;>cases g;simp[kb]at hv
  .cases g;simp[kb]at hv
  .split at g<;>try (cases g;done)
   rename_i x t;split at g<;>cases g<;>simp only[kb]at hv<;>try (cases hv;done)
   all_goals (rename_i B;split at hv<;>cases hv)
   all_goals (rename_i hx;refine fin (s:=Builtin.len_ #[t] A #[ρ x]) rfl (λcs=>by simp[Go.builtin]) ?_)
   .simp[Builtin.len_,kF B,hx,goInt]
   .simp[Builtin.len_,kF B,hx,goInt]
  .split at g<;>try (cases g;done)
   rename_i x t;split at g<;>cases g<;>simp only[kb]at hv<;>try (cases hv;done)
   all_goals (rename_i B;split at hv<;>cases hv)
   all_goals (rename_i hx;refine fin (s:=Builtin.cap_ #[t] A #[ρ x]) rfl (λcs=>by simp[Go.builtin]) ?_)
   .simp[Builtin.cap_,kF B,hx,goInt]
  .split at g<;>cases g;rename_i x y;simp only[kb]at hv;split at hv<;>cases hv;rename_i hx hy;refine fin (s:=Builtin.min_ L.toArray A #[ρ x,ρ y]) rfl (λcs=>by simp[Go.builtin]) ?_;simp[Builtin.min_,Builtin.min2,hx,hy]
  .split at g<;>cases g;rename_i x y;simp only[kb]at hv;split at hv<;>cases hv;rename_i hx hy;refine fin (s:=Builtin.max_ L.toArray A #[ρ x,ρ y]) rfl (λcs=>by simp[Go.builtin]) ?_;simp[Builtin.max_,Builtin.max2,hx,hy]
  all_goals (repeat' split at g)
  all_goals first
   |(cases g;done)
   |(cases g;simp[kb]at hv;done)
   |(simp only[X5]at g;obtain⟨_,_,rfl⟩:=g;simp[kb]at hv;done)
 all_goals (try simp only[jJ]at g)
 all_goals (repeat' split at g)
 all_goals first
  |(cases g;done)
  |(cases g;simp[kb]at hv;done)
  |(simp only[X5]at g;obtain⟨_,_,rfl⟩:=g;simp[kb]at hv;done)
end
end Go.V

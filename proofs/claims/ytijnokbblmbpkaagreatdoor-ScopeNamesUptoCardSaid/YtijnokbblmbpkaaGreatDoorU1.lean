/-
  A part of the proof.
-/
import Derived.Orders
import Derived.Laws.Sem
import Derived.Laws.World
import GoSem.Dispatch
import Derived.Laws.Strings
import Derived.Laws.StructEq
set_option linter.all false
namespace Go
abbrev Ne1:List Value:=[.string ⟨#[]⟩,.int .i64 0,.slice none 0 0]
abbrev rP(k:Int)(s:ByteArray)(a b c:Int)(t:ByteArray)(d:Option Addr)(e f:Nat)(g:Option Addr)(h i:Nat)(u:Int)(v:Bool)(w:Option Addr)(x y:Nat):List Value:=[.int .u8 k,.string s,.int .u8 a,.int .i64 b,.int .u64 c,.string t,.slice d e f,.slice g h i,.int .i64 u,.bool v,.slice w x y]
abbrev rA(k:Nat)(s:ByteArray)(a:Nat)(b:Int)(c:Nat)(t:ByteArray)(d:Option Addr)(e f:Nat)(g:Option Addr)(h i:Nat)(l:Option Addr)(m n:Nat)(w:Option Addr)(x y:Nat)(p:Int):List Value:=[.int .u8 k,.string s,.int .u8 a,.int .i64 b,.int .u64 c,.string t,.slice d e f,.slice g h i,.slice l m n,.slice w x y,.int .i64 p]
abbrev rB(k:Nat)(s:ByteArray)(a:Nat)(b:Int)(c:Nat)(t:ByteArray)(d:Option Addr)(e f:Nat)(g:Option Addr)(h i:Nat)(u:Int)(v:Bool)(w:Option Addr)(x y:Nat):List Value:=[.int .u8 k,.string s,.int .u8 a,.int .i64 b,.int .u64 c,.string t,.slice d e f,.slice g h i,.int .i64 u,.bool v,.slice w x y]
abbrev rN(k:Int)(s:ByteArray)(a b c:Int)(t:ByteArray)(d:Option Addr)(e f:Nat)(g:Option Addr)(h i:Nat)(l:Option Addr)(m n:Nat)(w:Option Addr)(x y:Nat)(p:Int):List Value:=[.int .u8 k,.string s,.int .u8 a,.int .i64 b,.int .u64 c,.string t,.slice d e f,.slice g h i,.slice l m n,.slice w x y,.int .i64 p]
abbrev Nz:Value:=.slice none 0 0
theorem v6:type_of% @Array.eq_empty_of_size_eq_zero:=@Array.eq_empty_of_size_eq_zero
theorem v7:type_of% @Array.getElem?_eq_getElem:=@Array.getElem?_eq_getElem
theorem v8:type_of% @Array.getElem?_eq_some_iff:=@Array.getElem?_eq_some_iff
theorem vA:type_of% @Array.getElem?_modify:=@Array.getElem?_modify
theorem vB:type_of% @Array.getElem?_setIfInBounds_ne:=@Array.getElem?_setIfInBounds_ne
theorem vC:type_of% @Array.getElem?_toList:=@Array.getElem?_toList
theorem vD:type_of% @Array.toList_inj:=@Array.toList_inj
theorem vE:type_of% @Array.toList_map:=@Array.toList_map
theorem vF:type_of% @Bool.and_eq_false_iff:=@Bool.and_eq_false_iff
theorem vG:type_of% @Bool.and_eq_true:=@Bool.and_eq_true
theorem vH:type_of% @Bool.and_eq_true_iff:=@Bool.and_eq_true_iff
theorem vI:type_of% @Bool.and_true:=@Bool.and_true
theorem vJ:type_of% @Bool.eq_false_iff:=@Bool.eq_false_iff
theorem vK:type_of% @Bool.eq_iff_iff:=@Bool.eq_iff_iff
theorem vL:type_of% @Bool.false_and:=@Bool.false_and
theorem vM:type_of% @Bool.false_eq_true:=@Bool.false_eq_true
theorem vN:type_of% @Bool.false_or:=@Bool.false_or
theorem vO:type_of% @Bool.not_eq_true':=@Bool.not_eq_true'
theorem vP:type_of% @Bool.not_false:=@Bool.not_false
theorem vQ:type_of% @Bool.not_true:=@Bool.not_true
theorem vR:type_of% @Bool.or_assoc:=@Bool.or_assoc
theorem vS:type_of% @Bool.or_eq_false_iff:=@Bool.or_eq_false_iff
theorem vT:type_of% @Bool.or_eq_true:=@Bool.or_eq_true
theorem vU:type_of% @Bool.or_eq_true_iff:=@Bool.or_eq_true_iff
theorem vV:type_of% @Bool.or_false:=@Bool.or_false
theorem vW:type_of% @Bool.true_and:=@Bool.true_and
theorem vX:type_of% @Int.toNat_natCast:=@Int.toNat_natCast
theorem vY:type_of% @Int.toNat_of_nonneg:=@Int.toNat_of_nonneg
theorem vZ:type_of% @List.Perm.append_left:=@List.Perm.append_left
theorem vd:type_of% @List.Perm.append_right:=@List.Perm.append_right
theorem ve:type_of% @List.Perm.refl:=@List.Perm.refl
theorem vf:type_of% @List.all_cons:=@List.all_cons
theorem vg:type_of% @List.all_eq_true:=@List.all_eq_true
theorem vh:type_of% @List.any_cons:=@List.any_cons
theorem vj:type_of% @List.any_eq_true:=@List.any_eq_true
theorem vm:type_of% @List.append_assoc:=@List.append_assoc
theorem vp:type_of% @List.append_nil:=@List.append_nil
theorem vq:type_of% @List.cons.injEq:=@List.cons.injEq
theorem vr:type_of% @List.cons_append:=@List.cons_append
theorem vt:type_of% @List.contains_iff_mem:=@List.contains_iff_mem
theorem vw:type_of% @List.drop_eq_getElem_cons:=@List.drop_eq_getElem_cons
theorem vx:type_of% @List.drop_eq_nil_of_le:=@List.drop_eq_nil_of_le
theorem vy:type_of% @List.drop_zero:=@List.drop_zero
theorem vz:type_of% @List.eq_nil_of_length_eq_zero:=@List.eq_nil_of_length_eq_zero
theorem V0:type_of% @List.ext_getElem?:=@List.ext_getElem?
theorem V5:type_of% @List.filter_append:=@List.filter_append
theorem V6:type_of% @List.filter_cons:=@List.filter_cons
theorem V7:type_of% @List.filter_eq_nil_iff:=@List.filter_eq_nil_iff
theorem V8:type_of% @List.filter_eq_self:=@List.filter_eq_self
theorem V9:type_of% @List.findIdx?_cons:=@List.findIdx?_cons
theorem VV:type_of% @List.flatMap_append:=@List.flatMap_append
theorem Va:type_of% @List.flatMap_def:=@List.flatMap_def
theorem Vb:type_of% @List.flatMap_singleton:=@List.flatMap_singleton
theorem Vc:type_of% @List.flatten_append:=@List.flatten_append
theorem Vd:type_of% @List.flatten_cons:=@List.flatten_cons
theorem Ve:type_of% @List.flatten_nil:=@List.flatten_nil
theorem Vg:type_of% @List.foldl_cons:=@List.foldl_cons
theorem Vh:type_of% @List.getD_eq_getElem?_getD:=@List.getD_eq_getElem?_getD
theorem Vi:type_of% @List.getElem?_append:=@List.getElem?_append
theorem Vj:type_of% @List.getElem?_append_left:=@List.getElem?_append_left
theorem Vl:type_of% @List.getElem?_append_right:=@List.getElem?_append_right
theorem Vm:type_of% @List.getElem?_cons_succ:=@List.getElem?_cons_succ
theorem Vn:type_of% @List.getElem?_cons_zero:=@List.getElem?_cons_zero
theorem Vo:type_of% @List.getElem?_drop:=@List.getElem?_drop
theorem Vp:type_of% @List.getElem?_eq_none:=@List.getElem?_eq_none
theorem Vr:type_of% @List.getElem?_eq_none_iff:=@List.getElem?_eq_none_iff
theorem Vt:type_of% @List.getElem?_eq_some_iff:=@List.getElem?_eq_some_iff
theorem Vu:type_of% @List.getElem?_map:=@List.getElem?_map
theorem Vv:type_of% @List.getElem?_of_mem:=@List.getElem?_of_mem
theorem Vw:type_of% @List.getElem?_set:=@List.getElem?_set
theorem Vx:type_of% @List.getElem?_toArray:=@List.getElem?_toArray
theorem Vy:type_of% @List.length_append:=@List.length_append
theorem Vz:type_of% @List.length_cons:=@List.length_cons
theorem Q0:type_of% @List.length_drop:=@List.length_drop
theorem Q1:type_of% @List.length_eq_one_iff:=@List.length_eq_one_iff
theorem Q4:type_of% @List.length_eq_zero_iff:=@List.length_eq_zero_iff
theorem Q5:type_of% @List.length_filter_le:=@List.length_filter_le
theorem Q6:type_of% @List.length_map:=@List.length_map
theorem Q7:type_of% @List.length_nil:=@List.length_nil
theorem Q8:type_of% @List.length_set:=@List.length_set
theorem Q9:type_of% @List.length_singleton:=@List.length_singleton
theorem QA:type_of% @List.length_take:=@List.length_take
theorem QB:type_of% @List.map_append:=@List.map_append
theorem QC:type_of% @List.map_congr_left:=@List.map_congr_left
theorem QD:type_of% @List.map_cons:=@List.map_cons
theorem QE:type_of% @List.map_map:=@List.map_map
theorem QF:type_of% @List.map_nil:=@List.map_nil
theorem QG:type_of% @List.mem_append:=@List.mem_append
theorem QH:type_of% @List.mem_append_right:=@List.mem_append_right
theorem QI:type_of% @List.mem_cons:=@List.mem_cons
theorem QJ:type_of% @List.mem_cons_of_mem:=@List.mem_cons_of_mem
theorem QK:type_of% @List.mem_cons_self:=@List.mem_cons_self
theorem QL:type_of% @List.mem_filter:=@List.mem_filter
theorem QM:type_of% @List.mem_flatMap:=@List.mem_flatMap
theorem QN:type_of% @List.mem_flatten:=@List.mem_flatten
theorem QO:type_of% @List.mem_map:=@List.mem_map
theorem QP:type_of% @List.mem_of_mem_take:=@List.mem_of_mem_take
theorem QR:type_of% @List.mem_or_eq_of_mem_set:=@List.mem_or_eq_of_mem_set
theorem QS:type_of% @List.mem_range:=@List.mem_range
theorem QT:type_of% @List.mem_range'_1:=@List.mem_range'_1
theorem QU:type_of% @List.mem_singleton:=@List.mem_singleton
theorem QV:type_of% @List.nil_append:=@List.nil_append
theorem QW:type_of% @List.nodup_append:=@List.nodup_append
theorem QX:type_of% @List.nodup_cons:=@List.nodup_cons
theorem QY:type_of% @List.nodup_range:=@List.nodup_range
theorem QZ:type_of% @List.not_mem_nil:=@List.not_mem_nil
theorem Qa:type_of% @List.perm_append_comm:=@List.perm_append_comm
theorem Qc:type_of% @List.perm_append_comm_assoc:=@List.perm_append_comm_assoc
theorem Qd:type_of% @List.perm_ext_iff_of_nodup:=@List.perm_ext_iff_of_nodup
theorem Qe:type_of% @List.perm_middle:=@List.perm_middle
theorem Qf:type_of% @List.prefix_append:=@List.prefix_append
theorem Qg:type_of% @List.prefix_refl:=@List.prefix_refl
theorem Qh:type_of% @List.sublist_cons_self:=@List.sublist_cons_self
theorem Qi:type_of% @List.take_add_one:=@List.take_add_one
theorem Qj:type_of% @List.take_append_drop:=@List.take_append_drop
theorem Qk:type_of% @List.take_length:=@List.take_length
theorem Ql:type_of% @List.take_of_length_le:=@List.take_of_length_le
theorem Qm:type_of% @List.take_zero:=@List.take_zero
theorem Qn:type_of% @Nat.add_assoc:=@Nat.add_assoc
theorem Qo:type_of% @Nat.add_sub_cancel_left:=@Nat.add_sub_cancel_left
theorem Qp:type_of% @Nat.add_zero:=@Nat.add_zero
theorem Qq:type_of% @Nat.and_two_pow_sub_one_eq_mod:=@Nat.and_two_pow_sub_one_eq_mod
theorem Qr:type_of% @Nat.eq_zero_or_pos:=@Nat.eq_zero_or_pos
theorem Qs:type_of% @Nat.le_of_ble_eq_true:=@Nat.le_of_ble_eq_true
theorem Qt:type_of% @Nat.le_refl:=@Nat.le_refl
theorem Qu:type_of% @Nat.le_succ:=@Nat.le_succ
theorem Qv:type_of% @Nat.le_trans:=@Nat.le_trans
theorem Qw:type_of% @Nat.lt_of_lt_of_le:=@Nat.lt_of_lt_of_le
theorem Qx:type_of% @Nat.lt_succ_self:=@Nat.lt_succ_self
theorem Qy:type_of% @Nat.mul_le_mul_right:=@Nat.mul_le_mul_right
theorem Qz:type_of% @Nat.sub_self:=@Nat.sub_self
theorem X0:type_of% @Nat.sub_zero:=@Nat.sub_zero
theorem X1:type_of% @Nat.succ_mul:=@Nat.succ_mul
theorem X2:type_of% @Nat.zero_add:=@Nat.zero_add
theorem X3:type_of% @Nat.zero_le:=@Nat.zero_le
theorem X4:type_of% @Nat.zero_mul:=@Nat.zero_mul
theorem X6:type_of% @Option.bind_eq_some_iff:=@Option.bind_eq_some_iff
theorem X7:type_of% @Option.getD_some:=@Option.getD_some
theorem X8:type_of% @Option.isSome_iff_exists:=@Option.isSome_iff_exists
theorem X9:type_of% @Option.map_eq_some_iff:=@Option.map_eq_some_iff
theorem XA:type_of% @Option.map_none:=@Option.map_none
theorem XB:type_of% @Option.map_some:=@Option.map_some
theorem XC:type_of% @Option.some.inj:=@Option.some.inj
theorem XD:type_of% @Option.some.injEq:=@Option.some.injEq
theorem XE:type_of% @Prod.mk.injEq:=@Prod.mk.injEq
theorem zA0 {P:Prop}(h:P:=by
 have hwk:∀(Uc:List UC),Uc.map UC.q=U.map UC.q->∀{k:Nat} {z:UC},U[k]? =some z->∃z',Uc[k]? =some z'/\z'.q=z.q:=λUc hq k z hk=>by
  have:=Fg hq k;rw[hk]at this;cases e:Uc[k]? with
  |none=>rw[e]at this;cases this
  |some z'=>rw[e]at this;exact⟨z',rfl,XC this⟩
 refine VC.loop (α:=Nat×Nat×List UC×List Nat) (bg:=λs=>[(0,kE s.2.1),(1,kE y.q)]) (Hf:=λs=>[WK s.2.2.1 rK])
  (I:=λs=>s.1 < st.outer.length/\(∃z,s.2.2.1[s.1]? =some z/\z.q=s.2.1)/\s.2.2.1.map UC.q=U.map UC.q/\s.2.2.1.map UC.body=U.map UC.body/\s.2.2.2++st.way s.1 v=st.way i v/\st.af v∈st.line s.1/\(∀d∈s.2.2.2,s.1 < d)/\cQ st (nG st v s.2.2.2) Sx (λk=>st.uses.length+(if k∈s.2.2.2 then 1 else 0)) s.2.2.1 rK) (μ:=λs=>s.1) (i,u.q,U,[])
  ⟨cL,⟨u,hu,rfl⟩,rfl,rfl,rfl,hl,Zs,M5⟩ ZU ZI ?_
 clear M5
 rintro⟨c,q,Uc,dn⟩ ⟨hc,⟨z,hz,rfl⟩,Km,hmb,hway,Hi,hdn,hRc⟩
 simp only at hc hz Km hmb hway Hi hdn hRc;dsimp only;obtain⟨w',tS,rH⟩:=hwk Uc Km hw;have n0':kC.cell y2.q 0 (kO (some y2.unit))∈WK Uc rK:=mN Sv _ (kJ.2 ⟨0,kO (some y2.unit),rfl,Zs⟩);have n1':kC.cell y2.q 1 (.int .i64 y2.arg)∈WK Uc rK:=mN Sv _ (kJ.2 ⟨1,.int .i64 y2.arg,rfl,Zs⟩);rw[hyq2,hyu2,hyw]at n0';rw[hyq2,hya2,hya]at n1';have n0:kC.cell y.q 0 (kE w.q)∈WK Uc rK:=n0';have n1:kC.cell y.q 1 (.int .i64 x.own)∈WK Uc rK:=n1';have lw:z4 (WK Uc rK) w.q:=rH ▸ iz tS;have lz:z4 (WK Uc rK) z.q:=iz hz;obtain⟨R2,rX,cP⟩:=Yx (V:=rK) hz;have k0:=iA rX n0 Zs;have k1:=iA rX n1 Zs;have k6:kC.cell z.q 6 (.map (some z.nb))∈R2:=iA rX (yP hz _ (QJ _ (Zw _ (kJ.2 ⟨6,.map (some z.nb),rfl,Zs⟩)))) Zs;have k3:kC.cell z.q 3 (kO z.outer)∈R2:=iA rX (yP hz _ (QJ _ (Zw _ (kJ.2 ⟨3,kO z.outer,rfl,Zs⟩)))) Zs;have Us:∀{k:Nat} {z':UC},Uc[k]? =some z'->z4 R2 z'.q:=λ{k z'} hk=>by
  obtain⟨⟨n,h1⟩,⟨vv,h2⟩⟩:=iz (V:=rK) hk;exact⟨⟨n,iA rX h1 Zs⟩,⟨vv,iA rX h2 Zs⟩⟩
 refine VC.imp (H':=[[.obj z.nb (.map z.es z.cl)],R2]) (ai.perm (by simpa using rX)) ?_;have Na:=rH ▸ Us tS;have hlz:=Us hz;refine ae ?_;refine Yb u124 F4 F5 Zr Zr (hlz.more (λ_ hx=>by simp[hx])) (Na.more (λ_ hx=>by simp[hx])) ?_;refine ae ?_;by_cases hqe:z.q=w.q
 .rw[Zt hqe];refine ae ?_;have e1:c=st.af v:=by rw[huo];exact hRc.Xs hz tS (hqe.trans rH.symm)
  rw[hwf.sV Zo e1,vp]at hway;refine kG (Post:=[WK Uc rK]) (.inl rfl) .nil ⟨Uc,rK,⟨rfl,?_,Km,hmb,hvq2⟩,rfl⟩ (ai.perm (by simpa using rX.symm));refine cQ.congr (hRc.useS cL F3) (λk t=>?_) hrem2 (λk=>?_)
  .rw[On,hway]
  .show st.uses.length+_<=(st.uses++[(i,v)]).length;rw[Vy,Q9];split <;> omega
 rw[Zf hqe];have hcu:c≠st.af v:=λe=>by
  rw[huo]at e;rw[<- e,hz]at tS;exact hqe (by rw[XC tS];exact rH)
 have Ix:=Hi;rw[hwf.line Zo]at Ix;have hon:¬st.outer.getD c (-1) < 0:=λh'=>by
  rw[if_pos h']at Ix;rcases QI.1 Ix with h''|h''
  .exact hcu h''.symm
  .cases h''
 rw[if_neg hon]at Ix;have hln':st.af v∈st.line (st.outer.getD c (-1)).toNat:=by
  rcases QI.1 Ix with h''|h''
  .exact absurd h''.symm hcu
  .exact h''
 have hwst:=hwf.sW (v:=v) (by omega:c<=st.outer.length) hcu;rw[if_neg hon]at hwst;have nN:=hwf.fu c;obtain⟨c',OX⟩:∃c',c'=(st.outer.getD c (-1)).toNat:=⟨_,rfl⟩;rw[<- OX]at hln' hwst;obtain⟨z',Lg⟩:∃z',Uc[c']? =some z':=⟨_,Zg (by rw[hRc.ul];omega)⟩;have hzo:z.outer=some z'.q:=by
  rw[hRc.ou c z hz,if_neg hon,<- OX,Lg];rfl
 rw[hzo]at k3;obtain⟨m,t1,t2,t3,t4⟩:=hRc.nd c z hz;have Hj:∀p∈m,z4 R2 p.1.1:=λp hp=>by
  obtain⟨⟨j,wj,h1,h2⟩,_⟩:=t3 p hp;rw[h2];exact Us h1
 have Ug:c∉dn:=λh'=>Nat.lt_irrefl _ (hdn c h')
 have K0:0<=(jE (w.q,x.own) m).getD 0/\(jE (w.q,x.own) m).getD 0<=st.uses.length:=by
  cases e:jE (w.q,x.own) m with
  |none=>exact⟨Zs,Zs⟩
  |some cn=>
   obtain⟨_,h1,h2⟩:=t3 _ (Bp e);rw[if_neg Ug]at h2;simp only[X7];omega
 have hput:∀cT pu,iC cT pu (jv (w.q,x.own) ((jE (w.q,x.own) m).getD 0+1) m)->cQ st (nG st v (dn++[c])) Sx (λk=>st.uses.length+(if k∈dn++[c]then 1 else 0)) (Uc.set c {z with es:=cT,cl:=pu}) rK:=λcT pu nk=>by
  rw[<- rH]at nk;refine(hRc.put hz tS t2 t3 t4 nk (by rw[rH];omega) (by rw[if_neg Ug,rH];omega)).congr (λk t=>?_) (λk=>rfl) (λk=>?_)
  .rw[KN,huo,hoo]
  .by_cases e1:k∈dn
   .rw[if_pos e1,if_pos (Zw _ e1),if_neg (λe=>Ug (by rw[<- e];exact e1))];omega
   .rw[if_neg e1];by_cases e2:k=c
    .rw[if_pos e2,if_pos (by simp[e2])];omega
    .rw[if_neg e2];omega
 have fL:∀cT pu,iC cT pu (jv (w.q,x.own) ((jE (w.q,x.own) m).getD 0+1) m)->∃s:Nat×Nat×List UC×List Nat,(s.1 < st.outer.length/\(∃z,s.2.2.1[s.1]? =some z/\z.q=s.2.1)/\s.2.2.1.map UC.q=U.map UC.q/\s.2.2.1.map UC.body=U.map UC.body/\s.2.2.2++st.way s.1 v=st.way i v/\st.af v∈st.line s.1/\(∀d∈s.2.2.2,s.1 < d)/\cQ st (nG st v s.2.2.2) Sx (λk=>st.uses.length+(if k∈s.2.2.2 then 1 else 0)) s.2.2.1 rK)/\s.1 < c/\s.2.1=z'.q/\
  ai [[.obj z.nb (.map cT pu)],R2] [WK s.2.2.1 rK]:=λcT pu nk=>by
  have hq:=zp (w':={z with es:=cT,cl:=pu}) hz rfl;refine⟨(c',z'.q,Uc.set c {z with es:=cT,cl:=pu},dn++[c]),⟨by simp only;omega,?_,hq.trans Km,(tZ (w':={z with es:=cT,cl:=pu}) hz rfl).trans hmb,?_,hln',?_,hput cT pu nk⟩,by simp only;omega,rfl,ai.perm (by simpa using(cP cT pu).symm)⟩
  .have:=Fg hq c';rw[Lg]at this;cases e:(Uc.set c {z with es:=cT,cl:=pu})[c']? with
   |none=>rw[e]at this;cases this
   |some z2=>rw[e]at this;exact⟨z2,rfl,XC this⟩
  .rw[<- hway,hwst];simp
  .intro d hd;rcases QG.1 hd with hd|hd
   .have:=hdn d hd;simp only;omega
   .rw[QU.1 hd];simp only;omega
 clear hput hRc cP rX;generalize Uh:(jE (w.q,x.own) m).getD 0=cn at K0 fL;refine ae ?_;refine VC.draws ⟨?_,?_,trivial⟩
 .refine ae ?_;refine uC (k:=(w.q,x.own)) thP Zr Zr .here t1.of (Na.more (λ_ hx=>by simp[hx])) (λp hp=>(Hj p hp).more (λ_ hx=>by simp[hx])) ?_;rw[Uh];refine ae ?_;refine NO (k:=(w.q,x.own)) thP Zr Zr .here t1 (Na.more (λ_ hx=>by simp[hx])) (λp hp=>(Hj p hp).more (λ_ hx=>by simp[hx])) (λes1 cl1 s1 Fl UL _=>?_);refine ae ?_;refine Ya (k:=(w.q,x.own)) Zr Zr Zr .here Fl UL ?_ (λG8 AN=>?_)
  .split
   .exact t2
   .exact qW t2
  have hes3:iC G8 cl1 (jv (w.q,x.own) (cn+1) m):=by
   split at AN
   .exact AN
   .rw[Ep]at AN;exact AN
  obtain⟨s2,i1,i2,i3,i4⟩:=fL G8 cl1 hes3;refine ae ?_;exact⟨s2,i1,i2,by rw[i3];exact C0,i4⟩
 .refine ae ?_;refine NO (k:=(w.q,x.own)) thP Zr Zr .here t1 (Na.more (λ_ hx=>by simp[hx])) (λp hp=>(Hj p hp).more (λ_ hx=>by simp[hx])) (λes1 cl1 s1 Fl UL _=>?_);rw[Uh];have hcn2:(jE (w.q,x.own) (if(jE (w.q,x.own) m).isSome=true then m else jv (w.q,x.own) 0 m)).getD 0=cn:=by
   split
   .exact Uh
   .rename_i cV;rw[wT,if_pos rfl];cases e:jE (w.q,x.own) m with
    |none=>rw[e]at Uh;exact Uh
    |some _=>rw[e]at cV;exact absurd rfl cV
  have hls1:∀p∈(if(jE (w.q,x.own) m).isSome=true then m else jv (w.q,x.own) 0 m),z4 R2 p.1.1:=λp hp=>by
   split at hp
   .exact Hj p hp
   .rcases I4 hp with rfl|hp
    .exact Na
    .exact Hj p hp
  refine ae ?_;refine uC (k:=(w.q,x.own)) thP Zr Zr .here Fl.of (Na.more (λ_ hx=>by simp[hx])) (λp hp=>(hls1 p hp).more (λ_ hx=>by simp[hx])) ?_;rw[hcn2];refine ae ?_;refine Ya (k:=(w.q,x.own)) Zr Zr Zr .here Fl UL ?_ (λG8 AN=>?_)
  .split
   .exact t2
   .exact qW t2
  have hes3:iC G8 cl1 (jv (w.q,x.own) (cn+1) m):=by
   split at AN
   .exact AN
   .rw[Ep]at AN;exact AN
  obtain⟨s2,i1,i2,i3,i4⟩:=fL G8 cl1 hes3;refine ae ?_;exact⟨s2,i1,i2,by rw[i3];exact C0,i4⟩):P:=h
theorem zA1 {P:Prop}(h:P:=by
 refine jH ?_;refine VC.join (α:=Nat×Bool) (λz=>[(0,kE lb),(3,kE q),(5,kE r),(6,vi z.1)]) (λz=>[A,bh lb (mB||z.2) deep,kA r 0 (rA 5 s lk ln bm lt la items.length lc aa args.length ac ta ab.length tc none 0 0 p),kA q 0 (rA 5 s lk ln bm lt la items.length lc aa args.length ac ta ab.length tc (some ⟨bk,o,none⟩) kids.length c p)]) (λe=>jm ((z::l).map λy=>kQ (decide (y.kind=6)) (kM y))=some (e.1,e.2)) ?_ ?_
 .refine ae ?_;refine ox Zr Zr (l:=1) rfl Zo ?_;rw[<- Hj,if_neg Zo];refine ae ?_;refine VC.loop (α:=Nat×Nat×Bool) (bg:=λs=>[(0,kE lb),(3,kE q),(5,kE r),(6,vi s.2.1),(123,.slice (some ⟨bk,o+1*11,none⟩) (z::l).length (c - 1)),(124,vi (z::l).length),(125,vi s.1)]) (Hf:=λe=>[A,bh lb (mB||e.2.2) deep,kA r 0 (rA 5 s lk ln bm lt la items.length lc aa args.length ac ta ab.length tc none 0 0 p),kA q 0 (rA 5 s lk ln bm lt la items.length lc aa args.length ac ta ab.length tc (some ⟨bk,o,none⟩) kids.length c p)])
   (I:=λs=>s.1<=(z::l).length/\jm (((z::l).take s.1).map λy=>kQ (decide (y.kind=6)) (kM y))=some (s.2.1,s.2.2)) (μ:=λs=>(z::l).length - s.1) (0,0,false) ⟨X3 _,rfl⟩ ZU (by show ai _ [A,bh lb (mB||false) deep,kA r 0 (rA 5 s lk ln bm lt la items.length lc aa args.length ac ta ab.length tc none 0 0 p),kA q 0 (rA 5 s lk ln bm lt la items.length lc aa args.length ac ta ab.length tc (some ⟨bk,o,none⟩) kids.length c p)];rw[vV,Iy];exact bT) ?_
  rintro⟨j,d,mm⟩ ⟨i1,i2⟩
  simp only at i1 i2;dsimp only;have aC:∀j y,(z::l)[j]? =some y->kids[j+1]? =some y:=λj y e=>by rw[Hh];exact e
  have hmul:(z::l).length<=140737488355328:=by omega
  generalize rZ:z::l=tl at*;refine ae ?_;by_cases hj:j < tl.length;rotate_left
  .rw[show decide ((j:Int) < (tl.length:Int))=false from Zf Zo];rw[Ql Zo]at i2;refine ae ?_;exact⟨(d,mm),i2,ZU,ZI⟩
  rw[show decide ((j:Int) < (tl.length:Int))=true from Zt Zo];obtain⟨u,hu⟩:∃u,tl[j]? =some u:=⟨_,Zg hj⟩;have hur:=hr (j+1) u (aC j u hu);have hum:=hm (j+1) Zo;have huok:=bp.ok (j+1) u (aC j u hu);rw[show o+(j+1)*11=o+(11+j*11) by omega]at hum;have hv:=huok.1 lb (mB||mm) deep;generalize us (j+1)=uj at hur hum hv;obtain⟨e1,e2,e3,e4,e5,e6,e7,e8,e9,xD,xE,xF,xG,Kd,Ke,Kf,YX,rfl,fq,mV⟩:=yF hur;have cA:tl.take (j+1)=tl.take j++[u]:=by rw[Qi,hu];rfl
  refine ae ?_;refine kR Zr (λz hz=>Zw _ (hum z hz)) rfl ?_;refine ae ?_;refine kK (λq9=>?_);refine ae ?_;by_cases h6:u.kind=6;rotate_left
  .have aG:RR=none:=by
    rw[hR5,lV (.inl (dK (QO.2 ⟨u,Zv hu,by simp[kQ,h6]⟩)))];unfold kQ;split <;> rfl
   rw[show decide ((u.kind:Int)=6)=false from Zf Zo];refine ae ?_;refine kN (jI false) Zr ZP Zai (λch Post hz=>?_);obtain⟨_,rfl,rfl⟩:=hz;exact⟨[A,bh lb (mB||mm) deep],ZI,aG,rfl,_,rfl⟩
  rw[show decide ((u.kind:Int)=6)=true from Zt Zo];refine ae ?_;refine kN (jI true) Zr ZP (λv Post hv=>?_) Kc;obtain⟨_,rfl,rfl⟩:=hv;simp only[QV];refine ae ?_;refine kN hv Zr ZP (λv Post hv=>?_) (λch Post hz=>?_);rotate_left
  .obtain⟨hb,rfl,m2,rfl⟩:=hz;have aG:RR=none:=by
    rw[hR5,lV (.inl (dK (QO.2 ⟨u,Zv hu,by simp[kQ,h6,hb]⟩)))];unfold kQ;split <;> rfl
   exact⟨[A,bh lb m2 deep],ZI,aG,rfl,m2,rfl⟩
  obtain⟨e,m2,he,rfl,rfl⟩:=hv;simp only[aE];refine ae ?_;rw[show(if(e:Int) > (d:Int)then(e:Int)else(d:Int))=((max d e:Nat):Int) by split <;> omega];refine⟨(j+1,max d e,mm||m2),⟨by simp only;omega,?_⟩,by simp only;omega,ZU,?_⟩
  .simp only[cA,QB,QD,QF,he];simp only[h6,decide_true];exact dL i2
  .simp only[vR];exact bT
 .rintro⟨d,mm⟩ i2
  simp only at i2;dsimp only;cases hf:wx y z.name (kM y)with
  |some pf=>
   obtain⟨dF,mF⟩:=pf;have hFf:=tY (hF (mB||mm)) hf;refine VC.draws ⟨?_,trivial⟩;refine ae ?_;refine kR Zr (λz hz=>by simp only[Vd,QG];simp[cG z hz]) eO ?_;refine ae ?_;refine kH hFf Zr ZP (λv Post hv=>?_);obtain⟨rfl,rfl⟩:=hv;simp only[aE];refine ae ?_;rw[show(if(dF:Int) > (d:Int)then(dF:Int)else(d:Int))=((max d dF:Nat):Int) by split <;> omega];refine⟨⟨max d dF,decide (256 < kids.length)||(mm||mF),s,lk,ln,bm,lt,la,items.length,lc,aa,args.length,ac,ta,ab.length,tc⟩,?_,ZU,?_⟩
   .rw[hR5,hf,i2];simp[zX.ok,kQ,yJ,z7,D8,wz,Lt.kind,Lt.n,Lt.bits,Lt.text,Lt.items];simp only[and_assoc]
   .simp only;rw[<- vR,<- Nb,<- vR];show ai _ [A,bh lb (mB||mm||mF) deep,kA r 0 (rA 5 s lk ln bm lt la items.length lc aa args.length ac ta ab.length tc none 0 0 p)];exact bT
  |none=>
   have aG:RR=none:=by
    rw[hR5,lV (.inr hf)];unfold kQ;split <;> rfl
   obtain⟨dF,φF,hFφ,hFz⟩:=Bg hF;refine VC.Av (λch H'=>ch=wn/\∃m,ai H' [A,bh lb m deep]) (λH'=>∃m,ai H' [A,bh lb m deep,kA q 0 (rA 5 s lk ln bm lt la items.length lc aa args.length ac ta ab.length tc (some ⟨bk,o,none⟩) kids.length c p)]) ⟨mB||mm,ZI⟩ ?_ (λch H' hp=>?_)
   .skip
    intro rs cW;rcases QI.1 cW with rfl|cW
    .skip
     refine kI ?_;refine kI ?_;refine kI ?_;refine kI ?_;refine kI ?_;refine kI ?_;refine kI ?_;refine kI ?_;refine kI ?_;refine kI ?_;refine kI ?_;refine⟨rfl,vi dF,φF,λΓ H bq hH=>?_,?_⟩
     .obtain⟨mz,hz⟩:=hH;refine VO.imp hz ?_;refine kN (hFz mz) (by simp only[V.nt,V.ev,bq 140 Zd _ rfl,bq 144 Zd _ rfl,bq 149 Zd _ rfl]) ZP (λv Post hv=>?_) (λch Post hz=>?_)
      .obtain⟨rfl,hφ,m',rfl⟩:=hv;exact VO.nil ⟨rfl,⟨m',ai.refl _⟩,hφ⟩
      .obtain⟨rfl,m',rfl⟩:=hz;exact⟨rfl,m',ZI⟩
     refine⟨rfl,vi (max d dF:Nat),True,λΓ H bq hH=>?_,?_⟩
     .obtain⟨mz,hz⟩:=hH;refine VO.imp hz ?_;exact GX (by simp only[V.ev,bq 139 Zd _ rfl]) (by simp only[V.ev,bq 150 Zd _ rfl]) (VO.nil ⟨rfl,⟨mz,ai.refl _⟩,trivial⟩)
     refine kI ?_;exact λhh=>by
      simp only[true_and,and_true]at hh;exact hFφ hh hf
    .cases cW
   .obtain⟨rfl,m,hi⟩:=hp;exact⟨_,hi,aG,rfl,m,rfl⟩):P:=h
theorem zA2 {P:Prop}(h:P:=by
 refine ae ?_;refine VC.loop (α:=Nat×Nat×Bool) (bg:=λs=>[(0,kE lb),(1,.string aQ),(8,vi s.2.1),(29,.slice a l.length c),(30,vi l.length),(31,vi s.1)]) (Hf:=λs=>[A,bh lb (mB||s.2.2) deep])
  (I:=λs=>s.1<=l.length/\jm ((l.take s.1).map λx=>jX x (ni aQ) (kM x))=some (s.2.1,s.2.2)) (μ:=λs=>l.length - s.1) (0,0,false) ⟨X3 _,rfl⟩ ZU (by show ai _ [A,bh lb (mB||false) deep];rw[vV,Iy];exact bT) ?_
 rintro⟨j,d,mm⟩ ⟨i1,i2⟩
 simp only at i1 i2;dsimp only;refine ae ?_;by_cases hj:j < l.length;rotate_left
 .rw[show decide ((j:Int) < (l.length:Int))=false from Zf Zo];have cA:l.take j=l:=Ql Zo;rw[cA]at i2;refine ae ?_;refine jT (kG (Post:=[A,bh lb (m0'||(decide (15 < kS aQ)||mm)) deep]) (.inr rfl) (.tmp Zr .nil) ⟨d,_,by rw[CU,i2];rfl,rfl,by rw[hm0']⟩ (by rw[hm0',<- vR,<- Nb];exact bT))
 obtain rfl:=hk.at_ Zo;rw[show decide ((j:Int) < (l.length:Int))=true from Zt Zo];obtain⟨y,hy⟩:∃y,l[j]? =some y:=⟨_,Zg hj⟩;have bF:=hk.rd j y hy;have cG:=hk.mem j hj;have hv:=yQ A y _ bF (hk.ok j y hy) (ni aQ) lb (mB||mm) deep;generalize us j=uj at bF cG hv;obtain⟨e1,e2,e3,e4,e5,e6,e7,e8,e9,xD,xE,xF,xG,Kd,Ke,Kf,YX,rfl,fq,mV⟩:=yF bF;have cA:l.take (j+1)=l.take j++[y]:=by rw[Qi,hy];rfl
 refine ae ?_;refine kR Zr CS rfl ?_;refine ae ?_;refine kK (λq=>?_);refine ae ?_;cases he:jX y (ni aQ) (kM y)with
 |some dm=>
  obtain⟨e,m2⟩:=dm;rw[he]at hv;have hvf:ju Tryz.prog 170 [kE lb,.agg #[cv y.kind,.string y.name,cv e1,vi e2,uv e3,.string e4,.slice e5 e6 e7,.slice e8 e9 xD,.slice xE xF xG,.slice Kd Ke Kf,vi YX],vi (ni aQ)] [A,bh lb (mB||mm) deep] (λv Post=>v=vi e/\Post=[A,bh lb (mB||mm||m2) deep]) (λ_ _=>False):=
   ju.mono hv (λv Post ⟨d',m',e,h1,h2⟩=>by cases e;exact⟨h1,h2⟩) (λch Post hz=>by cases hz.1)
  refine VC.draws ⟨?_,?_,trivial⟩
  .skip
   refine ae ?_;refine kL (dY aQ bZ) Zr ?_;refine ae ?_;refine kH hvf.fun Zr ZP (λv Post hv=>?_);obtain⟨rfl,rfl⟩:=hv;simp only[aE];refine ae ?_;rw[show(if(e:Int) > (d:Int)then(e:Int)else(d:Int))=((max d e:Nat):Int) by split <;> omega];refine⟨(j+1,max d e,mm||m2),⟨by simp only;omega,?_⟩,by simp only;omega,ZU,?_⟩
   .simp only[cA,QB,QD,QF,he];exact dL i2
   .simp only[vR];exact bT
  .skip
   refine ae ?_;refine kL (dY aQ bZ) Zr ?_;refine ae ?_;refine kH hvf.fun Zr ZP (λv Post hv=>?_);obtain⟨rfl,rfl⟩:=hv;simp only[aE];refine ae ?_;rw[show(if(e:Int) > (d:Int)then(e:Int)else(d:Int))=((max d e:Nat):Int) by split <;> omega];refine⟨(j+1,max d e,mm||m2),⟨by simp only;omega,?_⟩,by simp only;omega,ZU,?_⟩
   .simp only[cA,QB,QD,QF,he];exact dL i2
   .simp only[vR];exact bT
 |none=>
  rw[he]at hv;have aG:RR=none:=by
   rw[cr,dK (QO.2 ⟨y,Zv hy,he⟩)];unfold kQ;split <;> rfl
  have hvz:ju Tryz.prog 170 [kE lb,.agg #[cv y.kind,.string y.name,cv e1,vi e2,uv e3,.string e4,.slice e5 e6 e7,.slice e8 e9 xD,.slice xE xF xG,.slice Kd Ke Kf,vi YX],vi (ni aQ)] [A,bh lb (mB||mm) deep] (λv Post=>False) (λch Post=>ch=wn/\∃m,Post=[A,bh lb m deep]):=
   ju.mono hv (λv Post ⟨d',m',e,_⟩=>by cases e) (λch Post hz=>hz.2)
  refine VC.Av (λch H'=>ch=wn/\∃m,ai H' [A,bh lb m deep]) (λH'=>H'=[kA q 0 (rA y.kind y.name e1 e2 e3 e4 e5 e6 e7 e8 e9 xD xE xF xG Kd Ke Kf YX),A,bh lb (mB||mm) deep]) rfl ?_ (λch H' hp=>?_)
  .intro rs cW;rcases QI.1 cW with rfl|cW
   .skip
    refine kI ?_;refine kI ?_;refine⟨rfl,.agg #[cv y.kind,.string y.name,cv e1,vi e2,uv e3,.string e4,.slice e5 e6 e7,.slice e8 e9 xD,.slice xE xF xG,.slice Kd Ke Kf,vi YX],True,λΓ H bq hH=>?_,?_⟩
    .subst hH;exact yC (bq 10 Zd _ rfl) YV HC
    refine kI ?_;refine⟨rfl,vi (ni aQ),True,λΓ H bq hH=>?_,?_⟩
    .subst hH;exact kL (dY aQ bZ) (by simp only[V.nt,V.ev,bq 38 Zd _ rfl]) HC
    refine⟨rfl,vi 0,False,λΓ H bq hH=>?_,?_⟩
    .subst hH;refine kN hvz Zao ZP (λv Post hv=>hv.elim) (λch Post hz=>?_);obtain⟨rfl,m,rfl⟩:=hz;exact⟨rfl,m,ZI⟩
    refine⟨rfl,vi d,True,λΓ H bq hH=>?_,?_⟩
    .subst hH;exact GX (a:=d) (b:=0) (by simp only[V.ev,bq 35 Zd _ rfl]) (by simp only[V.ev,bq 40 Zd _ rfl];rfl) (VO.nil ⟨by rw[Nat.max_zero],rfl,trivial⟩)
    refine kI ?_;exact λhh=>by simp at hh
   rcases QI.1 cW with rfl|cW
   .skip
    refine kI ?_;refine kI ?_;refine kI ?_;refine⟨rfl,vi (ni aQ),True,λΓ H bq hH=>?_,?_⟩
    .subst hH;exact kL (dY aQ bZ) (by simp only[V.nt,V.ev,bq 38 Zd _ rfl]) HC
    refine⟨rfl,.agg #[cv y.kind,.string y.name,cv e1,vi e2,uv e3,.string e4,.slice e5 e6 e7,.slice e8 e9 xD,.slice xE xF xG,.slice Kd Ke Kf,vi YX],True,λΓ H bq hH=>?_,?_⟩
    .subst hH;exact yC (bq 10 Zd _ rfl) YV HC
    refine⟨rfl,vi 0,False,λΓ H bq hH=>?_,?_⟩
    .subst hH;refine kN hvz Zao ZP (λv Post hv=>hv.elim) (λch Post hz=>?_);obtain⟨rfl,m,rfl⟩:=hz;exact⟨rfl,m,ZI⟩
    refine⟨rfl,vi d,True,λΓ H bq hH=>?_,?_⟩
    .subst hH;exact GX (a:=d) (b:=0) (by simp only[V.ev,bq 35 Zd _ rfl]) (by simp only[V.ev,bq 40 Zd _ rfl];rfl) (VO.nil ⟨by rw[Nat.max_zero],rfl,trivial⟩)
    refine kI ?_;exact λhh=>by simp at hh
   .cases cW
  .obtain⟨rfl,m,hi⟩:=hp;exact⟨_,hi,aG,rfl,m,rfl⟩):P:=h
theorem zA3 {P:Prop}(h:P:=by
 refine ae ?_;refine kR Zr (λz hz=>by simp only[Vd,QG];simp[cG z hz]) eO ?_;refine ae ?_;refine kH hFf Zr ZP (λv Post hv=>?_);obtain⟨rfl,rfl⟩:=hv;simp only[aE];refine ae ?_;refine ox Zr Zr (l:=1) rfl Zo ?_;refine ae ?_;refine kH hAf Zr ZP (λv Post hv=>?_);obtain⟨rfl,rfl⟩:=hv;simp only[aE];refine ae ?_;rw[show(if(dA:Int) > (dF:Int)then(dA:Int)else(dF:Int))=((max dF dA:Nat):Int) by split <;> omega];refine⟨⟨max dF dA,mF||mA,⟨#[]⟩,lk,ln,bm,lt,la,items.length,lc,aa,args.length,ac,ta,ab.length,tc⟩,?_,ZU,?_⟩
 .rw[hR4,hf,hal2];simp[zX.ok,kQ,yJ,dD,wz,Lt.kind,Lt.n,Lt.bits,Lt.text,Lt.items,show(⟨#[]⟩:ByteArray).size=0 from rfl];simp only[and_assoc]
 .simp only;rw[<- vR];show ai _ [A,bh lb (m0||mF||mA) deep,kA r 0 [cv 4,.string ⟨#[]⟩,cv lk,vi ln,uv bm,.string lt,.slice la items.length lc,.slice aa args.length ac,.slice ta ab.length tc,.slice none 0 0,vi p]];exact bT):P:=h
theorem zA4 {P:Prop}(h:P:=by
 refine ae ?_;refine kN aj Zr ZP (λv Post hv=>?_) (λch Post hz=>?_);rotate_left
 .obtain⟨q1,e1,p1,fC,rfl,rfl⟩:=hz;rw[Y5]at fC;cases fC
 obtain⟨mL,dU,U4,V4,T4,B4,⟨Z9,Pa,Fw,rows,Cs,B5,Da,dH,rfl⟩,rfl⟩:=hv;simp only[aE];obtain⟨w4,hw4,hwq4⟩:∃w,U4[st.outer.length]? =some w/\w.q=q:=mJ rfl (by
  obtain⟨t,ht⟩:=Pa;have h1:(U3.map UC.q)[st.outer.length]? =some q:=by rw[La,lR];exact Hm
  rw[<- ht,Vj (Vt.1 h1).1];exact h1)
 obtain⟨Rb,hpb,hrb⟩:=wk_body (V:=V4) hw4
 replace hpb:(WK U4 V4).Perm (kA q 8 [w4.body]++Rb):=by rw[<- hwq4];exact hpb
 replace hrb:∀bv,(WK (U4.set st.outer.length {w4 with body:=bv}) V4).Perm (kA q 8 [bv]++Rb):=λbv=>by rw[<- hwq4];exact hrb bv
 obtain⟨va,vc,rfl⟩:=Da.form;refine VO.imp (H':=[kA q 8 [w4.body],Rb,kA k9 0 [kE q],kA X.wq 0 [.map (some X.fb),.map (some X.gb),mL],ao mL (U4.map λu=>kO (some u.q)) dU,[.obj X.fb (.map X.bM X.fc)],[.obj X.gb (.map X.bQ X.gc)],T4,[.obj b (.map es c)],X.S,ao (.slice va (kT X.F X.G kids (aS args ab p st env o).1 (aS args ab p st env o).2 st.outer.length).1.length vc) rows.flatten Cs++B5]) (ai.cut (M:=[WK U4 V4,kA k9 0 [kE q],kA X.wq 0 [.map (some X.fb),.map (some X.gb),mL],ao mL (U4.map λu=>kO (some u.q)) dU,[.obj X.fb (.map X.bM X.fc)],[.obj X.gb (.map X.bQ X.gc)],T4,[.obj b (.map es c)],X.S,ao (.slice va (kT X.F X.G kids (aS args ab p st env o).1 (aS args ab p st env o).2 st.outer.length).1.length vc) rows.flatten Cs++B5]) ZI (ai.perm (by
  simp only[Vd,Ve,vp];rw[<- vm (kA q 8 [w4.body])];exact vd _ hpb))) ?_
 refine ae ?_;obtain⟨j1,j2,j3,⟨w5,j4,j5⟩,j6⟩:=ψ mL dU U4 V4 T4 rows Cs B5 va vc w4 Z9 Da dH hw4 hwq4 Pa Fw;refine jT (kG (Post:=[kA X.wq 0 [.map (some X.fb),.map (some X.gb),mL],ao mL ((U4.set st.outer.length {w4 with body:=.slice va (kT X.F X.G kids (aS args ab p st env o).1 (aS args ab p st env o).2 st.outer.length).1.length vc}).map λu=>kO (some u.q)) dU,[.obj X.fb (.map X.bM X.fc)],[.obj X.gb (.map X.bQ X.gc)],WK (U4.set st.outer.length {w4 with body:=.slice va (kT X.F X.G kids (aS args ab p st env o).1 (aS args ab p st env o).2 st.outer.length).1.length vc}) V4,T4++(ao (.slice va (kT X.F X.G kids (aS args ab p st env o).1 (aS args ab p st env o).2 st.outer.length).1.length vc) rows.flatten Cs++B5),[.obj b (.map es c)],X.S]) (.inr rfl) (.tmp (v:=kE q) Zr .nil) ⟨mL,dU,_,V4,_,⟨j1,j2,j3,w5,j4,j5⟩,rfl⟩ ?_);rw[j6];refine ai.cut (M:=[kA X.wq 0 [.map (some X.fb),.map (some X.gb),mL],ao mL (U4.map λu=>kO (some u.q)) dU,[.obj X.fb (.map X.bM X.fc)],[.obj X.gb (.map X.bQ X.gc)],kA q 8 [.slice va (kT X.F X.G kids (aS args ab p st env o).1 (aS args ab p st env o).2 st.outer.length).1.length vc],Rb,T4,ao (.slice va (kT X.F X.G kids (aS args ab p st env o).1 (aS args ab p st env o).2 st.outer.length).1.length vc) rows.flatten Cs++B5,[.obj b (.map es c)],X.S]) ZI (ai.perm ?_);have h:=λR=>(vd R (hrb (.slice va (kT X.F X.G kids (aS args ab p st env o).1 (aS args ab p st env o).2 st.outer.length).1.length vc))).symm
 simp only[vm]at h;simp only[Vd,Ve,vp,vm];exact vZ _ (vZ _ (vZ _ (vZ _ (h _))))):P:=h
theorem zA5 {P:Prop}(h:P:=by
 refine kI ?_;refine⟨rfl,vi dA,φA,λΓ H bq hH=>?_,?_⟩
 .obtain⟨mz,hz⟩:=hH;refine VO.imp hz ?_;refine kN (hAz mz) Zaq ZP (λv Post hv=>?_) (λch Post hz=>?_)
  .obtain⟨rfl,hφ,m',rfl⟩:=hv;exact VO.nil ⟨rfl,⟨m',ai.refl _⟩,hφ⟩
  .obtain⟨rfl,m',rfl⟩:=hz;exact⟨rfl,m',ZI⟩
 refine⟨rfl,vi (max dF dA:Nat),True,λΓ H bq hH=>?_,?_⟩
 .obtain⟨mz,hz⟩:=hH;refine VO.imp hz ?_;exact GX Zar Zas (VO.nil ⟨rfl,⟨mz,ai.refl _⟩,trivial⟩)
 refine kI ?_;exact λhh=>by
  simp only[true_and,and_true]at hh;rcases cV with h1|h1
  .exact hFφ hh.1 h1
  .exact hAφ hh.2 h1):P:=h
theorem zA6 {P:Prop}(h:P:=by
 refine ae ?_;refine VC.loop (α:=Nat×Nat×Bool) (bg:=λs=>[(0,kE lb),(5,kE r),(6,vi s.2.1),(185,.slice a kids.length c),(186,vi kids.length),(187,vi s.1)]) (Hf:=λz=>[A,bh lb (mB||z.2.2) deep,kA r 0 (rA 8 s lk ln bm lt la items.length lc aa args.length ac ta ab.length tc none 0 0 p)])
  (I:=λs=>s.1<=kids.length/\jm ((kids.take s.1).map λx=>jX x 1 (kM x))=some (s.2.1,s.2.2)) (μ:=λs=>kids.length - s.1) (0,0,false) ⟨X3 _,rfl⟩ ZU (by show ai _ [A,bh lb (mB||false) deep,kA r 0 (rA 8 s lk ln bm lt la items.length lc aa args.length ac ta ab.length tc none 0 0 p)];rw[vV,Iy];exact bT) ?_
 rintro⟨j,d,mm⟩ ⟨i1,i2⟩
 simp only at i1 i2;dsimp only;have hdb:d<=1099511627777:=ik (λr hr d m e=>by
  obtain⟨y,hy,rfl⟩:=QO.1 hr;obtain⟨i,hi⟩:=Vv (QP hy);exact uF (bp.ok i _ hi).2 e) i2
 refine ae ?_;by_cases hj:j < kids.length;rotate_left
 .rw[show decide ((j:Int) < (kids.length:Int))=false from Zf Zo];rw[Ql Zo]at i2;refine ae ?_;refine⟨⟨d+1,decide (255 < kids.length)||mm,s,lk,ln,bm,lt,la,items.length,lc,aa,args.length,ac,ta,ab.length,tc⟩,?_,ZU,?_⟩
  .simp only[hR8,i2,wy,z7];simp[zX.ok,kQ,wz,Lt.kind,Lt.n,Lt.bits,Lt.text,Lt.items];simp only[and_assoc]
  .simp only;rw[<- vR,<- Nb];show ai _ [A,bh lb (mB||mm) deep,kA r 0 (rA 8 s lk ln bm lt la items.length lc aa args.length ac ta ab.length tc none 0 0 p)];exact bT
 obtain rfl:=ha Zo;rw[show decide ((j:Int) < (kids.length:Int))=true from Zt Zo];obtain⟨y,hy⟩:∃y,kids[j]? =some y:=⟨_,Zg hj⟩;have bF:=hr j y hy;have cG:=hm j hj;have hv:=yQ A y _ bF (bp.ok j y hy) 1 lb (mB||mm) deep;generalize us j=uj at bF cG hv;obtain⟨e1,e2,e3,e4,e5,e6,e7,e8,e9,xD,xE,xF,xG,Kd,Ke,Kf,YX,rfl,fq,mV⟩:=yF bF;have cA:kids.take (j+1)=kids.take j++[y]:=by rw[Qi,hy];rfl
 refine ae ?_;refine kR Zr CS rfl ?_;refine ae ?_;refine kK (λq9=>?_);refine ae ?_;refine kN hv Zr ZP (λv Post hv=>?_) (λch Post hz=>?_);rotate_left
 .obtain⟨hb,rfl,m2,rfl⟩:=hz;have aG:RR=none:=by
   rw[hR8,dK (QO.2 ⟨y,Zv hy,hb⟩)];unfold kQ;split <;> rfl
  exact⟨[A,bh lb m2 deep],ZI,aG,rfl,m2,rfl⟩
 obtain⟨e,m2,he,rfl,rfl⟩:=hv;simp only[aE];refine ae ?_;rw[show(if(e:Int) > (d:Int)then(e:Int)else(d:Int))=((max d e:Nat):Int) by split <;> omega];refine⟨(j+1,max d e,mm||m2),⟨by simp only;omega,?_⟩,by simp only;omega,ZU,?_⟩
 .simp only[cA,QB,QD,QF,he];exact dL i2
 .simp only[vR];exact bT):P:=h
theorem DE {P:Prop}(h:P:=by
 refine ae ?_;refine kN (jI false) Zr ZP Zai (λch Post hz=>?_);obtain⟨_,rfl,rfl⟩:=hz;exact⟨[A,bh lb m0 deep],ZI,aG,rfl,m0,rfl⟩):P:=h
theorem zA8 {P:Prop}(h:P:=by
 refine ae ?_;refine VC.loop (α:=Nat×Nat×Bool) (bg:=λs=>[(0,kE lb),(7,vi s.2.1),(8,kE r),(114,.slice a items.length c),(115,vi items.length),(116,vi s.1)]) (Hf:=λs=>[A,bh lb (true||s.2.2) deep,kA r 0 [cv 10,vi n,uv b,.string t,.slice a items.length c]])
  (I:=λs=>s.1<=items.length/\jm ((items.take s.1).map λx=>jS x true)=some (s.2.1,s.2.2)) (μ:=λs=>items.length - s.1) (0,0,false) ⟨X3 _,rfl⟩ ZU (by rw[vV];exact bT) ?_
 rintro⟨j,d,mm⟩ ⟨i1,i2⟩
 simp only at i1 i2;dsimp only;have bH:=wf.many;simp only[Lt.size]at hbd;have hdb:d<=Lt.ap items:=ik (λr hr d m e=>by
  obtain⟨y,hy,rfl⟩:=QO.1 hr;have h1:=Lt.aD (QP hy);have h2:=Gb _ y (Qt _) true d m e;omega) i2
 refine ae ?_;by_cases hj:j < items.length;rotate_left
 .rw[show decide ((j:Int) < (items.length:Int))=false from Zf Zo];have cA:items.take j=items:=Ql Zo;rw[cA,<- dI]at i2;refine ae ?_;refine⟨⟨d+1,decide (255 < items.length)||mm,n,b,t,.slice none 0 0,0⟩,⟨⟨_,_,rfl⟩,?_⟩,ZU,?_⟩
  .simp[jS,i2,z7,wy,kQ,pg.ok]
  .rw[hmm1];exact bT
 obtain rfl:=ha Zo;rw[show decide ((j:Int) < (items.length:Int))=true from Zt Zo];obtain⟨y,hy⟩:∃y,items[j]? =some y:=⟨_,Zg hj⟩;have bF:=hr j y hy;have cG:=hm j hj;have UW:y.size<=N:=by
  have h1:=Lt.aD (Zv hy);simp only[Lt.size]at hx;omega
 have Ze:=Lt.aD (Zv hy);have az:=ih y UW Zo _ bF lb (true||mm) deep true;generalize us j=uj at bF cG az;have hyr2:=bF;cases hyr2 with
 |@mk k2 n2 b2 t2 Lo a2 c2 bk2 o2 Kr Se Im qK cP=>
 refine ae ?_;refine kR Zr CS rfl ?_;refine ae ?_;refine kK (λq2=>?_);refine ae ?_;refine kN az Zr ZP (λv Post hv=>?_) (λch Post hz=>?_);rotate_left
 .obtain⟨hb,rfl,m2,rfl⟩:=hz;have aG:jS (.mk 10 n b t items) inside=none:=by
   have h1:jm (uS items)=none:=by
    rw[dI];exact dK (QO.2 ⟨_,Zv hy,hb⟩)
   simp[jS,h1,z7,wy,kQ]
  exact⟨[A,bh lb m2 deep],ZI,aG,rfl,m2,rfl⟩
 obtain⟨e,m2,he,rfl,rfl⟩:=hv;simp only[aE];have cA:items.take (j+1)=items.take j++[.mk k2 n2 b2 t2 Lo]:=by rw[Qi,hy];rfl
 refine ae ?_;rw[show(if(e:Int) > (d:Int)then(e:Int)else(d:Int))=((max d e:Nat):Int) by split <;> omega];refine⟨(j+1,max d e,mm||m2),⟨by simp only;omega,?_⟩,by simp only;omega,ZU,?_⟩
 .simp only[cA,QB,QD,QF,he];exact dL i2
 .simp only[vR];exact bT):P:=h
theorem zA9 {P:Prop}(h:P:=by
 have IB:s1=seen:=by rw[UE];rfl
 refine ae ?_;refine zM (E:=yc) (V:=λn:Nat=>.int .i64 n) (k:=s) Zr Zr rfl Zay hH1 ?_;rw[Nn];generalize hgn:(jE s mH).getD 0=gn at hgs;refine ae ?_;by_cases g0:gn=0
 .rw[show decide ((gn:Int)=0)=true from Zt Zo];refine ae ?_;refine zM (E:=yc) (V:=λn:Nat=>.int .i64 n) (k:=s) Zr Zr rfl Zay hM1 ?_;rw[Nn];generalize hgm:(jE s mM).getD 0=gm at hms;refine ae ?_;by_cases g1:gm=0
  .rw[show decide ((gm:Int)=0)=true from Zt Zo];refine ae ?_;refine zM (E:=yc) (V:=λn:Nat=>.int .i64 n) (k:=s) Zr Zr rfl Zay hM1 ?_;rw[Nn,hgm];refine ae ?_;refine zL (E:=yc) (V:=λn:Nat=>.int .i64 n) (k:=s) (v:=gm+1) Zr Zr Zr rfl ZK hM1 (λcT c' hes'=>?_);refine ae ?_;refine j8 (out:=[.string s]) Zr Zr (λqb=>?_);refine ae ?_;refine kw (k:=out.length) (m:=1) (xs:=out.map Value.string) (sp:=sp) (ys:=[.string s]) Zr Zr bn ZK Zr ?_ rfl Zr Zr Zd Zo (λcw bA aH=>?_)
   .exact C2
   have Hl:o1=out++[s]:=by rw[O7,if_pos ⟨Zs,(hms.1 g1).1,hgs.1 g0,(hms.1 g1).2⟩]
   have hsl2:ky 1 cw o1.length (o1.map Value.string) bA:=by rw[Hl];simpa using aH
   obtain⟨oV,oW,rfl⟩:=aH.form;refine ae ?_;refine⟨(cT,c',.slice oV (out.length+1) oW,bA,hb,nk,hc,[]),⟨⟨⟨_,hes',by rw[Hl];exact met_put hM2⟩⟩,?_,hsl2,Zs⟩,ZU,?_⟩
   .rw[IB];exact D7
   .dsimp only;rw[Hl,QB,QD,QF];exact bT
  .rw[show decide ((gm:Int)=0)=false from Zf Zo];refine ae ?_;have Hl:o1=out:=by rw[O7,if_neg (λc=>g1 (hms.2 ⟨c.2.1,c.2.2.2⟩))]
   refine⟨(Dm,mc,.slice sa out.length sc,sp,hb,nk,hc,[]),⟨by rw[Hl];exact Ut,?_,by rw[Hl];exact bn,Zs⟩,ZU,?_⟩
   .rw[IB];exact D7
   .dsimp only;rw[Hl];exact bT
 .rw[show decide ((gn:Int)=0)=false from Zf Zo];refine ae ?_;have Hl:o1=out:=by rw[O7,if_neg (λc=>g0 (hgs.2 c.2.2.1))]
  refine⟨(Dm,mc,.slice sa out.length sc,sp,hb,nk,hc,[]),⟨by rw[Hl];exact Ut,?_,by rw[Hl];exact bn,Zs⟩,ZU,?_⟩
  .rw[IB];exact D7
  .dsimp only;rw[Hl];exact bT):P:=h
theorem zAA {P:Prop}(h:P:=by
 refine ae ?_;refine kL (gp aQ bZ) Zr ?_;refine ae ?_;rw[fC];refine ae ?_;rw[rG];refine ae ?_;rw[Sp];refine ae ?_;refine kH ((jI true).mono (Z':=λ_ _=>False) (λv Post h=>h) Kc).fun Zr ZP (λv Post hv=>?_);obtain⟨_,rfl,rfl⟩:=hv;simp only[QV];refine ae ?_;refine kN (gN A _ args bD lb 15 false false) Zr ZP (λv Post hv=>?_) (λch Post hz=>?_);rotate_left
 .obtain⟨hb,rfl,m2,rfl⟩:=hz;exact⟨[bh lb m2 false,A],by simp only[aE];exact bT,rfl,m2,false,[A],rfl,by simp[hm,kQ,wa,hb],rfl⟩
 obtain⟨Kj,rfl,rfl⟩:=hv;rw[vN];obtain⟨m1,CU⟩:∃m1,m1=decide (15 < args.length):=⟨_,rfl⟩;rw[<- CU];simp only[aE];refine ae ?_;refine kN (gN A _ ab bB lb 63 m1 false) Zr ZP (λv Post hv=>?_) (λch Post hz=>?_);rotate_left
 .obtain⟨hb,rfl,m2,rfl⟩:=hz;have aG:RR=none:=by
   simp only[hm,wa,hb];simp[kQ,z7]
  exact⟨[bh lb m2 false,A],by simp only[aE];exact bT,rfl,m2,false,[A],rfl,aG,rfl⟩
 obtain⟨Fm,rfl,rfl⟩:=hv;obtain⟨m2,qK⟩:∃m2,m2=(m1||decide (63 < ab.length)):=⟨_,rfl⟩;rw[<- qK];simp only[aE];refine ae ?_;refine kN (nh A body a c bk o us bp lb m2 false) Zr ZP (λv Post hv=>?_) (λch Post hz=>?_);rotate_left
 .obtain⟨hb,rfl,m3,rfl⟩:=hz;have aG:RR=none:=by
   simp only[hm,wa,hb,z7];simp[kQ]
  exact⟨[bh lb m3 false,A],by simp only[aE];exact bT,rfl,m3,false,[A],rfl,aG,rfl⟩
 obtain⟨d,m3,he,rfl,rfl⟩:=hv;simp only[aE];refine ae ?_;refine jT (kG (Post:=[bh lb (m2||m3) (decide ((d:Int) > 40)),A]) (.inl rfl) .nil ⟨m2||m3,_,[A],rfl,⟨d,?_,decide_eq_decide.2 Zo⟩,rfl⟩ ZI);simp only[hm,wa,Kj,Fm,he,z7,kQ,if_true,qK,CU,vR]):P:=h
theorem Sz {P:Prop}(h:P:=by
 refine jH ?_;refine kN (jI false) Zr ZP Zai (λch Post hz=>?_);obtain⟨_,rfl,rfl⟩:=hz;exact⟨[A,bh lb (m0||mm) deep],ZI,if_neg cV,rfl,_,rfl⟩):P:=h
theorem zAC {P:Prop}(h:P:=by
 refine kI ?_;refine⟨rfl,.tuple #[],False,λΓ H bq hH=>?_,?_⟩
 .subst hH;refine kN (jI false) Zau fJ.nil Zai (λch Post hz=>?_);obtain⟨_,rfl,rfl⟩:=hz;exact⟨rfl,by simp only[QV];exact ai.refl _⟩
 exact λhh=>by simp at hh):P:=h
theorem zAD {P:Prop}(h:P:=by
 have key:∀(s:List Nat),s.Sublist l->yE (λx y=>!((iV ops).getD x []).contains y) s=true:=by
  intro s
  induction s with
  |nil=>intro _;rfl
  |cons x s ih=>
   intro hs;simp only[yE,vG,vg,vO];refine⟨λy hy=>?_,ih ((Qh x s).trans hs)⟩;have h2:[x,y].Sublist l:=(List.Sublist.cons_cons x (List.singleton_sublist.2 hy)).trans hs;have b1:=yq s1 h2;cases hcc:((iV ops).getD x []).contains y with
   |false=>rfl
   |true=>
    have b2:=ε ((bV x).1 b1.1) (vt.1 hcc);have:=b1.2.2;have:=b2.2.2;omega
 exact key _ List.filter_sublist):P:=h
theorem zAE {P:Prop}(h:P:=by
 obtain⟨mz,hz⟩:=hH;refine VO.imp hz ?_;refine kN (hFz mz) Zap ZP (λv Post hv=>?_) (λch Post hz=>?_)
 .obtain⟨rfl,hφ,m',rfl⟩:=hv;exact VO.nil ⟨rfl,⟨m',ai.refl _⟩,hφ⟩
 .obtain⟨rfl,m',rfl⟩:=hz;exact⟨rfl,m',ZI⟩):P:=h
theorem zAF {P:Prop}(h:P:=by
 refine ae ?_;refine⟨_,nP,by simp only;omega,ZU,?_⟩;simp only;refine ai.cut (M:=[kA L0 0 [.int .u8 (iP s:Nat),.string (mD s),.int .u8 0,.int .i64 0,.int .u64 0,.string e0,.slice none 0 0,.slice none 0 0,.int .i64 0,.bool false,.slice none 0 0,.slice pa np.length pc,.slice oV (j+1) oW],kA cm 0 [.int .u8 0,.string e0,.int .u8 0,.int .i64 0,.int .u64 0,.string e0,.slice none 0 0,.slice none 0 0,.int .i64 0,.bool false,.slice none 0 0,.slice none 0 0,.slice none 0 0],kA X.wq 0 [.map (some X.fb),.map (some X.gb),pF],ao pF (U2.map λu=>kO (some u.q)) lP,[.obj X.fb (.map X.bM X.fc)],[.obj X.gb (.map X.bQ X.gc)],WK U2 V2,T2,[.obj b (.map es c)],X.S,ao (.slice oV (j+1) oW) (rows++[([.int .u8 pn.kind,.string pn.name,.int .u8 f1,.int .i64 f2,.int .u64 f3,.string f4,.slice f5 f6 f7,.slice r1 r2 r3,.int .i64 pn.unit,.bool pn.super,.slice none 0 0,.slice p1 p2 p3,.slice k1 k2 k3]:List Value)]).flatten bA,B,ao (.slice pa np.length pc) (np.map λb=>kO (some b)) MA,B2]) ZI (ai.perm ?_);simp only[Vd,Ve,vp,vm]
 repeat (first|exact vZ _ Qa|refine vZ _ ?_)):P:=h
theorem zAG {P:Prop}(h:P:=by
 refine ae ?_;refine kH (xB S (.slice aa args.length ac) args bD) Zr ZP (λv Post hv=>?_);obtain⟨B,⟨sp0,Zb,rfl,_,_⟩,rfl⟩:=hv;obtain⟨va,vc,rfl⟩:=Zb.form;simp only[aE];refine ae ?_;refine Mm (k:=args.length) (xs:=args.map Value.string) (sp:=sp0) (l:=ab) Zr Zr Zb ZK bB (λy hy=>by simp[hy]) Zo (λcw bA hg=>?_);obtain⟨xa,xc,rfl⟩:=hg.form;refine ae ?_;refine⟨(.slice xa (args.length+ab.length) xc,ao (.slice xa (args.length+ab.length) xc) (args.map Value.string++ab.map Value.string) bA),⟨xa,xc,by rw[hnl],?_⟩,ZU,ZI⟩;have hto:gl (.slice xa (args.length+ab.length) xc) (args++ab) (ao (.slice xa (args.length+ab.length) xc) (args.map Value.string++ab.map Value.string) bA):=by
  refine⟨bA,by rw[Vy,QB];exact hg,by rw[QB],by rw[Vy];omega,λt ht=>?_⟩;rcases QG.1 ht with ht|ht
  .obtain⟨i,hi⟩:=Vv ht;obtain⟨_,_,_,_,g⟩:=fK i t hi;exact g
  .obtain⟨i,hi⟩:=Vv ht;obtain⟨_,_,_,_,g⟩:=fN i t hi;exact g
 exact hto.rd):P:=h
theorem zAH {P:Prop}(h:P:=by
 refine ae ?_;refine kN hv Zr ZP (λv Post hv=>?_) (λch Post hz=>?_);rotate_left
 .obtain⟨hb,rfl,m2,rfl⟩:=hz;exact⟨[A,bh lb m2 deep],ZI,dK (by rw[<- hb];exact Zv aC),rfl,m2,rfl⟩
 obtain⟨e,m2,he,rfl,rfl⟩:=hv;simp only[aE];refine ae ?_;rw[show(if(e:Int) > (d:Int)then(e:Int)else(d:Int))=((max d e:Nat):Int) by split <;> omega];refine⟨(j+1,max d e,mm||m2),⟨by simp only;omega,?_⟩,by simp only;omega,ZU,?_⟩
 .simp only;rw[Qi,aC,he];exact dL i2
 .simp only[vR];exact bT):P:=h
theorem zAI {P:Prop}(h:P:=by
 have hol:o.Subset l:=λx hx=>(bV x).2 (o3 x hx)
 have cV:=uV o2;have s6:l.length=ops.size:=by
  have:l.Perm (List.range ops.size):=(Qd s1 QY).2 (λx=>by simp[bV]);simpa using this.length_eq
 have hor:o.Perm (List.range ops.size):=by
  refine(Qd cV QY).2 (λx=>?_);refine⟨λhx=>by simpa using o3 x hx,λhx=>?_⟩;exact I1 cV o3 o1 (by simpa using hx)
 exact hor.trans ((Qd s1 QY).2 (λx=>by simp[bV])).symm):P:=h
theorem zAJ {P:Prop}(h:P:=by
 refine ae ?_;refine jT ⟨.inr rfl,_,[kA X.wq 0 [.map (some X.fb),.map (some X.gb),mL],ao mL (U4.map λu=>kO (some u.q)) dU,[.obj X.fb (.map X.bM X.fc)],[.obj X.gb (.map X.bQ X.gc)],WK U4 V4,T4,[.obj b (.map es c)],X.S,ao (.slice va (kT X.F X.G kids D2.1 D2.2 i).1.length vc) rows.flatten Cs++(B5++ao (.slice Yl Ez.length Ym) (Ez.map λb=>kO (some b)) lM)],.aI (us:=jy (.slice Yl Ez.length Ym) (.slice va (kT X.F X.G kids D2.1 D2.2 i).1.length vc)) Zr Zr (λy hy=>by simp only[Vd,QG];repeat (first|exact Or.inl hy|refine Or.inr ?_)) (.tmp Zr .nil),?_,⟨mL,dU,U4,V4,T4,_,⟨Z9,by rw[<- hqq];exact Pa,(rX.trans hp3).trans Fw,Uo⟩,rfl⟩⟩;refine ai.cut (M:=[kA X.wq 0 [.map (some X.fb),.map (some X.gb),mL],ao mL (U4.map λu=>kO (some u.q)) dU,[.obj X.fb (.map X.bM X.fc)],[.obj X.gb (.map X.bQ X.gc)],WK U4 V4,T4,[.obj b (.map es c)],X.S,ao (.slice va (kT X.F X.G kids D2.1 D2.2 i).1.length vc) rows.flatten Cs++B5,ao (.slice Yl Ez.length Ym) (Ez.map λb=>kO (some b)) lM]) ?_ (ai.perm Zs);exact bT):P:=h
theorem zAK {P:Prop}(h:P:=by
 refine ae ?_;refine kN (jI _) Zr ZP (λv Post hv=>?_) (λch Post hz=>?_);rotate_left
 .obtain⟨hb,rfl,rfl⟩:=hz;exact⟨[A,bh lb m0 deep],ZI,by first|(simp[jS,kQ,hb];done)|(simp at hb;simp[jS,kQ,hb];done)|(simp at hb;simp[jS,kQ];omega),rfl,m0,rfl⟩
 obtain⟨hb,rfl,rfl⟩:=hv;simp only[QV];refine ae ?_;refine⟨⟨0,false,n,b,t,_,_⟩,⟨⟨_,_,rfl⟩,?_⟩,ZU,by rw[vV];exact bT⟩;simp[jS,kQ,pg.ok,hb]):P:=h
theorem zAL {P:Prop}(h:P:=by
 refine ae ?_;rw[<- hB];refine kH (R9 st U Vs hR i v u y hu hy (Hi v hg3) hb) Zr ZP (λr Post hr=>?_);obtain⟨U',po,⟨rfl,h6,h7,h7b,h8⟩,rfl⟩:=hr;simp only[aE];have hqo:xd po v=xd Vs v:=by
  have e1:=congrArg (λl=>l[v]?) h8;simp only[Vu]at e1;unfold xd;rw[Vh,Vh];cases e2:po[v]? <;> cases e3:Vs[v]? <;> rw[e2,e3]at e1 <;> simp_all
 refine ae ?_;rw[Jq hk K4 ii];have nP:uw po (cZ v)=.tuple #[.agg rz.toArray,kE y.q]:=by
  unfold uw cZ;simp only[if_true];rw[show((v:Nat):Int).toNat=v from rfl,hqo,<- hyq];rfl
 exact jT ⟨.inr rfl,_,[kA wq 0 [.map (some fb),.map (some gb),us],[.obj fb (.map bM fc)],[.obj gb (.map bQ gc)],WK U' po,[.obj b (.map es c)]],.aI (us:=rz) Zr Zr Zak (.tmp Zr .nil),ZI,U',po,⟨hf,nP.symm,h6,h7,h7b,h8⟩,rfl⟩):P:=h
theorem YT {P:Prop}(h:P:=by
 refine ae ?_;exact kG (Post:=[A]) (.inr rfl) (.tmp Zr .nil) ⟨by simp[bN],rfl⟩ ZI):P:=h
theorem zAN {P:Prop}(h:P:=by
 refine(Dq hpo).imp_of_mem (λ{x y} hx hy h=>?_);simp only[vT]at h;rcases h with(h|h)|h
 .left;simp only[oG]at h;split at h
  .rename_i p q hp hq;simp only[Vh,hp,hq,X7];exact h
  .cases h
 .right;exact(ε (o3 y hy) (vt.1 h)).sub
 .right;exact(S9 h).trans List.filter_sublist):P:=h
theorem zAO {P:Prop}(h:P:=by
 rw[Vi]at hy hs;rw[h.len]at hs;split at hy
 .rename_i hi;rw[if_pos hi]at hs;exact h.rd i y s hy hs
 .rename_i hi;rw[if_neg hi]at hs;have:=(Vt.1 hy).1;simp only[Q9]at this;have e:i - l.length=0:=by omega
  rw[e]at hy hs;obtain rfl:x=y:=by simpa using hy
  obtain rfl:r=s:=by simpa using hs
  exact hx):P:=h
theorem Zy {P:Prop}(h:P:=by
 refine ae ?_;refine kG (Post:=[]) (.inr rfl) (.tmp Zr .nil) ⟨by rw[hf];rfl,rfl⟩ ZI):P:=h
theorem zAQ {P:Prop}(h:P:=by
 obtain⟨_,h2⟩:=Gh e;simp only[X0]at h2;have aJ:t < args.length:=(Vt.1 h2).1;simp only[Array.getElem?_append,List.size_toArray,aJ,if_true];simpa using h2):P:=h
theorem zAR {P:Prop}(h:P:=by
 refine ae ?_;refine kX Zr (λq=>?_);simp only[Value.cells];refine ae ?_;by_cases h1:k=2
 .rw[show decide ((k:Int)=2)=true from Zt Zo];refine ae ?_;refine kG (Post:=[]) (.inr rfl) (.tmp Zr .nil) ⟨?_,rfl⟩ ZI;have:(s=⟨#[115,117,112,101,114]⟩)↔kB s=[115,117,112,101,114]:=⟨λe=>by rw[e];rfl,λe=>jQ (by rw[e];rfl)⟩;simp[bN,zU,h1,this]
 .rw[show decide ((k:Int)=2)=false from Zf Zo];refine ae ?_;refine kG (Post:=[]) (.inr rfl) (.tmp Zr .nil) ⟨by simp[bN,zU,h1],rfl⟩ ZI):P:=h
theorem zAS {P:Prop}(h:P:=by
 obtain⟨h1,h2,Ls,rfl,h3⟩:=h;obtain⟨Ls',e1,e2,e3⟩:=ON Ls L l.length;refine⟨by simp[h1],λr' s7=>?_,Ls',by rw[Vy,Q9,e3],λi y r' hy s7=>?_⟩
 .rcases QG.1 s7 with h|h
  .exact h2 r' h
  .rw[QU.1 h];exact hx.rd.len
 .rcases GN hy with⟨hi,hy⟩|⟨rfl,rfl⟩
  .rcases GN s7 with⟨_,s7⟩|⟨e,_⟩
   .rw[e1 i hi];exact h3 i y r' hy s7
   .omega
  .rcases GN s7 with⟨e,_⟩|⟨_,rfl⟩
   .omega
   .rw[e2];exact hx):P:=h
theorem zAT {P:Prop}(h:P:=by
 rintro e w' ⟨Post,h5,AX,hk⟩
 have tQ:Sat w' ((Post++R).flatten++F):=by rw[Vc,vm];exact AX
 rcases h5 with⟨v,rfl,hQ⟩|⟨ch,rfl,hQ⟩
 .refine .inl ⟨v,rfl,?_⟩;rw[<- g2];exact h v Post hQ l' s6 _ w' F ZZ Q' (ha.aq g3 v) tQ (λa2 w2 cJ H2 k1 k2 k3 k4 k5=>hq a2 w2 cJ H2 k1 k2 (k3.trans (jr ..)) k4 (hk.trans k5)) (λch a2 w2 cJ H2 k1 k2 k3 k4 k5=>hz ch a2 w2 cJ H2 k1 k2 (k3.trans (jr ..)) k4 (hk.trans k5))
 .exact .inr ⟨ch,rfl,hz ch a w' Γ _ (Lg ch Post hQ) ha rfl tQ hk⟩):P:=h
theorem zAU {P:Prop}(h:P:=by
 rw[<- vm,<- vm];exact vd _ Qa):P:=h
theorem zAV {P:Prop}(h:P:=by
 simp only[pR];refine V8.2 (λi hi=>?_);have:=QS.1 hi;simp[this]):P:=h
theorem zAW {P:Prop}(h:P:=by
 refine ae ?_;refine kG (Post:=[]) (.inr rfl) (.tmp Zr .nil) ⟨by rw[hb];rfl,rfl⟩ ZI):P:=h
theorem zAX {P:Prop}(h:P:=by
 refine ae ?_;have hr:=sD (F:=F) (G:=G) (st:=st) (env:=env) (nm:=nm) (u:=i) (p:=p) (put:=decide (k=3)) (by rw[hk];decide);rw[hr,hk];exact jT ⟨.inr rfl,_,[kA wq 0 [.map (some fb),.map (some gb),us],[.obj fb (.map bM fc)],[.obj gb (.map bQ gc)],WK U Vs,[.obj b (.map es c)]],.aI (us:=kf ⟨1,0,0,e0⟩) Zr Zr (λy hy=>by simp only[Vd,QG];exact .inl hy) (.tmp Zr .nil),ZI,U,Vs,⟨hf,rfl,hR,rfl,rfl,rfl⟩,rfl⟩):P:=h
theorem zAY {P:Prop}(h:P:=by
 generalize fH (kB s)=z at dD|-;refine ae ?_;by_cases he:z=(kB s).length
 .rw[Zt (show((z:Nat):Int)=(s.size:Int) by omega)];rw[if_pos he]at dD;refine ae ?_;rw[dD];exact⟨.inr rfl,[vi 1],[],.cq (v:=vi 1) Zr MJ .nil,ai.nil,⟨rfl,rfl⟩⟩
 .rw[Zf (show ¬((z:Nat):Int)=(s.size:Int) by omega)];rw[if_neg he]at dD;refine ae ?_;rw[dD];exact⟨.inr rfl,[vi (-1)],[],.cq (v:=vi (-1)) Zr MJ .nil,ai.nil,⟨rfl,rfl⟩⟩):P:=h
theorem zAZ {P:Prop}(h:P:=by
 subst hH;exact st_eqI (bq 5 Zd _ rfl) (bq 8 Zd _ rfl) (by simp only[fC]) (VO.nil ⟨rfl,rfl,trivial⟩)):P:=h
theorem zB0 {P:Prop}(h:P:=by
 refine ae ?_;refine kH hc Zr ZP (λv Post hv=>?_);obtain⟨rfl,rfl⟩:=hv;simp only[aE];refine ae ?_;refine kN (jI _) Zr ZP (λv Post hv=>?_) (λch Post hz=>?_)
 .obtain⟨h1,rfl,rfl⟩:=hv;simp only[QV];refine ae ?_;exact jT (kG (Post:=[B,bh lb true deep]) (.inl rfl) .nil ⟨by simpa using h1,rfl,rfl⟩ ZI)
 .obtain⟨h1,rfl,rfl⟩:=hz;exact⟨[B,bh lb true deep],ZI,by simpa using h1,rfl,true,rfl⟩):P:=h
theorem zB1 {P:Prop}(h:P:=by
 refine ae ?_;by_cases h:k < s.size
 .rw[Zt Zo];obtain⟨c,hc,pK⟩:=wG h;refine ae ?_;refine wO Zr Zr (j:=k) rfl hc ?_;refine ae ?_;refine⟨.inr rfl,_,_,.tmp Zr .nil,ZI,?_,rfl⟩;simp[bN,Vh,pK]
 .rw[Zf Zo];refine ae ?_;refine⟨.inr rfl,_,_,.tmp Zr .nil,ZI,?_,rfl⟩;have:(kB s)[k]? =none:=Vp (by rw[kV];omega);simp[bN,Vh,this]):P:=h
theorem zB2 {P:Prop}(h:P:=by
 rintro Post rfl
 refine⟨.inr rfl,[.agg #[.string e0,.int .i64 0,.slice none 0 0],.iface 80 (kE q)],[S,jU q e p],.aI (us:=[.string e0,.int .i64 0,.slice none 0 0]) Zr Zr (λy hy=>by simp only[vr,QV,Vd,QG];repeat (first|exact Or.inl hy|refine Or.inr ?_)) (.cq Zr (by simp[kA,H8]) .nil),by simp only[aE];exact bT,.inr ⟨e,p,q,Fj.trans hae,he0,rfl,rfl⟩⟩):P:=h
theorem zB3 {P:Prop}(h:P:=by
 refine ae ?_;refine gW Zr Zr hcat ?_;refine ae ?_;refine⟨.inr rfl,_,_,.aI (us:=[cv 5,vi 0,uv 0,.string (⟨#[45]⟩++t),.slice none 0 0]) Zr Zr Kb .nil,ZI,.inr ⟨C8,_,rfl,by rw[pI];rfl⟩,rfl⟩):P:=h
theorem zB4 {P:Prop}(h:P:=by
 rw[hk x Zs];have hkb:iI 7 (l++[x]).length (0+l.length) x=(!jR x&&decide (x.kind≠6)):=by
  unfold iI;rw[Zt (show 0+l.length+1=(l++[x]).length by simp)];by_cases h6:x.kind=6 <;> simp[h6]
 rw[hkb];by_cases h9:x.kind=9
 .rw[if_pos h9];have:jR x=false:=by rw[vJ];intro h;have:=gX h;omega
  simp[this,h9]
 .rw[if_neg h9,lQ,l1]
  congr 1
  simp[yT,h9]):P:=h
theorem zB5 {P:Prop}(h:P:=by
 refine⟨Zs,λx hx=>?_⟩;obtain⟨i,v,hi,rfl⟩:=kJ.1 hx;rw[Vu]at hi;obtain⟨u,hu,rfl⟩:=X9.1 hi;obtain⟨b2,o2,h1,h2,_⟩:=hr i u hu;cases h1;simpa using h2):P:=h
theorem zB6 {P:Prop}(h:P:=by
 refine ae ?_;refine kL hsg Zr ?_;refine ae ?_;by_cases he:z=(kB s).length
 .rw[Zt (show((z:Nat):Int)=(s.size:Int) by omega)];rw[if_pos he]at Sq;refine ae ?_;refine⟨.inr rfl,_,_,.tmp Zr .nil,ZI,?_,rfl⟩;rw[Sq];rfl
 .rw[Zf (show ¬((z:Nat):Int)=(s.size:Int) by omega)];rw[if_neg he]at Sq;refine ae ?_;refine⟨.inr rfl,_,_,.tmp Zr .nil,ZI,?_,rfl⟩;rw[Sq];rfl):P:=h
theorem zB7 {P:Prop}(h:P:=by
 refine VO.read rfl rfl (λρ aP=>⟨_,rfl,λF w hs=>?_⟩) h;rw[aP _ _ hx,aP _ _ hy];have hm:∀c∈H.flatten,c∈H.flatten++F:=λc hc=>Zw _ hc
 have:=ES (P:=P) hs ht hi hz (ha.more hm) (hb.more hm) 9999;have h2:(Op.equal t (.pointer (some ⟨a,0,none⟩)) (.pointer (some ⟨b,0,none⟩))).run P w=.ok (decide (a=b)) w:=this;rw[Sem.run_bind,gU Zs Zs];simp[Go.binOp,h2]):P:=h
theorem Sk {P:Prop}(h:P:=by
 refine ae ?_;exact⟨(),trivial,ZU,ZI⟩):P:=h
theorem zB9 {P:Prop}(h:P:=by
 have p0:=zZ e0;have p1:=zZ e1;have p2:=zZ e2;have p3:=zZ e3;have p4:=zZ e4;obtain⟨a0,a1,a2,a3,a4,rfl⟩:∃a0 a1 a2 a3 a4,cs=[a0,a1,a2,a3,a4]:=by
  match cs,hlen with
  |[a0,a1,a2,a3,a4],_=>exact⟨a0,a1,a2,a3,a4,rfl⟩
 simp only[Vn,Vm,XD]at p0 p1 p2 p3 p4;rw[p0,p1,p2,p3,p4,hl]):P:=h
theorem zBA {P:Prop}(h:P:=by
 have hzl:(rs.zip ops.toList).length=ops.size:=by simp[hlen]
 apply V0;intro i;simp only[Vu];by_cases hi:i < ops.size
 .rw[List.getElem?_range hi,XB];rw[Vh];have:i < (rs.zip ops.toList).length:=by omega
  rw[Zg this];rfl
 .rw[Vp (l:=List.range ops.size) (by simpa using hi),Vp Zo];rfl):P:=h
theorem zBB {P:Prop}(h:P:=by
 have hf:jJ (jW s)=1:=by rw[h];rfl
 have e1:iP s=11:=by simp[iP,h]
 have e2:mD s=s:=by simp[mD,h]
 rw[e1,e2];rw[show decide ((jJ (jW s):Int)=0)=false from Zf Zo];refine ae ?_;rw[show decide (s=⟨#[116,111,58,100,111,58]⟩)=false from Zf (λe=>by have:=hto.1 e;omega)];refine ae ?_;exact⟨(),trivial,ZU,by simp only[e0];exact ai.refl _⟩):P:=h
theorem zBC {P:Prop}(h:P:=by
 intro k
 induction k with
 |zero=>intro i acc w1 r w2 h;simp[loadCellsFrom]at h;exact h.2.symm
 |succ k ih=>
  intro i acc w1 r w2 h;simp only[loadCellsFrom,Sem.run_bind]at h;obtain⟨v,w3,h1,h2⟩:=jC h;have hw:w3=w1:=by
   simp only[Go.load,Sem.run]at h1;split at h1
   .cases h1;rfl
   .split at h1 <;> cases h1;rfl
  rw[ih _ _ _ _ _ h2,hw]):P:=h
theorem zBD {P:Prop}(h:P:=by
 refine ae ?_;exact kG (Post:=[A]) (.inr rfl) (.tmp Zr .nil) ⟨rfl,rfl⟩ ZI):P:=h
theorem zBE {P:Prop}(h:P:=by
 rintro e w' ⟨rfl,rfl⟩
 have hp:=Sat.push hs (.map es c) [.obj w.heap.size (.map es c)] (λx hx=>by
  obtain rfl:=QU.1 hx;exact⟨rfl,Zs,rfl⟩) Zs
 refine⟨_,_,rfl,⟨_,rfl,rfl⟩,?_,hp.2⟩;refine hp.1.perm ?_;simp only[Vd,Ve,vp,vr,QV];exact List.Perm.swap _ _ _):P:=h
theorem zBF {P:Prop}(h:P:=by
 refine(Qd (s1.filter _) (uV hd)).2 (λx=>?_);simp only[QL,bV,vt];exact⟨λh=>h.2,λh=>⟨hdlt x h,h⟩⟩):P:=h
theorem zBG {P:Prop}(h:P:=by
 rw[vJ];intro h;rw[vt]at h;simp only[zz,QI,QZ,or_false]at h;rcases h with h|h|h|h|h
 .exact h1 (jQ (by rw[h];rfl))
 .exact h2 (jQ (by rw[h];rfl))
 .exact h3 (jQ (by rw[h];rfl))
 .exact h4 (jQ (by rw[h];rfl))
 .exact h5 (jQ (by rw[h];rfl))):P:=h
theorem zBH {P:Prop}(h:P:=by
 intro x hx;obtain⟨i,hi⟩:=Vv hx;have O2:i < (rs.zip ops.toList).length:=(Vt.1 hi).1;have hi3:i < ops.size:=by simp[hlen]at O2;omega
 obtain⟨g1,g2,g3⟩:=zI h1 hi3;have:(rs.zip ops.toList).getD i default=x:=by rw[Vh,hi];rfl
 rw[this]at g3;exact⟨ops,g3⟩):P:=h
theorem zBI {P:Prop}(h:P:=by
 exact⟨.inr rfl,[vi (-1)],[],.cq (v:=vi (-1)) Zr MJ .nil,ai.nil,⟨rfl,rfl⟩⟩):P:=h
theorem zBJ {P:Prop}(h:P:=by
 subst hH;exact sP (bq 10 Zd _ rfl) (XY rfl (bq 12 Zd _ rfl) (by simp only[rG]) (VO.nil ⟨rfl,rfl,trivial⟩))):P:=h
theorem zBK {P:Prop}(h:P:=by
 refine ae ?_;exact kG (Post:=[A]) (.inr rfl) (.tmp Zr .nil) ⟨by rw[stop _ (by rw[Zf Zo];rfl)];rfl,rfl⟩ ZI):P:=h
theorem zBL {P:Prop}(h:P:=by
 show wJ P ZZ (⟨d,some (s,b),r⟩,o) (cH P ZZ Q l') a w;unfold wJ;rw[if_neg (by simp[hw])];exact h l' s6 _ w F ZZ Q (ha.aq g3 undef) lj (λa2 w2 cJ H2 k1 k2 k3 k4 k5=>hq a2 w2 cJ H2 k1 k2 (k3.trans (jr ..)) k4 k5) (λch a2 w2 cJ H2 k1 k2 k3 k4 k5=>hz ch a2 w2 cJ H2 k1 k2 (k3.trans (jr ..)) k4 k5)):P:=h
theorem zBM {P:Prop}(h:P:=by
 refine ae ?_;refine kN aj Zr ZP (λv Post hv=>?_) (λch Post hz=>?_)
 .obtain⟨mL,dU,U4,V4,T4,B4,⟨Z9,_⟩,_⟩:=hv;have:=Z9.ok;rw[Y5]at this;cases this
 .obtain⟨q1,e1,p1,fC,rfl,rfl⟩:=hz;refine⟨[X.S,jU q1 e1 p1],ZI,q1,e1,p1,?_,rfl,rfl⟩;rw[w7];exact fC):P:=h
theorem zBN {P:Prop}(h:P:=by
 obtain⟨q1,Sn,p1,fC,rfl,rfl⟩:=hz;exact⟨[X.S,jU q1 Sn p1],ZI,q1,Sn,p1,iE _ fC,rfl,rfl⟩):P:=h
theorem zBO {P:Prop}(h:P:=by
 simp only[wZ,XD]at hs;subst hs;simpa[execOp]using hr):P:=h
theorem zBP {P:Prop}(h:P:=by
 rw[<- g2];refine h v Post hQ l' s6 _ w' F ZZ Q' (ha.aq g3 v) ?_ (λa2 w2 cJ H2 k1 k2 k3 k4 k5=>hq a2 w2 cJ H2 k1 k2 (k3.trans (jr ..)) k4 (hk.trans k5)) (λch a2 w2 cJ H2 k1 k2 k3 k4 k5=>hz ch a2 w2 cJ H2 k1 k2 (k3.trans (jr ..)) k4 (hk.trans k5));rw[Vc,vm];exact AX):P:=h
theorem zBQ {P:Prop}(h:P:=by
 refine⟨rfl,vi 0,False,λΓ H bq hH=>?_,?_⟩
 .subst hH;refine kN hvz (by simp only[V.nt,V.ev,bq 12 Zd _ rfl,bq 13 Zd _ rfl,bq 15 Zd _ rfl]) ZP (λv Post hv=>hv.elim) (λch Post hz=>?_);obtain⟨rfl,m,rfl⟩:=hz;exact⟨rfl,m,ZI⟩
 refine kI ?_;exact λhh=>by simp at hh):P:=h
theorem zBR {P:Prop}(h:P:=by
 rename_i i hu hi;simp only[X9]at h1;obtain⟨r',h3,rfl⟩:=h1;cases h2 with
 |aI k1 k2 k3 k4=>
  simp only[List.mapM_cons,Sem.run_bind,Fm,slot k1,asAddr,Sem.run_pure,Result.andThen_ok,loadVar,eS hu,if_true,kd hi,run_loadCells k2 k3 hs,ih r' _ f hf Fm h3 k4]):P:=h
theorem zBS {P:Prop}(h:P:=by
 cases kids with
 |nil=>exact hk
 |cons x r=>simp only[Nd.ap]at hk;simp only[List.tail_cons];omega):P:=h
theorem zBT {P:Prop}(h:P:=by
 rw[Zt h2];refine ae ?_;refine kN (jI true) Zr ZP (λv Post hv=>?_) Kc;obtain⟨_,rfl,rfl⟩:=hv;simp only[QV];refine ae ?_;refine⟨⟨0,false,0,b,t,_,_⟩,⟨⟨_,_,rfl⟩,?_⟩,ZU,by rw[vV];exact bT⟩;simp[jS,kQ,pg.ok,h1,h2]):P:=h
theorem zBU {P:Prop}(h:P:=by
 refine ae ?_;refine⟨.inr rfl,_,_,.aI (us:=[cv 5,vi 0,uv 0,.string t,.slice none 0 0]) Zr Zr Kb .nil,ZI,.inr ⟨C8,_,rfl,rfl⟩,rfl⟩):P:=h
theorem zBV {P:Prop}(h:P:=by
 refine ae ?_;refine⟨.inr rfl,_,_,.aI (us:=[cv 0,vi 0,uv 0,.string ⟨#[]⟩,.slice none 0 0]) Zr Zr Kb (.tmp Zr .nil),ZI,M4 hb,rfl⟩):P:=h
theorem zBW {P:Prop}(h:P:=by
 refine ae ?_;refine kL (iN aQ bZ) Zr ?_;refine ae ?_;refine kH hvf.fun Zr ZP (λv Post hv=>?_);obtain⟨rfl,rfl⟩:=hv;simp only[aE];refine ae ?_;refine jT (kG (Post:=[A,bh lb (m0||m2) deep]) (.inr rfl) (.tmp Zr .nil) ⟨d,m2,rfl,rfl,rfl⟩ ZI)):P:=h
theorem zBX {P:Prop}(h:P:=by
 rw[hr]at aj;simp only[bN,hr,Zt h2,hl,aj,vW,Value.bool.injEq];rw[<- hr,hlen]
 (rw[vK];simp only[vT,vG,vO,decide_eq_true_eq,decide_eq_false_iff_not,true_iff,iff_true,reduceCtorEq,false_iff,iff_false];omega)):P:=h
theorem zBY {P:Prop}(h:P:=by
 obtain⟨mL,dU,U4,V4,T4,B4,⟨Z9,_⟩,_⟩:=hv;have:=Z9.ok;rw[Y5]at this;cases this):P:=h
theorem zBZ {P:Prop}(h:P:=by
 rcases Nat.lt_or_ge i w.heap.size with h|h
 .exact h
 .rw[Array.getElem?_eq_none h]at hb;cases hb):P:=h
theorem zC0 {P:Prop}(h:P:=by
 rw[Vu]at hi;obtain⟨f,Kj,Fm⟩:=X9.1 hi;cases Fm;exact hfld i f (by rw[<- Kj,vC])):P:=h
theorem zC1 {P:Prop}(h:P:=by
 simp only[QD,QF,cN,fX,oU,k1];show _=[Value.int .u8 (k.toNat:Nat),.string s,.int .u8 (lk.toNat:Nat),.int .i64 ln,.int .u64 (lb.toNat:Nat),_,_,_,_,_,_];rw[vY b1,vY b3,vY b5]):P:=h
theorem zC2 {P:Prop}(h:P:=by
 have hf:jJ (jW s)=0:=by rw[h];rfl
 have e1:iP s=12:=by simp[iP,h]
 have e2:mD s=s:=by simp[mD,h]
 rw[e1,e2];rw[show decide ((jJ (jW s):Int)=0)=true from Zt Zo];refine ae ?_;exact⟨(),trivial,ZU,by simp only[e0];exact ai.refl _⟩):P:=h
theorem zC3 {P:Prop}(h:P:=by
 intro hl i st env u;simp only[Nd.ap]at hl;obtain⟨h1,h2⟩:=ih x Zo st env u;cases h:cY s i with
 |true=>rw[zJ _ _ _ _ _ _ _ _ _ h];exact h2.trans (iR Zo (i+1) _ env u)
 |false=>rw[wd _ _ _ _ _ _ _ _ _ h];exact h1.trans (iR Zo (i+1) _ env u)):P:=h
theorem zC4 {P:Prop}(h:P:=by
 rw[rls];simp only[Sem.run_bind,Xn,parts44,Result.andThen];simp[ReflectliteValue.flagAddr,loadVar,isAgg,underlying,Tryz.underlying44,hb,Result.andThen,Tn,storeVar,Value.cells,storeCells,Addr.add];rw[run_store Tryz.prog W ta _ _ Zr];simp[ht,hf]):P:=h
theorem zC5 {P:Prop}(h:P:=by
 refine ae ?_;exact kG (Post:=[A]) (.inr rfl) (.tmp Zr .nil) ⟨by rw[i2];rfl,rfl⟩ ZI):P:=h
theorem zC6 {P:Prop}(h:P:=by
 obtain⟨k1,k2⟩:=aj kids hk st env u h hu he;exact⟨k1,bX _ _ _ _ _ _ _ k2⟩):P:=h
theorem zC7 {P:Prop}(h:P:=by
 rw[Vh,Vl (Qt _),Qz];rfl):P:=h
theorem zC8 {P:Prop}(h:P:=by
 simp only[kW]at hv;split at hv <;> try (cases hv;done)
 rename_i cs k m hx hi;split at hv <;> try (cases hv;done)
 rename_i hb;simp at hv;subst hv;simp[execOp,Instr.index,kF hs,hx,hi,asIntOf,hb,kd hj,part,eS hu]):P:=h
theorem zC9 {P:Prop}(h:P:=by
 refine ae ?_;refine⟨.inr rfl,_,_,.tmp Zr .nil,ZI,?_,rfl⟩;rfl):P:=h
theorem zCA {P:Prop}(h:P:=by
 refine ae ?_;refine⟨.inr rfl,_,_,.tmp Zr .nil,ZI,?_,rfl⟩;simp[bN,nX,hl]):P:=h
theorem zCB {P:Prop}(h:P:=by
 rcases QI.1 h with rfl|h
 .omega
 .have:=ih h;omega):P:=h
theorem zCC {P:Prop}(h:P:=by
 rw[QV,X2]at*;obtain⟨a',c',rfl⟩:=aH.form;refine ae ?_;exact kG (Post:=[A,ao (.slice a' l.length c') (l.map Value.string) bA]) (.inr rfl) (.tmp Zr .nil) ⟨_,⟨_,aH,rfl,hl,fq⟩,rfl⟩ ZI):P:=h
theorem zCD {P:Prop}(h:P:=by
 refine ae ?_;refine⟨⟨true,n,b,⟨#[]⟩,_,_⟩,⟨⟨_,_,rfl⟩,?_⟩,ZU,ZI⟩;simp only[hz];simp[jS,sm]):P:=h
theorem zCE {P:Prop}(h:P:=by
 intro l
 induction l with
 |nil=>simp
 |cons o r ih=>
  rw[List.flatMap_cons,Vy,Vz,X1];have h1:=Q5 (st.bi u) (st.things o);rw[rE]at h1;have:=h o;omega):P:=h
theorem zCF {P:Prop}(h:P:=by
 refine ae ?_;refine kH hcut Zr ZP (λv Post hv=>?_);obtain⟨t,rfl,h1,h2,rfl⟩:=hv;simp only[QV];refine ae ?_;refine kG (Post:=[]) (.inr rfl) (.tmp Zr (.tmp Zr .nil)) ⟨t,rfl,h1,h2,rfl⟩ ZI):P:=h
theorem zCG {P:Prop}(h:P:=by
 refine ae ?_;refine kG (Post:=[]) (.inr rfl) (.tmp Zr .nil) ⟨rfl,rfl⟩ ZI):P:=h
theorem zCH {P:Prop}(h:P:=by
 simp only[aE];refine ae ?_;refine⟨(j+1,r'),⟨by simp only;omega,by simp only;omega,by simp only;unfold wN;omega,λhh=>by simp only at hh|-;have:=h9 hh;rw[cA];omega⟩,by simp only;omega,ZU,ZI⟩):P:=h
theorem zCI {P:Prop}(h:P:=by
 obtain⟨rfl,hi⟩:=hp;exact⟨[bh lb false false,A],ai.cut hi ZI,rfl,false,false,[A],rfl,aG,rfl⟩):P:=h
theorem zCJ {P:Prop}(h:P:=by
 subst hH;exact kL (gp aQ bZ) Zat HC):P:=h
theorem zCK {P:Prop}(h:P:=by
 rcases Nat.lt_or_ge t.block w.heap.size with h|h
 .exact h
 .simp[World.cell?,Array.getElem?_eq_none h]at ht0):P:=h
theorem zCL {P:Prop}(h:P:=by
 cases h with
 |mk wf hl bD bB ha hm hr=>
  obtain⟨_,_,rfl,_⟩:=bD;obtain⟨_,_,rfl,_⟩:=bB;cases hl with
  |mk Se Im qK cP=>exact⟨_,_,_,_,_,_,_,_,_,_,_,_,_,_,_,_,rfl⟩):P:=h
theorem zCM {P:Prop}(h:P:=by
 rw[(hg 5 Zd).1]at e;refine kH C9 (by simp only[V.nt,V.ev,e]) ZP (λv Post hv=>?_);obtain⟨ws,B,rfl,hw,rfl⟩:=hv;exact VO.nil ⟨_,B,rfl,⟨ws,rfl,hw⟩,by simp only[aE];exact bT⟩):P:=h
theorem zCN {P:Prop}(h:P:=by
 refine(vd _ Qa).trans ?_;rw[vm];exact ve _):P:=h
theorem zCO {P:Prop}(h:P:=by
 obtain⟨x,hx,he⟩:=QO.1 hm;obtain⟨i,v,hi,rfl⟩:=kJ.1 hx;simp only[kC.loc,XE,XD,true_and]at he;have:=(Vt.1 hi).1;omega):P:=h
theorem zCP {P:Prop}(h:P:=by
 refine ae ?_;refine⟨⟨0,false,n,b,⟨#[]⟩,_,_⟩,⟨⟨_,_,rfl⟩,?_⟩,ZU,by rw[vV];exact bT⟩;simp[jS,kQ,pg.ok,show(⟨#[]⟩:ByteArray).size=0 from rfl]):P:=h
theorem zCQ {P:Prop}(h:P:=by
 simp only[V.marks,QD];rw[<- vm,<- vm];exact Qe):P:=h
theorem zCR {P:Prop}(h:P:=by
 rw[World.cell?_alloc_lt _ _ ⟨0,0,none⟩ Zs,World.cell?_alloc_lt _ _ ⟨0,0,none⟩ aJ];exact hg):P:=h
theorem zCS {P:Prop}(h:P:=by
 refine⟨Y++R,?_,λu' X' h'=>?_⟩
 .rw[<- vm];exact h1.trans (vd _ hx)
 .rw[<- vm];exact(h2 u').trans (vd _ h')):P:=h
theorem zCT {P:Prop}(h:P:=by
 refine ae ?_;refine⟨⟨inside,n,b,t,_,_⟩,⟨⟨_,_,rfl⟩,?_⟩,ZU,ZI⟩;simp[jS,sm]):P:=h
theorem zCU {P:Prop}(h:P:=by
 simp only[kW]at hv;split at hv <;> try (cases hv;done)
 rename_i cs hx;simp at hv;subst hv;simp[execOp,Instr.field,kF hs,hf,hx,asAgg,part,eS hu,kd hj]):P:=h
theorem zCV {P:Prop}(h:P:=by
 intro x hx;rw[<- K1]at hx;simp only[HX,QL,QS]at hx;exact hx.1):P:=h
theorem zCW {P:Prop}(h:P:=by
 rw[Zf Zo];refine ae ?_;refine⟨.inr rfl,_,_,.tmp Zr .nil,ZI,?_,rfl⟩;have h2:¬(c.toNat::r).length<=40:=by rw[<- hr];omega
 simp only[bN,hr,Zf h2,vL]):P:=h
theorem zCX {P:Prop}(h:P:=by
 rcases QI.1 hx with rfl|hx
 .exact⟨rfl,_,_,_,_,hb,Zs,Zo⟩
 .obtain⟨i,v,hi,rfl⟩:=kJ.1 hx;exact⟨rfl,_,_,_,_,hb,by simpa using hi,Zo⟩):P:=h
theorem zCY {P:Prop}(h:P:=by
 refine ae ?_;exact kG (Post:=[A]) (.inr rfl) (.tmp Zr .nil) ⟨by simp[bN,h1],rfl⟩ ZI):P:=h
theorem zCZ {P:Prop}(h:P:=by
 intro F w hs;refine⟨h.1,?_⟩;have aj:first++args.toArray++cap=(first.toList++args++cap.toList).toArray:=by
  apply vD.1;simp
 rw[aj];exact h.2 F w hs):P:=h
theorem zD0 {P:Prop}(h:P:=by
 rw[Zf (show ¬(s.size:Int) ≥ 1 by omega)];refine ae ?_;refine⟨.inr rfl,_,_,.tmp Zr .nil,ZI,?_,rfl⟩;have:kB s=[]:=Q4.1 Zo;simp[bN,this]):P:=h
theorem zD1 {P:Prop}(h:P:=by
 obtain⟨d,m2,he,rfl,rfl⟩:=hv;simp only[aE];refine ae ?_;refine jT (kG (Post:=[A,bh lb (m0||m2) deep]) (.inr rfl) (.tmp Zr .nil) ⟨d,m2,he,rfl,rfl⟩ ZI)):P:=h
theorem zD2 {P:Prop}(h:P:=by
 simp only[zS,X9]at h;obtain⟨x,h1,rfl⟩:=h;exact⟨b,rfl,h1⟩):P:=h
theorem zD3 {P:Prop}(h:P:=by
 obtain⟨hb,rfl,m2,rfl⟩:=hz;exact⟨[A,bh lb m2 deep],ZI,by simp[cr,zX.ok,w8,kQ,wz,Lt.kind,Lt.n,Lt.bits,Lt.text,Lt.items,Hh,hb],rfl,m2,rfl⟩):P:=h
theorem zD4 {P:Prop}(h:P:=by
 simp only[mq,QI,QG]at h;simp only[kW,h x (.inl rfl),ly (λy hy=>h y (.inr (.inl hy))),ly (λy hy=>h y (.inr (.inr hy)))]):P:=h
theorem zD5 {P:Prop}(h:P:=by
 simp only[jb];refine QC (λp hp=>?_);obtain⟨a,b,c⟩:=p;have hc:=vg.1 hk c (QO.2 ⟨_,hp,rfl⟩);simp[Tx hc aP]):P:=h
theorem zD6 {P:Prop}(h:P:=by
 intro e he;rw[Array.toList_push,QG]at he;rcases he with he|he
 .exact Nat.lt_succ_of_lt (h.clock e he)
 .rw[QU.1 he];exact Qx c):P:=h
theorem zD7 {P:Prop}(h:P:=by
 obtain⟨hb,rfl,m2,rfl⟩:=hz;exact⟨[A,bh lb m2 deep],ZI,by simp[cr,zX.ok,w8,kQ,wz,Lt.kind,Lt.n,Lt.bits,Lt.text,Lt.items,hb],rfl,m2,rfl⟩):P:=h
theorem zD8 {P:Prop}(h:P:=by
 rcases Qr w.heap.size with h0|h
 .simp[World.cell?,h0]at hg
 .exact h):P:=h
theorem zD9 {P:Prop}(h:P:=by
 cases agg with
 |true=>simp only[if_true]at h|-;cases h;simp[Array.map_extract]
 |false=>simp only[vM,if_false]at h|-;exact nK h):P:=h
theorem zDA {P:Prop}(h:P:=by
 refine Zw _ ?_;simp only[ao,ku];exact Zw _ (iW hr.w (aC i hi) y hy)):P:=h
theorem zDB {P:Prop}(h:P:=by
 refine ae ?_;refine kG (.inr rfl) (.tmp Zr .nil) ⟨by simp[bN,h0,So],rfl⟩ ZI):P:=h
theorem zDC {P:Prop}(h:P:=by
 obtain⟨h1,h2⟩:=Vt.1 hy;rw[vw h1,h2]):P:=h
theorem zDD {P:Prop}(h:P:=by
 rw[<- vm];exact lj.perm (hs.append_right F)):P:=h
theorem zDE {P:Prop}(h:P:=by
 rw[show decide ((k:Int)=4)=false from Zf Zo];refine ae ?_;refine kG (Post:=[]) (.inr rfl) (.tmp Zr .nil) ⟨by simp[bN,fO,h3,h4,h5],rfl⟩ ZI):P:=h
theorem zDF {P:Prop}(h:P:=by
 simp only[Instr.mapUpdate,Sem.run_bind,kF hu,Result.andThen_ok,hx,Nh,yb hd Iq,run_findKey hd Iq hf];simpa[j7]using h2):P:=h
theorem zDG {P:Prop}(h:P:=by
 have h5:=hb.str s.data.toList;have e2:s.data.toList.length=s.size:=by simp
 omega):P:=h
theorem zDH {P:Prop}(h:P:=by
 obtain⟨g1,g2,g3⟩:=zI h1 hi;exact⟨g1,g3⟩):P:=h
theorem zDI {P:Prop}(h:P:=by
 rename_i i hu hi;simp only[wZ,XD]at hs;subst hs;simpa[execOp,Instr.loadAt,loadVar,eS hu,kd hi,j7]using hr):P:=h
theorem zDJ {P:Prop}(h:P:=by
 refine ae ?_;exact kG (Post:=[T]) (.inr rfl) (.tmp Zr .nil) ⟨rfl,rfl⟩ ZI):P:=h
theorem zDK {P:Prop}(h:P:=by
 refine ae ?_;exact kG (Post:=[S]) (.inr rfl) (.tmp Zr .nil) ⟨rfl,rfl⟩ ZI):P:=h
theorem zDL {P:Prop}(h:P:=by
 split
 .rfl
 .split
  .simp only;split
   .exact hw _
   .rfl
  .split
   .rfl
   .simp only;split
    .rfl
    .exact hw _):P:=h
theorem zDM {P:Prop}(h:P:=by
 exact⟨a1,by simp only[PN.w,Q7];omega⟩):P:=h
theorem zDN {P:Prop}(h:P:=by
 rw[vw aJ]
 congr 1
 exact(Vt.1 hy).2):P:=h
theorem zDO {P:Prop}(h:P:=by
 refine ae ?_;exact⟨.inr rfl,_,_,.aI (us:=[cv 0,vi 0,uv 0,.string ⟨#[]⟩,.slice none 0 0]) Zr Zr Kb (.tmp Zr .nil),ZI,M4 hb,rfl⟩):P:=h
theorem zDP {P:Prop}(h:P:=by
 refine ae ?_;refine kH az Zr ZP (λv Post hv=>?_);obtain⟨rfl,rfl⟩:=hv;simp only[aE];refine ae ?_;exact⟨j+1,Zo,Zo,ZU,ZI⟩):P:=h
theorem zDQ {P:Prop}(h:P:=by
 obtain⟨t,rfl⟩:=hq;show(qs++t).getD v 0=qs.getD v 0;rw[Vh,Vh,Vj hv]):P:=h
theorem zDR {P:Prop}(h:P:=by
 rcases QI.1 hy with rfl|hy
 .exact sU (h _ (QK ..))
 .exact ih (λr hr=>h r (QJ _ hr)) y hy):P:=h
theorem zDS {P:Prop}(h:P:=by
 cases AR:x.kids with
 |nil=>rw[AR]at Iz;cases Iz
 |cons y l=>rw[AR]at Iz;obtain rfl:y=r:=by simpa using Iz
            rfl):P:=h
theorem zDT {P:Prop}(h:P:=by
 refine⟨h3,?_⟩;simp only[wI,vG];exact⟨mr (λv hv=>iK (wk F G r _ env u) u v hv) _ h2,h4⟩):P:=h
theorem zDU {P:Prop}(h:P:=by
 rw[Array.toList_push,List.pairwise_append];refine⟨h.born,Zs,λa ha b hb=>?_⟩;rw[QU.1 hb];exact h.clock a ha):P:=h
theorem zDV {P:Prop}(h:P:=by
 have:=h.nodup;simp only[QD,QX,QO,not_exists,not_and]at this;intro e;exact this.1 x hx e.symm):P:=h
theorem zDW {P:Prop}(h:P:=by
 exact leaf _ _ λh=>by simp only[decide_eq_true_eq]at h;exact⟨vz h.2.2.2.2,Zo,by simp;omega⟩):P:=h
theorem zDX {P:Prop}(h:P:=by
 exact vZ _ Qa):P:=h
theorem zDY {P:Prop}(h:P:=by
 refine ae ?_;exact kG (Post:=[A]) (.inr rfl) (.tmp Zr .nil) ⟨r,rfl,i2,by unfold wB;omega,λ_=>by omega,rfl⟩ ZI):P:=h
theorem zDZ {P:Prop}(h:P:=by
 rcases QI.1 hx with rfl|hx
 .exact h.1
 .exact ih h.2 hx):P:=h
theorem zE0 {P:Prop}(h:P:=by
 obtain⟨⟨a,z,k5,k6⟩,k7⟩:=k3 p hp;obtain⟨z',k8,k9⟩:=cM k5;exact⟨⟨a,z',k8,k6.trans k9.symm⟩,k7⟩):P:=h
theorem zE1 {P:Prop}(h:P:=by
 rename_i sk Ee;obtain⟨d,hd,Iq⟩:=XS Ee;simp only[wZ,XD]at hs;subst hs;exact upd_aux hu hd Iq hr):P:=h
theorem zE2 {P:Prop}(h:P:=by
 obtain⟨q1,Sn,p1,fC,rfl,rfl⟩:=hz;exact⟨[X.S,jU q1 Sn p1],ZI,q1,Sn,p1,by rw[hP];exact fC,rfl,rfl⟩):P:=h
theorem zE3 {P:Prop}(h:P:=by
 refine⟨h3,?_⟩;simp only[wQ,vG];exact⟨ml (wk F G r _ env u).outer.length_le _ h2,h4⟩):P:=h
theorem zE4 {P:Prop}(h:P:=by
 simp only[hx,Sem.run_bind,Nh,Result.andThen_ok,yb hd Iq,run_findKey hd Iq hf];simpa[j7]using h2):P:=h
theorem zE5 {P:Prop}(h:P:=by
 simp only[IntKind.wrap,IntKind.bits,IntKind.signed];simp;omega):P:=h
theorem zE6 {P:Prop}(h:P:=by
 rw[Vh,Zg (by rw[hr.len];exact hi)];rfl):P:=h
theorem zE7 {P:Prop}(h:P:=by
 subst hH;exact sP (bq 15 Zd _ rfl) (XY (bq 17 Zd _ rfl) rfl (by simp only[Sp]) (VO.nil ⟨rfl,rfl,trivial⟩))):P:=h
theorem zE8 {P:Prop}(h:P:=by
 have:=(QL.1 hi).1;simp only[QG,QI]at this|-;rcases this with h|h <;> simp[h]):P:=h
theorem zE9 {P:Prop}(h:P:=by
 simp only[aE];refine ae ?_;exact kG (Post:=[B']) (.inr rfl) .nil ⟨rfl,.inr ⟨_,B',aN,hB',rfl⟩⟩ ZI):P:=h
theorem zEA {P:Prop}(h:P:=by
 cases e with
 |returned v=>exact⟨a.defers,v,w1,hR⟩
 |panicked c=>exact hR.elim
 |outgrown=>exact hR.elim):P:=h
theorem zEB {P:Prop}(h:P:=by
 refine ae ?_;exact kG (Post:=[A]) (.inr rfl) (.tmp Zr .nil) ⟨_,rfl,λhh=>(by simp at hh),rfl⟩ ZI):P:=h
theorem zEC {P:Prop}(h:P:=by
 exact⟨a1,bX _ _ _ _ _ _ _ Zo a2⟩):P:=h
theorem zED {P:Prop}(h:P:=by
 refine ae ?_;refine kX Zr (λq=>?_);simp only[Value.cells];refine ae ?_;exact⟨q,trivial,ZU,ZI⟩):P:=h
theorem zEE {P:Prop}(h:P:=by
 refine ae ?_;exact⟨(j+1,M),⟨by simp only;omega,by simp only;omega⟩,by simp only;omega,ZU,ZI⟩):P:=h
theorem zEF {P:Prop}(h:P:=by
 cases r with
 |none=>simp[ke hi hiz,xX]
 |some p=>obtain⟨j,v⟩:=p;simp[xX]):P:=h
theorem zEG {P:Prop}(h:P:=by
 obtain⟨_,bx,Rr,Q2,Y6,UJ,fL⟩:=q;exact go .returning .returning bx Rr Q2 Zs rfl Y6 UJ fL):P:=h
theorem zEH {P:Prop}(h:P:=by
 have ge:es[j]=e:=by rw[v7 g2']at this;exact XC this
 simp[g2',ge]):P:=h
theorem zEI {P:Prop}(h:P:=by
 simp only[zS]at h;split at h
 case h_2=>cases h
 rename_i x y h1 h2;cases h;exact⟨a,b,rfl,h1,h2⟩):P:=h
theorem zEJ {P:Prop}(h:P:=by
 simp[Instr.takeDeferred,Go.getObj,Go.setObj,Sem.run,k1]):P:=h
theorem zEK {P:Prop}(h:P:=by
 refine Gl (λb=>⟨_,_,.inl rfl,?_,h b⟩);simp):P:=h
theorem zEL {P:Prop}(h:P:=by
 rw[DV Zo]at i3;refine ae ?_;refine⟨.inr rfl,_,_,.tmp Zr .nil,ZI,?_,rfl⟩;rw[<- i3];rfl):P:=h
theorem zEM {P:Prop}(h:P:=by
 rcases vU.1 hc with hc|hc <;> (simp only[gw,vG]at hc;exact hc.1.1.1)):P:=h
theorem zEN {P:Prop}(h:P:=by
 intro hl st env u;simp only[Nd.ap]at hl;rw[jc];exact(ih x Zo st env u).1.trans (iR Zo _ env u)):P:=h
theorem zEO {P:Prop}(h:P:=by
 rw[vm]at this;exact this.sub ((List.Sublist.refl _).append (List.sublist_append_right _ _))):P:=h
theorem zEP {P:Prop}(h:P:=by
 refine ae ?_;refine⟨⟨false,0,b,t,_,_⟩,⟨⟨_,_,rfl⟩,?_⟩,ZU,ZI⟩;simp[jS,sm,h1]):P:=h
theorem zEQ {P:Prop}(h:P:=by
 rcases QG.1 s7 with h1|h1
 .exact h.w r' h1
 .rw[QU.1 h1];exact hx.len):P:=h
theorem zER {P:Prop}(h:P:=by
 refine ae ?_;refine kG (Post:=[]) (.inr rfl) (.tmp Zr .nil) ⟨by simp[bN,ni,h],rfl⟩ ZI):P:=h
theorem zES {P:Prop}(h:P:=by
 refine ae ?_;exact kG (Post:=[A]) (.inr rfl) (.tmp Zr .nil) ⟨by rw[stop _ Zs];rfl,rfl⟩ ZI):P:=h
theorem zET {P:Prop}(h:P:=by
 rw[show decide ((y.kind:Int)=9)=false from Zf Zo];refine ae ?_;exact⟨by simp[k9],ZU,ZI⟩):P:=h
theorem zEU {P:Prop}(h:P:=by
 simp only[Vd,Ve,vp];exact vZ _ h9.symm):P:=h
theorem zEV {P:Prop}(h:P:=by
 have:=(Vt.1 hx).1;simp only[Vz,Q7]at this;omega):P:=h
theorem zEW {P:Prop}(h:P:=by
 obtain⟨c,t,lo,hi,hb,hn⟩:=hh;exact⟨c,t,lo,hi,by rw[h.block b hl];exact hb,hn⟩):P:=h
theorem zEX {P:Prop}(h:P:=by
 apply vD.1;rw[vE,h3,hm]):P:=h
theorem Zo {P:Prop}(h:P:=by omega):P:=h
theorem Zr {P:Prop}(h:P:=by rfl):P:=h
theorem Zn9{a b:Nat}(h:Nat.ble a b=true:=by rfl):a<=b:=Nat.le_of_ble_eq_true h
theorem Zd {P:Prop}(h:P:=by decide):P:=h
theorem Zs {P:Prop}(h:P:=by simp):P:=h
theorem ZI {P:Prop}(h:P:=by exact bT):P:=h
theorem ZP {P:Prop}(h:P:=by exact SPx):P:=h
theorem ZU {P:Prop}(h:P:=by exact C0):P:=h
theorem ZK {P:Prop}(h:P:=by exact TKx):P:=h
theorem YV {P:Prop}(h:P:=by(focus ((repeat (first|(apply Hu.cells;omega;(focus (simp only[Vz,Q7,Nat.reduceAdd,X2,Nat.reduceSub,Qz,Nat.reduceLeDiff,Qt];done));(focus (simp only[Zn,Value.cells,X2,Nat.reduceEqDiff,↓reduceIte,eq_self,Nat.reduceAdd,Nat.reduceSub,Qz,Nat.reduceLeDiff,Qt,and_self,rep,jB] <;> rfl));rfl)|apply Hu.there));first|done|fail))):P:=h
theorem Zac {P:Prop}(h:P:=by(focus ((repeat (first|(apply Ad.cells;omega;(focus (simp only[Vz,Q7,Nat.reduceAdd,X2,Nat.reduceSub,Qz,Nat.reduceLeDiff,Qt];done));(focus (simp only[Zn,Value.cells,X2,Nat.reduceEqDiff,↓reduceIte,eq_self,Nat.reduceAdd,Nat.reduceSub,Qz,Nat.reduceLeDiff,Qt,and_self,rep,jB] <;> rfl)))|apply Ad.there));first|done|fail))):P:=h
theorem Zl {P:Prop}(h:P:=by(first|exact ltM|(focus (apply ltB;(repeat' (first|exact modM|apply orC|apply ZF|apply divC|omega));done))|omega)):P:=h
theorem Zz {P:Prop}(h:P:=by((try simp only[X2,Qp,Nat.reduceAdd,Nat.reduceMul,Qn,vX,Nat.mul_one]);rfl)):P:=h
theorem Zi {P:Prop}(h:P:=by(first|with_reducible exact vX _|((try simp only[Int.reduceToNat]);rfl))):P:=h
theorem Zh {P:Prop}(h:P:=by(focus ((repeat (first|(apply Has.cells;omega;rfl)|apply Has.there));first|done|fail))):P:=h
theorem Zm {P:Prop}(h:P:=by(focus ((repeat (first|(apply Has.among;assumption)|apply Has.there));first|done|fail))):P:=h
theorem Zax {P:Prop}(h:P:=by first|exact .here|exact .there .here|exact .there (.there .here)|exact .there (.there (.there .here))|exact .there (.there (.there (.there .here)))|exact .there (.there (.there (.there (.there .here))))|exact .there (.there (.there (.there (.there (.there .here)))))):P:=h
theorem Zaw {P:Prop}(h:P:=by rw[World.frozen?_alloc_old _ _ t (by simp;omega),World.frozen?_alloc_old _ _ t (by simp;omega),World.frozen?_alloc_old _ _ t (by simp;omega),World.frozen?_alloc_old _ _ t (Nat.ne_of_lt rZ)];exact hf0):P:=h
theorem Zav {P:Prop}(h:P:=by rw[World.cell?_alloc_lt _ _ t (by simp;omega),World.cell?_alloc_lt _ _ t (by simp;omega),World.cell?_alloc_lt _ _ t (by simp;omega),World.cell?_alloc_lt _ _ t rZ];exact ht0):P:=h
theorem Zao {P:Prop}(h:P:=by simp only[V.nt,V.ev,bq 36 (by decide) _ rfl,bq 37 (by decide) _ rfl,bq 39 (by decide) _ rfl]):P:=h
theorem Zap {P:Prop}(h:P:=by simp only[V.nt,V.ev,bq 76 (by decide) _ rfl,bq 80 (by decide) _ rfl,bq 82 (by decide) _ rfl]):P:=h
theorem Zaq {P:Prop}(h:P:=by simp only[V.nt,V.ev,bq 84 (by decide) _ rfl,bq 86 (by decide) _ rfl,bq 89 (by decide) _ rfl]):P:=h
theorem Zay {P:Prop}(h:P:=by(focus ((repeat (first|with_reducible exact yx.here|apply yx.there));done))):P:=h
theorem Zau {P:Prop}(h:P:=by simp only[V.nt,V.ev,bq 19 (by decide) _ rfl]):P:=h
theorem Zat {P:Prop}(h:P:=by simp only[V.nt,V.ev,bq 4 (by decide) _ rfl]):P:=h
theorem Zar {P:Prop}(h:P:=by simp only[V.ev,bq 83 (by decide) _ rfl]):P:=h
theorem Zas {P:Prop}(h:P:=by simp only[V.ev,bq 90 (by decide) _ rfl]):P:=h
theorem MJ {P:Prop}(h:P:=by simp[kA]):P:=h
theorem tj {P:Prop}(h:P:=by simp;omega):P:=h
theorem Kx {P:Prop}(h:P:=by simp[yI]):P:=h
theorem xw {P:Prop}(h:P:=by exact(VO.nil ⟨_,[],rfl,⟨rfl,rfl⟩,ai.perm (by simp)⟩)):P:=h
theorem Zae {P:Prop}(h:P:=by exact(VO.nil ⟨rfl,⟨mz,ai.refl _⟩,trivial⟩)):P:=h
theorem HC {P:Prop}(h:P:=by exact(VO.nil ⟨rfl,rfl,trivial⟩)):P:=h
theorem Kb {P:Prop}(h:P:=by exact(λx hx=>by simp only[Vd,QG];first|exact .inl hx|exact .inr (.inl hx))):P:=h
theorem CS {P:Prop}(h:P:=by exact(λz hz=>List.mem_append_left _ (cG z hz))):P:=h
theorem Zai {P:Prop}(h:P:=by exact(λv Post hv=>absurd hv.1 (by decide))):P:=h
theorem Kc {P:Prop}(h:P:=by exact(λch Post hz=>absurd hz.1 (by decide))):P:=h
theorem Zak {P:Prop}(h:P:=by exact(λy hy=>by simp only[Vd,QG];first|exact .inl hy|exact .inr (.inl hy)|exact .inr (.inr (.inl hy)))):P:=h
theorem C2 {P:Prop}(h:P:=by exact⟨rfl,λa ha=>by simp only[Vd,QG];exact .inl ha⟩):P:=h
theorem Zf {p:Prop}[Decidable p](h:¬p):decide p=false:=decide_eq_false h
theorem Zt {p:Prop}[Decidable p](h:p):decide p=true:=decide_eq_true h
theorem Zg {α:Type _}{l:List α}{i:Nat}(h:i < l.length):l[i]? =some l[i]:=List.getElem?_eq_getElem h
theorem Zv {α:Type _}{l:List α}{i:Nat}{a:α}(h:l[i]? =some a):a∈l:=List.mem_of_getElem? h
theorem Zw {α:Type _}{a:α}{s:List α}(t:List α)(h:a∈s):a∈s++t:=List.mem_append_left t h
end Go
namespace Go.V
open Go
inductive kC where
 |cell (b off:Nat) (v:Value)
 |obj (b:Nat) (o:Obj)
 |row (b n:Nat)
 |own (b n:Nat)
def kC.loc:kC->Nat×Option Nat
 |.cell b off _=>(b,some off)
 |.obj b _=>(b,none)
 |.row b _=>(b,none)
 |.own b n=>(b,some n)
def zD:Obj->Bool
 |.cells .. =>true
 |_=>false
def kC.holds(w:World):kC->Prop
 |.cell b off v=>∃c t lo hi,w.heap[b]? =some (Obj.cells c t (lo,hi))/\c[off]? =some v/\¬(lo<=off/\off < hi)
 |.obj b o=>w.heap[b]? =some o/\zD o=false
 |.row b n=>∃c t lo hi,w.heap[b]? =some (Obj.cells c t (lo,hi))/\c.size=n
 |.own b n=>∃c t lo hi,w.heap[b]? =some (Obj.cells c t (lo,hi))/\c.size=n/\¬(lo<=n/\n < hi)
structure Sat (w:World)(L:List kC):Prop where
 holds:∀x∈L,x.holds w
 nodup:(L.map kC.loc).Nodup
structure kz (w w':World):Prop where
 os:w'.os=w.os
 output:w'.output=w.output
 size:w.heap.size<=w'.heap.size
 cells:∀(i:Nat) c t lo hi,w.heap[i]? =some (Obj.cells c t (lo,hi))->∃c',w'.heap[i]? =some (Obj.cells c' t (lo,hi))/\c'.size=c.size/\∀j,lo<=j/\j < hi->c'[j]? =c[j]?
theorem kz.refl(w:World):kz w w:=⟨rfl,rfl,Qt _,λ_ c _ _ _ h=>⟨c,h,rfl,λ_ _=>rfl⟩⟩
theorem kz.trans {a b c:World}(h:kz a b)(k:kz b c):kz a c:=by
 refine⟨k.os.trans h.os,k.output.trans h.output,Qv h.size k.size,λi x t lo hi hx=>?_⟩;obtain⟨y,hy,sy,fy⟩:=h.cells i x t lo hi hx;obtain⟨z,hz,sz,fz⟩:=k.cells i y t lo hi hy;exact⟨z,hz,sz.trans sy,λj hj=>(fz j hj).trans (fy j hj)⟩
theorem kz.drawn {a b:World}(h:kz a b)(n:Nat):kz a {b with drawn:=n}:=⟨h.os,h.output,h.size,h.cells⟩
theorem Sat.drawn {w:World}{L:List kC}(h:Sat w L)(n:Nat):Sat {w with drawn:=n} L:=⟨λx hx=>by
 have:=h.holds x hx;cases x <;> exact this,h.nodup⟩
theorem Sat.perm {w:World}{L M:List kC}(h:Sat w L)(p:L.Perm M):Sat w M:=
 ⟨λx hx=>h.holds x (p.mem_iff.2 hx),(p.map kC.loc).nodup_iff.1 h.nodup⟩
theorem Sat.sub {w:World}{L M:List kC}(h:Sat w L)(p:M.Sublist L):Sat w M:=
 ⟨λx hx=>h.holds x (p.subset hx),(p.map kC.loc).nodup h.nodup⟩
theorem Sat.left {w:World}{L M:List kC}(h:Sat w (L++M)):Sat w L:=h.sub (List.sublist_append_left L M)
theorem Sat.lt {w:World}{L:List kC}(h:Sat w L){x:kC}(hx:x∈L):x.loc.1 < w.heap.size:=by
 have:=h.holds x hx;cases x with
 |cell b off v=>obtain⟨c,t,lo,hi,hb,_⟩:=this;exact(v8.1 hb).1
 |obj b o=>exact(v8.1 this.1).1
 |row b n=>obtain⟨c,t,lo,hi,hb,_⟩:=this;exact(v8.1 hb).1
 |own b n=>obtain⟨c,t,lo,hi,hb,_⟩:=this;exact(v8.1 hb).1
theorem Sat.cell {w:World}{L:List kC}(h:Sat w L){b off:Nat}{v:Value}(hx:kC.cell b off v∈L):
 w.cell? ⟨b,off,none⟩=some v/\w.frozen? ⟨b,off,none⟩=false:=by
 obtain⟨c,t,lo,hi,hb,hc,hf⟩:=h.holds _ hx;refine⟨by simp[World.cell?,hb,hc],?_⟩;simp only[World.frozen?,hb];simp only[vF,decide_eq_false_iff_not];by_cases h1:lo<=off
 .right;intro h2;exact hf ⟨h1,h2⟩
 .left;exact h1
theorem Sat.obj {w:World}{L:List kC}(h:Sat w L){b:Nat}{o:Obj}(hx:kC.obj b o∈L):w.heap[b]? =some o/\zD o=false:=h.holds _ hx
theorem Sat.store {w:World}{L:List kC}{b off:Nat}{v u:Value}(h:Sat w (.cell b off v::L)):
 Sat (w.setCell ⟨b,off,none⟩ u) (.cell b off u::L)/\kz w (w.setCell ⟨b,off,none⟩ u):=by
 obtain⟨c,t,lo,hi,hb,hc,hf⟩:=h.holds _ (QK ..);have aJ:off < c.size:=(v8.1 hc).1;have gH:∀i,(w.setCell ⟨b,off,none⟩ u).heap[i]? =if b=i then some (Obj.cells (c.setIfInBounds off u) t (lo,hi))else w.heap[i]?:=by
  intro i;simp only[World.setCell,vA];by_cases e:b=i
  .subst e;simp[hb]
  .simp[e]
 refine⟨⟨λx hx=>?_,?_⟩,⟨rfl,rfl,by simp[World.setCell],λi c' t' El bU hi''=>?_⟩⟩
 .rcases QI.1 hx with rfl|hx
  .exact⟨c.setIfInBounds off u,t,lo,hi,by rw[gH];simp,by simp[aJ],hf⟩
  .have cI:(b,some off)≠x.loc:=by
    exact zDV
   have hh:=h.holds x (QJ _ hx);cases x with
   |cell b' off' v'=>
    obtain⟨c',t',El,bU,pz,OX,hf'⟩:=hh;by_cases e:b=b'
    .subst e;rw[hb]at pz;obtain⟨rfl,rfl,rfl,rfl⟩:c=c'/\t=t'/\lo=El/\hi=bU:=by simpa using pz
     have hoff:off≠off':=λe=>cI (by simp[kC.loc,e])
     exact⟨c.setIfInBounds off u,t,lo,hi,by rw[gH];simp,by simp[vB hoff,OX],hf'⟩
    .exact⟨c',t',El,bU,by rw[gH];simp[e,pz],OX,hf'⟩
   |obj b' o=>
    obtain⟨pz,ho⟩:=hh;have e:b≠b':=λe=>by
     subst e;rw[hb]at pz;cases pz;simp[zD]at ho
    exact⟨by rw[gH];simp[e,pz],ho⟩
   |row b' n=>
    obtain⟨c',t',El,bU,pz,hn⟩:=hh;by_cases e:b=b'
    .subst e;rw[hb]at pz;obtain⟨rfl,rfl,rfl,rfl⟩:c=c'/\t=t'/\lo=El/\hi=bU:=by simpa using pz
     exact⟨c.setIfInBounds off u,t,lo,hi,by rw[gH];simp,by simpa using hn⟩
    .exact⟨c',t',El,bU,by rw[gH];simp[e,pz],hn⟩
   |own b' n=>
    obtain⟨c',t',El,bU,pz,hn,hf'⟩:=hh;by_cases e:b=b'
    .subst e;rw[hb]at pz;obtain⟨rfl,rfl,rfl,rfl⟩:c=c'/\t=t'/\lo=El/\hi=bU:=by simpa using pz
     exact⟨c.setIfInBounds off u,t,lo,hi,by rw[gH];simp,by simpa using hn,hf'⟩
    .exact⟨c',t',El,bU,by rw[gH];simp[e,pz],hn,hf'⟩
 .have:=h.nodup;simpa[kC.loc]using this
 .rw[gH];by_cases e:b=i
  .subst e;rw[hb]at hi'';obtain⟨rfl,rfl,rfl,rfl⟩:c=c'/\t=t'/\lo=El/\hi=bU:=by simpa using hi''
   refine⟨c.setIfInBounds off u,Zs,Zs,λj hj=>?_⟩;have cI:off≠j:=λe=>hf (e ▸ hj)
   simp[vB cI]
  .simp[e,hi'']
def kA(b:Nat):Nat->List Value->List kC
 |_,[]=>[]
 |off,v::r=>.cell b off v::kA b (off+1) r
theorem kJ {b:Nat}{x:kC}:∀{off:Nat} {vs:List Value},x∈kA b off vs↔∃i v,vs[i]? =some v/\x=.cell b (off+i) v:=by
 intro off vs
 induction vs generalizing off with
 |nil=>simp[kA]
 |cons u r ih=>
  simp only[kA,QI,ih];constructor
  .rintro(rfl|⟨i,v,h,rfl⟩)
   .exact⟨0,u,rfl,rfl⟩
   .exact⟨i+1,v,by simpa using h,by simp;omega⟩
  .rintro⟨i,v,h,rfl⟩
   cases i with
   |zero=>left;simp at h;simp[h]
   |succ i=>right;exact⟨i,v,by simpa using h,by simp;omega⟩
theorem ej(b:Nat)(vs:List Value):∀off,((kA b off vs).map kC.loc).Nodup:=by
 induction vs with
 |nil=>intro off;simp[kA]
 |cons u r ih=>
  intro off;simp only[kA,QD,QX,ih,and_true];simp only[QO,not_exists,not_and];intro x hx e;obtain⟨i,v,_,rfl⟩:=kJ.1 hx;simp[kC.loc]at e;omega
theorem Sat.push {w:World}{L:List kC}(h:Sat w L)(o:Obj)(M:List kC)(hM:∀x∈M,x.loc.1=w.heap.size/\x.holds {w with heap:=w.heap.push o})
 (hn:(M.map kC.loc).Nodup):Sat {w with heap:=w.heap.push o} (M++L)/\kz w {w with heap:=w.heap.push o}:=by
 have hold:∀i,i < w.heap.size->(w.heap.push o)[i]? =w.heap[i]?:=λi hi=>by
  rw[Array.getElem?_push];simp[Nat.ne_of_lt hi]
 refine⟨⟨λx hx=>?_,?_⟩,⟨rfl,rfl,Zs,λi c t lo hi bU=>?_⟩⟩
 .rcases QG.1 hx with hx|hx
  .exact(hM x hx).2
  .have hl:=h.lt hx;have:=h.holds x hx;cases x with
   |cell b off v=>obtain⟨c,t,lo,hi,hb,r⟩:=this;exact⟨c,t,lo,hi,by simpa[hold b hl]using hb,r⟩
   |obj b o'=>exact⟨by simpa[hold b hl]using this.1,this.2⟩
   |row b n=>obtain⟨c,t,lo,hi,hb,hn⟩:=this;exact⟨c,t,lo,hi,by simpa[hold b hl]using hb,hn⟩
   |own b n=>obtain⟨c,t,lo,hi,hb,hn⟩:=this;exact⟨c,t,lo,hi,by simpa[hold b hl]using hb,hn⟩
 .rw[QB,QW];refine⟨hn,h.nodup,λx hx y hy e=>?_⟩;obtain⟨m,hm,rfl⟩:=QO.1 hx;obtain⟨l,hl,rfl⟩:=QO.1 hy;have h1:=(hM m hm).1;have h2:=h.lt hl;rw[e]at h1;omega
 .have hl:i < w.heap.size:=(v8.1 bU).1;exact⟨c,by simpa[hold i hl]using bU,rfl,λ_ _=>rfl⟩
theorem Sat.W2 {w:World}{L:List kC}(h:Sat w L)(c:Array Value)(t:TypeId):
 Sat {w with heap:=w.heap.push (.cells c t)} (kA w.heap.size 0 c.toList++L)/\kz w {w with heap:=w.heap.push (.cells c t)}:=by
 refine h.push _ _ (λx hx=>?_) (ej _ _ _);obtain⟨i,v,hi,rfl⟩:=kJ.1 hx;exact⟨rfl,c,t,0,0,Zs,by simpa using hi,Zs⟩
theorem Sat.newObj {w:World}{L:List kC}(h:Sat w L)(o:Obj)(ho:zD o=false):
 Sat {w with heap:=w.heap.push o} (.obj w.heap.size o::L)/\kz w {w with heap:=w.heap.push o}:=by
 refine h.push o [.obj w.heap.size o] (λx hx=>?_) Zs;rw[QU.1 hx];exact⟨rfl,Zs,ho⟩
theorem Sat.setObj {w:World}{L:List kC}{b:Nat}{o u:Obj}(h:Sat w (.obj b o::L))(hu:zD u=false):
 Sat {w with heap:=w.heap.setIfInBounds b u} (.obj b u::L)/\kz w {w with heap:=w.heap.setIfInBounds b u}:=by
 obtain⟨hb,ho⟩:=h.holds _ (QK ..);have aJ:b < w.heap.size:=(v8.1 hb).1;have gH:∀i,(w.heap.setIfInBounds b u)[i]? =if b=i then some u else w.heap[i]?:=by
  intro i;by_cases e:b=i
  .subst e;simp[aJ]
  .simp[vB e,e]
 refine⟨⟨λx hx=>?_,?_⟩,⟨rfl,rfl,Zs,λi c t lo hi bU=>?_⟩⟩
 .rcases QI.1 hx with rfl|hx
  .exact⟨by simp[aJ],hu⟩
  .have cI:(b,none)≠x.loc:=by
    exact zDV
   have hh:=h.holds x (QJ _ hx);cases x with
   |cell b' off' v'=>
    obtain⟨c',t',El,bU,pz,r⟩:=hh;have e:b≠b':=λe=>by subst e;rw[hb]at pz;cases pz;cases ho
    exact⟨c',t',El,bU,by simpa[gH,e]using pz,r⟩
   |obj b' o'=>
    have e:b≠b':=λe=>cI (by simp[kC.loc,e])
    exact⟨by simpa[gH,e]using hh.1,hh.2⟩
   |row b' n=>
    have e:b≠b':=λe=>cI (by simp[kC.loc,e])
    obtain⟨c',t',El,bU,pz,hn⟩:=hh;exact⟨c',t',El,bU,by simpa[gH,e]using pz,hn⟩
   |own b' n=>
    obtain⟨c',t',El,bU,pz,hn⟩:=hh;have e:b≠b':=λe=>by subst e;rw[hb]at pz;cases pz;cases ho
    exact⟨c',t',El,bU,by simpa[gH,e]using pz,hn⟩
 .have:=h.nodup;simpa[kC.loc]using this
 .have e:b≠i:=λe=>by subst e;rw[hb]at bU;cases bU;cases ho
  exact⟨c,by simpa[gH,e]using bU,rfl,λ_ _=>rfl⟩
def aL(P:Program){α:Type}(s:Sem α)(H:List kC)(K:α->List kC->Prop):Prop:=
 ∀F w,Sat w (H++F)->∃v w' H',s.run P w=.ok v w'/\K v H'/\Sat w' (H'++F)/\kz w w'
section
variable {P:Program} {α β:Type} {H:List kC} {K:α->List kC->Prop}
theorem aL.pure {v:α}(h:K v H):aL P (Pure.pure v) H K:=λ_ w hs=>⟨v,w,H,rfl,h,hs,.refl w⟩
theorem aL.bind {s:Sem α}{f:α->Sem β}{K:β->List kC->Prop}(h:aL P s H λv H'=>aL P (f v) H' K):aL P (s >>=f) H K:=by
 intro F w hs;obtain⟨v,w1,H1,h1,h2,h3,h4⟩:=h F w hs;obtain⟨u,w2,H2,k1,k2,k3,k4⟩:=h2 F w1 h3;exact⟨u,w2,H2,by simp[h1,k1],k2,k3,h4.trans k4⟩
theorem aL.mono {s:Sem α}{K':α->List kC->Prop}(h:aL P s H K)(hk:∀v H',K v H'->K' v H'):aL P s H K':=λF w hs=>
 let⟨v,w',H',a,b,c⟩:=h F w hs;⟨v,w',H',a,hk _ _ b,c⟩
theorem aL.perm {s:Sem α}{H':List kC}(p:H.Perm H')(h:aL P s H' K):aL P s H K:=λF w hs=>
 h F w (hs.perm (p.append_right F))
theorem aL.load {b off:Nat}{v:Value}{K:Value->List kC->Prop}(hx:kC.cell b off v∈H)(h:K v H):aL P (Go.load ⟨b,off,none⟩) H K:=λF w hs=>by
 have:=(hs.cell (Zw F hx)).1;exact⟨v,w,H,by simp[Go.load,Sem.run,this],h,hs,.refl w⟩
def jo:Value->Bool
 |.agg _|.tuple _=>false
 |_=>true
theorem aL.store {b off:Nat}{v u:Value}{K:Unit->List kC->Prop}(hu:jo u=true)(h:K () (.cell b off u::H)):
 aL P (Go.store ⟨b,off,none⟩ u) (.cell b off v::H) K:=λF w hs=>by
 have hc:=hs.cell (Zw F (QK (a:=kC.cell b off v) (l:=H)));obtain⟨s1,s2⟩:=Sat.store (u:=u) (L:=H++F) (by simpa using hs);refine⟨(),_,_,?_,h,s1,s2⟩;cases u <;> simp_all [Go.store,Sem.run,jo]
theorem aL.Rl {c:Array Value}{t:TypeId}{K:Nat->List kC->Prop}(h:∀b,K b (kA b 0 c.toList++H)):aL P (Go.newObj (.cells c t)) H K:=λF w hs=>by
 obtain⟨s1,s2⟩:=hs.W2 c t;exact⟨w.heap.size,_,_,by simp[Go.newObj,Sem.run],h _,by rw[vm];exact s1,s2⟩
theorem aL.new_obj {o:Obj}{K:Nat->List kC->Prop}(ho:zD o=false)(h:∀b,K b (.obj b o::H)):aL P (Go.newObj o) H K:=λF w hs=>by
 obtain⟨s1,s2⟩:=hs.newObj o ho;exact⟨w.heap.size,_,_,by simp[Go.newObj,Sem.run],h _,s1,s2⟩
theorem aL.getObj {b:Nat}{o:Obj}{K:Obj->List kC->Prop}(hx:kC.obj b o∈H)(h:K o H):aL P (Go.getObj b) H K:=λF w hs=>by
 obtain⟨h1,h2⟩:=hs.obj (Zw F hx);refine⟨o,w,H,?_,h,hs,.refl w⟩;cases o <;> simp_all [Go.getObj,Sem.run,zD]
theorem aL.setObj {b:Nat}{o u:Obj}{K:Unit->List kC->Prop}(hu:zD u=false)(h:K () (.obj b u::H)):aL P (Go.setObj b u) (.obj b o::H) K:=λF w hs=>by
 obtain⟨h1,h2⟩:=hs.obj (Zw F (QK (a:=kC.obj b o) (l:=H)));obtain⟨s1,s2⟩:=Sat.setObj (u:=u) (L:=H++F) (by simpa using hs) hu;refine⟨(),_,_,?_,h,s1,s2⟩;cases o <;> simp_all [Go.setObj,Sem.run,zD]
theorem aL.choose {q:Question}{K:Nat->List kC->Prop}(h0:q.forced=true->K 0 H)(h:∀n,K (q.cut n) H):aL P (Go.choose q) H K:=λF w hs=>by
 by_cases e:q.forced=true
 .exact⟨0,w,H,by simp[Go.choose,Sem.run,e],h0 e,hs,.refl w⟩
 .exact⟨_,_,H,by simp[Go.choose,Sem.run,e];exact⟨rfl,rfl⟩,h _,hs.drawn _,(kz.refl w).drawn _⟩
end
inductive SK where
 |int|str|bool
 deriving DecidableEq,Repr
inductive NK where
 |ptr|map|slice|func|iface
 deriving DecidableEq,Repr
inductive R where
 |mv (x:Operand)
 |pick (c a b:Operand)
 |bin (op:BinOp) (x y:Operand)
 |eqb (neq:Bool) (x y:Operand)
 |D0 (neq:Bool) (k:NK) (x:Operand)
 |DZ (neq:Bool) (ks:List SK) (x y:Operand)
 |un (op:UnOp) (x:Operand)
 |conv (k:IntKind) (x:Operand)
 |cvs (x:Operand)
 |I2 (t:TypeId) (x:Operand)
 |C4 (f:Fn) (first captured:List Operand)
 |ext (x:Operand) (i:Nat)
 |build (zero:List Value) (parts:List (Nat×Nat×Operand))
 |uU (x:Operand)
 |Ha (off:Nat) (x:Operand)
 |KU (off size:Nat) (agg:Bool) (x:Operand)
 |Pc (len size:Nat) (x i:Operand)
 |Lh (size:Nat) (x i:Operand)
 |xM (x i:Operand)
 |Li (len size:Nat) (agg:Bool) (x i:Operand)
 |Mk (x:Operand) (lo hi:Option Operand)
 |sL (size:Nat) (x:Operand) (lo hi mx:Option Operand)
 |Mj (len size:Nat) (x:Operand) (lo hi:Option Operand)
 |Ga (x:Operand)
 |Lq (x:Operand)
 |cap (x:Operand)
 |min2 (x y:Operand)
 |max2 (x y:Operand)
 |iv (t:TypeId) (zero:Value) (ok:Bool) (x:Operand)
 |dc (x:Operand)
 |ij (n:Nat) (x:Operand)
 |Wz (m:Operand)
 |lookup (k:SK) (zero:Value) (ok:Bool) (m key:Operand)
 |entry (it:Operand)
 |b2s (x:Operand)
 |alloc (t:TypeId) (zero:List Value)
 |box (t:TypeId) (x:Operand)
 |nA (t:TypeId) (len:Nat) (zero:List Value) (parts:List (Nat×Nat×Operand))
 |pQ
 |Gp (t:TypeId) (size bytes:Nat) (zero:List Value) (l c:Operand)
 |Xv (x:Operand)
 |Xu (x:Operand)
 |s2b (t:TypeId) (x:Operand)
 |store (n:Nat) (x v:Operand)
 |Bn (k:SK) (m key v:Operand)
 |delete (k:SK) (m key:Operand)
 |YY (op:BinOp) (t:TypeId) (x y:Operand)
 |IW (t:TypeId) (ok:Bool) (m key:Operand)
 |updt (t:TypeId) (m key v:Operand)
 |ment (t:TypeId) (m key:Operand)
 |mst (t:TypeId) (m s v:Operand)
 |append (t:TypeId) (size bytes:Nat) (zero:List Value) (s x:Operand)
 |grow (t:TypeId) (size bytes:Nat) (zero:List Value) (s x:Operand)
 |copy (size:Nat) (d s:Operand)
 |clr (zero:List Value) (x:Operand)
 |next (it:Operand) (isString:Bool)
 |call (f:Nat) (args:List Operand)
 |rR (x:Operand) (args:List Operand)
 |pnc (x:Operand)
def ow:TypeDesc->Option SK
 |.int _=>some .int
 |.string=>some .str
 |.bool=>some .bool
 |_=>none
def wK(P:Program)(f:Nat):Bool:=
 match P.funcs[f]? with
 | some fn => fn.name != "runtime.NumGoroutine" && fn.body.isSome
 |none=>false
def scalars(P:Program):List Field->Nat->Option (List SK)
 |[],_=>some []
 | f :: r, off => if f.offset = off ∧ f.name ≠ "_" then
     match(P.underlying f.type).bind ow,scalars P r (off+1)with
     |some k,some l=>some (k::l)
     |_,_=>none
   else none
def placesOf(P:Program)(fs:List Field):List (Nat×Nat):=fs.map λf=>(f.offset,P.cellsOf f.type)
def gJ(place:Nat->Option (Nat×Nat)):List (Nat×Operand)->Option (List (Nat×Nat×Operand))
 |[]=>some []
 |(i,x)::r=>match place i,gJ place r with
  |some (off,size),some l=>some ((off,size,x)::l)
  |_,_=>none
def zeroOf(P:Program)(t:TypeId):Option (List Value):=((P.info? t).bind (·.zero)).map (·.cells.toList)
def oN:TypeDesc->Operand->Option NK
 |.pointer _,.const (.pointer none)=>some .ptr
 |.map _ _,.const (.map none)=>some .map
 |.slice _,.const (.slice none 0 0)=>some .slice
 |.func ..,.const .nilFunc=>some .func
 |.interface _,.const .nilIface=>some .iface
 |_,_=>none
def isPtr:TypeDesc->Bool
 |.pointer _=>true
 |_=>false
def Ln(P:Program):List TypeId->Bool
 |u::_=>match P.underlying u with|some (.int _)=>true|_=>false
 |[]=>false
def U9(P:Program):List TypeId->Bool
 |u::_=>match P.underlying u with|some (.slice _)|some .string=>true|_=>false
 |[]=>false
def jG(P:Program):Op->Option R
 |.move x|.assign x=>some (.mv x)
 |.pick c a b=>some (.pick c a b)
 |.alloc t=>(zeroOf P t).map (R.alloc t)
 |.box t x=>some (.box t x)
 |.load t a=>match P.underlying t,P.info? t with
  |some (.struct _),some i=>some (.ij i.size a)
  |some (.array _ _),some i=>some (.ij i.size a)
  |some _,some _=>some (.dc a)
  |_,_=>none
 |.store t a x=>(P.info? t).map λi=>.store i.size a x
 |.nilCheck x=>some (.uU x)
 |.binOp op t x y _=>
  match P.underlying t with
  |some (.int _)=>some (.bin op x y)
  |some .string=>some (.bin op x y)
  |some .bool=>match op with|.eql=>some (.eqb false x y)|.neq=>some (.eqb true x y)|_=>none
  |some (.struct fs)=>
   if P.eqGuardType P.depth t=false/\P.stoodInHeld t=false then
    match op,scalars P fs.toList 0 with
    |.eql,some ks=>some (.DZ false ks x y)
    |.neq,some ks=>some (.DZ true ks x y)
    |.eql,none=>some (.YY .eql t x y)
    |.neq,none=>some (.YY .neq t x y)
    |_,_=>none
   else none
  |some d=>
   match op,oN d y with
   |.eql,some k=>some (.D0 false k x)
   |.neq,some k=>some (.D0 true k x)
   |.eql,none=>if isPtr d then some (.YY .eql t x y)else none
   |.neq,none=>if isPtr d then some (.YY .neq t x y)else none
   |_,_=>none
  |_=>none
 |.unOp op _ x=>some (.un op x)
 |.convert s d x=>match P.underlying s,P.underlying d with
  |some (.int _),some (.int k)=>some (.conv k x)
  |some .string,some .string=>some (.cvs x)
  |some .string,some (.slice e)=>match P.underlying e with|some (.int .u8)=>some (.s2b e x)|_=>none
  |some (.slice e),some .string=>match P.underlying e with|some (.int .u8)=>some (.b2s x)|_=>none
  |_,_=>none
 |.makeInterface t x=>match P.underlying t with
  |some (.interface _)|none=>none
  |some _=>some (.I2 t x)
 |.makeFunc fn f c=>some (.C4 fn f.toList c.toList)
 |.makeMap t r=>match P.underlying t with
  |some (.map _ _)=>match r with|none=>some .pQ|some (.const (.int _ _))=>some .pQ|_=>none
  |_=>none
 |.makeSlice t l c=>match P.underlying t with
  |some (.slice e)=>match P.info? e,zeroOf P e with|some i,some z=>some (.Gp e i.size i.bytes z l c)|_,_=>none
  |_=>none
 |.extract x i=>some (.ext x i)
 |.build t parts=>match P.underlying t,zeroOf P t with
  |some (.struct fs),some z=>if fs.toList.all (λf=>(P.info? f.type).isSome)then(gJ (λi=>(placesOf P fs.toList)[i]?) parts.toList).map (R.build z)else none
  |some (.array _ e),some z=>match P.info? e with|some j=>(gJ (λi=>some (i*j.size,j.size)) parts.toList).map (R.build z)|none=>none
  |_,_=>none
 |.buildSlice t len parts=>match P.underlying t with
  |some (.slice e)=>match P.info? e,zeroOf P e with
   |some i,some z=>if len*i.size<=2 ^ 24/\z.length=i.size then(gJ (λj=>some (j*i.size,i.size)) parts.toList).map (R.nA e len z)else none
   |_,_=>none
  |_=>none
 |.fieldAddr s x f=>match P.underlying s with
  |some (.struct fs)=>match fs[f]? with
   |some fd=>match P.info? fd.type with|some i=>if i.size=0 then none else some (.Ha fd.offset x)|none=>none
   |none=>none
  |_=>none
 |.field s x f=>match P.underlying s with
  |some (.struct fs)=>match fs[f]? with
   |some fd=>match P.underlying fd.type,P.info? fd.type with
    |some (.struct _),some i=>some (.KU fd.offset i.size true x)
    |some (.array _ _),some i=>some (.KU fd.offset i.size true x)
    |some _,some i=>some (.KU fd.offset i.size false x)
    |_,_=>none
   |none=>none
  |_=>none
 |.indexAddr t x i=>match P.underlying t with
  |some (.array n e)=>(P.info? e).map λj=>.Pc n j.size x i
  |some (.slice e)=>(P.info? e).map λj=>.Lh j.size x i
  |_=>none
 |.index t x i=>match P.underlying t with
  |some .string=>some (.xM x i)
  |some (.array n e)=>match P.underlying e,P.info? e with
    |some (.struct _),some j=>some (.Li n j.size true x i)
    |some (.array _ _),some j=>some (.Li n j.size true x i)
    |some _,some j=>some (.Li n j.size false x i)
    |_,_=>none
  |_=>none
 |.slice t x lo hi mx=>match P.underlying t with
  |some .string=>if mx.isNone then some (.Mk x lo hi)else none
  |some (.slice e)=>(P.info? e).map λj=>.sL j.size x lo hi mx
  |some (.array n e)=>if mx.isNone then(P.info? e).map λj=>.Mj n j.size x lo hi else none
  |_=>none
 |.lookup t m k ok=>match P.underlying t with
  |some (.map kt e)=>match(P.underlying kt).bind ow,(P.info? e).bind (·.zero)with
   |some sk,some z=>some (.lookup sk z ok m k)
   |none,some _=>some (.IW t ok m k)
   |_,_=>none
  |_=>none
 |.mapUpdate t m k v|.insert t m k v=>match P.underlying t with
  |some (.map kt _)=>match(P.underlying kt).bind ow with
   |some sk=>some (.Bn sk m k v)
   |none=>some (.updt t m k v)
  |_=>none
 |.mapEntry t m k=>some (.ment t m k)
 |.entryStore t m s v=>some (.mst t m s v)
 |.range t x=>match P.underlying t with
  |some .string=>some (.Xv x)
  |some (.map _ _)=>some (.Xu x)
  |_=>none
 |.next it s=>some (.next it s)
 |.panic x=>some (.pnc x)
 |.entry it=>some (.entry it)
 |.typeAssert x _ t ok=>match P.underlying t with
  |some (.interface _)|none=>none
  |some _=>((P.info? t).bind (·.zero)).map λz=>.iv t z ok x
 |.call c=>match c.callee with
  |.value (.func f)=>if wK P f then some (.call f c.args.toList)else none
  |.value x=>some (.rR x c.args.toList)
  |.builtin .len=>match c.args.toList,c.argTypes.toList with
   |[x],[t]=>match P.underlying t with
    |some .string=>some (.Ga x)
    |some (.slice _)=>some (.Lq x)
    |some (.map _ _)=>some (.Wz x)
    |_=>none
   |_,_=>none
  |.builtin .cap=>match c.args.toList,c.argTypes.toList with
   |[x],[t]=>match P.underlying t with|some (.slice _)=>some (.cap x)|_=>none
   |_,_=>none
  |.builtin .min=>match c.args.toList with|[x,y]=>some (.min2 x y)|_=>none
  |.builtin .max=>match c.args.toList with|[x,y]=>some (.max2 x y)|_=>none
  |.builtin .append=>match c.args.toList,c.argTypes.toList with
   |[s,x],t::xt=>match P.underlying t with
    |some (.slice e)=>match P.info? e,zeroOf P e with
     |some i,some z=>if U9 P xt then some (.append e i.size i.bytes z s x)else if Ln P xt then some (.grow e i.size i.bytes z s x)else none
     |_,_=>none
    |_=>none
   |_,_=>none
  |.builtin .copy=>match c.args.toList,c.argTypes.toList with
   |[d,s],t::_=>match P.underlying t with
    |some (.slice e)=>(P.info? e).map λi=>.copy i.size d s
    |_=>none
   |_,_=>none
  |.builtin .clear=>match c.args.toList,c.argTypes.toList with
   |[x],[t]=>match P.underlying t with
    |some (.slice e)=>(zeroOf P e).map λz=>.clr z x
    |_=>none
   |_,_=>none
  |.builtin .delete=>match c.args.toList,c.argTypes.toList with
   |[m,k],t::_=>match P.underlying t with
    |some (.map kt _)=>((P.underlying kt).bind ow).map λsk=>.delete sk m k
    |_=>none
   |_,_=>none
  |_=>none
 |_=>none
def nY(op:BinOp)(k:IntKind)(a:Int)(k':IntKind)(b:Int):Option Value:=
 match op with
 |.shl=>if b < 0 then none else some (.int k (k.wrap (a*2 ^ (min b.toNat k.bits))))
 |.shr=>if b < 0 then none else some (.int k (a.fdiv (2 ^ (min b.toNat k.bits))))
 |.add=>if k=k' then some (.int k (k.wrap (a+b)))else none
 |.sub=>if k=k' then some (.int k (k.wrap (a - b)))else none
 |.mul=>if k=k' then some (.int k (k.wrap (a*b)))else none
 |.quo=>if k=k'/\b≠0 then some (.int k (k.wrap (a.tdiv b)))else none
 |.rem=>if k=k'/\b≠0 then some (.int k (a.tmod b))else none
 |.and=>if k=k' then some (.int k (k.wrap (BitVec.ofInt k.bits a&&&BitVec.ofInt k.bits b).toNat))else none
 |.or=>if k=k' then some (.int k (k.wrap (BitVec.ofInt k.bits a|||BitVec.ofInt k.bits b).toNat))else none
 |.xor=>if k=k' then some (.int k (k.wrap (BitVec.ofInt k.bits a ^^^ BitVec.ofInt k.bits b).toNat))else none
 |.andNot=>if k=k' then some (.int k (k.wrap (BitVec.ofInt k.bits a&&&~~~ BitVec.ofInt k.bits b).toNat))else none
 |.eql=>if k=k' then some (.bool (decide (a=b)))else none
 |.neq=>if k=k' then some (.bool (!decide (a=b)))else none
 |.lss=>if k=k' then some (.bool (decide (a < b)))else none
 |.leq=>if k=k' then some (.bool (decide (a<=b)))else none
 |.gtr=>if k=k' then some (.bool (decide (b < a)))else none
 |.geq=>if k=k' then some (.bool (decide (b<=a)))else none
def RZ(op:BinOp)(x y:ByteArray):Option Value:=
 match op with
 |.add=>if(x.size+y.size:Nat)<=9223372036854775807 then some (.string (x++y))else none
 |.eql=>some (.bool (decide (x=y)))
 |.neq=>some (.bool (!decide (x=y)))
 |.lss=>some (.bool (Op.bytesLess x.toList y.toList))
 |.leq=>some (.bool (Op.bytesLess x.toList y.toList||decide (x=y)))
 |.gtr=>some (.bool !(Op.bytesLess x.toList y.toList||decide (x=y)))
 |.geq=>some (.bool !(Op.bytesLess x.toList y.toList))
 |_=>none
def y9(op:BinOp):Value->Value->Option Value
 |.int k a,.int k' b=>nY op k a k' b
 |.string x,.string y=>RZ op x y
 |_,_=>none
def isNil:NK->Value->Option Bool
 |.ptr,.pointer a=>some a.isNone
 |.map,.map a=>some a.isNone
 |.slice,.slice a _ _=>some a.isNone
 |.func,.nilFunc=>some true
 |.func,.func .. =>some false
 |.iface,.nilIface=>some true
 |.iface,.iface .. =>some false
 |_,_=>none
def rl:SK->Value->Value->Option Bool
 |.int,.int k a,.int k' b=>if k=k' then some (decide (a=b))else none
 |.str,.string a,.string b=>some (decide (a=b))
 |.bool,.bool a,.bool b=>some (a==b)
 |_,_,_=>none
def ia:List SK->List Value->List Value->Option Bool
 |[],_,_=>some true
 |k::ks,x::xs,y::ys=>match rl k x y,ia ks xs ys with
  |some a,some b=>some (a&&b)
  |_,_=>none
 |_,_,_=>none
def jh:List Value->List (Nat×Nat×Value)->Option (List Value)
 |cs,[]=>some cs
 |cs,(off,size,v)::r=>
  if v.cells.size=size/\off+size<=cs.length then jh (cs.take off++v.cells.toList++cs.drop (off+size)) r else none
def jb(ρ:Operand->Value)(l:List (Nat×Nat×Operand)):List (Nat×Nat×Value):=l.map fun(o,s,x)=>(o,s,ρ x)
def bound(x:Value)(y:Nat):Option Nat:=match x with
 |.int _ i=>if 0<=i/\i<=y then some i.toNat else none
 |_=>none
def wY(y:Nat)(d:Option Nat):Option Value->Option Nat
 |some v=>bound v y
 |none=>d
def y8(len cap:Nat)(lo hi mx:Option Value):Option (Nat×Nat×Nat):=
 (wY cap (some cap) mx).bind λm=>(wY m (if mx.isSome then none else some len) hi).bind λh=>(wY h (some 0) lo).bind λl=>some (l,h,m)
def kW(ρ:Operand->Value):R->Option Value
 |.mv x=>some (ρ x)
 |.pick c a b=>match ρ c with|.bool t=>some (if t then ρ a else ρ b)|_=>none
 |.bin op x y=>y9 op (ρ x) (ρ y)
 |.eqb neq x y=>match ρ x,ρ y with|.bool a,.bool b=>some (.bool (if neq then !(a==b)else a==b))|_,_=>none
 |.D0 neq k x=>(isNil k (ρ x)).map λb=>.bool (if neq then !b else b)
 |.DZ neq ks x y=>match ρ x,ρ y with
  |.agg a,.agg b=>if a.size=ks.length/\b.size=ks.length then(ia ks a.toList b.toList).map λr=>.bool (if neq then !r else r)else none
  |_,_=>none
 |.un .not x=>match ρ x with|.bool b=>some (.bool !b)|_=>none
 |.un .neg x=>match ρ x with|.int k n=>some (.int k (k.wrap (0 - n)))|_=>none
 |.un .xor x=>match ρ x with|.int k n=>some (.int k (k.wrap (BitVec.ofInt k.bits (if k.signed then -1 else k.max) ^^^ BitVec.ofInt k.bits n).toNat))|_=>none
 |.un .plus _=>none
 |.conv k x=>match ρ x with|.int _ n=>some (.int k (k.wrap n))|_=>none
 |.cvs x=>match ρ x with|.string s=>some (.string s)|_=>none
 |.I2 t x=>some (.iface t (ρ x))
 |.C4 f first captured=>some (.func f (first.map ρ).toArray (captured.map ρ).toArray)
 |.ext x i=>match ρ x with|.tuple vs=>vs[i]?|_=>none
 |.build zero parts=>(jh zero (jb ρ parts)).map λl=>.agg l.toArray
 |.uU x=>match ρ x with
  |.pointer (some a)=>some (.pointer (some a))
  |_=>none
 |.Ha off x=>match ρ x with|.pointer (some ⟨b,o,none⟩)=>some (.pointer (some ⟨b,o+off,none⟩))|_=>none
 |.KU off size agg x=>match ρ x with
  |.agg cs=>if agg then some (.agg (cs.extract off (off+size)))else cs[off]?
  |_=>none
 |.Pc len size x i=>match ρ x,ρ i with
  |.pointer (some ⟨b,o,none⟩),.int _ n=>if 0<=n/\n < len then some (.pointer (some ⟨b,o+n.toNat*size,none⟩))else none
  |_,_=>none
 |.Lh size x i=>match ρ x,ρ i with
  |.slice (some ⟨b,o,none⟩) len _,.int _ n=>if 0<=n/\n < len then some (.pointer (some ⟨b,o+n.toNat*size,none⟩))else none
  |_,_=>none
 |.xM x i=>match ρ x,ρ i with
  |.string s,.int _ n=>if 0<=n then(s[n.toNat]?).map λb=>.int .u8 b.toNat else none
  |_,_=>none
 |.Li len size agg x i=>match ρ x,ρ i with
  |.agg cs,.int _ n=>if 0<=n/\n < len then(if agg then some (.agg (cs.extract (n.toNat*size) (n.toNat*size+size)))else cs[n.toNat*size]?)else none
  |_,_=>none
 |.Mk x lo hi=>match ρ x with
  |.string s=>(y8 s.size s.size (lo.map ρ) (hi.map ρ) none).map fun(l,h,_)=>.string (s.extract l h)
  |_=>none
 |.sL size x lo hi mx=>match ρ x with
  |.slice (some ⟨b,o,none⟩) len cap=>(y8 len cap (lo.map ρ) (hi.map ρ) (mx.map ρ)).map fun(l,h,m)=>.slice (some ⟨b,if m=l then o else o+l*size,none⟩) (h - l) (m - l)
  |.slice none len cap=>(y8 len cap (lo.map ρ) (hi.map ρ) (mx.map ρ)).map fun(l,h,m)=>.slice none (h - l) (m - l)
  |_=>none
 |.Mj n size x lo hi=>match ρ x with
  |.pointer (some ⟨b,o,none⟩)=>(y8 n n (lo.map ρ) (hi.map ρ) none).map fun(l,h,m)=>.slice (some ⟨b,if m=l then o else o+l*size,none⟩) (h - l) (m - l)
  |_=>none
 |.Ga x=>match ρ x with|.string s=>some (.int .i64 s.size)|_=>none
 |.Lq x=>match ρ x with|.slice _ n _=>some (.int .i64 n)|_=>none
 |.cap x=>match ρ x with|.slice _ _ n=>some (.int .i64 n)|_=>none
 |.min2 x y=>match ρ x,ρ y with|.int k a,.int _ b=>some (.int k (if b < a then b else a))|_,_=>none
 |.max2 x y=>match ρ x,ρ y with|.int k a,.int _ b=>some (.int k (if b > a then b else a))|_,_=>none
 |.iv t zero ok x=>match ρ x with
  |.nilIface=>if ok then some (.tuple #[zero,.bool false])else none
  |.iface u v=>if u=t then some (if ok then .tuple #[v,.bool true]else v)else if ok then some (.tuple #[zero,.bool false])else none
  |_=>none
 |_=>none
section
variable {P:Program} {ρ:Operand->Value} {w:World} {v:Value} {xo:Operand}
theorem kF {t:TypeId}{d:TypeDesc}(h:P.underlying t=some d):(underlying t).run P w=.ok d w:=by simp[underlying,h]
theorem we {t:TypeId}{i:TypeInfo}(h:P.info? t=some i):(typeInfo t).run P w=.ok i w:=by simp[typeInfo,h]
theorem kd {t:TypeId}{i:TypeInfo}(h:P.info? t=some i):(sizeOf t).run P w=.ok i.size w:=by simp[sizeOf,we h]
theorem Mo(a b:ByteArray):(a.toList==b.toList)=decide (a=b):=by
 rw[ByteArray.toList_eq,ByteArray.toList_eq,vK];simp only[beq_iff_eq,decide_eq_true_eq];constructor
 .intro h;cases a;cases b;simp only[ByteArray.mk.injEq];exact vD.1 h
 .rintro rfl;rfl
theorem XN {op:BinOp}{t:TypeId}{k g:IntKind}{a b:Int}(h:nY op k a g b=some v):(Go.binOp op t (.int k a) (.int g b)).run P w=.ok v w:=by
 cases op <;> simp only[nY]at h <;> split at h <;> first|(cases h;done)|skip
 all_goals (cases h;rename_i d)
 case quo|rem=>obtain⟨rfl,j⟩:=d;simp[Go.binOp,Op.intDiv,j]
 case shl|shr=>simp[Go.binOp,Op.shift,d]
 all_goals (subst d;simp[Go.binOp,Op.intArith,Op.intBits,Op.intCmp])
 all_goals (rw[vK];simp)
theorem XP {op:BinOp}{t:TypeId}{a b:ByteArray}(h:RZ op a b=some v):(Go.binOp op t (.string a) (.string b)).run P w=.ok v w:=by
 cases op <;> simp only[RZ]at h <;> first|(cases h;done)|skip
 case add=>
  split at h <;> cases h;rename_i hc;have:¬(((a.size+b.size:Nat):Int) > IntKind.i64.max):=by
   have:IntKind.i64.max=9223372036854775807:=by decide
   rw[this];omega
  simp only[Go.binOp,Op.stringOp,this,if_false,Sem.run_pure]
 all_goals (cases h;simp[Go.binOp,Op.stringOp,Mo])
theorem XL {op:BinOp}{t:TypeId}{x y:Value}(h:y9 op x y=some v):(Go.binOp op t x y).run P w=.ok v w:=by
 cases x <;> cases y <;> first|(simp[y9]at h;done)|exact XN h|exact XP h
theorem gU {op:BinOp}{t:TypeId}{x y:Operand}{a b:Value}(g:¬(a=.nilIface/\b=.nilIface))(h:∀c d,¬(a=.agg c/\b=.agg d)):
 (eqGuard op t x y a b).run P w=.ok () w:=by
 cases op <;> simp only[eqGuard] <;> first|(simp;done)|skip
 all_goals (cases a <;> cases b <;> first|(exact absurd ⟨rfl,rfl⟩ g)|(exact absurd ⟨rfl,rfl⟩ (h _ _))|simp)
theorem mZ {t:TypeId}{cs:Array Value}{off:Nat}{d:TypeDesc}{k:SK}(h:P.underlying t=some d)(g:ow d=some k)(j:cs[off]? =some v):(part t cs off).run P w=.ok v w:=by
 cases d <;> simp[ow]at g <;> simp[part,isAgg,kF h,j]
theorem dR {t:TypeId}{n:Nat}{x y:Value}{r:Bool}{d:TypeDesc}{k:SK}(h:P.underlying t=some d)(j:ow d=some k)(g:rl k x y=some r):
 (Op.equalIn (n+1) t x y).run P w=.ok r w:=by
 cases d <;> simp[ow]at j <;> subst j <;> cases x <;> simp[rl]at g <;> cases y <;> simp at g
 .subst g;simp[Op.equalIn,kF h]
 .obtain⟨rfl,rfl⟩:=g;simp[Op.equalIn,kF h];rw[vK];simp
 .subst g;simp[Op.equalIn,kF h,beq_toListBytes,Mo]
theorem GJ {n:Nat}{xs ys:Array Value}:∀(j:List Field) (m:List SK) (off:Nat) (r:Bool),scalars P j off=some m->
 ia m (xs.toList.drop off) (ys.toList.drop off)=some r->(Op.eqFields (n+1) xs ys j).run P w=.ok r w:=by
 intro j
 induction j with
 |nil=>intro m off r h g;simp[scalars]at h;subst h;simp[ia]at g;subst g;simp[Op.eqFields]
 |cons f j ih=>
  intro m off r h g;simp only[scalars]at h;split at h
  case isFalse=>simp at h
  rename_i H;obtain⟨rfl,A⟩:=H;split at h
  case h_2=>simp at h
  rename_i k l I J;simp at h;subst h;obtain⟨d,s,q⟩:=X6.1 I;cases hx:xs.toList.drop f.offset with
  |nil=>rw[hx]at g;simp[ia]at g
  |cons x xr=>
  cases hy:ys.toList.drop f.offset with
  |nil=>rw[hx,hy]at g;simp[ia]at g
  |cons y yr=>
  rw[hx,hy]at g;simp only[ia]at g;have D:xs[f.offset]? =some x:=by have:=congrArg (·[0]?) hx;simpa using this
  have E:ys[f.offset]? =some y:=by have:=congrArg (·[0]?) hy;simpa using this
  have B:xs.toList.drop (f.offset+1)=xr:=by have:=congrArg (List.drop 1) hx;simpa using this
  have C:ys.toList.drop (f.offset+1)=yr:=by have:=congrArg (List.drop 1) hy;simpa using this
  split at g
  case h_2=>simp at g
  rename_i a b F G;simp at g;subst g;simp only[Op.eqFields,ne_eq,A,not_false_eq_true,if_true,Sem.run_bind,mZ s q D,mZ s q E,dR s q F,Result.andThen_ok];cases a
  .simp
  .have:=ih l (f.offset+1) b J (by rw[B,C];exact G);simpa using this
theorem Cn(place:Nat->Option (Nat×Nat)):∀(parts:List (Nat×Operand)) (l:List (Nat×Nat×Operand)) (cs:List Value) (out:List Value),gJ place parts=some l->
 jh cs (jb ρ l)=some out->Instr.fill place cs.toArray (parts.map fun(i,x)=>(i,ρ x))=some out.toArray:=by
 intro parts
 induction parts with
 |nil=>intro l cs out g m;simp[gJ]at g;subst g;simp[jb,jh]at m;subst m;simp[Instr.fill]
 |cons p parts ih=>
  obtain⟨i,x⟩:=p;intro l cs out g m;simp only[gJ]at g;split at g
  case h_2=>simp at g
  rename_i off size r D E;simp at g;subst g;simp only[jb,QD,jh]at m;split at m
  case isFalse=>simp at m
  rename_i C;obtain⟨B,h4⟩:=C;have:=ih r _ out E m;simp only[QD,Instr.fill,D];have ii:¬((ρ x).cells.size≠size∨off+(ρ x).cells.size > cs.toArray.size):=by
   simp;omega
  have d:(decide ((ρ x).cells.size≠size)||decide (off+(ρ x).cells.size > cs.toArray.size))=false:=by
   simp;omega
  have q:∀(vs:List Value) (k:Nat) (c:List Value),off+k+vs.length<=c.length->
   (vs.zipIdx k).foldl (fun(cs:Array Value) (p:Value×Nat)=>cs.setIfInBounds (off+p.2) p.1) c.toArray=(c.take (off+k)++vs++c.drop (off+k+vs.length)).toArray:=by
   intro vs
   induction vs with
   |nil=>intro k c s;simp
   |cons v vs ihv=>
    intro k c s;simp only[List.zipIdx_cons,Vg,List.setIfInBounds_toArray];rw[ihv (k+1) (c.set (off+k) v) (by simp at s|-;omega)]
    congr 1
    simp at s;apply V0;intro j;simp only[Vi,List.getElem?_take,Vo,Vy,QA,Q8,Vw,Vz,List.getElem?_cons]
    grind
  have A:((ρ x).cells.zipIdx.foldl (fun(cs:Array Value) (p:Value×Nat)=>cs.setIfInBounds (off+p.2) p.1) cs.toArray)=(cs.take off++(ρ x).cells.toList++cs.drop (off+size)).toArray:=by
   have:=q (ρ x).cells.toList 0 cs tj;simp only[Qp,Array.length_toList,B]at this;rw[<- this,<- Array.foldl_toList,Array.toList_zipIdx]
  simp only[d,vM,if_false];rw[A];exact this
theorem run_sliceBound {x:Value}{y n:Nat}{c:BoundsCode}(h:bound x y=some n):(Instr.sliceBound x y c).run P w=.ok n w:=by
 cases x <;> simp[bound]at h;obtain⟨⟨d,g⟩,rfl⟩:=h;simp[Instr.sliceBound,asIntOf,d,g]
theorem yN {b:Bool}{len cap:Nat}{B A mx:Option Value}{r:Nat×Nat×Nat}(h:y8 len cap B A mx=some r):(Instr.sliceBounds b len cap B A mx).run P w=.ok r w:=by
 simp only[y8,X6]at h;obtain⟨m,g,hh,s,l,q,h⟩:=h;cases h;have j:∀{y n:Nat} {d:Option Nat} {v:Value} {c:BoundsCode},wY y d (some v)=some n->(Instr.sliceBound v y c).run P w=.ok n w:=λh=>run_sliceBound h
 simp only[Instr.sliceBounds];cases mx <;> cases A <;> cases B
 all_goals first
  |(simp[wY]at s;done)
  |skip
 .simp[wY]at g s q;subst g s q;simp
 .simp[wY]at g s;subst g s;simp[j q]
 .simp[wY]at g q;subst g q;simp[j s]
 .simp[wY]at g;subst g;simp[j q,j s]
 .simp[wY]at q;subst q;simp[j g,j s]
 .simp[j q,j g,j s]
theorem hO(b o n:Nat):(⟨b,o,none⟩:Addr).add n=⟨b,o+n,none⟩:=by
 by_cases h:n=0 <;> simp[Addr.add,h]
theorem ET {op:BinOp}{t:TypeId}{x:Value}{y:Operand}{neq b:Bool}{k:NK}{d:TypeDesc}(m:P.underlying t=some d)(s:op=if neq then .neq else .eql)(h:isNil k x=some b)
 (g:oN d y=some k):∃u,y=.const u/\(eqGuard op t xo y x u).run P w=.ok () w/\(Go.binOp op t x u).run P w=.ok (.bool (if neq then !b else b)) w:=by
 have q:∀u,y=.const u->(Op.equal t x u).run P w=.ok b w:=by
  rintro u rfl
  show(Op.equalIn (9999+1) t x u).run P w=_;generalize 9999=n;cases d <;> try (simp[oN]at g;done)
  all_goals (simp only[oN]at g;split at g <;> try (cases g;done))
  all_goals simp_all only[TypeDesc.pointer.injEq,TypeDesc.slice.injEq,TypeDesc.map.injEq,TypeDesc.func.injEq,TypeDesc.interface.injEq,reduceCtorEq,XD,Operand.const.injEq]
  all_goals subst_vars
  all_goals (cases x <;> simp[isNil]at h)
  all_goals first
   |(subst h;simp[Op.equalIn,kF m];done)
   |(rename_i a;cases a <;> simp at h <;> subst h <;> simp[Op.equalIn,kF m];done)
   |(rename_i a _ _;cases a <;> simp at h <;> subst h <;> simp[Op.equalIn,kF m];done)
 subst s;cases d <;> try (simp[oN]at g;done)
 all_goals (simp only[oN]at g;split at g <;> try (cases g;done))
 all_goals simp_all only[TypeDesc.pointer.injEq,TypeDesc.slice.injEq,TypeDesc.map.injEq,TypeDesc.func.injEq,TypeDesc.interface.injEq,reduceCtorEq,XD,Operand.const.injEq]
 all_goals subst_vars
 all_goals (refine⟨_,rfl,?_,?_⟩)
 all_goals (have j:=q _ rfl;cases x <;> simp[isNil]at h)
 all_goals first
  |(cases neq <;> simp[eqGuard];done)
  |(cases neq <;> simp[Go.binOp,j];done)
end
section
variable {P:Program} {ρ:Operand->Value} {w:World} {v:Value} {r:R}
theorem iB {t:TypeId}{z:List Value}(h:zeroOf P t=some z):∃i u,P.info? t=some i/\i.zero=some u/\u.cells.toList=z:=by
 simp only[zeroOf,X9,X6]at h;obtain⟨u,⟨i,d,g⟩,j⟩:=h;exact⟨i,u,d,g,j⟩
theorem ke {t:TypeId}{i:TypeInfo}{u:Value}(h:P.info? t=some i)(d:i.zero=some u):(zeroValue t).run P w=.ok u w:=by
 simp[zeroValue,we h,d]
theorem run_places(d:List Field)(m:∀f∈d,∃j,P.info? f.type=some j):(d.mapM λf=>do pure (f.offset,<- sizeOf f.type):Sem (List (Nat×Nat))).run P w=.ok (placesOf P d) w:=by
 induction d with
 |nil=>simp[placesOf]
 |cons f d ih=>
  obtain⟨j,q⟩:=m f Zs;have:=ih (λg s=>m g (by simp[s]));simp only[List.mapM_cons,Sem.run_bind,kd q,Result.andThen_ok,Sem.run_pure,this];simp[placesOf,Program.cellsOf,q]
theorem eS {t:TypeId}{d:TypeDesc}(h:P.underlying t=some d):(isAgg t).run P w=.ok (match d with|.struct _|.array _ _=>true|_=>false) w:=by
 cases d <;> simp[isAgg,kF h]
set_option maxHeartbeats 1000000 in
theorem ri {o:Oper}(O:∀u,ρ (.const u)=u)(g:jG P o.op=some r)(hv:kW ρ r=some v):(execOp ρ o).run P w=.ok (.value v) w:=by
 obtain⟨J,op,A,pos,C,guard⟩:=o;simp only at g;cases op
 case move x=>simp[jG]at g;subst g;simp[kW]at hv;subst hv;simp[execOp]
 case assign x=>simp[jG]at g;subst g;simp[kW]at hv;subst hv;simp[execOp]
 case pick c a b=>
  simp[jG]at g;subst g;simp only[kW]at hv;split at hv <;> simp at hv;subst hv;rename_i t ht;simp[execOp,ht,asBool]
 case nilCheck x=>
  simp[jG]at g;subst g;simp only[kW]at hv;split at hv <;> simp at hv;subst hv;rename_i a H;simp[execOp,H]
 case extract x i=>
  simp[jG]at g;subst g;simp only[kW]at hv;split at hv <;> try (cases hv;done)
  rename_i vs nu;simp[execOp,Instr.extract,nu,hv]
 case makeFunc fn f c=>
  simp[jG]at g;subst g;simp[kW]at hv;subst hv;obtain⟨f⟩:=f;obtain⟨c⟩:=c;simp[execOp,Instr.makeFunc]
 case makeInterface t x=>
  simp only[jG]at g;split at g <;> try (cases g;done)
  rename_i d Y B;cases g;simp[kW]at hv;subst hv;have:(Instr.makeInterface t (ρ x)).run P w=.ok (.iface t (ρ x)) w:=by
   cases d <;> simp_all [Instr.makeInterface,underlying]
  simp[execOp,this]
 case unOp op t x=>
  simp[jG]at g;subst g;cases op <;> simp only[kW]at hv <;> try (cases hv;done)
  all_goals (split at hv <;> try (cases hv;done))
  all_goals (cases hv;rename_i M;simp[execOp,Op.unary,M,Op.intArith,Op.intBits])
 case convert s d x=>
  simp only[jG]at g;split at g <;> try (cases g;done)
  .rename_i hs B;cases g;simp only[kW]at hv;split at hv <;> cases hv;rename_i n M;simp[execOp,Go.convert,kF hs,kF B,M,Conv.intToInt]
  .rename_i hs B;cases g;simp only[kW]at hv;split at hv <;> cases hv;rename_i n M;simp[execOp,Go.convert,kF hs,kF B,M]
  .split at g <;> cases g <;> simp[kW]at hv
  .split at g <;> cases g <;> simp[kW]at hv
 case binOp op t x y yt=>
  have fin:∀{u:Value},(Go.binOp op t (ρ x) (ρ y)).run P w=.ok u w->(eqGuard op t x y (ρ x) (ρ y)).run P w=.ok () w->(execOp ρ ⟨J,.binOp op t x y yt,A,pos,C,guard⟩).run P w=.ok (.value u) w:=by
   intro u D F;simp[execOp,D,F]
  have bin:y9 op (ρ x) (ρ y)=some v->(execOp ρ ⟨J,.binOp op t x y yt,A,pos,C,guard⟩).run P w=.ok (.value v) w:=by
   intro h;refine fin (XL h) (gU ?_ ?_)
   .rintro⟨D,F⟩;rw[D,F]at h;simp[y9]at h
   .rintro c d ⟨D,F⟩;rw[D,F]at h;simp[y9]at h
  simp only[jG]at g;split at g
  .cases g;exact bin hv
  .cases g;exact bin hv
  .rename_i B;split at g <;> cases g
   all_goals
    simp only[kW]at hv;split at hv <;> cases hv;rename_i a b H hb;refine fin ?_ (gU (by simp[H]) (by simp[H]));have:(Op.equal t (.bool a) (.bool b)).run P w=.ok (a==b) w:=dR (n:=9999) B rfl rfl;simp[H,hb,Go.binOp,this]
  .rename_i G B;split at g <;> try (cases g;done)
   rename_i X;obtain⟨X,cX⟩:=X;have W:P.underlying t=some (.struct (P.fieldsOf t)):=by simp[Program.fieldsOf,B]
   have Iu:P.fieldsOf t=G:=by simp[Program.fieldsOf,B]
   split at g <;> cases g
   case h_3=>simp[kW]at hv
   case h_4=>simp[kW]at hv
   all_goals
    rename_i ks AR;simp only[kW]at hv;split at hv <;> try (cases hv;done)
    rename_i a b H hb;split at hv <;> try (cases hv;done)
    simp only[X9]at hv;obtain⟨q,hq,rfl⟩:=hv;have hr:(Op.equal t (.agg a) (.agg b)).run P w=.ok q w:=by
     show(Op.equalIn (9999+1) t (.agg a) (.agg b)).run P w=_;rw[run_equalIn_struct w 9999 t a b W cX,Iu];exact GJ (n:=9998) G.toList ks 0 q AR (by simpa using hq)
    refine fin ?_ ?_
    .simp[H,hb,Go.binOp,hr]
    .rw[H,hb];exact run_eqGuard_agg w _ t x y a b X
  .rename_i d _ _ _ _ B;split at g
   case h_3=>split at g <;> first|(cases g;done)|(cases g;simp[kW]at hv;done)
   case h_4=>split at g <;> first|(cases g;done)|(cases g;simp[kW]at hv;done)
   case h_5=>cases g
   all_goals
    cases g;rename_i k hk;simp only[kW,X9]at hv;obtain⟨b,hb,rfl⟩:=hv
   .obtain⟨u,rfl,D,F⟩:=ET (w:=w) (xo:=x) (op:=.eql) (neq:=false) B rfl hb hk;exact fin (by rw[O];exact F) (by rw[O];exact D)
   .obtain⟨u,rfl,D,F⟩:=ET (w:=w) (xo:=x) (op:=.neq) (neq:=true) B rfl hb hk;exact fin (by rw[O];exact F) (by rw[O];exact D)
  .cases g
 case fieldAddr s x f=>
  simp only[jG]at g;split at g <;> try (cases g;done)
  rename_i G hs;split at g <;> try (cases g;done)
  rename_i Q hf;split at g <;> try (cases g;done)
  rename_i i hi;split at g <;> cases g;rename_i I;simp only[kW]at hv;split at hv <;> cases hv;rename_i b o hx;have D:(fieldPlace ⟨b,o,none⟩ Q).run P w=.ok ⟨b,o+Q.offset,none⟩ w:=by
   simp[fieldPlace,kd hi,I,hO]
  simp[execOp,Instr.fieldAt,kF hs,hf,hx,Instr.sureAddr,D]
 case field s x f=>
  simp only[jG]at g;split at g <;> try (cases g;done)
  rename_i G hs;split at g <;> try (cases g;done)
  rename_i Q hf;split at g <;> cases g
  .rename_i _ j hu hj;exact zCU
  .rename_i _ _ j hu hj;exact zCU
  .rename_i d j D F hu hj;simp only[kW]at hv;split at hv <;> try (cases hv;done)
   rename_i cs hx;simp at hv;have:(isAgg Q.type).run P w=.ok false w:=by rw[eS hu];cases d <;> simp_all
   simp[execOp,Instr.field,kF hs,hf,hx,asAgg,part,this,hv]
 case indexAddr t x i=>
  simp only[jG]at g;split at g <;> try (cases g;done)
  .rename_i n e hs;simp only[X9]at g;obtain⟨j,hj,rfl⟩:=g;simp only[kW]at hv;split at hv <;> try (cases hv;done)
   rename_i b o k m hx hi;split at hv <;> cases hv;rename_i hb;simp[execOp,Instr.indexAt,kF hs,hx,hi,asIntOf,Instr.sureAddr,hb,kd hj,hO]
  .rename_i e hs;simp only[X9]at g;obtain⟨j,hj,rfl⟩:=g;simp only[kW]at hv;split at hv <;> try (cases hv;done)
   rename_i b o n c k m hx hi;split at hv <;> cases hv;rename_i hb;simp[execOp,Instr.indexAt,kF hs,hx,hi,asIntOf,hb,kd hj,hO]
 case index t x i=>
  simp only[jG]at g;split at g <;> try (cases g;done)
  .rename_i hs;cases g;simp only[kW]at hv;split at hv <;> try (cases hv;done)
   rename_i s k m hx hi;split at hv <;> try (cases hv;done)
   rename_i h0;simp only[X9]at hv;obtain⟨b,hb,rfl⟩:=hv;simp[execOp,Instr.index,kF hs,hx,hi,asIntOf,h0,hb]
  .rename_i n e hs;split at g <;> cases g
   .rename_i _ j hu hj;exact zC8
   .rename_i _ _ j hu hj;exact zC8
   .rename_i d j D F hu hj;simp only[kW]at hv;split at hv <;> try (cases hv;done)
    rename_i cs k m hx hi;split at hv <;> try (cases hv;done)
    rename_i hb;simp at hv;have:(isAgg e).run P w=.ok false w:=by rw[eS hu];cases d <;> simp_all
    simp[execOp,Instr.index,kF hs,hx,hi,asIntOf,hb,kd hj,part,this,hv]
 case slice t x lo hi mx=>
  simp only[jG]at g;split at g <;> try (cases g;done)
  .rename_i hs;split at g <;> cases g;rename_i T;obtain rfl:mx=none:=by simpa using T
   simp only[kW]at hv;split at hv <;> try (cases hv;done)
   rename_i s hx;simp only[X9]at hv;obtain⟨⟨l,h,m⟩,hb,rfl⟩:=hv;simp[execOp,Instr.sliceAt,Instr.slice,kF hs,hx,yN hb]
  .rename_i e hs;simp only[X9]at g;obtain⟨j,hj,rfl⟩:=g;simp only[kW]at hv;split at hv <;> try (cases hv;done)
   .rename_i b o len cap hx;simp only[X9]at hv;obtain⟨⟨l,h,m⟩,hb,rfl⟩:=hv;simp only[execOp,Instr.sliceAt,Instr.slice,Sem.run_bind,kF hs,hx,yN hb,kd hj,Result.andThen_ok,Sem.run_pure,hO,XB];by_cases e:m=l <;> simp[e]
   .rename_i len cap hx;simp only[X9]at hv;obtain⟨⟨l,h,m⟩,hb,rfl⟩:=hv;simp[execOp,Instr.sliceAt,Instr.slice,kF hs,hx,yN hb,kd hj]
  .rename_i n e hs;split at g <;> try (cases g;done)
   rename_i T;obtain rfl:mx=none:=by simpa using T
   simp only[X9]at g;obtain⟨j,hj,rfl⟩:=g;simp only[kW]at hv;split at hv <;> try (cases hv;done)
   rename_i b o hx;simp only[X9]at hv;obtain⟨⟨l,h,m⟩,hb,rfl⟩:=hv;simp only[execOp,Instr.sliceAt,Sem.run_bind,kF hs,hx,Instr.sureAddr,yN hb,kd hj,Result.andThen_ok,Sem.run_pure,hO,XA];by_cases e:m=l <;> simp[e]
 case build t parts=>
  simp only[jG]at g;split at g <;> try (cases g;done)
  .rename_i G z hs I;split at g <;> try (cases g;done)
   rename_i aj;simp only[X9]at g;obtain⟨l,K,rfl⟩:=g;obtain⟨i,u,hi,hu,rfl⟩:=iB I;simp only[kW,X9]at hv;obtain⟨out,Z,rfl⟩:=hv;have nQ:(G.mapM λf=>do pure (f.offset,<- sizeOf f.type):Sem (Array (Nat×Nat))).run P w=.ok (placesOf P G.toList).toArray w:=by
    rw[Array.mapM_eq_mapM_toList];simp only[Sem.run_map];rw[run_places G.toList (λf hf=>by
     have:=vg.1 aj f hf;exact X8.1 this)]
    simp
   have N:=Cn (ρ:=ρ) (λi=>(placesOf P G.toList)[i]?) parts.toList l u.cells.toList out K Z;have hpe:(λi:Nat=>(placesOf P G.toList).toArray[i]?)=λi:Nat=>(placesOf P G.toList)[i]?:=by funext i;simp
   have S:(parts.map λp=>(p.1,ρ p.2)).toList=parts.toList.map λp=>(p.1,ρ p.2):=by simp
   simp only[Array.toArray_toList]at N;have:(Instr.build t (parts.map λp=>(p.1,ρ p.2))).run P w=.ok (.agg out.toArray) w:=by
    simp only[Instr.build,Sem.run_bind,ke hi hu,Result.andThen_ok,kF hs,nQ,S];rw[hpe];simp[N]
   simp[execOp,this]
  .rename_i n e z hs I;split at g <;> try (cases g;done)
   rename_i j hj;simp only[X9]at g;obtain⟨l,K,rfl⟩:=g;obtain⟨i,u,hi,hu,rfl⟩:=iB I;simp only[kW,X9]at hv;obtain⟨out,Z,rfl⟩:=hv;have N:=Cn (ρ:=ρ) (λi=>some (i*j.size,j.size)) parts.toList l u.cells.toList out K Z;have S:(parts.map λp=>(p.1,ρ p.2)).toList=parts.toList.map λp=>(p.1,ρ p.2):=by simp
   simp only[Array.toArray_toList]at N;have:(Instr.build t (parts.map λp=>(p.1,ρ p.2))).run P w=.ok (.agg out.toArray) w:=by
    simp only[Instr.build,Sem.run_bind,ke hi hu,Result.andThen_ok,kF hs,kd hj,S];simp[N]
   simp[execOp,this]
 case typeAssert x xt t ok=>
  simp only[jG]at g;split at g <;> try (cases g;done)
  rename_i d Y B;simp only[X9,X6]at g;obtain⟨z,⟨i,hi,I⟩,rfl⟩:=g;simp only[kW]at hv;split at hv <;> try (cases hv;done)
  .rename_i hx;split at hv <;> cases hv;rename_i U;have:(Instr.typeAssert .nilIface xt t true).run P w=.ok (.tuple #[z,.bool false]) w:=by
    cases d <;> simp_all [Instr.typeAssert,ke hi I,underlying]
   simp[execOp,hx,U,this]
  .rename_i u y hx;split at hv
   .rename_i hut;cases hv;have:(Instr.typeAssert (.iface u y) xt t ok).run P w=.ok (if ok=true then .tuple #[y,.bool true]else y) w:=by
     cases d <;> simp_all [Instr.typeAssert,underlying]
    simp[execOp,hx,this]
   .rename_i hut;split at hv <;> cases hv;rename_i U;have:(Instr.typeAssert (.iface u y) xt t true).run P w=.ok (.tuple #[z,.bool false]) w:=by
     cases d <;> simp_all [Instr.typeAssert,ke hi I,underlying]
    simp[execOp,hx,U,this]
 case call c=>
  obtain⟨E,args,L⟩:=c;obtain⟨args⟩:=args;obtain⟨L⟩:=L;have fin:∀{b:Builtin} {s:Sem Value},E=.builtin b->(∀cs,Go.builtin b L.toArray A cs (args.map ρ).toArray=(do pure (.value (<- s))))->s.run P w=.ok v w->
   (execOp ρ ⟨J,.call ⟨E,args.toArray,L.toArray⟩,A,pos,C,guard⟩).run P w=.ok (.value v) w:=by
   rintro b s rfl D F
   simp[execOp,resolve,invoke,D,F]
  simp only[jG]at g;split at g
  .split at g <;> cases g;simp[kW]at hv
  .cases g;simp[kW]at hv
  .split at g <;> try (cases g;done)
   rename_i x t;split at g <;> cases g <;> simp only[kW]at hv <;> try (cases hv;done)
   all_goals (rename_i B;split at hv <;> cases hv)
   all_goals (rename_i hx;refine fin (s:=Builtin.len_ #[t] A #[ρ x]) rfl (λcs=>by simp[Go.builtin]) ?_)
   .simp[Builtin.len_,kF B,hx,goInt]
   .simp[Builtin.len_,kF B,hx,goInt]
  .split at g <;> try (cases g;done)
   rename_i x t;split at g <;> cases g <;> simp only[kW]at hv <;> try (cases hv;done)
   all_goals (rename_i B;split at hv <;> cases hv)
   all_goals (rename_i hx;refine fin (s:=Builtin.cap_ #[t] A #[ρ x]) rfl (λcs=>by simp[Go.builtin]) ?_)
   .simp[Builtin.cap_,kF B,hx,goInt]
  .split at g <;> cases g;rename_i x y;simp only[kW]at hv;split at hv <;> cases hv;rename_i hx hy;refine fin (s:=Builtin.min_ L.toArray A #[ρ x,ρ y]) rfl (λcs=>by simp[Go.builtin]) ?_;simp[Builtin.min_,Builtin.min2,hx,hy]
  .split at g <;> cases g;rename_i x y;simp only[kW]at hv;split at hv <;> cases hv;rename_i hx hy;refine fin (s:=Builtin.max_ L.toArray A #[ρ x,ρ y]) rfl (λcs=>by simp[Go.builtin]) ?_;simp[Builtin.max_,Builtin.max2,hx,hy]
  all_goals (repeat' split at g)
  all_goals first
   |(cases g;done)
   |(cases g;simp[kW]at hv;done)
   |(simp only[X9]at g;obtain⟨_,_,rfl⟩:=g;simp[kW]at hv;done)
 all_goals (try simp only[jG]at g)
 all_goals (repeat' split at g)
 all_goals first
  |(cases g;done)
  |(cases g;simp[kW]at hv;done)
  |(simp only[X9]at g;obtain⟨_,_,rfl⟩:=g;simp[kW]at hv;done)
end
end Go.V

/-
  Cells and objects of memory as a list of atoms that a world satisfies, and triples over the model's own Sem programs.
-/
import Derived.Orders
import Derived.Laws.Sem
import Derived.Laws.World
set_option linter.all false
namespace Go
abbrev Ne1:List Value:=[.string ⟨#[]⟩,.int .i64 0,.slice none 0 0]
abbrev rP(k:Int)(s:ByteArray)(a b c:Int)(t:ByteArray)(d:Option Addr)(e f:Nat)(g:Option Addr)(h i:Nat)(u:Int)(v:Bool)(w:Option Addr)(x y:Nat):List Value:=[.int .u8 k,.string s,.int .u8 a,.int .i64 b,.int .u64 c,.string t,.slice d e f,.slice g h i,.int .i64 u,.bool v,.slice w x y]
abbrev rA(k:Nat)(s:ByteArray)(a:Nat)(b:Int)(c:Nat)(t:ByteArray)(d:Option Addr)(e f:Nat)(g:Option Addr)(h i:Nat)(l:Option Addr)(m n:Nat)(w:Option Addr)(x y:Nat)(p:Int):List Value:=[.int .u8 k,.string s,.int .u8 a,.int .i64 b,.int .u64 c,.string t,.slice d e f,.slice g h i,.slice l m n,.slice w x y,.int .i64 p]
abbrev rB(k:Nat)(s:ByteArray)(a:Nat)(b:Int)(c:Nat)(t:ByteArray)(d:Option Addr)(e f:Nat)(g:Option Addr)(h i:Nat)(u:Int)(v:Bool)(w:Option Addr)(x y:Nat):List Value:=[.int .u8 k,.string s,.int .u8 a,.int .i64 b,.int .u64 c,.string t,.slice d e f,.slice g h i,.int .i64 u,.bool v,.slice w x y]
abbrev rN(k:Int)(s:ByteArray)(a b c:Int)(t:ByteArray)(d:Option Addr)(e f:Nat)(g:Option Addr)(h i:Nat)(l:Option Addr)(m n:Nat)(w:Option Addr)(x y:Nat)(p:Int):List Value:=[.int .u8 k,.string s,.int .u8 a,.int .i64 b,.int .u64 c,.string t,.slice d e f,.slice g h i,.slice l m n,.slice w x y,.int .i64 p]
abbrev Nz:Value:=.slice none 0 0
theorem v6:type_of% @Array.eq_empty_of_size_eq_zero:=@Array.eq_empty_of_size_eq_zero
theorem v7:type_of% @Array.getElem?_eq_getElem:=@Array.getElem?_eq_getElem
theorem v8:type_of% @Array.getElem?_eq_some_iff:=@Array.getElem?_eq_some_iff
theorem v9:type_of% @Array.getElem?_modify:=@Array.getElem?_modify
theorem vA:type_of% @Array.getElem?_setIfInBounds_ne:=@Array.getElem?_setIfInBounds_ne
theorem vB:type_of% @Array.getElem?_toList:=@Array.getElem?_toList
theorem vC:type_of% @Array.toList_inj:=@Array.toList_inj
theorem vD:type_of% @Array.toList_map:=@Array.toList_map
theorem vE:type_of% @Bool.and_eq_false_iff:=@Bool.and_eq_false_iff
theorem vF:type_of% @Bool.and_eq_true:=@Bool.and_eq_true
theorem vG:type_of% @Bool.and_eq_true_iff:=@Bool.and_eq_true_iff
theorem vH:type_of% @Bool.and_true:=@Bool.and_true
theorem vI:type_of% @Bool.eq_false_iff:=@Bool.eq_false_iff
theorem vJ:type_of% @Bool.eq_iff_iff:=@Bool.eq_iff_iff
theorem vK:type_of% @Bool.false_and:=@Bool.false_and
theorem vL:type_of% @Bool.false_eq_true:=@Bool.false_eq_true
theorem vM:type_of% @Bool.false_or:=@Bool.false_or
theorem vN:type_of% @Bool.not_eq_true':=@Bool.not_eq_true'
theorem vO:type_of% @Bool.not_false:=@Bool.not_false
theorem vP:type_of% @Bool.or_assoc:=@Bool.or_assoc
theorem vQ:type_of% @Bool.or_eq_false_iff:=@Bool.or_eq_false_iff
theorem vR:type_of% @Bool.or_eq_true:=@Bool.or_eq_true
theorem vS:type_of% @Bool.or_eq_true_iff:=@Bool.or_eq_true_iff
theorem vT:type_of% @Bool.or_false:=@Bool.or_false
theorem vU:type_of% @Bool.true_and:=@Bool.true_and
theorem vV:type_of% @Int.toNat_natCast:=@Int.toNat_natCast
theorem vW:type_of% @Int.toNat_of_nonneg:=@Int.toNat_of_nonneg
theorem vX:type_of% @List.Perm.append_left:=@List.Perm.append_left
theorem vY:type_of% @List.Perm.append_right:=@List.Perm.append_right
theorem vZ:type_of% @List.Perm.refl:=@List.Perm.refl
theorem vd:type_of% @List.all_cons:=@List.all_cons
theorem ve:type_of% @List.all_eq_true:=@List.all_eq_true
theorem vf:type_of% @List.any_cons:=@List.any_cons
theorem vg:type_of% @List.any_eq_false:=@List.any_eq_false
theorem vh:type_of% @List.any_eq_true:=@List.any_eq_true
theorem vj:type_of% @List.append_assoc:=@List.append_assoc
theorem vm:type_of% @List.append_nil:=@List.append_nil
theorem vp:type_of% @List.append_of_mem:=@List.append_of_mem
theorem vq:type_of% @List.cons.injEq:=@List.cons.injEq
theorem vr:type_of% @List.cons_append:=@List.cons_append
theorem vt:type_of% @List.contains_iff_mem:=@List.contains_iff_mem
theorem vw:type_of% @List.drop_eq_getElem_cons:=@List.drop_eq_getElem_cons
theorem vx:type_of% @List.drop_eq_nil_of_le:=@List.drop_eq_nil_of_le
theorem vy:type_of% @List.drop_zero:=@List.drop_zero
theorem vz:type_of% @List.eq_nil_of_length_eq_zero:=@List.eq_nil_of_length_eq_zero
theorem V0:type_of% @List.ext_getElem?:=@List.ext_getElem?
theorem V5:type_of% @List.filter_append:=@List.filter_append
theorem V6:type_of% @List.filter_cons:=@List.filter_cons
theorem V7:type_of% @List.filter_eq_nil_iff:=@List.filter_eq_nil_iff
theorem V8:type_of% @List.filter_eq_self:=@List.filter_eq_self
theorem V9:type_of% @List.findIdx?_cons:=@List.findIdx?_cons
theorem VV:type_of% @List.flatMap_append:=@List.flatMap_append
theorem Va:type_of% @List.flatMap_def:=@List.flatMap_def
theorem Vb:type_of% @List.flatMap_singleton:=@List.flatMap_singleton
theorem Vc:type_of% @List.flatten_append:=@List.flatten_append
theorem Vd:type_of% @List.flatten_cons:=@List.flatten_cons
theorem Ve:type_of% @List.flatten_nil:=@List.flatten_nil
theorem Vg:type_of% @List.foldl_cons:=@List.foldl_cons
theorem Vh:type_of% @List.getD_eq_getElem?_getD:=@List.getD_eq_getElem?_getD
theorem Vi:type_of% @List.getElem?_append:=@List.getElem?_append
theorem Vj:type_of% @List.getElem?_append_left:=@List.getElem?_append_left
theorem Vl:type_of% @List.getElem?_append_right:=@List.getElem?_append_right
theorem Vm:type_of% @List.getElem?_cons_succ:=@List.getElem?_cons_succ
theorem Vn:type_of% @List.getElem?_cons_zero:=@List.getElem?_cons_zero
theorem Vo:type_of% @List.getElem?_drop:=@List.getElem?_drop
theorem Vp:type_of% @List.getElem?_eq_none:=@List.getElem?_eq_none
theorem Vr:type_of% @List.getElem?_eq_none_iff:=@List.getElem?_eq_none_iff
theorem Vt:type_of% @List.getElem?_eq_some_iff:=@List.getElem?_eq_some_iff
theorem Vu:type_of% @List.getElem?_map:=@List.getElem?_map
theorem Vv:type_of% @List.getElem?_of_mem:=@List.getElem?_of_mem
theorem Vw:type_of% @List.getElem?_set:=@List.getElem?_set
theorem Vx:type_of% @List.getElem?_toArray:=@List.getElem?_toArray
theorem Vy:type_of% @List.length_append:=@List.length_append
theorem Vz:type_of% @List.length_cons:=@List.length_cons
theorem Q0:type_of% @List.length_drop:=@List.length_drop
theorem Q1:type_of% @List.length_eq_one_iff:=@List.length_eq_one_iff
theorem Q3:type_of% @List.length_eq_zero_iff:=@List.length_eq_zero_iff
theorem Q4:type_of% @List.length_filter_le:=@List.length_filter_le
theorem Q5:type_of% @List.length_map:=@List.length_map
theorem Q6:type_of% @List.length_nil:=@List.length_nil
theorem Q7:type_of% @List.length_set:=@List.length_set
theorem Q8:type_of% @List.length_singleton:=@List.length_singleton
theorem Q9:type_of% @List.length_take:=@List.length_take
theorem QA:type_of% @List.map_append:=@List.map_append
theorem QB:type_of% @List.map_congr_left:=@List.map_congr_left
theorem QC:type_of% @List.map_cons:=@List.map_cons
theorem QD:type_of% @List.map_map:=@List.map_map
theorem QE:type_of% @List.map_nil:=@List.map_nil
theorem QF:type_of% @List.mem_append:=@List.mem_append
theorem QG:type_of% @List.mem_append_right:=@List.mem_append_right
theorem QH:type_of% @List.mem_cons:=@List.mem_cons
theorem QI:type_of% @List.mem_cons_of_mem:=@List.mem_cons_of_mem
theorem QJ:type_of% @List.mem_cons_self:=@List.mem_cons_self
theorem QK:type_of% @List.mem_filter:=@List.mem_filter
theorem QL:type_of% @List.mem_flatMap:=@List.mem_flatMap
theorem QM:type_of% @List.mem_map:=@List.mem_map
theorem QN:type_of% @List.mem_of_mem_take:=@List.mem_of_mem_take
theorem QO:type_of% @List.mem_range:=@List.mem_range
theorem QP:type_of% @List.mem_range'_1:=@List.mem_range'_1
theorem QR:type_of% @List.mem_singleton:=@List.mem_singleton
theorem QS:type_of% @List.nil_append:=@List.nil_append
theorem QT:type_of% @List.nodup_append:=@List.nodup_append
theorem QU:type_of% @List.nodup_cons:=@List.nodup_cons
theorem QV:type_of% @List.nodup_range:=@List.nodup_range
theorem QW:type_of% @List.perm_append_comm:=@List.perm_append_comm
theorem QX:type_of% @List.perm_append_comm_assoc:=@List.perm_append_comm_assoc
theorem QY:type_of% @List.perm_ext_iff_of_nodup:=@List.perm_ext_iff_of_nodup
theorem QZ:type_of% @List.perm_middle:=@List.perm_middle
theorem Qa:type_of% @List.prefix_append:=@List.prefix_append
theorem Qc:type_of% @List.prefix_refl:=@List.prefix_refl
theorem Qd:type_of% @List.sublist_cons_self:=@List.sublist_cons_self
theorem Qe:type_of% @List.take_add_one:=@List.take_add_one
theorem Qf:type_of% @List.take_append_drop:=@List.take_append_drop
theorem Qg:type_of% @List.take_of_length_le:=@List.take_of_length_le
theorem Qh:type_of% @List.take_zero:=@List.take_zero
theorem Qi:type_of% @Nat.add_assoc:=@Nat.add_assoc
theorem Qj:type_of% @Nat.add_zero:=@Nat.add_zero
theorem Qk:type_of% @Nat.and_two_pow_sub_one_eq_mod:=@Nat.and_two_pow_sub_one_eq_mod
theorem Ql:type_of% @Nat.eq_zero_or_pos:=@Nat.eq_zero_or_pos
theorem Qm:type_of% @Nat.le_of_ble_eq_true:=@Nat.le_of_ble_eq_true
theorem Qn:type_of% @Nat.le_refl:=@Nat.le_refl
theorem Qo:type_of% @Nat.le_succ:=@Nat.le_succ
theorem Qp:type_of% @Nat.le_trans:=@Nat.le_trans
theorem Qq:type_of% @Nat.lt_of_lt_of_le:=@Nat.lt_of_lt_of_le
theorem Qr:type_of% @Nat.lt_succ_self:=@Nat.lt_succ_self
theorem Qs:type_of% @Nat.mul_le_mul_right:=@Nat.mul_le_mul_right
theorem Qt:type_of% @Nat.sub_self:=@Nat.sub_self
theorem Qu:type_of% @Nat.zero_add:=@Nat.zero_add
theorem Qv:type_of% @Nat.zero_le:=@Nat.zero_le
theorem Qw:type_of% @Nat.zero_mul:=@Nat.zero_mul
theorem Qx:type_of% @Option.bind_eq_some_iff:=@Option.bind_eq_some_iff
theorem Qy:type_of% @Option.getD_some:=@Option.getD_some
theorem Qz:type_of% @Option.isSome_iff_exists:=@Option.isSome_iff_exists
theorem X0:type_of% @Option.map_eq_some_iff:=@Option.map_eq_some_iff
theorem X1:type_of% @Option.map_none:=@Option.map_none
theorem X2:type_of% @Option.map_some:=@Option.map_some
theorem X3:type_of% @Option.some.inj:=@Option.some.inj
theorem X4:type_of% @Option.some.injEq:=@Option.some.injEq
theorem X5:type_of% @Prod.mk.injEq:=@Prod.mk.injEq
theorem zA0 {P:Prop}(h:P:=by
 have hwk:∀(Uc:List UC),Uc.map UC.q=U.map UC.q->∀{k:Nat} {z:UC},U[k]? =some z->∃z',Uc[k]? =some z'/\z'.q=z.q:=fun Uc hq k z hk=>by
  have:=DA hq k;rw[hk]at this;cases e:Uc[k]? with
  |none=>rw[e]at this;cases this
  |some z'=>rw[e]at this;exact⟨z',rfl,X3 this⟩
 refine VC.loop (α:=Nat×Nat×List UC×List Nat) (bi:=fun s=>[(0,kF s.2.1),(1,kF y.q)]) (Hf:=fun s=>[WK s.2.2.1 pO])
  (I:=fun s=>s.1 < st.outer.length/\(∃z,s.2.2.1[s.1]? =some z/\z.q=s.2.1)/\s.2.2.1.map UC.q=U.map UC.q/\s.2.2.1.map UC.body=U.map UC.body/\s.2.2.2++st.way s.1 v=st.way i v/\st.af v∈st.line s.1/\(∀d∈s.2.2.2,s.1 < d)/\cz st (mr st v s.2.2.2) NQ (fun k=>st.uses.length+(if k∈s.2.2.2 then 1 else 0)) s.2.2.1 pO) (μ:=fun s=>s.1) (i,u.q,U,[])
  ⟨cF,⟨u,hu,rfl⟩,rfl,rfl,rfl,hl,Zs,Kv⟩ ZU ZI ?_
 clear Kv
 rintro⟨c,q,Uc,dn⟩ ⟨hc,⟨z,hz,rfl⟩,Ia,hmb,WD,EX,hdn,YS⟩
 simp only at hc hz Ia hmb WD EX hdn YS;dsimp only;obtain⟨w',sF,pK⟩:=hwk Uc Ia hw;have n0':kC.cell y2.q 0 (kM (some y2.unit))∈WK Uc pO:=lL Uo _ (kJ.2 ⟨0,kM (some y2.unit),rfl,Zs⟩);have n1':kC.cell y2.q 1 (.int .i64 y2.arg)∈WK Uc pO:=lL Uo _ (kJ.2 ⟨1,.int .i64 y2.arg,rfl,Zs⟩);rw[hyq2,hyu2,hyw]at n0';rw[hyq2,hya2,hya]at n1';have n0:kC.cell y.q 0 (kF w.q)∈WK Uc pO:=n0';have n1:kC.cell y.q 1 (.int .i64 x.own)∈WK Uc pO:=n1';have lw:wm (WK Uc pO) w.q:=pK ▸ gG sF;have lz:wm (WK Uc pO) z.q:=gG hz;obtain⟨R2,tz,du⟩:=Tu (V:=pO) hz;have k0:=gH tz n0 Zs;have k1:=gH tz n1 Zs;have k6:kC.cell z.q 6 (.map (some z.nb))∈R2:=gH tz (zy hz _ (QI _ (Zw _ (kJ.2 ⟨6,.map (some z.nb),rfl,Zs⟩)))) Zs;have k3:kC.cell z.q 3 (kM z.outer)∈R2:=gH tz (zy hz _ (QI _ (Zw _ (kJ.2 ⟨3,kM z.outer,rfl,Zs⟩)))) Zs;have NE:∀{k:Nat} {z':UC},Uc[k]? =some z'->wm R2 z'.q:=fun {k z'} hk=>by
  obtain⟨⟨n,h1⟩,⟨vv,h2⟩⟩:=gG (V:=pO) hk;exact⟨⟨n,gH tz h1 Zs⟩,⟨vv,gH tz h2 Zs⟩⟩
 refine VC.imp (H':=[[.obj z.nb (.map z.es z.cl)],R2]) (ao.perm (by simpa using tz)) ?_;have KD:=pK ▸ NE sF;have hlz:=NE hz;refine ae ?_;refine S5 u124 DW DX Zr Zr (hlz.more (fun _ hx=>by simp[hx])) (KD.more (fun _ hx=>by simp[hx])) ?_;refine ae ?_;by_cases hqe:z.q=w.q
 ·rw[Zt hqe];refine ae ?_;have e1:c=st.af v:=by rw[Y9];exact YS.Sv hz sF (hqe.trans pK.symm)
  rw[hwf.rE Zo e1,vm]at WD;refine kG (Post:=[WK Uc pO]) (.inl rfl) .nil ⟨Uc,pO,⟨rfl,?_,Ia,hmb,hvq2⟩,rfl⟩ (ao.perm (by simpa using tz.symm));refine cz.congr (YS.useS cF DV) (fun k t=>?_) Y6 (fun k=>?_)
  ·rw[Ly,WD]
  ·show st.uses.length+_<=(st.uses++[(i,v)]).length;rw[Vy,Q8];split <;> omega
 rw[Zf hqe];have hcu:c≠st.af v:=fun e=>by
  rw[Y9]at e;rw[<- e,hz]at sF;exact hqe (by rw[X3 sF];exact pK)
 have Gn:=EX;rw[hwf.line Zo]at Gn;have Y3:¬st.outer.getD c (-1) < 0:=fun h'=>by
  rw[if_pos h']at Gn;rcases QH.1 Gn with h''|h''
  ·exact hcu h''.symm
  ·cases h''
 rw[if_neg Y3]at Gn;have hln':st.af v∈st.line (st.outer.getD c (-1)).toNat:=by
  rcases QH.1 Gn with h''|h''
  ·exact absurd h''.symm hcu
  ·exact h''
 have hwst:=hwf.rF (v:=v) (by omega:c<=st.outer.length) hcu;rw[if_neg Y3]at hwst;have mP:=hwf.ef c;obtain⟨c',H8⟩:∃c',c'=(st.outer.getD c (-1)).toNat:=⟨_,rfl⟩;rw[<- H8]at hln' hwst;obtain⟨z',Ja⟩:∃z',Uc[c']? =some z':=⟨_,Zg (by rw[YS.ul];omega)⟩;have hzo:z.outer=some z'.q:=by
  rw[YS.ou c z hz,if_neg Y3,<- H8,Ja];rfl
 rw[hzo]at k3;obtain⟨m,t1,t2,t3,t4⟩:=YS.nd c z hz;have EY:∀p∈m,wm R2 p.1.1:=fun p hp=>by
  obtain⟨⟨j,wj,h1,h2⟩,_⟩:=t3 p hp;rw[h2];exact NE h1
 have L2:c∉dn:=fun h'=>Nat.lt_irrefl _ (hdn c h')
 have IU:0<=(kz (w.q,x.own) m).getD 0/\(kz (w.q,x.own) m).getD 0<=st.uses.length:=by
  cases e:kz (w.q,x.own) m with
  |none=>exact⟨Zs,Zs⟩
  |some cn=>
   obtain⟨_,h1,h2⟩:=t3 _ (yn e);rw[if_neg L2]at h2;simp only[Qy];omega
 have hput:∀cB oh,gJ cB oh (jk (w.q,x.own) ((kz (w.q,x.own) m).getD 0+1) m)->cz st (mr st v (dn++[c])) NQ (fun k=>st.uses.length+(if k∈dn++[c]then 1 else 0)) (Uc.set c {z with es:=cB,cl:=oh}) pO:=fun cB oh l6=>by
  rw[<- pK]at l6;refine(YS.put hz sF t2 t3 t4 l6 (by rw[pK];omega) (by rw[if_neg L2,pK];omega)).congr (fun k t=>?_) (fun k=>rfl) (fun k=>?_)
  ·rw[ID,Y9,hoo]
  ·by_cases e1:k∈dn
   ·rw[if_pos e1,if_pos (Zw _ e1),if_neg (fun e=>L2 (by rw[<- e];exact e1))];omega
   ·rw[if_neg e1];by_cases e2:k=c
    ·rw[if_pos e2,if_pos (by simp[e2])];omega
    ·rw[if_neg e2];omega
 have eB:∀cB oh,gJ cB oh (jk (w.q,x.own) ((kz (w.q,x.own) m).getD 0+1) m)->∃s:Nat×Nat×List UC×List Nat,(s.1 < st.outer.length/\(∃z,s.2.2.1[s.1]? =some z/\z.q=s.2.1)/\s.2.2.1.map UC.q=U.map UC.q/\s.2.2.1.map UC.body=U.map UC.body/\s.2.2.2++st.way s.1 v=st.way i v/\st.af v∈st.line s.1/\(∀d∈s.2.2.2,s.1 < d)/\cz st (mr st v s.2.2.2) NQ (fun k=>st.uses.length+(if k∈s.2.2.2 then 1 else 0)) s.2.2.1 pO)/\s.1 < c/\s.2.1=z'.q/\
  ao [[.obj z.nb (.map cB oh)],R2] [WK s.2.2.1 pO]:=fun cB oh l6=>by
  have hq:=ze (w':={z with es:=cB,cl:=oh}) hz rfl;refine⟨(c',z'.q,Uc.set c {z with es:=cB,cl:=oh},dn++[c]),⟨by simp only;omega,?_,hq.trans Ia,(sL (w':={z with es:=cB,cl:=oh}) hz rfl).trans hmb,?_,hln',?_,hput cB oh l6⟩,by simp only;omega,rfl,ao.perm (by simpa using(du cB oh).symm)⟩
  ·have:=DA hq c';rw[Ja]at this;cases e:(Uc.set c {z with es:=cB,cl:=oh})[c']? with
   |none=>rw[e]at this;cases this
   |some z2=>rw[e]at this;exact⟨z2,rfl,X3 this⟩
  ·rw[<- WD,hwst];simp
  ·intro d hd;rcases QF.1 hd with hd|hd
   ·have:=hdn d hd;simp only;omega
   ·rw[QR.1 hd];simp only;omega
 clear hput YS du tz;generalize IV:(kz (w.q,x.own) m).getD 0=cn at IU eB;refine ae ?_;refine VC.draws ⟨?_,?_,trivial⟩
 ·refine ae ?_;refine sY (k:=(w.q,x.own)) thP Zr Zr .here t1.of (KD.more (fun _ hx=>by simp[hx])) (fun p hp=>(EY p hp).more (fun _ hx=>by simp[hx])) ?_;rw[IV];refine ae ?_;refine K2 (k:=(w.q,x.own)) thP Zr Zr .here t1 (KD.more (fun _ hx=>by simp[hx])) (fun p hp=>(EY p hp).more (fun _ hx=>by simp[hx])) (fun es1 cl1 s1 DE Ps _=>?_);refine ae ?_;refine S4 (k:=(w.q,x.own)) Zr Zr Zr .here DE Ps ?_ (fun EU xQ=>?_)
  ·split
   ·exact t2
   ·exact pg t2
  have hes3:gJ EU cl1 (jk (w.q,x.own) (cn+1) m):=by
   split at xQ
   ·exact xQ
   ·rw[CR]at xQ;exact xQ
  obtain⟨s2,i1,i2,i3,i4⟩:=eB EU cl1 hes3;refine ae ?_;exact⟨s2,i1,i2,by rw[i3];exact AO,i4⟩
 ·refine ae ?_;refine K2 (k:=(w.q,x.own)) thP Zr Zr .here t1 (KD.more (fun _ hx=>by simp[hx])) (fun p hp=>(EY p hp).more (fun _ hx=>by simp[hx])) (fun es1 cl1 s1 DE Ps _=>?_);rw[IV];have hcn2:(kz (w.q,x.own) (if(kz (w.q,x.own) m).isSome=true then m else jk (w.q,x.own) 0 m)).getD 0=cn:=by
   split
   ·exact IV
   ·rename_i dt;rw[wK,if_pos rfl];cases e:kz (w.q,x.own) m with
    |none=>rw[e]at IV;exact IV
    |some _=>rw[e]at dt;exact absurd rfl dt
  have hls1:∀p∈(if(kz (w.q,x.own) m).isSome=true then m else jk (w.q,x.own) 0 m),wm R2 p.1.1:=fun p hp=>by
   split at hp
   ·exact EY p hp
   ·rcases GY hp with rfl|hp
    ·exact KD
    ·exact EY p hp
  refine ae ?_;refine sY (k:=(w.q,x.own)) thP Zr Zr .here DE.of (KD.more (fun _ hx=>by simp[hx])) (fun p hp=>(hls1 p hp).more (fun _ hx=>by simp[hx])) ?_;rw[hcn2];refine ae ?_;refine S4 (k:=(w.q,x.own)) Zr Zr Zr .here DE Ps ?_ (fun EU xQ=>?_)
  ·split
   ·exact t2
   ·exact pg t2
  have hes3:gJ EU cl1 (jk (w.q,x.own) (cn+1) m):=by
   split at xQ
   ·exact xQ
   ·rw[CR]at xQ;exact xQ
  obtain⟨s2,i1,i2,i3,i4⟩:=eB EU cl1 hes3;refine ae ?_;exact⟨s2,i1,i2,by rw[i3];exact AO,i4⟩):P:=h
theorem zA1 {P:Prop}(h:P:=by
 refine jF ?_;refine VC.join (α:=Nat×Bool) (fun z=>[(0,kF lb),(3,kF q),(5,kF r),(6,vi z.1)]) (fun z=>[A,aZ lb (mB||z.2) deep,kA r 0 (rA 5 s lk ln bp lt la items.length lc aa args.length ac ta ab.length tc none 0 0 p),kA q 0 (rA 5 s lk ln bp lt la items.length lc aa args.length ac ta ab.length tc (some ⟨bk,o,none⟩) kids.length c p)]) (fun e=>jc ((z::l).map fun y=>kQ (decide (y.kind=6)) (kN y))=some (e.1,e.2)) ?_ ?_
 ·refine ae ?_;refine nA Zr Zr (l:=1) rfl Zo ?_;rw[<- EY,if_neg Zo];refine ae ?_;refine VC.loop (α:=Nat×Nat×Bool) (bi:=fun s=>[(0,kF lb),(3,kF q),(5,kF r),(6,vi s.2.1),(123,.slice (some ⟨bk,o+1*11,none⟩) (z::l).length (c - 1)),(124,vi (z::l).length),(125,vi s.1)]) (Hf:=fun e=>[A,aZ lb (mB||e.2.2) deep,kA r 0 (rA 5 s lk ln bp lt la items.length lc aa args.length ac ta ab.length tc none 0 0 p),kA q 0 (rA 5 s lk ln bp lt la items.length lc aa args.length ac ta ab.length tc (some ⟨bk,o,none⟩) kids.length c p)])
   (I:=fun s=>s.1<=(z::l).length/\jc (((z::l).take s.1).map fun y=>kQ (decide (y.kind=6)) (kN y))=some (s.2.1,s.2.2)) (μ:=fun s=>(z::l).length - s.1) (0,0,false) ⟨Qv _,rfl⟩ ZU (by show ao _ [A,aZ lb (mB||false) deep,kA r 0 (rA 5 s lk ln bp lt la items.length lc aa args.length ac ta ab.length tc none 0 0 p),kA q 0 (rA 5 s lk ln bp lt la items.length lc aa args.length ac ta ab.length tc (some ⟨bk,o,none⟩) kids.length c p)];rw[vT,Gp];exact bS) ?_
  rintro⟨j,d,mm⟩ ⟨i1,i2⟩
  simp only at i1 i2;dsimp only;have aB:∀j y,(z::l)[j]? =some y->kids[j+1]? =some y:=fun j y e=>by rw[EV];exact e
  have hmul:(z::l).length<=140737488355328:=by omega
  generalize sE:z::l=tl at*;refine ae ?_;by_cases hj:j < tl.length;rotate_left
  ·rw[show decide ((j:Int) < (tl.length:Int))=false from Zf Zo];rw[Qg Zo]at i2;refine ae ?_;exact⟨(d,mm),i2,ZU,ZI⟩
  rw[show decide ((j:Int) < (tl.length:Int))=true from Zt Zo];obtain⟨u,hu⟩:∃u,tl[j]? =some u:=⟨_,Zg hj⟩;have hur:=hr (j+1) u (aB j u hu);have hum:=hm (j+1) Zo;have huok:=bh.ok (j+1) u (aB j u hu);rw[show o+(j+1)*11=o+(11+j*11) by omega]at hum;have hv:=huok.1 lb (mB||mm) deep;generalize us (j+1)=uj at hur hum hv;obtain⟨e1,e2,e3,e4,e5,e6,e7,e8,e9,uf,ug,uh,ui,H0,H4,H5,T5,rfl,eC,ir⟩:=dQ hur;have cH:tl.take (j+1)=tl.take j++[u]:=by rw[Qe,hu];rfl
  refine ae ?_;refine kS Zr (fun z hz=>Zw _ (hum z hz)) rfl ?_;refine ae ?_;refine kO (fun q9=>?_);refine ae ?_;by_cases h6:u.kind=6;rotate_left
  ·have aH:RR=none:=by
    rw[hR5,iS (.inl (cU (QM.2 ⟨u,Zv hu,by simp[kQ,h6]⟩)))];unfold kQ;split <;> rfl
   rw[show decide ((u.kind:Int)=6)=false from Zf Zo];refine ae ?_;refine kL (jC false) Zr ZP Zai (fun ch Post hz=>?_);obtain⟨_,rfl,rfl⟩:=hz;exact⟨[A,aZ lb (mB||mm) deep],ZI,aH,rfl,_,rfl⟩
  rw[show decide ((u.kind:Int)=6)=true from Zt Zo];refine ae ?_;refine kL (jC true) Zr ZP (fun v Post hv=>?_) HZ;obtain⟨_,rfl,rfl⟩:=hv;simp only[QS];refine ae ?_;refine kL hv Zr ZP (fun v Post hv=>?_) (fun ch Post hz=>?_);rotate_left
  ·obtain⟨hb,rfl,m2,rfl⟩:=hz;have aH:RR=none:=by
    rw[hR5,iS (.inl (cU (QM.2 ⟨u,Zv hu,by simp[kQ,h6,hb]⟩)))];unfold kQ;split <;> rfl
   exact⟨[A,aZ lb m2 deep],ZI,aH,rfl,m2,rfl⟩
  obtain⟨e,m2,he,rfl,rfl⟩:=hv;simp only[aJ];refine ae ?_;rw[show(if(e:Int) > (d:Int)then(e:Int)else(d:Int))=((max d e:Nat):Int) by split <;> omega];refine⟨(j+1,max d e,mm||m2),⟨by simp only;omega,?_⟩,by simp only;omega,ZU,?_⟩
  ·simp only[cH,QA,QC,QE,he];simp only[h6,decide_true];exact cV i2
  ·simp only[vP];exact bS
 ·rintro⟨d,mm⟩ i2
  simp only at i2;dsimp only;cases hf:zV y z.name (kN y)with
  |some pf=>
   obtain⟨dF,mF⟩:=pf;have hFf:=sK (hF (mB||mm)) hf;refine VC.draws ⟨?_,trivial⟩;refine ae ?_;refine kS Zr (fun z hz=>by simp only[Vd,QF];simp[cQ z hz]) fT ?_;refine ae ?_;refine kH hFf Zr ZP (fun v Post hv=>?_);obtain⟨rfl,rfl⟩:=hv;simp only[aJ];refine ae ?_;rw[show(if(dF:Int) > (d:Int)then(dF:Int)else(d:Int))=((max d dF:Nat):Int) by split <;> omega];refine⟨⟨max d dF,decide (256 < kids.length)||(mm||mF),s,lk,ln,bp,lt,la,items.length,lc,aa,args.length,ac,ta,ab.length,tc⟩,?_,ZU,?_⟩
   ·rw[hR5,hf,i2];simp[zL.ok,kQ,zr,wo,Ct,wk,Lt.kind,Lt.n,Lt.bits,Lt.text,Lt.items];simp only[and_assoc]
   ·simp only;rw[<- vP,<- KE,<- vP];show ao _ [A,aZ lb (mB||mm||mF) deep,kA r 0 (rA 5 s lk ln bp lt la items.length lc aa args.length ac ta ab.length tc none 0 0 p)];exact bS
  |none=>
   have aH:RR=none:=by
    rw[hR5,iS (.inr hf)];unfold kQ;split <;> rfl
   obtain⟨dF,ZQ,hFφ,hFz⟩:=ye hF;refine VC.xC (fun ch H'=>ch=wZ/\∃m,ao H' [A,aZ lb m deep]) (fun H'=>∃m,ao H' [A,aZ lb m deep,kA q 0 (rA 5 s lk ln bp lt la items.length lc aa args.length ac ta ab.length tc (some ⟨bk,o,none⟩) kids.length c p)]) ⟨mB||mm,ZI⟩ ?_ (fun ch H' hp=>?_)
   ·skip
    intro rs dK;rcases QH.1 dK with rfl|dK
    ·skip
     refine kI ?_;refine kI ?_;refine kI ?_;refine kI ?_;refine kI ?_;refine kI ?_;refine kI ?_;refine kI ?_;refine kI ?_;refine kI ?_;refine kI ?_;refine⟨rfl,vi dF,ZQ,fun Γ H bj hH=>?_,?_⟩
     ·obtain⟨mz,hz⟩:=hH;refine VO.imp hz ?_;refine kL (hFz mz) (by simp only[V.nI,V.ev,bj 140 Zd _ rfl,bj 144 Zd _ rfl,bj 149 Zd _ rfl]) ZP (fun v Post hv=>?_) (fun ch Post hz=>?_)
      ·obtain⟨rfl,WI,m',rfl⟩:=hv;exact VO.nil ⟨rfl,⟨m',ao.refl _⟩,WI⟩
      ·obtain⟨rfl,m',rfl⟩:=hz;exact⟨rfl,m',ZI⟩
     refine⟨rfl,vi (max d dF:Nat),True,fun Γ H bj hH=>?_,?_⟩
     ·obtain⟨mz,hz⟩:=hH;refine VO.imp hz ?_;exact EI (by simp only[V.ev,bj 139 Zd _ rfl]) (by simp only[V.ev,bj 150 Zd _ rfl]) (VO.nil ⟨rfl,⟨mz,ao.refl _⟩,trivial⟩)
     refine kI ?_;exact fun hh=>by
      simp only[true_and,and_true]at hh;exact hFφ hh hf
    ·cases dK
   ·obtain⟨rfl,m,hi⟩:=hp;exact⟨_,hi,aH,rfl,m,rfl⟩):P:=h
theorem zA2 {P:Prop}(h:P:=by
 refine ae ?_;refine VC.loop (α:=Nat×Nat×Bool) (bi:=fun s=>[(0,kF lb),(1,.string aE),(8,vi s.2.1),(29,.slice a l.length c),(30,vi l.length),(31,vi s.1)]) (Hf:=fun s=>[A,aZ lb (mB||s.2.2) deep])
  (I:=fun s=>s.1<=l.length/\jc ((l.take s.1).map fun x=>ja x (lY aE) (kN x))=some (s.2.1,s.2.2)) (μ:=fun s=>l.length - s.1) (0,0,false) ⟨Qv _,rfl⟩ ZU (by show ao _ [A,aZ lb (mB||false) deep];rw[vT,Gp];exact bS) ?_
 rintro⟨j,d,mm⟩ ⟨i1,i2⟩
 simp only at i1 i2;dsimp only;refine ae ?_;by_cases hj:j < l.length;rotate_left
 ·rw[show decide ((j:Int) < (l.length:Int))=false from Zf Zo];have cH:l.take j=l:=Qg Zo;rw[cH]at i2;refine ae ?_;refine jL (kG (Post:=[A,aZ lb (WX||(decide (15 < kR aE)||mm)) deep]) (.inr rfl) (.tmp Zr .nil) ⟨d,_,by rw[AJ,i2];rfl,rfl,by rw[Wn]⟩ (by rw[Wn,<- vP,<- KE];exact bS))
 obtain rfl:=hk.at_ Zo;rw[show decide ((j:Int) < (l.length:Int))=true from Zt Zo];obtain⟨y,hy⟩:∃y,l[j]? =some y:=⟨_,Zg hj⟩;have bK:=hk.rd j y hy;have cQ:=hk.mem j hj;have hv:=zz A y _ bK (hk.ok j y hy) (lY aE) lb (mB||mm) deep;generalize us j=uj at bK cQ hv;obtain⟨e1,e2,e3,e4,e5,e6,e7,e8,e9,uf,ug,uh,ui,H0,H4,H5,T5,rfl,eC,ir⟩:=dQ bK;have cH:l.take (j+1)=l.take j++[y]:=by rw[Qe,hy];rfl
 refine ae ?_;refine kS Zr Dt rfl ?_;refine ae ?_;refine kO (fun q=>?_);refine ae ?_;cases he:ja y (lY aE) (kN y)with
 |some dm=>
  obtain⟨e,m2⟩:=dm;rw[he]at hv;have hvf:ji Tryz.prog 170 [kF lb,.agg #[cv y.kind,.string y.name,cv e1,vi e2,uv e3,.string e4,.slice e5 e6 e7,.slice e8 e9 uf,.slice ug uh ui,.slice H0 H4 H5,vi T5],vi (lY aE)] [A,aZ lb (mB||mm) deep] (fun v Post=>v=vi e/\Post=[A,aZ lb (mB||mm||m2) deep]) (fun _ _=>False):=
   ji.mono hv (fun v Post ⟨d',m',e,h1,h2⟩=>by cases e;exact⟨h1,h2⟩) (fun ch Post hz=>by cases hz.1)
  refine VC.draws ⟨?_,?_,trivial⟩
  ·skip
   refine ae ?_;refine kK (di aE bY) Zr ?_;refine ae ?_;refine kH hvf.fun Zr ZP (fun v Post hv=>?_);obtain⟨rfl,rfl⟩:=hv;simp only[aJ];refine ae ?_;rw[show(if(e:Int) > (d:Int)then(e:Int)else(d:Int))=((max d e:Nat):Int) by split <;> omega];refine⟨(j+1,max d e,mm||m2),⟨by simp only;omega,?_⟩,by simp only;omega,ZU,?_⟩
   ·simp only[cH,QA,QC,QE,he];exact cV i2
   ·simp only[vP];exact bS
  ·skip
   refine ae ?_;refine kK (di aE bY) Zr ?_;refine ae ?_;refine kH hvf.fun Zr ZP (fun v Post hv=>?_);obtain⟨rfl,rfl⟩:=hv;simp only[aJ];refine ae ?_;rw[show(if(e:Int) > (d:Int)then(e:Int)else(d:Int))=((max d e:Nat):Int) by split <;> omega];refine⟨(j+1,max d e,mm||m2),⟨by simp only;omega,?_⟩,by simp only;omega,ZU,?_⟩
   ·simp only[cH,QA,QC,QE,he];exact cV i2
   ·simp only[vP];exact bS
 |none=>
  rw[he]at hv;have aH:RR=none:=by
   rw[bW,cU (QM.2 ⟨y,Zv hy,he⟩)];unfold kQ;split <;> rfl
  have hvz:ji Tryz.prog 170 [kF lb,.agg #[cv y.kind,.string y.name,cv e1,vi e2,uv e3,.string e4,.slice e5 e6 e7,.slice e8 e9 uf,.slice ug uh ui,.slice H0 H4 H5,vi T5],vi (lY aE)] [A,aZ lb (mB||mm) deep] (fun v Post=>False) (fun ch Post=>ch=wZ/\∃m,Post=[A,aZ lb m deep]):=
   ji.mono hv (fun v Post ⟨d',m',e,_⟩=>by cases e) (fun ch Post hz=>hz.2)
  refine VC.xC (fun ch H'=>ch=wZ/\∃m,ao H' [A,aZ lb m deep]) (fun H'=>H'=[kA q 0 (rA y.kind y.name e1 e2 e3 e4 e5 e6 e7 e8 e9 uf ug uh ui H0 H4 H5 T5),A,aZ lb (mB||mm) deep]) rfl ?_ (fun ch H' hp=>?_)
  ·intro rs dK;rcases QH.1 dK with rfl|dK
   ·skip
    refine kI ?_;refine kI ?_;refine⟨rfl,.agg #[cv y.kind,.string y.name,cv e1,vi e2,uv e3,.string e4,.slice e5 e6 e7,.slice e8 e9 uf,.slice ug uh ui,.slice H0 H4 H5,vi T5],True,fun Γ H bj hH=>?_,?_⟩
    ·subst hH;exact yH (bj 10 Zd _ rfl) UB Fh
    refine kI ?_;refine⟨rfl,vi (lY aE),True,fun Γ H bj hH=>?_,?_⟩
    ·subst hH;exact kK (di aE bY) (by simp only[V.nI,V.ev,bj 38 Zd _ rfl]) Fh
    refine⟨rfl,vi 0,False,fun Γ H bj hH=>?_,?_⟩
    ·subst hH;refine kL hvz Zap ZP (fun v Post hv=>hv.elim) (fun ch Post hz=>?_);obtain⟨rfl,m,rfl⟩:=hz;exact⟨rfl,m,ZI⟩
    refine⟨rfl,vi d,True,fun Γ H bj hH=>?_,?_⟩
    ·subst hH;exact EI (a:=d) (b:=0) (by simp only[V.ev,bj 35 Zd _ rfl]) (by simp only[V.ev,bj 40 Zd _ rfl];rfl) (VO.nil ⟨by rw[Nat.max_zero],rfl,trivial⟩)
    refine kI ?_;exact fun hh=>by simp at hh
   rcases QH.1 dK with rfl|dK
   ·skip
    refine kI ?_;refine kI ?_;refine kI ?_;refine⟨rfl,vi (lY aE),True,fun Γ H bj hH=>?_,?_⟩
    ·subst hH;exact kK (di aE bY) (by simp only[V.nI,V.ev,bj 38 Zd _ rfl]) Fh
    refine⟨rfl,.agg #[cv y.kind,.string y.name,cv e1,vi e2,uv e3,.string e4,.slice e5 e6 e7,.slice e8 e9 uf,.slice ug uh ui,.slice H0 H4 H5,vi T5],True,fun Γ H bj hH=>?_,?_⟩
    ·subst hH;exact yH (bj 10 Zd _ rfl) UB Fh
    refine⟨rfl,vi 0,False,fun Γ H bj hH=>?_,?_⟩
    ·subst hH;refine kL hvz Zap ZP (fun v Post hv=>hv.elim) (fun ch Post hz=>?_);obtain⟨rfl,m,rfl⟩:=hz;exact⟨rfl,m,ZI⟩
    refine⟨rfl,vi d,True,fun Γ H bj hH=>?_,?_⟩
    ·subst hH;exact EI (a:=d) (b:=0) (by simp only[V.ev,bj 35 Zd _ rfl]) (by simp only[V.ev,bj 40 Zd _ rfl];rfl) (VO.nil ⟨by rw[Nat.max_zero],rfl,trivial⟩)
    refine kI ?_;exact fun hh=>by simp at hh
   ·cases dK
  ·obtain⟨rfl,m,hi⟩:=hp;exact⟨_,hi,aH,rfl,m,rfl⟩):P:=h
theorem zA3 {P:Prop}(h:P:=by
 refine ae ?_;refine kS Zr (fun z hz=>by simp only[Vd,QF];simp[cQ z hz]) fT ?_;refine ae ?_;refine kH hFf Zr ZP (fun v Post hv=>?_);obtain⟨rfl,rfl⟩:=hv;simp only[aJ];refine ae ?_;refine nA Zr Zr (l:=1) rfl Zo ?_;refine ae ?_;refine kH hAf Zr ZP (fun v Post hv=>?_);obtain⟨rfl,rfl⟩:=hv;simp only[aJ];refine ae ?_;rw[show(if(dA:Int) > (dF:Int)then(dA:Int)else(dF:Int))=((max dF dA:Nat):Int) by split <;> omega];refine⟨⟨max dF dA,mF||mA,⟨#[]⟩,lk,ln,bp,lt,la,items.length,lc,aa,args.length,ac,ta,ab.length,tc⟩,?_,ZU,?_⟩
 ·rw[hR4,hf,hal2];simp[zL.ok,kQ,zr,ec,wk,Lt.kind,Lt.n,Lt.bits,Lt.text,Lt.items,show(⟨#[]⟩:ByteArray).size=0 from rfl];simp only[and_assoc]
 ·simp only;rw[<- vP];show ao _ [A,aZ lb (m0||mF||mA) deep,kA r 0 [cv 4,.string ⟨#[]⟩,cv lk,vi ln,uv bp,.string lt,.slice la items.length lc,.slice aa args.length ac,.slice ta ab.length tc,.slice none 0 0,vi p]];exact bS):P:=h
theorem zA4 {P:Prop}(h:P:=by
 refine ae ?_;refine kL au Zr ZP (fun v Post hv=>?_) (fun ch Post hz=>?_);rotate_left
 ·obtain⟨q1,e1,p1,ep,rfl,rfl⟩:=hz;rw[Ud]at ep;cases ep
 obtain⟨lJ,de,U4,V4,T4,B4,⟨U0,Mc,DM,rows,Ap,B5,A4,cP,rfl⟩,rfl⟩:=hv;simp only[aJ];obtain⟨w4,hw4,hwq4⟩:∃w,U4[st.outer.length]? =some w/\w.q=q:=lI rfl (by
  obtain⟨t,ht⟩:=Mc;have h1:(U3.map UC.q)[st.outer.length]? =some q:=by rw[I4,iN];exact E3
  rw[<- ht,Vj (Vt.1 h1).1];exact h1)
 obtain⟨Rb,hpb,hrb⟩:=Yn (V:=V4) hw4
 replace hpb:(WK U4 V4).Perm (kA q 8 [w4.body]++Rb):=by rw[<- hwq4];exact hpb
 replace hrb:∀bv,(WK (U4.set st.outer.length {w4 with body:=bv}) V4).Perm (kA q 8 [bv]++Rb):=fun bv=>by rw[<- hwq4];exact hrb bv
 obtain⟨va,vc,rfl⟩:=A4.form;refine VO.imp (H':=[kA q 8 [w4.body],Rb,kA k9 0 [kF q],kA X.wq 0 [.map (some X.fb),.map (some X.gb),lJ],aj lJ (U4.map fun u=>kM (some u.q)) de,[.obj X.fb (.map X.bG X.fc)],[.obj X.gb (.map X.bL X.gc)],T4,[.obj b (.map es c)],X.S,aj (.slice va (kT X.F X.G kids (aW args ab p st env o).1 (aW args ab p st env o).2 st.outer.length).1.length vc) rows.flatten Ap++B5]) (ao.cut (M:=[WK U4 V4,kA k9 0 [kF q],kA X.wq 0 [.map (some X.fb),.map (some X.gb),lJ],aj lJ (U4.map fun u=>kM (some u.q)) de,[.obj X.fb (.map X.bG X.fc)],[.obj X.gb (.map X.bL X.gc)],T4,[.obj b (.map es c)],X.S,aj (.slice va (kT X.F X.G kids (aW args ab p st env o).1 (aW args ab p st env o).2 st.outer.length).1.length vc) rows.flatten Ap++B5]) ZI (ao.perm (by
  simp only[Vd,Ve,vm];rw[<- vj (kA q 8 [w4.body])];exact vY _ hpb))) ?_
 refine ae ?_;obtain⟨j1,j2,j3,⟨w5,j4,j5⟩,j6⟩:=Wg lJ de U4 V4 T4 rows Ap B5 va vc w4 U0 A4 cP hw4 hwq4 Mc DM;refine jL (kG (Post:=[kA X.wq 0 [.map (some X.fb),.map (some X.gb),lJ],aj lJ ((U4.set st.outer.length {w4 with body:=.slice va (kT X.F X.G kids (aW args ab p st env o).1 (aW args ab p st env o).2 st.outer.length).1.length vc}).map fun u=>kM (some u.q)) de,[.obj X.fb (.map X.bG X.fc)],[.obj X.gb (.map X.bL X.gc)],WK (U4.set st.outer.length {w4 with body:=.slice va (kT X.F X.G kids (aW args ab p st env o).1 (aW args ab p st env o).2 st.outer.length).1.length vc}) V4,T4++(aj (.slice va (kT X.F X.G kids (aW args ab p st env o).1 (aW args ab p st env o).2 st.outer.length).1.length vc) rows.flatten Ap++B5),[.obj b (.map es c)],X.S]) (.inr rfl) (.tmp (v:=kF q) Zr .nil) ⟨lJ,de,_,V4,_,⟨j1,j2,j3,w5,j4,j5⟩,rfl⟩ ?_);rw[j6];refine ao.cut (M:=[kA X.wq 0 [.map (some X.fb),.map (some X.gb),lJ],aj lJ (U4.map fun u=>kM (some u.q)) de,[.obj X.fb (.map X.bG X.fc)],[.obj X.gb (.map X.bL X.gc)],kA q 8 [.slice va (kT X.F X.G kids (aW args ab p st env o).1 (aW args ab p st env o).2 st.outer.length).1.length vc],Rb,T4,aj (.slice va (kT X.F X.G kids (aW args ab p st env o).1 (aW args ab p st env o).2 st.outer.length).1.length vc) rows.flatten Ap++B5,[.obj b (.map es c)],X.S]) ZI (ao.perm ?_);have h:=fun R=>(vY R (hrb (.slice va (kT X.F X.G kids (aW args ab p st env o).1 (aW args ab p st env o).2 st.outer.length).1.length vc))).symm
 simp only[vj]at h;simp only[Vd,Ve,vm,vj];exact vX _ (vX _ (vX _ (vX _ (h _))))):P:=h
theorem zA5 {P:Prop}(h:P:=by
 refine kI ?_;refine⟨rfl,vi dA,φA,fun Γ H bj hH=>?_,?_⟩
 ·obtain⟨mz,hz⟩:=hH;refine VO.imp hz ?_;refine kL (hAz mz) Zar ZP (fun v Post hv=>?_) (fun ch Post hz=>?_)
  ·obtain⟨rfl,WI,m',rfl⟩:=hv;exact VO.nil ⟨rfl,⟨m',ao.refl _⟩,WI⟩
  ·obtain⟨rfl,m',rfl⟩:=hz;exact⟨rfl,m',ZI⟩
 refine⟨rfl,vi (max dF dA:Nat),True,fun Γ H bj hH=>?_,?_⟩
 ·obtain⟨mz,hz⟩:=hH;refine VO.imp hz ?_;exact EI Zas Zat (VO.nil ⟨rfl,⟨mz,ao.refl _⟩,trivial⟩)
 refine kI ?_;exact fun hh=>by
  simp only[true_and,and_true]at hh;rcases dt with h1|h1
  ·exact hFφ hh.1 h1
  ·exact hAφ hh.2 h1):P:=h
theorem zA6 {P:Prop}(h:P:=by
 refine ae ?_;refine VC.loop (α:=Nat×Nat×Bool) (bi:=fun s=>[(0,kF lb),(5,kF r),(6,vi s.2.1),(185,.slice a kids.length c),(186,vi kids.length),(187,vi s.1)]) (Hf:=fun z=>[A,aZ lb (mB||z.2.2) deep,kA r 0 (rA 8 s lk ln bp lt la items.length lc aa args.length ac ta ab.length tc none 0 0 p)])
  (I:=fun s=>s.1<=kids.length/\jc ((kids.take s.1).map fun x=>ja x 1 (kN x))=some (s.2.1,s.2.2)) (μ:=fun s=>kids.length - s.1) (0,0,false) ⟨Qv _,rfl⟩ ZU (by show ao _ [A,aZ lb (mB||false) deep,kA r 0 (rA 8 s lk ln bp lt la items.length lc aa args.length ac ta ab.length tc none 0 0 p)];rw[vT,Gp];exact bS) ?_
 rintro⟨j,d,mm⟩ ⟨i1,i2⟩
 simp only at i1 i2;dsimp only;have hdb:d<=1099511627777:=gl (fun r hr d m e=>by
  obtain⟨y,hy,rfl⟩:=QM.1 hr;obtain⟨i,hi⟩:=Vv (QN hy);exact s6 (bh.ok i _ hi).2 e) i2
 refine ae ?_;by_cases hj:j < kids.length;rotate_left
 ·rw[show decide ((j:Int) < (kids.length:Int))=false from Zf Zo];rw[Qg Zo]at i2;refine ae ?_;refine⟨⟨d+1,decide (255 < kids.length)||mm,s,lk,ln,bp,lt,la,items.length,lc,aa,args.length,ac,ta,ab.length,tc⟩,?_,ZU,?_⟩
  ·simp only[hR8,i2,wi,wo];simp[zL.ok,kQ,wk,Lt.kind,Lt.n,Lt.bits,Lt.text,Lt.items];simp only[and_assoc]
  ·simp only;rw[<- vP,<- KE];show ao _ [A,aZ lb (mB||mm) deep,kA r 0 (rA 8 s lk ln bp lt la items.length lc aa args.length ac ta ab.length tc none 0 0 p)];exact bS
 obtain rfl:=ha Zo;rw[show decide ((j:Int) < (kids.length:Int))=true from Zt Zo];obtain⟨y,hy⟩:∃y,kids[j]? =some y:=⟨_,Zg hj⟩;have bK:=hr j y hy;have cQ:=hm j hj;have hv:=zz A y _ bK (bh.ok j y hy) 1 lb (mB||mm) deep;generalize us j=uj at bK cQ hv;obtain⟨e1,e2,e3,e4,e5,e6,e7,e8,e9,uf,ug,uh,ui,H0,H4,H5,T5,rfl,eC,ir⟩:=dQ bK;have cH:kids.take (j+1)=kids.take j++[y]:=by rw[Qe,hy];rfl
 refine ae ?_;refine kS Zr Dt rfl ?_;refine ae ?_;refine kO (fun q9=>?_);refine ae ?_;refine kL hv Zr ZP (fun v Post hv=>?_) (fun ch Post hz=>?_);rotate_left
 ·obtain⟨hb,rfl,m2,rfl⟩:=hz;have aH:RR=none:=by
   rw[hR8,cU (QM.2 ⟨y,Zv hy,hb⟩)];unfold kQ;split <;> rfl
  exact⟨[A,aZ lb m2 deep],ZI,aH,rfl,m2,rfl⟩
 obtain⟨e,m2,he,rfl,rfl⟩:=hv;simp only[aJ];refine ae ?_;rw[show(if(e:Int) > (d:Int)then(e:Int)else(d:Int))=((max d e:Nat):Int) by split <;> omega];refine⟨(j+1,max d e,mm||m2),⟨by simp only;omega,?_⟩,by simp only;omega,ZU,?_⟩
 ·simp only[cH,QA,QC,QE,he];exact cV i2
 ·simp only[vP];exact bS):P:=h
theorem Bz {P:Prop}(h:P:=by
 refine ae ?_;refine kL (jC false) Zr ZP Zai (fun ch Post hz=>?_);obtain⟨_,rfl,rfl⟩:=hz;exact⟨[A,aZ lb m0 deep],ZI,aH,rfl,m0,rfl⟩):P:=h
theorem zA8 {P:Prop}(h:P:=by
 refine ae ?_;refine VC.loop (α:=Nat×Nat×Bool) (bi:=fun s=>[(0,kF lb),(7,vi s.2.1),(8,kF r),(114,.slice a items.length c),(115,vi items.length),(116,vi s.1)]) (Hf:=fun s=>[A,aZ lb (true||s.2.2) deep,kA r 0 [cv 10,vi n,uv b,.string t,.slice a items.length c]])
  (I:=fun s=>s.1<=items.length/\jc ((items.take s.1).map fun x=>jK x true)=some (s.2.1,s.2.2)) (μ:=fun s=>items.length - s.1) (0,0,false) ⟨Qv _,rfl⟩ ZU (by rw[vT];exact bS) ?_
 rintro⟨j,d,mm⟩ ⟨i1,i2⟩
 simp only at i1 i2;dsimp only;have bz:=wf.many;simp only[Lt.size]at hbd;have hdb:d<=Lt.aq items:=gl (fun r hr d m e=>by
  obtain⟨y,hy,rfl⟩:=QM.1 hr;have h1:=Lt.aD (QN hy);have h2:=D4 _ y (Qn _) true d m e;omega) i2
 refine ae ?_;by_cases hj:j < items.length;rotate_left
 ·rw[show decide ((j:Int) < (items.length:Int))=false from Zf Zo];have cH:items.take j=items:=Qg Zo;rw[cH,<- cS]at i2;refine ae ?_;refine⟨⟨d+1,decide (255 < items.length)||mm,n,b,t,.slice none 0 0,0⟩,⟨⟨_,_,rfl⟩,?_⟩,ZU,?_⟩
  ·simp[jK,i2,wo,wi,kQ,oe.ok]
  ·rw[Wo];exact bS
 obtain rfl:=ha Zo;rw[show decide ((j:Int) < (items.length:Int))=true from Zt Zo];obtain⟨y,hy⟩:∃y,items[j]? =some y:=⟨_,Zg hj⟩;have bK:=hr j y hy;have cQ:=hm j hj;have Pz:y.size<=N:=by
  have h1:=Lt.aD (Zv hy);simp only[Lt.size]at hx;omega
 have Un:=Lt.aD (Zv hy);have aC:=ih y Pz Zo _ bK lb (true||mm) deep true;generalize us j=uj at bK cQ aC;have hyr2:=bK;cases hyr2 with
 |@mk k2 n2 b2 t2 Ji a2 c2 bk2 o2 Dj Tt IS p8 du=>
 refine ae ?_;refine kS Zr Dt rfl ?_;refine ae ?_;refine kO (fun q2=>?_);refine ae ?_;refine kL aC Zr ZP (fun v Post hv=>?_) (fun ch Post hz=>?_);rotate_left
 ·obtain⟨hb,rfl,m2,rfl⟩:=hz;have aH:jK (.mk 10 n b t items) inside=none:=by
   have h1:jc (tB items)=none:=by
    rw[cS];exact cU (QM.2 ⟨_,Zv hy,hb⟩)
   simp[jK,h1,wo,wi,kQ]
  exact⟨[A,aZ lb m2 deep],ZI,aH,rfl,m2,rfl⟩
 obtain⟨e,m2,he,rfl,rfl⟩:=hv;simp only[aJ];have cH:items.take (j+1)=items.take j++[.mk k2 n2 b2 t2 Ji]:=by rw[Qe,hy];rfl
 refine ae ?_;rw[show(if(e:Int) > (d:Int)then(e:Int)else(d:Int))=((max d e:Nat):Int) by split <;> omega];refine⟨(j+1,max d e,mm||m2),⟨by simp only;omega,?_⟩,by simp only;omega,ZU,?_⟩
 ·simp only[cH,QA,QC,QE,he];exact cV i2
 ·simp only[vP];exact bS):P:=h
theorem zA9 {P:Prop}(h:P:=by
 have Gt:s1=seen:=by rw[Po];rfl
 refine ae ?_;refine zB (E:=yK) (V:=fun n:Nat=>.int .i64 n) (k:=s) Zr Zr rfl Zaz hH1 ?_;rw[KN];generalize hgn:(kz s mH).getD 0=gn at hgs;refine ae ?_;by_cases g0:gn=0
 ·rw[show decide ((gn:Int)=0)=true from Zt Zo];refine ae ?_;refine zB (E:=yK) (V:=fun n:Nat=>.int .i64 n) (k:=s) Zr Zr rfl Zaz hM1 ?_;rw[KN];generalize hgm:(kz s mM).getD 0=gm at YZ;refine ae ?_;by_cases g1:gm=0
  ·rw[show decide ((gm:Int)=0)=true from Zt Zo];refine ae ?_;refine zB (E:=yK) (V:=fun n:Nat=>.int .i64 n) (k:=s) Zr Zr rfl Zaz hM1 ?_;rw[KN,hgm];refine ae ?_;refine zA (E:=yK) (V:=fun n:Nat=>.int .i64 n) (k:=s) (v:=gm+1) Zr Zr Zr rfl ZK hM1 (fun cB c' hes'=>?_);refine ae ?_;refine jB (out:=[.string s]) Zr Zr (fun qb=>?_);refine ae ?_;refine jH (k:=out.length) (m:=1) (xs:=out.map Value.string) (sp:=sp) (ys:=[.string s]) Zr Zr bD ZK Zr ?_ rfl Zr Zr Zd Zo (fun eW bE aT=>?_)
   ·exact ET
   have E2:o1=out++[s]:=by rw[L9,if_pos ⟨Zs,(YZ.1 g1).1,hgs.1 g0,(YZ.1 g1).2⟩]
   have hsl2:jA 1 eW o1.length (o1.map Value.string) bE:=by rw[E2];simpa using aT
   obtain⟨nU,nV,rfl⟩:=aT.form;refine ae ?_;refine⟨(cB,c',.slice nU (out.length+1) nV,bE,hb,l6,hc,[]),⟨⟨⟨_,hes',by rw[E2];exact W2 hM2⟩⟩,?_,hsl2,Zs⟩,ZU,?_⟩
   ·rw[Gt];exact Cs
   ·dsimp only;rw[E2,QA,QC,QE];exact bS
  ·rw[show decide ((gm:Int)=0)=false from Zf Zo];refine ae ?_;have E2:o1=out:=by rw[L9,if_neg (fun c=>g1 (YZ.2 ⟨c.2.1,c.2.2.2⟩))]
   refine⟨(Bf,mc,.slice sa out.length sc,sp,hb,l6,hc,[]),⟨by rw[E2];exact Pd,?_,by rw[E2];exact bD,Zs⟩,ZU,?_⟩
   ·rw[Gt];exact Cs
   ·dsimp only;rw[E2];exact bS
 ·rw[show decide ((gn:Int)=0)=false from Zf Zo];refine ae ?_;have E2:o1=out:=by rw[L9,if_neg (fun c=>g0 (hgs.2 c.2.2.1))]
  refine⟨(Bf,mc,.slice sa out.length sc,sp,hb,l6,hc,[]),⟨by rw[E2];exact Pd,?_,by rw[E2];exact bD,Zs⟩,ZU,?_⟩
  ·rw[Gt];exact Cs
  ·dsimp only;rw[E2];exact bS):P:=h
theorem zAA {P:Prop}(h:P:=by
 refine ae ?_;refine kK (fh aE bY) Zr ?_;refine ae ?_;rw[ep];refine ae ?_;rw[p7];refine ae ?_;rw[Nx];refine ae ?_;refine kH ((jC true).mono (Z':=fun _ _=>False) (fun v Post h=>h) HZ).fun Zr ZP (fun v Post hv=>?_);obtain⟨_,rfl,rfl⟩:=hv;simp only[QS];refine ae ?_;refine kL (fE A _ args bJ lb 15 false false) Zr ZP (fun v Post hv=>?_) (fun ch Post hz=>?_);rotate_left
 ·obtain⟨hb,rfl,m2,rfl⟩:=hz;exact⟨[aZ lb m2 false,A],by simp only[aJ];exact bS,rfl,m2,false,[A],rfl,by simp[hm,kQ,wy,hb],rfl⟩
 obtain⟨H9,rfl,rfl⟩:=hv;rw[vM];obtain⟨m1,AJ⟩:∃m1,m1=decide (15 < args.length):=⟨_,rfl⟩;rw[<- AJ];simp only[aJ];refine ae ?_;refine kL (fE A _ ab bF lb 63 m1 false) Zr ZP (fun v Post hv=>?_) (fun ch Post hz=>?_);rotate_left
 ·obtain⟨hb,rfl,m2,rfl⟩:=hz;have aH:RR=none:=by
   simp only[hm,wy,hb];simp[kQ,wo]
  exact⟨[aZ lb m2 false,A],by simp only[aJ];exact bS,rfl,m2,false,[A],rfl,aH,rfl⟩
 obtain⟨DF,rfl,rfl⟩:=hv;obtain⟨m2,p8⟩:∃m2,m2=(m1||decide (63 < ab.length)):=⟨_,rfl⟩;rw[<- p8];simp only[aJ];refine ae ?_;refine kL (lX A body a c bk o us bh lb m2 false) Zr ZP (fun v Post hv=>?_) (fun ch Post hz=>?_);rotate_left
 ·obtain⟨hb,rfl,m3,rfl⟩:=hz;have aH:RR=none:=by
   simp only[hm,wy,hb,wo];simp[kQ]
  exact⟨[aZ lb m3 false,A],by simp only[aJ];exact bS,rfl,m3,false,[A],rfl,aH,rfl⟩
 obtain⟨d,m3,he,rfl,rfl⟩:=hv;simp only[aJ];refine ae ?_;refine jL (kG (Post:=[aZ lb (m2||m3) (decide ((d:Int) > 40)),A]) (.inl rfl) .nil ⟨m2||m3,_,[A],rfl,⟨d,?_,decide_eq_decide.2 Zo⟩,rfl⟩ ZI);simp only[hm,wy,H9,DF,he,wo,kQ,if_true,p8,AJ,vP]):P:=h
theorem NS {P:Prop}(h:P:=by
 refine jF ?_;refine kL (jC false) Zr ZP Zai (fun ch Post hz=>?_);obtain⟨_,rfl,rfl⟩:=hz;exact⟨[A,aZ lb (m0||mm) deep],ZI,if_neg dt,rfl,_,rfl⟩):P:=h
theorem zAC {P:Prop}(h:P:=by
 refine kI ?_;refine⟨rfl,.tuple #[],False,fun Γ H bj hH=>?_,?_⟩
 ·subst hH;refine kL (jC false) Zav eo.nil Zai (fun ch Post hz=>?_);obtain⟨_,rfl,rfl⟩:=hz;exact⟨rfl,by simp only[QS];exact ao.refl _⟩
 exact fun hh=>by simp at hh):P:=h
theorem zAD {P:Prop}(h:P:=by
 have key:∀(s:List Nat),s.Sublist l->zm (fun x y=>!((ij ops).getD x []).contains y) s=true:=by
  intro s
  induction s with
  |nil=>intro _;rfl
  |cons x s ih=>
   intro hs;simp only[zm,vF,ve,vN];refine⟨fun y hy=>?_,ih ((Qd x s).trans hs)⟩;have h2:[x,y].Sublist l:=(List.Sublist.cons_cons x (List.singleton_sublist.2 hy)).trans hs;have b1:=uW s1 h2;cases hcc:((ij ops).getD x []).contains y with
   |false=>rfl
   |true=>
    have b2:=U6 ((bO x).1 b1.1) (vt.1 hcc);have:=b1.2.2;have:=b2.2.2;omega
 exact key _ List.filter_sublist):P:=h
theorem zAE {P:Prop}(h:P:=by
 obtain⟨mz,hz⟩:=hH;refine VO.imp hz ?_;refine kL (hFz mz) Zaq ZP (fun v Post hv=>?_) (fun ch Post hz=>?_)
 ·obtain⟨rfl,WI,m',rfl⟩:=hv;exact VO.nil ⟨rfl,⟨m',ao.refl _⟩,WI⟩
 ·obtain⟨rfl,m',rfl⟩:=hz;exact⟨rfl,m',ZI⟩):P:=h
theorem zAF {P:Prop}(h:P:=by
 refine ae ?_;refine⟨_,mQ,by simp only;omega,ZU,?_⟩;simp only;refine ao.cut (M:=[kA mf 0 [.int .u8 (ib s:Nat),.string (lG s),.int .u8 0,.int .i64 0,.int .u64 0,.string e0,.slice none 0 0,.slice none 0 0,.int .i64 0,.bool false,.slice none 0 0,.slice pa l8.length pc,.slice nU (j+1) nV],kA fR 0 [.int .u8 0,.string e0,.int .u8 0,.int .i64 0,.int .u64 0,.string e0,.slice none 0 0,.slice none 0 0,.int .i64 0,.bool false,.slice none 0 0,.slice none 0 0,.slice none 0 0],kA X.wq 0 [.map (some X.fb),.map (some X.gb),ow],aj ow (U2.map fun u=>kM (some u.q)) iL,[.obj X.fb (.map X.bG X.fc)],[.obj X.gb (.map X.bL X.gc)],WK U2 V2,T2,[.obj b (.map es c)],X.S,aj (.slice nU (j+1) nV) (rows++[([.int .u8 pn.kind,.string pn.name,.int .u8 f1,.int .i64 f2,.int .u64 f3,.string f4,.slice f5 f6 f7,.slice r1 r2 r3,.int .i64 pn.unit,.bool pn.super,.slice none 0 0,.slice p1 p2 p3,.slice k1 k2 k3]:List Value)]).flatten bE,B,aj (.slice pa l8.length pc) (l8.map fun b=>kM (some b)) Nk,B2]) ZI (ao.perm ?_);simp only[Vd,Ve,vm,vj]
 repeat (first|exact vX _ QW|refine vX _ ?_)):P:=h
theorem zAG {P:Prop}(h:P:=by
 refine ae ?_;refine kH (ud S (.slice aa args.length ac) args bJ) Zr ZP (fun v Post hv=>?_);obtain⟨B,⟨sp0,hs0,rfl,_,_⟩,rfl⟩:=hv;obtain⟨va,vc,rfl⟩:=hs0.form;simp only[aJ];refine ae ?_;refine pD (k:=args.length) (xs:=args.map Value.string) (sp:=sp0) (l:=ab) Zr Zr hs0 ZK bF (fun y hy=>by simp[hy]) Zo (fun eW bE hg=>?_);obtain⟨xa,xc,rfl⟩:=hg.form;refine ae ?_;refine⟨(.slice xa (args.length+ab.length) xc,aj (.slice xa (args.length+ab.length) xc) (args.map Value.string++ab.map Value.string) bE),⟨xa,xc,by rw[hnl],?_⟩,ZU,ZI⟩;have Ul:xh (.slice xa (args.length+ab.length) xc) (args++ab) (aj (.slice xa (args.length+ab.length) xc) (args.map Value.string++ab.map Value.string) bE):=by
  refine⟨bE,by rw[Vy,QA];exact hg,by rw[QA],by rw[Vy];omega,fun t ht=>?_⟩;rcases QF.1 ht with ht|ht
  ·obtain⟨i,hi⟩:=Vv ht;obtain⟨_,_,_,_,g⟩:=gP i t hi;exact g
  ·obtain⟨i,hi⟩:=Vv ht;obtain⟨_,_,_,_,g⟩:=gU i t hi;exact g
 exact Ul.rd):P:=h
theorem zAH {P:Prop}(h:P:=by
 refine ae ?_;refine kL hv Zr ZP (fun v Post hv=>?_) (fun ch Post hz=>?_);rotate_left
 ·obtain⟨hb,rfl,m2,rfl⟩:=hz;exact⟨[A,aZ lb m2 deep],ZI,cU (by rw[<- hb];exact Zv aB),rfl,m2,rfl⟩
 obtain⟨e,m2,he,rfl,rfl⟩:=hv;simp only[aJ];refine ae ?_;rw[show(if(e:Int) > (d:Int)then(e:Int)else(d:Int))=((max d e:Nat):Int) by split <;> omega];refine⟨(j+1,max d e,mm||m2),⟨by simp only;omega,?_⟩,by simp only;omega,ZU,?_⟩
 ·simp only;rw[Qe,aB,he];exact cV i2
 ·simp only[vP];exact bS):P:=h
theorem zAI {P:Prop}(h:P:=by
 have hol:o.Subset l:=fun x hx=>(bO x).2 (o3 x hx)
 have dt:=tE o2;have rJ:l.length=ops.size:=by
  have:l.Perm (List.range ops.size):=(QY s1 QV).2 (fun x=>by simp[bO]);simpa using this.length_eq
 have hor:o.Perm (List.range ops.size):=by
  refine(QY dt QV).2 (fun x=>?_);refine⟨fun hx=>by simpa using o3 x hx,fun hx=>?_⟩;exact GP dt o3 o1 (by simpa using hx)
 exact hor.trans ((QY s1 QV).2 (fun x=>by simp[bO])).symm):P:=h
theorem zAJ {P:Prop}(h:P:=by
 refine ae ?_;refine jL ⟨.inr rfl,_,[kA X.wq 0 [.map (some X.fb),.map (some X.gb),lJ],aj lJ (U4.map fun u=>kM (some u.q)) de,[.obj X.fb (.map X.bG X.fc)],[.obj X.gb (.map X.bL X.gc)],WK U4 V4,T4,[.obj b (.map es c)],X.S,aj (.slice va (kT X.F X.G kids D2.1 D2.2 i).1.length vc) rows.flatten Ap++(B5++aj (.slice Th CX.length Ti) (CX.map fun b=>kM (some b)) iJ)],.aN (us:=jn (.slice Th CX.length Ti) (.slice va (kT X.F X.G kids D2.1 D2.2 i).1.length vc)) Zr Zr (fun y hy=>by simp only[Vd,QF];repeat (first|exact Or.inl hy|refine Or.inr ?_)) (.tmp Zr .nil),?_,⟨lJ,de,U4,V4,T4,_,⟨U0,by rw[<- Wp];exact Mc,(tz.trans hp3).trans DM,Pa⟩,rfl⟩⟩;refine ao.cut (M:=[kA X.wq 0 [.map (some X.fb),.map (some X.gb),lJ],aj lJ (U4.map fun u=>kM (some u.q)) de,[.obj X.fb (.map X.bG X.fc)],[.obj X.gb (.map X.bL X.gc)],WK U4 V4,T4,[.obj b (.map es c)],X.S,aj (.slice va (kT X.F X.G kids D2.1 D2.2 i).1.length vc) rows.flatten Ap++B5,aj (.slice Th CX.length Ti) (CX.map fun b=>kM (some b)) iJ]) ?_ (ao.perm Zs);exact bS):P:=h
theorem zAK {P:Prop}(h:P:=by
 refine ae ?_;refine kL (jC _) Zr ZP (fun v Post hv=>?_) (fun ch Post hz=>?_);rotate_left
 ·obtain⟨hb,rfl,rfl⟩:=hz;exact⟨[A,aZ lb m0 deep],ZI,by first|(simp[jK,kQ,hb];done)|(simp at hb;simp[jK,kQ,hb];done)|(simp at hb;simp[jK,kQ];omega),rfl,m0,rfl⟩
 obtain⟨hb,rfl,rfl⟩:=hv;simp only[QS];refine ae ?_;refine⟨⟨0,false,n,b,t,_,_⟩,⟨⟨_,_,rfl⟩,?_⟩,ZU,by rw[vT];exact bS⟩;simp[jK,kQ,oe.ok,hb]):P:=h
theorem zAL {P:Prop}(h:P:=by
 refine ae ?_;rw[<- hB];refine kH (Ng st U Vs hR i v u y hu hy (EX v hg3) hb) Zr ZP (fun r Post hr=>?_);obtain⟨U',og,⟨rfl,h6,h7,h7b,h8⟩,rfl⟩:=hr;simp only[aJ];have hqo:tL og v=tL Vs v:=by
  have e1:=congrArg (fun l=>l[v]?) h8;simp only[Vu]at e1;unfold tL;rw[Vh,Vh];cases e2:og[v]? <;> cases e3:Vs[v]? <;> rw[e2,e3]at e1 <;> simp_all
 refine ae ?_;rw[Hk hk IY gk];have mQ:sT og (cG v)=.tuple #[.agg rz.toArray,kF y.q]:=by
  unfold sT cG;simp only[if_true];rw[show((v:Nat):Int).toNat=v from rfl,hqo,<- hyq];rfl
 exact jL ⟨.inr rfl,_,[kA wq 0 [.map (some fb),.map (some gb),us],[.obj fb (.map bG fc)],[.obj gb (.map bL gc)],WK U' og,[.obj b (.map es c)]],.aN (us:=rz) Zr Zr Zak (.tmp Zr .nil),ZI,U',og,⟨hf,mQ.symm,h6,h7,h7b,h8⟩,rfl⟩):P:=h
theorem T0 {P:Prop}(h:P:=by
 refine ae ?_;exact kG (Post:=[A]) (.inr rfl) (.tmp Zr .nil) ⟨by simp[bH],rfl⟩ ZI):P:=h
theorem zAN {P:Prop}(h:P:=by
 refine(Bj hpo).imp_of_mem (fun {x y} hx hy h=>?_);simp only[vR]at h;rcases h with(h|h)|h
 ·left;simp only[nJ]at h;split at h
  ·rename_i p q hp hq;simp only[Vh,hp,hq,Qy];exact h
  ·cases h
 ·right;exact(U6 (o3 y hy) (vt.1 h)).sub
 ·right;exact(Oj h).trans List.filter_sublist):P:=h
theorem zAO {P:Prop}(h:P:=by
 rw[Vi]at hy hs;rw[h.len]at hs;split at hy
 ·rename_i hi;rw[if_pos hi]at hs;exact h.rd i y s hy hs
 ·rename_i hi;rw[if_neg hi]at hs;have:=(Vt.1 hy).1;simp only[Q8]at this;have e:i - l.length=0:=by omega
  rw[e]at hy hs;obtain rfl:x=y:=by simpa using hy
  obtain rfl:r=s:=by simpa using hs
  exact hx):P:=h
theorem Uw {P:Prop}(h:P:=by
 refine ae ?_;refine kG (Post:=[]) (.inr rfl) (.tmp Zr .nil) ⟨by rw[hf];rfl,rfl⟩ ZI):P:=h
theorem zAQ {P:Prop}(h:P:=by
 obtain⟨_,h2⟩:=Ea e;simp only[Nat.sub_zero]at h2;have aS:t < args.length:=(Vt.1 h2).1;simp only[Array.getElem?_append,List.size_toArray,aS,if_true];simpa using h2):P:=h
theorem zAR {P:Prop}(h:P:=by
 refine ae ?_;refine kX Zr (fun q=>?_);simp only[Value.cells];refine ae ?_;by_cases h1:k=2
 ·rw[show decide ((k:Int)=2)=true from Zt Zo];refine ae ?_;refine kG (Post:=[]) (.inr rfl) (.tmp Zr .nil) ⟨?_,rfl⟩ ZI;have:(s=⟨#[115,117,112,101,114]⟩)↔kB s=[115,117,112,101,114]:=⟨fun e=>by rw[e];rfl,fun e=>jU (by rw[e];rfl)⟩;simp[bH,zI,h1,this]
 ·rw[show decide ((k:Int)=2)=false from Zf Zo];refine ae ?_;refine kG (Post:=[]) (.inr rfl) (.tmp Zr .nil) ⟨by simp[bH,zI,h1],rfl⟩ ZI):P:=h
theorem zAS {P:Prop}(h:P:=by
 rintro e w' ⟨Post,h5,sB,hk⟩
 have rK:Sat w' ((Post++R).flatten++F):=by rw[Vc,vj];exact sB
 rcases h5 with⟨v,rfl,hQ⟩|⟨ch,rfl,hQ⟩
 ·refine .inl ⟨v,rfl,?_⟩;rw[<- g2];exact h v Post hQ l' rJ _ w' F ZZ Q' (ha.ap g3 v) rK (fun a2 w2 cu H2 k1 k2 k3 k4 k5=>hq a2 w2 cu H2 k1 k2 (k3.trans (jg ..)) k4 (hk.trans k5)) (fun ch a2 w2 cu H2 k1 k2 k3 k4 k5=>hz ch a2 w2 cu H2 k1 k2 (k3.trans (jg ..)) k4 (hk.trans k5))
 ·exact .inr ⟨ch,rfl,hz ch a w' Γ _ (Ja ch Post hQ) ha rfl rK hk⟩):P:=h
theorem zAT {P:Prop}(h:P:=by
 rw[<- vj,<- vj];exact vY _ QW):P:=h
theorem zAU {P:Prop}(h:P:=by
 simp only[oI];refine V8.2 (fun i hi=>?_);have:=QO.1 hi;simp[this]):P:=h
theorem zAV {P:Prop}(h:P:=by
 refine ae ?_;refine kG (Post:=[]) (.inr rfl) (.tmp Zr .nil) ⟨by rw[hb];rfl,rfl⟩ ZI):P:=h
theorem zAW {P:Prop}(h:P:=by
 refine ae ?_;have hr:=qW (F:=F) (G:=G) (st:=st) (env:=env) (nm:=nm) (u:=i) (p:=p) (put:=decide (k=3)) (by rw[hk];decide);rw[hr,hk];exact jL ⟨.inr rfl,_,[kA wq 0 [.map (some fb),.map (some gb),us],[.obj fb (.map bG fc)],[.obj gb (.map bL gc)],WK U Vs,[.obj b (.map es c)]],.aN (us:=jN ⟨1,0,0,e0⟩) Zr Zr (fun y hy=>by simp only[Vd,QF];exact .inl hy) (.tmp Zr .nil),ZI,U,Vs,⟨hf,rfl,hR,rfl,rfl,rfl⟩,rfl⟩):P:=h
theorem zAX {P:Prop}(h:P:=by
 generalize ew (kB s)=z at ec|-;refine ae ?_;by_cases he:z=(kB s).length
 ·rw[Zt (show((z:Nat):Int)=(s.size:Int) by omega)];rw[if_pos he]at ec;refine ae ?_;rw[ec];exact⟨.inr rfl,[vi 1],[],.bV (v:=vi 1) Zr Ka .nil,ao.nil,⟨rfl,rfl⟩⟩
 ·rw[Zf (show ¬((z:Nat):Int)=(s.size:Int) by omega)];rw[if_neg he]at ec;refine ae ?_;rw[ec];exact⟨.inr rfl,[vi (-1)],[],.bV (v:=vi (-1)) Zr Ka .nil,ao.nil,⟨rfl,rfl⟩⟩):P:=h
theorem zAY {P:Prop}(h:P:=by
 subst hH;exact st_eqI (bj 5 Zd _ rfl) (bj 8 Zd _ rfl) (by simp only[ep]) (VO.nil ⟨rfl,rfl,trivial⟩)):P:=h
theorem zAZ {P:Prop}(h:P:=by
 refine ae ?_;refine kH hc Zr ZP (fun v Post hv=>?_);obtain⟨rfl,rfl⟩:=hv;simp only[aJ];refine ae ?_;refine kL (jC _) Zr ZP (fun v Post hv=>?_) (fun ch Post hz=>?_)
 ·obtain⟨h1,rfl,rfl⟩:=hv;simp only[QS];refine ae ?_;exact jL (kG (Post:=[B,aZ lb true deep]) (.inl rfl) .nil ⟨by simpa using h1,rfl,rfl⟩ ZI)
 ·obtain⟨h1,rfl,rfl⟩:=hz;exact⟨[B,aZ lb true deep],ZI,by simpa using h1,rfl,true,rfl⟩):P:=h
theorem zB0 {P:Prop}(h:P:=by
 refine ae ?_;by_cases h:k < s.size
 ·rw[Zt Zo];obtain⟨c,hc,oA⟩:=w7 h;refine ae ?_;refine wF Zr Zr (j:=k) rfl hc ?_;refine ae ?_;refine⟨.inr rfl,_,_,.tmp Zr .nil,ZI,?_,rfl⟩;simp[bH,Vh,oA]
 ·rw[Zf Zo];refine ae ?_;refine⟨.inr rfl,_,_,.tmp Zr .nil,ZI,?_,rfl⟩;have:(kB s)[k]? =none:=Vp (by rw[kV];omega);simp[bH,Vh,this]):P:=h
theorem zB1 {P:Prop}(h:P:=by
 unfold gK at h;split at h
 case isFalse hc=>exact absurd (congrArg (fun t=>t.2.1) h) hc
 rename_i hc;have hk:=nZ hc;refine JG F G x.args x.ab x.body hk ?_ h;cases hf:(dU F G x.args x.ab x.body).f with
 |none=>rfl
 |some e=>
  obtain⟨e,p⟩:=e;have h1:=Fl hf;rw[h]at h1;have h2:=(C8 F G x.args x.ab x.body hk).err e p hf;have h3:(0:Nat)=e:=congrArg (fun t=>t.2.1) h1;unfold errW at h2;omega):P:=h
theorem zB2 {P:Prop}(h:P:=by
 rintro Post rfl
 refine⟨.inr rfl,[.agg #[.string e0,.int .i64 0,.slice none 0 0],.iface 80 (kF q)],[S,jP q e p],.aN (us:=[.string e0,.int .i64 0,.slice none 0 0]) Zr Zr (fun y hy=>by simp only[vr,QS,Vd,QF];repeat (first|exact Or.inl hy|refine Or.inr ?_)) (.bV Zr (by simp[kA,F5]) .nil),by simp only[aJ];exact bS,.inr ⟨e,p,q,xO.trans hae,he0,rfl,rfl⟩⟩):P:=h
theorem zB3 {P:Prop}(h:P:=by
 refine ae ?_;refine fL Zr Zr hcat ?_;refine ae ?_;refine⟨.inr rfl,_,_,.aN (us:=[cv 5,vi 0,uv 0,.string (⟨#[45]⟩++t),.slice none 0 0]) Zr Zr HY .nil,ZI,.inr ⟨AZ,_,rfl,by rw[oy];rfl⟩,rfl⟩):P:=h
theorem zB4 {P:Prop}(h:P:=by
 refine ae ?_;exact kG (Post:=[A]) (.inr rfl) (.tmp Zr .nil) ⟨rfl,rfl⟩ ZI):P:=h
theorem zB5 {P:Prop}(h:P:=by
 rw[hk x Zs];have hkb:gW 7 (l++[x]).length (0+l.length) x=(!jR x&&decide (x.kind≠6)):=by
  unfold gW;rw[Zt (show 0+l.length+1=(l++[x]).length by simp)];by_cases h6:x.kind=6 <;> simp[h6]
 rw[hkb];by_cases h9:x.kind=9
 ·rw[if_pos h9];have:jR x=false:=by rw[vI];intro h;have:=fN h;omega
  simp[this,h9]
 ·rw[if_neg h9,iM,l1]
  congr 1
  simp[yA,h9]):P:=h
theorem zB6 {P:Prop}(h:P:=by
 refine ae ?_;refine kK hsg Zr ?_;refine ae ?_;by_cases he:z=(kB s).length
 ·rw[Zt (show((z:Nat):Int)=(s.size:Int) by omega)];rw[if_pos he]at Ny;refine ae ?_;refine⟨.inr rfl,_,_,.tmp Zr .nil,ZI,?_,rfl⟩;rw[Ny];rfl
 ·rw[Zf (show ¬((z:Nat):Int)=(s.size:Int) by omega)];rw[if_neg he]at Ny;refine ae ?_;refine⟨.inr rfl,_,_,.tmp Zr .nil,ZI,?_,rfl⟩;rw[Ny];rfl):P:=h
theorem zB7 {P:Prop}(h:P:=by
 refine ae ?_;refine kH aC Zr ZP (fun v Post hv=>?_);obtain⟨rfl,rfl⟩:=hv;simp only[aJ];refine ae ?_;exact⟨j+1,Zo,Zo,ZU,ZI⟩):P:=h
theorem zB8 {P:Prop}(h:P:=by
 refine VO.read rfl rfl (fun ρ aO=>⟨_,rfl,fun F w hs=>?_⟩) h;rw[aO _ _ hx,aO _ _ hy];have hm:∀c∈H.flatten,c∈H.flatten++F:=fun c hc=>Zw _ hc
 have:=Da (P:=P) hs ht hi hz (ha.more hm) (hb.more hm) 9999;have h2:(Op.equal t (.pointer (some ⟨a,0,none⟩)) (.pointer (some ⟨b,0,none⟩))).run P w=.ok (decide (a=b)) w:=this;rw[Sem.run_bind,fJ Zs Zs];simp[Go.binOp,h2]):P:=h
theorem zB9 {P:Prop}(h:P:=by
 have p0:=zM e0;have p1:=zM e1;have p2:=zM e2;have p3:=zM e3;have p4:=zM e4;obtain⟨a0,a1,a2,a3,a4,rfl⟩:∃a0 a1 a2 a3 a4,cs=[a0,a1,a2,a3,a4]:=by
  match cs,hlen with
  |[a0,a1,a2,a3,a4],_=>exact⟨a0,a1,a2,a3,a4,rfl⟩
 simp only[Vn,Vm,X4]at p0 p1 p2 p3 p4;rw[p0,p1,p2,p3,p4,hl]):P:=h
theorem zBA {P:Prop}(h:P:=by
 have hzl:(rs.zip ops.toList).length=ops.size:=by simp[hlen]
 apply V0;intro i;simp only[Vu];by_cases hi:i < ops.size
 ·rw[List.getElem?_range hi,X2];rw[Vh];have:i < (rs.zip ops.toList).length:=by omega
  rw[Zg this];rfl
 ·rw[Vp (l:=List.range ops.size) (by simpa using hi),Vp Zo];rfl):P:=h
theorem zBB {P:Prop}(h:P:=by
 have hf:jD (jQ s)=1:=by rw[h];rfl
 have e1:ib s=11:=by simp[ib,h]
 have e2:lG s=s:=by simp[lG,h]
 rw[e1,e2];rw[show decide ((jD (jQ s):Int)=0)=false from Zf Zo];refine ae ?_;rw[show decide (s=⟨#[116,111,58,100,111,58]⟩)=false from Zf (fun e=>by have:=Ul.1 e;omega)];refine ae ?_;exact⟨(),trivial,ZU,by simp only[e0];exact ao.refl _⟩):P:=h
theorem zBC {P:Prop}(h:P:=by
 intro k
 induction k with
 |zero=>intro i acc w1 r w2 h;simp[loadCellsFrom]at h;exact h.2.symm
 |succ k ih=>
  intro i acc w1 r w2 h;simp only[loadCellsFrom,Sem.run_bind]at h;obtain⟨v,w3,h1,h2⟩:=ky h;have hw:w3=w1:=by
   simp only[Go.load,Sem.run]at h1;split at h1
   ·cases h1;rfl
   ·split at h1 <;> cases h1;rfl
  rw[ih _ _ _ _ _ h2,hw]):P:=h
theorem zBD {P:Prop}(h:P:=by
 rintro e w' ⟨rfl,rfl⟩
 have hp:=Sat.push hs (.map es c) [.obj w.heap.size (.map es c)] (fun x hx=>by
  obtain rfl:=QR.1 hx;exact⟨rfl,Zs,rfl⟩) Zs
 refine⟨_,_,rfl,⟨_,rfl,rfl⟩,?_,hp.2⟩;refine hp.1.perm ?_;simp only[Vd,Ve,vm,vr,QS];exact List.Perm.swap _ _ _):P:=h
theorem zBE {P:Prop}(h:P:=by
 refine(QY (s1.filter _) (tE hd)).2 (fun x=>?_);simp only[QK,bO,vt];exact⟨fun h=>h.2,fun h=>⟨hdlt x h,h⟩⟩):P:=h
theorem zBF {P:Prop}(h:P:=by
 rw[vI];intro h;rw[vt]at h;simp only[fO,QH,List.not_mem_nil,or_false]at h;rcases h with h|h|h|h|h
 ·exact h1 (jU (by rw[h];rfl))
 ·exact h2 (jU (by rw[h];rfl))
 ·exact h3 (jU (by rw[h];rfl))
 ·exact h4 (jU (by rw[h];rfl))
 ·exact h5 (jU (by rw[h];rfl))):P:=h
theorem zBG {P:Prop}(h:P:=by
 intro x hx;obtain⟨i,hi⟩:=Vv hx;have L6:i < (rs.zip ops.toList).length:=(Vt.1 hi).1;have hi3:i < ops.size:=by simp[hlen]at L6;omega
 obtain⟨g1,g2,g3⟩:=z7 h1 hi3;have:(rs.zip ops.toList).getD i default=x:=by rw[Vh,hi];rfl
 rw[this]at g3;exact⟨ops,g3⟩):P:=h
theorem zBH {P:Prop}(h:P:=by
 exact⟨.inr rfl,[vi (-1)],[],.bV (v:=vi (-1)) Zr Ka .nil,ao.nil,⟨rfl,rfl⟩⟩):P:=h
theorem zBI {P:Prop}(h:P:=by
 subst hH;exact rq (bj 10 Zd _ rfl) (S0 rfl (bj 12 Zd _ rfl) (by simp only[p7]) (VO.nil ⟨rfl,rfl,trivial⟩))):P:=h
theorem zBJ {P:Prop}(h:P:=by
 refine ae ?_;exact kG (Post:=[A]) (.inr rfl) (.tmp Zr .nil) ⟨by rw[stop _ (by rw[Zf Zo];rfl)];rfl,rfl⟩ ZI):P:=h
theorem zBK {P:Prop}(h:P:=by
 show wA P ZZ (⟨d,some (s,b),r⟩,o) (cr P ZZ Q l') a w;unfold wA;rw[if_neg (by simp[hw])];exact h l' rJ _ w F ZZ Q (ha.ap g3 undef) iw (fun a2 w2 cu H2 k1 k2 k3 k4 k5=>hq a2 w2 cu H2 k1 k2 (k3.trans (jg ..)) k4 k5) (fun ch a2 w2 cu H2 k1 k2 k3 k4 k5=>hz ch a2 w2 cu H2 k1 k2 (k3.trans (jg ..)) k4 k5)):P:=h
theorem zBL {P:Prop}(h:P:=by
 refine ae ?_;refine kL au Zr ZP (fun v Post hv=>?_) (fun ch Post hz=>?_)
 ·obtain⟨lJ,de,U4,V4,T4,B4,⟨U0,_⟩,_⟩:=hv;have:=U0.ok;rw[Ud]at this;cases this
 ·obtain⟨q1,e1,p1,ep,rfl,rfl⟩:=hz;refine⟨[X.S,jP q1 e1 p1],ZI,q1,e1,p1,?_,rfl,rfl⟩;rw[wC];exact ep):P:=h
theorem zBM {P:Prop}(h:P:=by
 obtain⟨q1,Nv,p1,ep,rfl,rfl⟩:=hz;exact⟨[X.S,jP q1 Nv p1],ZI,q1,Nv,p1,gQ _ ep,rfl,rfl⟩):P:=h
theorem zBN {P:Prop}(h:P:=by
 simp only[wQ,X4]at hs;subst hs;simpa[execOp]using hr):P:=h
theorem zBO {P:Prop}(h:P:=by
 rw[<- g2];refine h v Post hQ l' rJ _ w' F ZZ Q' (ha.ap g3 v) ?_ (fun a2 w2 cu H2 k1 k2 k3 k4 k5=>hq a2 w2 cu H2 k1 k2 (k3.trans (jg ..)) k4 (hk.trans k5)) (fun ch a2 w2 cu H2 k1 k2 k3 k4 k5=>hz ch a2 w2 cu H2 k1 k2 (k3.trans (jg ..)) k4 (hk.trans k5));rw[Vc,vj];exact sB):P:=h
theorem zBP {P:Prop}(h:P:=by
 refine⟨rfl,vi 0,False,fun Γ H bj hH=>?_,?_⟩
 ·subst hH;refine kL hvz (by simp only[V.nI,V.ev,bj 12 Zd _ rfl,bj 13 Zd _ rfl,bj 15 Zd _ rfl]) ZP (fun v Post hv=>hv.elim) (fun ch Post hz=>?_);obtain⟨rfl,m,rfl⟩:=hz;exact⟨rfl,m,ZI⟩
 refine kI ?_;exact fun hh=>by simp at hh):P:=h
theorem zBQ {P:Prop}(h:P:=by
 have e':∀t,V.look ay t=some (Value.string m)->AU ay (.tmp t)=.string m:=fun t h=>by simp[AU,V.ev,h]
 exact jB (out:=[.string m]) (by simp[known,V.ev,e]) (by show jX _ [(0,1,AU ay (.tmp _))]=_;rw[e' _ e];rfl) (fun r=>VO.nil ⟨_,_,rfl,⟨r,rfl,rfl⟩,ao.refl _⟩)):P:=h
theorem zBR {P:Prop}(h:P:=by
 rename_i i hu hi;simp only[X0]at h1;obtain⟨r',h3,rfl⟩:=h1;cases h2 with
 |aN k1 k2 k3 k4=>
  simp only[List.mapM_cons,Sem.run_bind,DF,slot k1,asAddr,Sem.run_pure,Result.andThen_ok,loadVar,dN hu,if_true,kZ hi,run_loadCells k2 k3 hs,ih r' _ f hf DF h3 k4]):P:=h
theorem zBS {P:Prop}(h:P:=by
 refine ae ?_;exact kG (Post:=[T]) (.inr rfl) (.tmp Zr .nil) ⟨rfl,rfl⟩ ZI):P:=h
theorem zBT {P:Prop}(h:P:=by
 rw[Zt h2];refine ae ?_;refine kL (jC true) Zr ZP (fun v Post hv=>?_) HZ;obtain⟨_,rfl,rfl⟩:=hv;simp only[QS];refine ae ?_;refine⟨⟨0,false,0,b,t,_,_⟩,⟨⟨_,_,rfl⟩,?_⟩,ZU,by rw[vT];exact bS⟩;simp[jK,kQ,oe.ok,h1,h2]):P:=h
theorem zBU {P:Prop}(h:P:=by
 refine ae ?_;refine⟨.inr rfl,_,_,.aN (us:=[cv 5,vi 0,uv 0,.string t,.slice none 0 0]) Zr Zr HY .nil,ZI,.inr ⟨AZ,_,rfl,rfl⟩,rfl⟩):P:=h
theorem zBV {P:Prop}(h:P:=by
 refine ae ?_;refine⟨.inr rfl,_,_,.aN (us:=[cv 0,vi 0,uv 0,.string ⟨#[]⟩,.slice none 0 0]) Zr Zr HY (.tmp Zr .nil),ZI,Ku hb,rfl⟩):P:=h
theorem zBW {P:Prop}(h:P:=by
 refine ae ?_;refine kK (hO aE bY) Zr ?_;refine ae ?_;refine kH hvf.fun Zr ZP (fun v Post hv=>?_);obtain⟨rfl,rfl⟩:=hv;simp only[aJ];refine ae ?_;refine jL (kG (Post:=[A,aZ lb (m0||m2) deep]) (.inr rfl) (.tmp Zr .nil) ⟨d,m2,rfl,rfl,rfl⟩ ZI)):P:=h
theorem zBX {P:Prop}(h:P:=by
 rw[hr]at au;simp only[bH,hr,Zt h2,hl,au,vU,Value.bool.injEq];rw[<- hr,hlen]
 (rw[vJ];simp only[vR,vF,vN,decide_eq_true_eq,decide_eq_false_iff_not,true_iff,iff_true,reduceCtorEq,false_iff,iff_false];omega)):P:=h
theorem zBY {P:Prop}(h:P:=by
 obtain⟨lJ,de,U4,V4,T4,B4,⟨U0,_⟩,_⟩:=hv;have:=U0.ok;rw[Ud]at this;cases this):P:=h
theorem zBZ {P:Prop}(h:P:=by
 rcases Nat.lt_or_ge i w.heap.size with h|h
 ·exact h
 ·rw[Array.getElem?_eq_none h]at hb;cases hb):P:=h
theorem zC0 {P:Prop}(h:P:=by
 rw[Vu]at hi;obtain⟨f,H9,DF⟩:=X0.1 hi;cases DF;exact hfld i f (by rw[<- H9,vB])):P:=h
theorem Yq {P:Prop}(h:P:=by
 refine ae ?_;exact⟨(),trivial,ZU,ZI⟩):P:=h
theorem zC2 {P:Prop}(h:P:=by
 simp only[QC,QE,cw,eU,nT,k1];show _=[Value.int .u8 (k.toNat:Nat),.string s,.int .u8 (lk.toNat:Nat),.int .i64 ln,.int .u64 (lb.toNat:Nat),_,_,_,_,_,_];rw[vW b1,vW b3,vW b5]):P:=h
theorem zC3 {P:Prop}(h:P:=by
 have hf:jD (jQ s)=0:=by rw[h];rfl
 have e1:ib s=12:=by simp[ib,h]
 have e2:lG s=s:=by simp[lG,h]
 rw[e1,e2];rw[show decide ((jD (jQ s):Int)=0)=true from Zt Zo];refine ae ?_;exact⟨(),trivial,ZU,by simp only[e0];exact ao.refl _⟩):P:=h
theorem zC4 {P:Prop}(h:P:=by
 intro hl i st env u;simp only[Nd.aq]at hl;obtain⟨h1,h2⟩:=ih x Zo st env u;cases h:yM s i with
 |true=>rw[zN _ _ _ _ _ _ _ _ _ h];exact h2.trans (oj Zo (i+1) _ env u)
 |false=>rw[we _ _ _ _ _ _ _ _ _ h];exact h1.trans (oj Zo (i+1) _ env u)):P:=h
theorem zC5 {P:Prop}(h:P:=by
 rw[rls];simp only[Sem.run_bind,Sq,XD,Result.andThen];simp[ReflectliteValue.flagAddr,loadVar,isAgg,underlying,Tryz.underlying44,hb,Result.andThen,Ox,storeVar,Value.cells,storeCells,Addr.add];rw[run_store Tryz.prog W ta _ _ Zr];simp[ht,hf]):P:=h
theorem zC6 {P:Prop}(h:P:=by
 refine ae ?_;exact kG (Post:=[A]) (.inr rfl) (.tmp Zr .nil) ⟨by rw[i2];rfl,rfl⟩ ZI):P:=h
theorem zC7 {P:Prop}(h:P:=by
 obtain⟨k1,k2⟩:=au kids hk st env u h hu he;exact⟨k1,bR _ _ _ _ _ _ _ k2⟩):P:=h
theorem zC8 {P:Prop}(h:P:=by
 rw[Vh,Vl (Qn _),Qt];rfl):P:=h
theorem zC9 {P:Prop}(h:P:=by
 simp only[kW]at hv;split at hv <;> try (cases hv;done)
 rename_i cs k m hx hi;split at hv <;> try (cases hv;done)
 rename_i hb;simp at hv;subst hv;simp[execOp,Instr.index,kE hs,hx,hi,asIntOf,hb,kZ hj,part,dN hu]):P:=h
theorem zCA {P:Prop}(h:P:=by
 refine ae ?_;refine⟨.inr rfl,_,_,.tmp Zr .nil,ZI,?_,rfl⟩;rfl):P:=h
theorem zCB {P:Prop}(h:P:=by
 refine ae ?_;refine⟨.inr rfl,_,_,.tmp Zr .nil,ZI,?_,rfl⟩;simp[bH,om,hl]):P:=h
theorem zCC {P:Prop}(h:P:=by
 rcases QH.1 h with rfl|h
 ·omega
 ·have:=ih h;omega):P:=h
theorem zCD {P:Prop}(h:P:=by
 refine ae ?_;refine⟨⟨true,n,b,⟨#[]⟩,_,_⟩,⟨⟨_,_,rfl⟩,?_⟩,ZU,ZI⟩;simp only[hz];simp[jK,sm]):P:=h
theorem zCE {P:Prop}(h:P:=by
 intro l
 induction l with
 |nil=>simp
 |cons o r ih=>
  rw[List.flatMap_cons,Vy,Vz,Nat.succ_mul];have h1:=Q4 (st.bg u) (st.things o);rw[pH]at h1;have:=h o;omega):P:=h
theorem zCF {P:Prop}(h:P:=by
 refine ae ?_;refine kH hcut Zr ZP (fun v Post hv=>?_);obtain⟨t,rfl,h1,h2,rfl⟩:=hv;simp only[QS];refine ae ?_;refine kG (Post:=[]) (.inr rfl) (.tmp Zr (.tmp Zr .nil)) ⟨t,rfl,h1,h2,rfl⟩ ZI):P:=h
theorem zCG {P:Prop}(h:P:=by
 refine ae ?_;refine kG (Post:=[]) (.inr rfl) (.tmp Zr .nil) ⟨rfl,rfl⟩ ZI):P:=h
theorem zCH {P:Prop}(h:P:=by
 refine⟨Zs,fun x hx=>?_⟩;obtain⟨i,v,hi,rfl⟩:=kJ.1 hx;rw[Vu]at hi;obtain⟨u,hu,rfl⟩:=X0.1 hi;obtain⟨b2,o2,h1,h2,_⟩:=hr i u hu;cases h1;simpa using h2):P:=h
theorem zCI {P:Prop}(h:P:=by
 simp only[aJ];refine ae ?_;refine⟨(j+1,r'),⟨by simp only;omega,by simp only;omega,by simp only;unfold wN;omega,fun hh=>by simp only at hh|-;have:=h9 hh;rw[cH];omega⟩,by simp only;omega,ZU,ZI⟩):P:=h
theorem zCJ {P:Prop}(h:P:=by
 obtain⟨rfl,hi⟩:=hp;exact⟨[aZ lb false false,A],ao.cut hi ZI,rfl,false,false,[A],rfl,aH,rfl⟩):P:=h
theorem zCK {P:Prop}(h:P:=by
 subst hH;exact kK (fh aE bY) Zau Fh):P:=h
theorem zCL {P:Prop}(h:P:=by
 rcases Nat.lt_or_ge t.block w.heap.size with h|h
 ·exact h
 ·simp[World.cell?,Array.getElem?_eq_none h]at Wv):P:=h
theorem zCM {P:Prop}(h:P:=by
 cases h with
 |mk wf hl bJ bF ha hm hr=>
  obtain⟨_,_,rfl,_⟩:=bJ;obtain⟨_,_,rfl,_⟩:=bF;cases hl with
  |mk Tt IS p8 du=>exact⟨_,_,_,_,_,_,_,_,_,_,_,_,_,_,_,_,rfl⟩):P:=h
theorem zCN {P:Prop}(h:P:=by
 refine(vY _ QW).trans ?_;rw[vj];exact vZ _):P:=h
theorem zCO {P:Prop}(h:P:=by
 obtain⟨x,hx,he⟩:=QM.1 hm;obtain⟨i,v,hi,rfl⟩:=kJ.1 hx;simp only[kC.loc,X5,X4,true_and]at he;have:=(Vt.1 hi).1;omega):P:=h
theorem zCP {P:Prop}(h:P:=by
 cases kids with
 |nil=>exact hk
 |cons x r=>simp only[Nd.aq]at hk;simp only[List.tail_cons];omega):P:=h
theorem zCQ {P:Prop}(h:P:=by
 refine ae ?_;refine⟨⟨0,false,n,b,⟨#[]⟩,_,_⟩,⟨⟨_,_,rfl⟩,?_⟩,ZU,by rw[vT];exact bS⟩;simp[jK,kQ,oe.ok,show(⟨#[]⟩:ByteArray).size=0 from rfl]):P:=h
theorem zCR {P:Prop}(h:P:=by
 simp only[V.marks,QC];rw[<- vj,<- vj];exact QZ):P:=h
theorem zCS {P:Prop}(h:P:=by
 rw[World.cell?_alloc_lt _ _ ⟨0,0,none⟩ Zs,World.cell?_alloc_lt _ _ ⟨0,0,none⟩ aS];exact hg):P:=h
theorem zCT {P:Prop}(h:P:=by
 refine⟨Y++R,?_,fun u' X' h'=>?_⟩
 ·rw[<- vj];exact h1.trans (vY _ hx)
 ·rw[<- vj];exact(h2 u').trans (vY _ h')):P:=h
theorem zCU {P:Prop}(h:P:=by
 refine ae ?_;refine⟨⟨inside,n,b,t,_,_⟩,⟨⟨_,_,rfl⟩,?_⟩,ZU,ZI⟩;simp[jK,sm]):P:=h
theorem zCV {P:Prop}(h:P:=by
 simp only[kW]at hv;split at hv <;> try (cases hv;done)
 rename_i cs hx;simp at hv;subst hv;simp[execOp,Instr.field,kE hs,hf,hx,asAgg,part,dN hu,kZ hj]):P:=h
theorem zCW {P:Prop}(h:P:=by
 have e2:s.data.toList.length=s.size:=by simp
 omega):P:=h
theorem zCX {P:Prop}(h:P:=by
 intro x hx;rw[<- IW]at hx;simp only[Fv,QK,QO]at hx;exact hx.1):P:=h
theorem zCY {P:Prop}(h:P:=by
 rw[Zf Zo];refine ae ?_;refine⟨.inr rfl,_,_,.tmp Zr .nil,ZI,?_,rfl⟩;have h2:¬(c.toNat::r).length<=40:=by rw[<- hr];omega
 simp only[bH,hr,Zf h2,vK]):P:=h
theorem zCZ {P:Prop}(h:P:=by
 rcases QH.1 hx with rfl|hx
 ·exact⟨rfl,_,_,_,_,hb,Zs,Zo⟩
 ·obtain⟨i,v,hi,rfl⟩:=kJ.1 hx;exact⟨rfl,_,_,_,_,hb,by simpa using hi,Zo⟩):P:=h
theorem zD0 {P:Prop}(h:P:=by
 refine ae ?_;exact kG (Post:=[A]) (.inr rfl) (.tmp Zr .nil) ⟨by simp[bH,h1],rfl⟩ ZI):P:=h
theorem zD1 {P:Prop}(h:P:=by
 intro F w hs;refine⟨h.1,?_⟩;have au:first++args.toArray++cap=(first.toList++args++cap.toList).toArray:=by
  apply vC.1;simp
 rw[au];exact h.2 F w hs):P:=h
theorem zD2 {P:Prop}(h:P:=by
 rw[hB,hB2];refine jH (m:=1) (ys:=[m].map Value.string) e e2 hs ZK Zr ?_ Zr Zr Zr Zd Zo (fun sv sp hs=>?_)
 ·exact ET
 exact VO.nil ⟨sv,_,rfl,⟨sp,hs,rfl⟩,ZI⟩):P:=h
theorem zD3 {P:Prop}(h:P:=by
 rw[Zf (show ¬(s.size:Int) ≥ 1 by omega)];refine ae ?_;refine⟨.inr rfl,_,_,.tmp Zr .nil,ZI,?_,rfl⟩;have:kB s=[]:=Q3.1 Zo;simp[bH,this]):P:=h
theorem zD4 {P:Prop}(h:P:=by
 obtain⟨d,m2,he,rfl,rfl⟩:=hv;simp only[aJ];refine ae ?_;refine jL (kG (Post:=[A,aZ lb (m0||m2) deep]) (.inr rfl) (.tmp Zr .nil) ⟨d,m2,he,rfl,rfl⟩ ZI)):P:=h
theorem zD5 {P:Prop}(h:P:=by
 simp only[zG,X0]at h;obtain⟨x,h1,rfl⟩:=h;exact⟨b,rfl,h1⟩):P:=h
theorem zD6 {P:Prop}(h:P:=by
 obtain⟨hb,rfl,m2,rfl⟩:=hz;exact⟨[A,aZ lb m2 deep],ZI,by simp[bW,zL.ok,ju,kQ,wk,Lt.kind,Lt.n,Lt.bits,Lt.text,Lt.items,EV,hb],rfl,m2,rfl⟩):P:=h
theorem zD7 {P:Prop}(h:P:=by
 simp only[lB,QH,QF]at h;simp only[kW,h x (.inl rfl),iC (fun y hy=>h y (.inr (.inl hy))),iC (fun y hy=>h y (.inr (.inr hy)))]):P:=h
theorem zD8 {P:Prop}(h:P:=by
 simp only[jW];refine QB (fun p hp=>?_);obtain⟨a,b,c⟩:=p;have hc:=ve.1 hk c (QM.2 ⟨_,hp,rfl⟩);simp[OQ hc aO]):P:=h
theorem zD9 {P:Prop}(h:P:=by
 intro e he;rw[Array.toList_push,QF]at he;rcases he with he|he
 ·exact Nat.lt_succ_of_lt (h.clock e he)
 ·rw[QR.1 he];exact Qr c):P:=h
theorem zDA {P:Prop}(h:P:=by
 obtain⟨hb,rfl,m2,rfl⟩:=hz;exact⟨[A,aZ lb m2 deep],ZI,by simp[bW,zL.ok,ju,kQ,wk,Lt.kind,Lt.n,Lt.bits,Lt.text,Lt.items,hb],rfl,m2,rfl⟩):P:=h
theorem zDB {P:Prop}(h:P:=by
 rcases Ql w.heap.size with h0|h
 ·simp[World.cell?,h0]at hg
 ·exact h):P:=h
theorem zDC {P:Prop}(h:P:=by
 cases agg with
 |true=>simp only[if_true]at h|-;cases h;simp[Array.map_extract]
 |false=>simp only[vL,if_false]at h|-;exact mD h):P:=h
theorem zDD {P:Prop}(h:P:=by
 refine Zw _ ?_;simp only[aj,j8];exact Zw _ (nG hr.w (aB i hi) y hy)):P:=h
theorem zDE {P:Prop}(h:P:=by
 refine ae ?_;refine kG (.inr rfl) (.tmp Zr .nil) ⟨by simp[bH,h0,Nw],rfl⟩ ZI):P:=h
theorem zDF {P:Prop}(h:P:=by
 obtain⟨h1,h2⟩:=Vt.1 hy;rw[vw h1,h2]):P:=h
theorem zDG {P:Prop}(h:P:=by
 rw[<- vj];exact iw.perm (hs.append_right F)):P:=h
theorem zDH {P:Prop}(h:P:=by
 rw[show decide ((k:Int)=4)=false from Zf Zo];refine ae ?_;refine kG (Post:=[]) (.inr rfl) (.tmp Zr .nil) ⟨by simp[bH,eD,h3,h4,h5],rfl⟩ ZI):P:=h
theorem zDI {P:Prop}(h:P:=by
 simp only[Instr.mapUpdate,Sem.run_bind,kE hu,Result.andThen_ok,hx,KJ,yI hd Gj,run_findKey hd Gj hf];simpa[ki]using h2):P:=h
theorem zDJ {P:Prop}(h:P:=by
 obtain⟨g1,g2,g3⟩:=z7 h1 hi;exact⟨g1,g3⟩):P:=h
theorem zDK {P:Prop}(h:P:=by
 rename_i i hu hi;simp only[wQ,X4]at hs;subst hs;simpa[execOp,Instr.loadAt,loadVar,dN hu,kZ hi,ki]using hr):P:=h
theorem zDL {P:Prop}(h:P:=by
 refine ae ?_;exact kG (Post:=[S]) (.inr rfl) (.tmp Zr .nil) ⟨rfl,rfl⟩ ZI):P:=h
theorem zDM {P:Prop}(h:P:=by
 split
 ·rfl
 ·split
  ·simp only;split
   ·exact hw _
   ·rfl
  ·split
   ·rfl
   ·simp only;split
    ·rfl
    ·exact hw _):P:=h
theorem zDN {P:Prop}(h:P:=by
 exact⟨a1,by simp only[PN.w,Q6];omega⟩):P:=h
theorem zDO {P:Prop}(h:P:=by
 rw[vw aS]
 congr 1
 exact(Vt.1 hy).2):P:=h
theorem zDP {P:Prop}(h:P:=by
 refine ae ?_;exact⟨.inr rfl,_,_,.aN (us:=[cv 0,vi 0,uv 0,.string ⟨#[]⟩,.slice none 0 0]) Zr Zr HY (.tmp Zr .nil),ZI,Ku hb,rfl⟩):P:=h
theorem zDQ {P:Prop}(h:P:=by
 obtain⟨t,rfl⟩:=hq;show(qs++t).getD v 0=qs.getD v 0;rw[Vh,Vh,Vj hv]):P:=h
theorem zDR {P:Prop}(h:P:=by
 rcases QH.1 hy with rfl|hy
 ·exact rD (h _ (QJ ..))
 ·exact ih (fun r hr=>h r (QI _ hr)) y hy):P:=h
theorem zDS {P:Prop}(h:P:=by
 cases AX:x.kids with
 |nil=>rw[AX]at Gq;cases Gq
 |cons y l=>rw[AX]at Gq;obtain rfl:y=r:=by simpa using Gq
            rfl):P:=h
theorem zDT {P:Prop}(h:P:=by
 refine⟨h3,?_⟩;simp only[w9,vF];exact⟨lC (fun v hv=>gY (wV F G r _ env u) u v hv) _ h2,h4⟩):P:=h
theorem zDU {P:Prop}(h:P:=by
 rw[Array.toList_push,List.pairwise_append];refine⟨h.born,Zs,fun a ha b hb=>?_⟩;rw[QR.1 hb];exact h.clock a ha):P:=h
theorem zDV {P:Prop}(h:P:=by
 have:=h.nodup;simp only[QC,QU,QM,not_exists,not_and]at this;intro e;exact this.1 x hx e.symm):P:=h
theorem zDW {P:Prop}(h:P:=by
 exact leaf _ _ fun h=>by simp only[decide_eq_true_eq]at h;exact⟨vz h.2.2.2.2,Zo,by simp;omega⟩):P:=h
theorem zDX {P:Prop}(h:P:=by
 exact vX _ QW):P:=h
theorem zDY {P:Prop}(h:P:=by
 refine ae ?_;exact kG (Post:=[A]) (.inr rfl) (.tmp Zr .nil) ⟨r,rfl,i2,by unfold wB;omega,fun _=>by omega,rfl⟩ ZI):P:=h
theorem zDZ {P:Prop}(h:P:=by
 obtain⟨⟨a,z,k5,k6⟩,k7⟩:=k3 p hp;obtain⟨z',k8,k9⟩:=et k5;exact⟨⟨a,z',k8,k6.trans k9.symm⟩,k7⟩):P:=h
theorem zE0 {P:Prop}(h:P:=by
 rename_i sk Gv;obtain⟨d,hd,Gj⟩:=SX Gv;simp only[wQ,X4]at hs;subst hs;exact Yi hu hd Gj hr):P:=h
theorem zE1 {P:Prop}(h:P:=by
 obtain⟨q1,Nv,p1,ep,rfl,rfl⟩:=hz;exact⟨[X.S,jP q1 Nv p1],ZI,q1,Nv,p1,by rw[hP];exact ep,rfl,rfl⟩):P:=h
theorem zE2 {P:Prop}(h:P:=by
 refine⟨h3,?_⟩;simp only[wH,vF];exact⟨ly (wV F G r _ env u).outer.length_le _ h2,h4⟩):P:=h
theorem zE3 {P:Prop}(h:P:=by
 simp only[hx,Sem.run_bind,KJ,Result.andThen_ok,yI hd Gj,run_findKey hd Gj hf];simpa[ki]using h2):P:=h
theorem zE4 {P:Prop}(h:P:=by
 simp only[IntKind.wrap,IntKind.bits,IntKind.signed];simp;omega):P:=h
theorem zE5 {P:Prop}(h:P:=by
 rw[Vh,Zg (by rw[hr.len];exact hi)];rfl):P:=h
theorem zE6 {P:Prop}(h:P:=by
 subst hH;exact rq (bj 15 Zd _ rfl) (S0 (bj 17 Zd _ rfl) rfl (by simp only[Nx]) (VO.nil ⟨rfl,rfl,trivial⟩))):P:=h
theorem zE7 {P:Prop}(h:P:=by
 have:=(QK.1 hi).1;simp only[QF,QH]at this|-;rcases this with h|h <;> simp[h]):P:=h
theorem zE8 {P:Prop}(h:P:=by
 simp only[aJ];refine ae ?_;exact kG (Post:=[B']) (.inr rfl) .nil ⟨rfl,.inr ⟨_,B',aP,hB',rfl⟩⟩ ZI):P:=h
theorem zE9 {P:Prop}(h:P:=by
 cases e with
 |returned v=>exact⟨a.defers,v,w1,hR⟩
 |panicked c=>exact hR.elim
 |outgrown=>exact hR.elim):P:=h
theorem zEA {P:Prop}(h:P:=by
 refine ae ?_;exact kG (Post:=[A]) (.inr rfl) (.tmp Zr .nil) ⟨_,rfl,fun hh=>(by simp at hh),rfl⟩ ZI):P:=h
theorem zEB {P:Prop}(h:P:=by
 exact⟨a1,bR _ _ _ _ _ _ _ Zo a2⟩):P:=h
theorem zEC {P:Prop}(h:P:=by
 refine ae ?_;refine kX Zr (fun q=>?_);simp only[Value.cells];refine ae ?_;exact⟨q,trivial,ZU,ZI⟩):P:=h
theorem zED {P:Prop}(h:P:=by
 refine ae ?_;exact⟨(j+1,M),⟨by simp only;omega,by simp only;omega⟩,by simp only;omega,ZU,ZI⟩):P:=h
theorem zEE {P:Prop}(h:P:=by
 cases r with
 |none=>simp[kb hi hiz,uI]
 |some p=>obtain⟨j,v⟩:=p;simp[uI]):P:=h
theorem zEF {P:Prop}(h:P:=by
 obtain⟨_,bm,Rr,Q2,Ue,Pq,eB⟩:=q;exact go .returning .returning bm Rr Q2 Zs rfl Ue Pq eB):P:=h
theorem zEG {P:Prop}(h:P:=by
 have ge:es[j]=e:=by rw[v7 g2']at this;exact X3 this
 simp[g2',ge]):P:=h
theorem zEH {P:Prop}(h:P:=by
 simp only[zG]at h;split at h
 case h_2=>cases h
 rename_i x y h1 h2;cases h;exact⟨a,b,rfl,h1,h2⟩):P:=h
theorem zEI {P:Prop}(h:P:=by
 simp[Instr.takeDeferred,Go.getObj,Go.setObj,Sem.run,k1]):P:=h
theorem zEJ {P:Prop}(h:P:=by
 refine Ef (fun b=>⟨_,_,.inl rfl,?_,h b⟩);simp):P:=h
theorem zEK {P:Prop}(h:P:=by
 rw[Cj Zo]at i3;refine ae ?_;refine⟨.inr rfl,_,_,.tmp Zr .nil,ZI,?_,rfl⟩;rw[<- i3];rfl):P:=h
theorem zEL {P:Prop}(h:P:=by
 rcases vS.1 hc with hc|hc <;> (simp only[fk,vF]at hc;exact hc.1.1.1)):P:=h
theorem zEM {P:Prop}(h:P:=by
 intro hl st env u;simp only[Nd.aq]at hl;rw[je];exact(ih x Zo st env u).1.trans (oj Zo _ env u)):P:=h
theorem zEN {P:Prop}(h:P:=by
 rw[vj]at this;exact this.sub ((List.Sublist.refl _).append (List.sublist_append_right _ _))):P:=h
theorem zEO {P:Prop}(h:P:=by
 refine ae ?_;refine⟨⟨false,0,b,t,_,_⟩,⟨⟨_,_,rfl⟩,?_⟩,ZU,ZI⟩;simp[jK,sm,h1]):P:=h
theorem zEP {P:Prop}(h:P:=by
 rcases QF.1 AK with h1|h1
 ·exact h.w r' h1
 ·rw[QR.1 h1];exact hx.len):P:=h
theorem zEQ {P:Prop}(h:P:=by
 refine ae ?_;refine kG (Post:=[]) (.inr rfl) (.tmp Zr .nil) ⟨by simp[bH,lY,h],rfl⟩ ZI):P:=h
theorem zER {P:Prop}(h:P:=by
 refine ae ?_;exact kG (Post:=[A]) (.inr rfl) (.tmp Zr .nil) ⟨by rw[stop _ Zs];rfl,rfl⟩ ZI):P:=h
theorem zES {P:Prop}(h:P:=by
 rw[show decide ((y.kind:Int)=9)=false from Zf Zo];refine ae ?_;exact⟨by simp[k9],ZU,ZI⟩):P:=h
theorem zET {P:Prop}(h:P:=by
 simp only[Vd,Ve,vm];exact vX _ h9.symm):P:=h
theorem zEU {P:Prop}(h:P:=by
 have:=(Vt.1 hx).1;simp only[Vz,Q6]at this;omega):P:=h
theorem zEV {P:Prop}(h:P:=by
 rw[Qu,QS]at hs;exact VO.nil ⟨sv,_,rfl,⟨sp,hs,rfl⟩,ao.refl _⟩):P:=h
theorem zEW {P:Prop}(h:P:=by
 obtain⟨c,t,lo,hi,hb,hn⟩:=hh;exact⟨c,t,lo,hi,by rw[h.block b hl];exact hb,hn⟩):P:=h
theorem zEX {P:Prop}(h:P:=by
 apply vC.1;rw[vD,h3,hm]):P:=h
theorem Zo {P:Prop}(h:P:=by omega):P:=h
theorem Zr {P:Prop}(h:P:=by rfl):P:=h
theorem Zd {P:Prop}(h:P:=by decide):P:=h
theorem Zs {P:Prop}(h:P:=by simp):P:=h
theorem ZI {P:Prop}(h:P:=by exact bS):P:=h
theorem ZP {P:Prop}(h:P:=by exact SPx):P:=h
theorem ZU {P:Prop}(h:P:=by exact AO):P:=h
theorem ZK {P:Prop}(h:P:=by exact TKx):P:=h
theorem UB {P:Prop}(h:P:=by(focus ((repeat (first|(apply E9.cells;omega;(focus (simp only[Vz,Q6,Nat.reduceAdd,Qu,Nat.reduceSub,Qt,Nat.reduceLeDiff,Qn];done));(focus (simp only[Ur,Value.cells,Qu,Nat.reduceEqDiff,↓reduceIte,eq_self,Nat.reduceAdd,Nat.reduceSub,Qt,Nat.reduceLeDiff,Qn,and_self,rep,kw] <;> rfl));rfl)|apply E9.there));first|done|fail))):P:=h
theorem Zac {P:Prop}(h:P:=by(focus ((repeat (first|(apply Lh.cells;omega;(focus (simp only[Vz,Q6,Nat.reduceAdd,Qu,Nat.reduceSub,Qt,Nat.reduceLeDiff,Qn];done));(focus (simp only[Ur,Value.cells,Qu,Nat.reduceEqDiff,↓reduceIte,eq_self,Nat.reduceAdd,Nat.reduceSub,Qt,Nat.reduceLeDiff,Qn,and_self,rep,kw] <;> rfl)))|apply Lh.there));first|done|fail))):P:=h
theorem Zl {P:Prop}(h:P:=by(first|exact ltM|(focus (apply ltB;(repeat' (first|exact modM|apply orC|apply UF|apply divC|omega));done))|omega)):P:=h
theorem Zz {P:Prop}(h:P:=by((try simp only[Qu,Qj,Nat.reduceAdd,Nat.reduceMul,Qi,vV,Nat.mul_one]);rfl)):P:=h
theorem Zi {P:Prop}(h:P:=by(first|with_reducible exact vV _|((try simp only[Int.reduceToNat]);rfl))):P:=h
theorem Zh {P:Prop}(h:P:=by(focus ((repeat (first|(apply Has.cells;omega;rfl)|apply Has.there));first|done|fail))):P:=h
theorem Zm {P:Prop}(h:P:=by(focus ((repeat (first|(apply Has.among;assumption)|apply Has.there));first|done|fail))):P:=h
theorem Zay {P:Prop}(h:P:=by first|exact .here|exact .there .here|exact .there (.there .here)|exact .there (.there (.there .here))|exact .there (.there (.there (.there .here)))|exact .there (.there (.there (.there (.there .here))))|exact .there (.there (.there (.there (.there (.there .here)))))):P:=h
theorem Zax {P:Prop}(h:P:=by rw[World.frozen?_alloc_old _ _ t (by simp;omega),World.frozen?_alloc_old _ _ t (by simp;omega),World.frozen?_alloc_old _ _ t (by simp;omega),World.frozen?_alloc_old _ _ t (Nat.ne_of_lt sE)];exact hf0):P:=h
theorem Zaw {P:Prop}(h:P:=by rw[World.cell?_alloc_lt _ _ t (by simp;omega),World.cell?_alloc_lt _ _ t (by simp;omega),World.cell?_alloc_lt _ _ t (by simp;omega),World.cell?_alloc_lt _ _ t sE];exact Wv):P:=h
theorem Zap {P:Prop}(h:P:=by simp only[V.nI,V.ev,bj 36 (by decide) _ rfl,bj 37 (by decide) _ rfl,bj 39 (by decide) _ rfl]):P:=h
theorem Zaq {P:Prop}(h:P:=by simp only[V.nI,V.ev,bj 76 (by decide) _ rfl,bj 80 (by decide) _ rfl,bj 82 (by decide) _ rfl]):P:=h
theorem Zar {P:Prop}(h:P:=by simp only[V.nI,V.ev,bj 84 (by decide) _ rfl,bj 86 (by decide) _ rfl,bj 89 (by decide) _ rfl]):P:=h
theorem Zaz {P:Prop}(h:P:=by(focus ((repeat (first|with_reducible exact u5.here|apply u5.there));done))):P:=h
theorem Zav {P:Prop}(h:P:=by simp only[V.nI,V.ev,bj 19 (by decide) _ rfl]):P:=h
theorem Zau {P:Prop}(h:P:=by simp only[V.nI,V.ev,bj 4 (by decide) _ rfl]):P:=h
theorem Zas {P:Prop}(h:P:=by simp only[V.ev,bj 83 (by decide) _ rfl]):P:=h
theorem Zat {P:Prop}(h:P:=by simp only[V.ev,bj 90 (by decide) _ rfl]):P:=h
theorem Ka {P:Prop}(h:P:=by simp[kA]):P:=h
theorem pJ {P:Prop}(h:P:=by simp;omega):P:=h
theorem Io {P:Prop}(h:P:=by simp[zq]):P:=h
theorem B9 {P:Prop}(h:P:=by simp[hy]):P:=h
theorem Zad {P:Prop}(h:P:=by exact(VO.nil ⟨_,[],rfl,⟨rfl,rfl⟩,ao.perm (by simp)⟩)):P:=h
theorem Zae {P:Prop}(h:P:=by exact(VO.nil ⟨rfl,⟨mz,ao.refl _⟩,trivial⟩)):P:=h
theorem Fh {P:Prop}(h:P:=by exact(VO.nil ⟨rfl,rfl,trivial⟩)):P:=h
theorem HY {P:Prop}(h:P:=by exact(fun x hx=>by simp only[Vd,QF];first|exact .inl hx|exact .inr (.inl hx))):P:=h
theorem Dt {P:Prop}(h:P:=by exact(fun z hz=>List.mem_append_left _ (cQ z hz))):P:=h
theorem Zai {P:Prop}(h:P:=by exact(fun v Post hv=>absurd hv.1 (by decide))):P:=h
theorem HZ {P:Prop}(h:P:=by exact(fun ch Post hz=>absurd hz.1 (by decide))):P:=h
theorem Zak {P:Prop}(h:P:=by exact(fun y hy=>by simp only[Vd,QF];first|exact .inl hy|exact .inr (.inl hy)|exact .inr (.inr (.inl hy)))):P:=h
theorem ET {P:Prop}(h:P:=by exact⟨rfl,fun a ha=>by simp only[Vd,QF];exact .inl ha⟩):P:=h
theorem Zf {p:Prop}[Decidable p](h:¬p):decide p=false:=decide_eq_false h
theorem Zt {p:Prop}[Decidable p](h:p):decide p=true:=decide_eq_true h
theorem Zg {α:Type _}{l:List α}{i:Nat}(h:i < l.length):l[i]? =some l[i]:=List.getElem?_eq_getElem h
theorem Zv {α:Type _}{l:List α}{i:Nat}{a:α}(h:l[i]? =some a):a∈l:=List.mem_of_getElem? h
theorem Zw {α:Type _}{a:α}{s:List α}(t:List α)(h:a∈s):a∈s++t:=List.mem_append_left t h
end Go
namespace Go.V
open Go
inductive kC where
 |cell (b off:Nat) (v:Value)
 |obj (b:Nat) (o:Obj)
 |row (b n:Nat)
 |own (b n:Nat)
def kC.loc:kC->Nat×Option Nat
 |.cell b off _=>(b,some off)
 |.obj b _=>(b,none)
 |.row b _=>(b,none)
 |.own b n=>(b,some n)
def wz:Obj->Bool
 |.cells .. =>true
 |_=>false
def kC.holds(w:World):kC->Prop
 |.cell b off v=>∃c t lo hi,w.heap[b]? =some (Obj.cells c t (lo,hi))/\c[off]? =some v/\¬(lo<=off/\off < hi)
 |.obj b o=>w.heap[b]? =some o/\wz o=false
 |.row b n=>∃c t lo hi,w.heap[b]? =some (Obj.cells c t (lo,hi))/\c.size=n
 |.own b n=>∃c t lo hi,w.heap[b]? =some (Obj.cells c t (lo,hi))/\c.size=n/\¬(lo<=n/\n < hi)
structure Sat (w:World)(L:List kC):Prop where
 holds:∀x∈L,x.holds w
 nodup:(L.map kC.loc).Nodup
structure kg (w w':World):Prop where
 os:w'.os=w.os
 output:w'.output=w.output
 size:w.heap.size<=w'.heap.size
 cells:∀(i:Nat) c t lo hi,w.heap[i]? =some (Obj.cells c t (lo,hi))->∃c',w'.heap[i]? =some (Obj.cells c' t (lo,hi))/\c'.size=c.size/\∀j,lo<=j/\j < hi->c'[j]? =c[j]?
theorem kg.refl(w:World):kg w w:=⟨rfl,rfl,Qn _,fun _ c _ _ _ h=>⟨c,h,rfl,fun _ _=>rfl⟩⟩
theorem kg.trans {a b c:World}(h:kg a b)(k:kg b c):kg a c:=by
 refine⟨k.os.trans h.os,k.output.trans h.output,Qp h.size k.size,fun i x t lo hi hx=>?_⟩;obtain⟨y,hy,sy,fy⟩:=h.cells i x t lo hi hx;obtain⟨z,hz,sz,fz⟩:=k.cells i y t lo hi hy;exact⟨z,hz,sz.trans sy,fun j hj=>(fz j hj).trans (fy j hj)⟩
theorem kg.drawn {a b:World}(h:kg a b)(n:Nat):kg a {b with drawn:=n}:=⟨h.os,h.output,h.size,h.cells⟩
theorem Sat.drawn {w:World}{L:List kC}(h:Sat w L)(n:Nat):Sat {w with drawn:=n} L:=⟨fun x hx=>by
 have:=h.holds x hx;cases x <;> exact this,h.nodup⟩
theorem Sat.perm {w:World}{L M:List kC}(h:Sat w L)(p:L.Perm M):Sat w M:=
 ⟨fun x hx=>h.holds x (p.mem_iff.2 hx),(p.map kC.loc).nodup_iff.1 h.nodup⟩
theorem Sat.sub {w:World}{L M:List kC}(h:Sat w L)(p:M.Sublist L):Sat w M:=
 ⟨fun x hx=>h.holds x (p.subset hx),(p.map kC.loc).nodup h.nodup⟩
theorem Sat.left {w:World}{L M:List kC}(h:Sat w (L++M)):Sat w L:=h.sub (List.sublist_append_left L M)
theorem Sat.lt {w:World}{L:List kC}(h:Sat w L){x:kC}(hx:x∈L):x.loc.1 < w.heap.size:=by
 have:=h.holds x hx;cases x with
 |cell b off v=>obtain⟨c,t,lo,hi,hb,_⟩:=this;exact(v8.1 hb).1
 |obj b o=>exact(v8.1 this.1).1
 |row b n=>obtain⟨c,t,lo,hi,hb,_⟩:=this;exact(v8.1 hb).1
 |own b n=>obtain⟨c,t,lo,hi,hb,_⟩:=this;exact(v8.1 hb).1
theorem Sat.cell {w:World}{L:List kC}(h:Sat w L){b off:Nat}{v:Value}(hx:kC.cell b off v∈L):
 w.cell? ⟨b,off,none⟩=some v/\w.frozen? ⟨b,off,none⟩=false:=by
 obtain⟨c,t,lo,hi,hb,hc,hf⟩:=h.holds _ hx;refine⟨by simp[World.cell?,hb,hc],?_⟩;simp only[World.frozen?,hb];simp only[vE,decide_eq_false_iff_not];by_cases h1:lo<=off
 ·right;intro h2;exact hf ⟨h1,h2⟩
 ·left;exact h1
theorem Sat.obj {w:World}{L:List kC}(h:Sat w L){b:Nat}{o:Obj}(hx:kC.obj b o∈L):w.heap[b]? =some o/\wz o=false:=h.holds _ hx
theorem Sat.store {w:World}{L:List kC}{b off:Nat}{v u:Value}(h:Sat w (.cell b off v::L)):
 Sat (w.setCell ⟨b,off,none⟩ u) (.cell b off u::L)/\kg w (w.setCell ⟨b,off,none⟩ u):=by
 obtain⟨c,t,lo,hi,hb,hc,hf⟩:=h.holds _ (QJ ..);have aS:off < c.size:=(v8.1 hc).1;have fB:∀i,(w.setCell ⟨b,off,none⟩ u).heap[i]? =if b=i then some (Obj.cells (c.setIfInBounds off u) t (lo,hi))else w.heap[i]?:=by
  intro i;simp only[World.setCell,v9];by_cases e:b=i
  ·subst e;simp[hb]
  ·simp[e]
 refine⟨⟨fun x hx=>?_,?_⟩,⟨rfl,rfl,by simp[World.setCell],fun i c' t' CN bQ hi''=>?_⟩⟩
 ·rcases QH.1 hx with rfl|hx
  ·exact⟨c.setIfInBounds off u,t,lo,hi,by rw[fB];simp,by simp[aS],hf⟩
  ·have bZ:(b,some off)≠x.loc:=by
    exact zDV
   have hh:=h.holds x (QI _ hx);cases x with
   |cell b' off' v'=>
    obtain⟨c',t',CN,bQ,mJ,H8,hf'⟩:=hh;by_cases e:b=b'
    ·subst e;rw[hb]at mJ;obtain⟨rfl,rfl,rfl,rfl⟩:c=c'/\t=t'/\lo=CN/\hi=bQ:=by simpa using mJ
     have hoff:off≠off':=fun e=>bZ (by simp[kC.loc,e])
     exact⟨c.setIfInBounds off u,t,lo,hi,by rw[fB];simp,by simp[vA hoff,H8],hf'⟩
    ·exact⟨c',t',CN,bQ,by rw[fB];simp[e,mJ],H8,hf'⟩
   |obj b' o=>
    obtain⟨mJ,ho⟩:=hh;have e:b≠b':=fun e=>by
     subst e;rw[hb]at mJ;cases mJ;simp[wz]at ho
    exact⟨by rw[fB];simp[e,mJ],ho⟩
   |row b' n=>
    obtain⟨c',t',CN,bQ,mJ,hn⟩:=hh;by_cases e:b=b'
    ·subst e;rw[hb]at mJ;obtain⟨rfl,rfl,rfl,rfl⟩:c=c'/\t=t'/\lo=CN/\hi=bQ:=by simpa using mJ
     exact⟨c.setIfInBounds off u,t,lo,hi,by rw[fB];simp,by simpa using hn⟩
    ·exact⟨c',t',CN,bQ,by rw[fB];simp[e,mJ],hn⟩
   |own b' n=>
    obtain⟨c',t',CN,bQ,mJ,hn,hf'⟩:=hh;by_cases e:b=b'
    ·subst e;rw[hb]at mJ;obtain⟨rfl,rfl,rfl,rfl⟩:c=c'/\t=t'/\lo=CN/\hi=bQ:=by simpa using mJ
     exact⟨c.setIfInBounds off u,t,lo,hi,by rw[fB];simp,by simpa using hn,hf'⟩
    ·exact⟨c',t',CN,bQ,by rw[fB];simp[e,mJ],hn,hf'⟩
 ·have:=h.nodup;simpa[kC.loc]using this
 ·rw[fB];by_cases e:b=i
  ·subst e;rw[hb]at hi'';obtain⟨rfl,rfl,rfl,rfl⟩:c=c'/\t=t'/\lo=CN/\hi=bQ:=by simpa using hi''
   refine⟨c.setIfInBounds off u,Zs,Zs,fun j hj=>?_⟩;have bZ:off≠j:=fun e=>hf (e ▸ hj)
   simp[vA bZ]
  ·simp[e,hi'']
def kA(b:Nat):Nat->List Value->List kC
 |_,[]=>[]
 |off,v::r=>.cell b off v::kA b (off+1) r
theorem kJ {b:Nat}{x:kC}:∀{off:Nat} {vs:List Value},x∈kA b off vs↔∃i v,vs[i]? =some v/\x=.cell b (off+i) v:=by
 intro off vs
 induction vs generalizing off with
 |nil=>simp[kA]
 |cons u r ih=>
  simp only[kA,QH,ih];constructor
  ·rintro(rfl|⟨i,v,h,rfl⟩)
   ·exact⟨0,u,rfl,rfl⟩
   ·exact⟨i+1,v,by simpa using h,by simp;omega⟩
  ·rintro⟨i,v,h,rfl⟩
   cases i with
   |zero=>left;simp at h;simp[h]
   |succ i=>right;exact⟨i,v,by simpa using h,by simp;omega⟩
theorem dB(b:Nat)(vs:List Value):∀off,((kA b off vs).map kC.loc).Nodup:=by
 induction vs with
 |nil=>intro off;simp[kA]
 |cons u r ih=>
  intro off;simp only[kA,QC,QU,ih,and_true];simp only[QM,not_exists,not_and];intro x hx e;obtain⟨i,v,_,rfl⟩:=kJ.1 hx;simp[kC.loc]at e;omega
theorem Sat.push {w:World}{L:List kC}(h:Sat w L)(o:Obj)(M:List kC)(hM:∀x∈M,x.loc.1=w.heap.size/\x.holds {w with heap:=w.heap.push o})
 (hn:(M.map kC.loc).Nodup):Sat {w with heap:=w.heap.push o} (M++L)/\kg w {w with heap:=w.heap.push o}:=by
 have hold:∀i,i < w.heap.size->(w.heap.push o)[i]? =w.heap[i]?:=fun i hi=>by
  rw[Array.getElem?_push];simp[Nat.ne_of_lt hi]
 refine⟨⟨fun x hx=>?_,?_⟩,⟨rfl,rfl,Zs,fun i c t lo hi bQ=>?_⟩⟩
 ·rcases QF.1 hx with hx|hx
  ·exact(hM x hx).2
  ·have hl:=h.lt hx;have:=h.holds x hx;cases x with
   |cell b off v=>obtain⟨c,t,lo,hi,hb,r⟩:=this;exact⟨c,t,lo,hi,by simpa[hold b hl]using hb,r⟩
   |obj b o'=>exact⟨by simpa[hold b hl]using this.1,this.2⟩
   |row b n=>obtain⟨c,t,lo,hi,hb,hn⟩:=this;exact⟨c,t,lo,hi,by simpa[hold b hl]using hb,hn⟩
   |own b n=>obtain⟨c,t,lo,hi,hb,hn⟩:=this;exact⟨c,t,lo,hi,by simpa[hold b hl]using hb,hn⟩
 ·rw[QA,QT];refine⟨hn,h.nodup,fun x hx y hy e=>?_⟩;obtain⟨m,hm,rfl⟩:=QM.1 hx;obtain⟨l,hl,rfl⟩:=QM.1 hy;have h1:=(hM m hm).1;have h2:=h.lt hl;rw[e]at h1;omega
 ·have hl:i < w.heap.size:=(v8.1 bQ).1;exact⟨c,by simpa[hold i hl]using bQ,rfl,fun _ _=>rfl⟩
theorem Sat.R5 {w:World}{L:List kC}(h:Sat w L)(c:Array Value)(t:TypeId):
 Sat {w with heap:=w.heap.push (.cells c t)} (kA w.heap.size 0 c.toList++L)/\kg w {w with heap:=w.heap.push (.cells c t)}:=by
 refine h.push _ _ (fun x hx=>?_) (dB _ _ _);obtain⟨i,v,hi,rfl⟩:=kJ.1 hx;exact⟨rfl,c,t,0,0,Zs,by simpa using hi,Zs⟩
theorem Sat.newObj {w:World}{L:List kC}(h:Sat w L)(o:Obj)(ho:wz o=false):
 Sat {w with heap:=w.heap.push o} (.obj w.heap.size o::L)/\kg w {w with heap:=w.heap.push o}:=by
 refine h.push o [.obj w.heap.size o] (fun x hx=>?_) Zs;rw[QR.1 hx];exact⟨rfl,Zs,ho⟩
theorem Sat.setObj {w:World}{L:List kC}{b:Nat}{o u:Obj}(h:Sat w (.obj b o::L))(hu:wz u=false):
 Sat {w with heap:=w.heap.setIfInBounds b u} (.obj b u::L)/\kg w {w with heap:=w.heap.setIfInBounds b u}:=by
 obtain⟨hb,ho⟩:=h.holds _ (QJ ..);have aS:b < w.heap.size:=(v8.1 hb).1;have fB:∀i,(w.heap.setIfInBounds b u)[i]? =if b=i then some u else w.heap[i]?:=by
  intro i;by_cases e:b=i
  ·subst e;simp[aS]
  ·simp[vA e,e]
 refine⟨⟨fun x hx=>?_,?_⟩,⟨rfl,rfl,Zs,fun i c t lo hi bQ=>?_⟩⟩
 ·rcases QH.1 hx with rfl|hx
  ·exact⟨by simp[aS],hu⟩
  ·have bZ:(b,none)≠x.loc:=by
    exact zDV
   have hh:=h.holds x (QI _ hx);cases x with
   |cell b' off' v'=>
    obtain⟨c',t',CN,bQ,mJ,r⟩:=hh;have e:b≠b':=fun e=>by subst e;rw[hb]at mJ;cases mJ;cases ho
    exact⟨c',t',CN,bQ,by simpa[fB,e]using mJ,r⟩
   |obj b' o'=>
    have e:b≠b':=fun e=>bZ (by simp[kC.loc,e])
    exact⟨by simpa[fB,e]using hh.1,hh.2⟩
   |row b' n=>
    have e:b≠b':=fun e=>bZ (by simp[kC.loc,e])
    obtain⟨c',t',CN,bQ,mJ,hn⟩:=hh;exact⟨c',t',CN,bQ,by simpa[fB,e]using mJ,hn⟩
   |own b' n=>
    obtain⟨c',t',CN,bQ,mJ,hn⟩:=hh;have e:b≠b':=fun e=>by subst e;rw[hb]at mJ;cases mJ;cases ho
    exact⟨c',t',CN,bQ,by simpa[fB,e]using mJ,hn⟩
 ·have:=h.nodup;simpa[kC.loc]using this
 ·have e:b≠i:=fun e=>by subst e;rw[hb]at bQ;cases bQ;cases ho
  exact⟨c,by simpa[fB,e]using bQ,rfl,fun _ _=>rfl⟩
def aK(P:Program){α:Type}(s:Sem α)(H:List kC)(K:α->List kC->Prop):Prop:=
 ∀F w,Sat w (H++F)->∃v w' H',s.run P w=.ok v w'/\K v H'/\Sat w' (H'++F)/\kg w w'
section
variable {P:Program} {α β:Type} {H:List kC} {K:α->List kC->Prop}
theorem aK.pure {v:α}(h:K v H):aK P (Pure.pure v) H K:=fun _ w hs=>⟨v,w,H,rfl,h,hs,.refl w⟩
theorem aK.bind {s:Sem α}{f:α->Sem β}{K:β->List kC->Prop}(h:aK P s H fun v H'=>aK P (f v) H' K):aK P (s >>=f) H K:=by
 intro F w hs;obtain⟨v,w1,H1,h1,h2,h3,h4⟩:=h F w hs;obtain⟨u,w2,H2,k1,k2,k3,k4⟩:=h2 F w1 h3;exact⟨u,w2,H2,by simp[h1,k1],k2,k3,h4.trans k4⟩
theorem aK.mono {s:Sem α}{K':α->List kC->Prop}(h:aK P s H K)(hk:∀v H',K v H'->K' v H'):aK P s H K':=fun F w hs=>
 let⟨v,w',H',a,b,c⟩:=h F w hs;⟨v,w',H',a,hk _ _ b,c⟩
theorem aK.perm {s:Sem α}{H':List kC}(p:H.Perm H')(h:aK P s H' K):aK P s H K:=fun F w hs=>
 h F w (hs.perm (p.append_right F))
theorem aK.load {b off:Nat}{v:Value}{K:Value->List kC->Prop}(hx:kC.cell b off v∈H)(h:K v H):aK P (Go.load ⟨b,off,none⟩) H K:=fun F w hs=>by
 have:=(hs.cell (Zw F hx)).1;exact⟨v,w,H,by simp[Go.load,Sem.run,this],h,hs,.refl w⟩
def js:Value->Bool
 |.agg _|.tuple _=>false
 |_=>true
theorem aK.store {b off:Nat}{v u:Value}{K:Unit->List kC->Prop}(hu:js u=true)(h:K () (.cell b off u::H)):
 aK P (Go.store ⟨b,off,none⟩ u) (.cell b off v::H) K:=fun F w hs=>by
 have hc:=hs.cell (Zw F (QJ (a:=kC.cell b off v) (l:=H)));obtain⟨s1,s2⟩:=Sat.store (u:=u) (L:=H++F) (by simpa using hs);refine⟨(),_,_,?_,h,s1,s2⟩;cases u <;> simp_all [Go.store,Sem.run,js]
theorem aK.MC {c:Array Value}{t:TypeId}{K:Nat->List kC->Prop}(h:∀b,K b (kA b 0 c.toList++H)):aK P (Go.newObj (.cells c t)) H K:=fun F w hs=>by
 obtain⟨s1,s2⟩:=hs.R5 c t;exact⟨w.heap.size,_,_,by simp[Go.newObj,Sem.run],h _,by rw[vj];exact s1,s2⟩
theorem aK.Xg {o:Obj}{K:Nat->List kC->Prop}(ho:wz o=false)(h:∀b,K b (.obj b o::H)):aK P (Go.newObj o) H K:=fun F w hs=>by
 obtain⟨s1,s2⟩:=hs.newObj o ho;exact⟨w.heap.size,_,_,by simp[Go.newObj,Sem.run],h _,s1,s2⟩
theorem aK.getObj {b:Nat}{o:Obj}{K:Obj->List kC->Prop}(hx:kC.obj b o∈H)(h:K o H):aK P (Go.getObj b) H K:=fun F w hs=>by
 obtain⟨h1,h2⟩:=hs.obj (Zw F hx);refine⟨o,w,H,?_,h,hs,.refl w⟩;cases o <;> simp_all [Go.getObj,Sem.run,wz]
theorem aK.setObj {b:Nat}{o u:Obj}{K:Unit->List kC->Prop}(hu:wz u=false)(h:K () (.obj b u::H)):aK P (Go.setObj b u) (.obj b o::H) K:=fun F w hs=>by
 obtain⟨h1,h2⟩:=hs.obj (Zw F (QJ (a:=kC.obj b o) (l:=H)));obtain⟨s1,s2⟩:=Sat.setObj (u:=u) (L:=H++F) (by simpa using hs) hu;refine⟨(),_,_,?_,h,s1,s2⟩;cases o <;> simp_all [Go.setObj,Sem.run,wz]
theorem aK.choose {q:Question}{K:Nat->List kC->Prop}(h0:q.forced=true->K 0 H)(h:∀n,K (q.cut n) H):aK P (Go.choose q) H K:=fun F w hs=>by
 by_cases e:q.forced=true
 ·exact⟨0,w,H,by simp[Go.choose,Sem.run,e],h0 e,hs,.refl w⟩
 ·exact⟨_,_,H,by simp[Go.choose,Sem.run,e];exact⟨rfl,rfl⟩,h _,hs.drawn _,(kg.refl w).drawn _⟩
end
end Go.V

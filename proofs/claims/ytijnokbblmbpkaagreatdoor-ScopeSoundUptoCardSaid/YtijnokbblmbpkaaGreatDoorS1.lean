/-
  Cells and objects of memory as a list of atoms that a world satisfies, and triples over the model's own Sem programs.
-/
import Derived.Orders
import Derived.Laws.Sem
import Derived.Laws.World
set_option linter.unusedSimpArgs false
set_option linter.unusedVariables false
namespace Go
theorem v6:type_of% @Array.eq_empty_of_size_eq_zero:=@Array.eq_empty_of_size_eq_zero
theorem v7:type_of% @Array.getElem?_eq_getElem:=@Array.getElem?_eq_getElem
theorem v8:type_of% @Array.getElem?_eq_some_iff:=@Array.getElem?_eq_some_iff
theorem v9:type_of% @Array.getElem?_modify:=@Array.getElem?_modify
theorem vA:type_of% @Array.getElem?_setIfInBounds_ne:=@Array.getElem?_setIfInBounds_ne
theorem vB:type_of% @Array.getElem?_toList:=@Array.getElem?_toList
theorem vC:type_of% @Array.toList_inj:=@Array.toList_inj
theorem vD:type_of% @Array.toList_map:=@Array.toList_map
theorem vE:type_of% @Bool.and_eq_false_iff:=@Bool.and_eq_false_iff
theorem vF:type_of% @Bool.and_eq_true:=@Bool.and_eq_true
theorem vG:type_of% @Bool.and_eq_true_iff:=@Bool.and_eq_true_iff
theorem vH:type_of% @Bool.false_and:=@Bool.false_and
theorem vI:type_of% @Bool.false_eq_true:=@Bool.false_eq_true
theorem vJ:type_of% @Bool.false_or:=@Bool.false_or
theorem vK:type_of% @Bool.not_eq_true':=@Bool.not_eq_true'
theorem vL:type_of% @Bool.not_false:=@Bool.not_false
theorem vM:type_of% @Bool.or_assoc:=@Bool.or_assoc
theorem vN:type_of% @Bool.or_eq_false_iff:=@Bool.or_eq_false_iff
theorem vO:type_of% @Bool.or_eq_true:=@Bool.or_eq_true
theorem vP:type_of% @Bool.or_eq_true_iff:=@Bool.or_eq_true_iff
theorem vQ:type_of% @Bool.or_false:=@Bool.or_false
theorem vR:type_of% @Bool.true_and:=@Bool.true_and
theorem vS:type_of% @Int.toNat_natCast:=@Int.toNat_natCast
theorem vT:type_of% @Int.toNat_of_nonneg:=@Int.toNat_of_nonneg
theorem vU:type_of% @List.Perm.append_left:=@List.Perm.append_left
theorem vV:type_of% @List.Perm.append_right:=@List.Perm.append_right
theorem vW:type_of% @List.Perm.refl:=@List.Perm.refl
theorem vX:type_of% @List.all_eq_true:=@List.all_eq_true
theorem vY:type_of% @List.any_eq_true:=@List.any_eq_true
theorem vZ:type_of% @List.append_assoc:=@List.append_assoc
theorem vd:type_of% @List.append_nil:=@List.append_nil
theorem ve:type_of% @List.cons.injEq:=@List.cons.injEq
theorem vf:type_of% @List.cons_append:=@List.cons_append
theorem vg:type_of% @List.contains_iff_mem:=@List.contains_iff_mem
theorem vh:type_of% @List.drop_eq_getElem_cons:=@List.drop_eq_getElem_cons
theorem vj:type_of% @List.eq_nil_of_length_eq_zero:=@List.eq_nil_of_length_eq_zero
theorem vm:type_of% @List.ext_getElem?:=@List.ext_getElem?
theorem vp:type_of% @List.filter_append:=@List.filter_append
theorem vq:type_of% @List.filter_cons:=@List.filter_cons
theorem vr:type_of% @List.filter_eq_nil_iff:=@List.filter_eq_nil_iff
theorem vt:type_of% @List.filter_eq_self:=@List.filter_eq_self
theorem vw:type_of% @List.flatMap_append:=@List.flatMap_append
theorem vx:type_of% @List.flatMap_singleton:=@List.flatMap_singleton
theorem vy:type_of% @List.flatten_append:=@List.flatten_append
theorem vz:type_of% @List.flatten_cons:=@List.flatten_cons
theorem V0:type_of% @List.flatten_nil:=@List.flatten_nil
theorem V5:type_of% @List.getD_eq_getElem?_getD:=@List.getD_eq_getElem?_getD
theorem V6:type_of% @List.getElem?_append:=@List.getElem?_append
theorem V7:type_of% @List.getElem?_append_left:=@List.getElem?_append_left
theorem V8:type_of% @List.getElem?_append_right:=@List.getElem?_append_right
theorem V9:type_of% @List.getElem?_cons_succ:=@List.getElem?_cons_succ
theorem VV:type_of% @List.getElem?_cons_zero:=@List.getElem?_cons_zero
theorem Va:type_of% @List.getElem?_drop:=@List.getElem?_drop
theorem Vb:type_of% @List.getElem?_eq_none:=@List.getElem?_eq_none
theorem Vc:type_of% @List.getElem?_eq_none_iff:=@List.getElem?_eq_none_iff
theorem Vd:type_of% @List.getElem?_eq_some_iff:=@List.getElem?_eq_some_iff
theorem Ve:type_of% @List.getElem?_map:=@List.getElem?_map
theorem Vg:type_of% @List.getElem?_of_mem:=@List.getElem?_of_mem
theorem Vh:type_of% @List.getElem?_set:=@List.getElem?_set
theorem Vi:type_of% @List.getElem?_toArray:=@List.getElem?_toArray
theorem Vj:type_of% @List.length_append:=@List.length_append
theorem Vl:type_of% @List.length_cons:=@List.length_cons
theorem Vm:type_of% @List.length_drop:=@List.length_drop
theorem Vn:type_of% @List.length_eq_one_iff:=@List.length_eq_one_iff
theorem Vo:type_of% @List.length_filter_le:=@List.length_filter_le
theorem Vp:type_of% @List.length_map:=@List.length_map
theorem Vr:type_of% @List.length_nil:=@List.length_nil
theorem Vt:type_of% @List.length_set:=@List.length_set
theorem Vu:type_of% @List.length_singleton:=@List.length_singleton
theorem Vv:type_of% @List.length_take:=@List.length_take
theorem Vw:type_of% @List.map_append:=@List.map_append
theorem Vx:type_of% @List.map_congr_left:=@List.map_congr_left
theorem Vy:type_of% @List.map_cons:=@List.map_cons
theorem Vz:type_of% @List.map_map:=@List.map_map
theorem Q0:type_of% @List.map_nil:=@List.map_nil
theorem Q1:type_of% @List.mem_append:=@List.mem_append
theorem Q3:type_of% @List.mem_append_right:=@List.mem_append_right
theorem Q4:type_of% @List.mem_cons:=@List.mem_cons
theorem Q5:type_of% @List.mem_cons_of_mem:=@List.mem_cons_of_mem
theorem Q6:type_of% @List.mem_cons_self:=@List.mem_cons_self
theorem Q7:type_of% @List.mem_filter:=@List.mem_filter
theorem Q8:type_of% @List.mem_flatMap:=@List.mem_flatMap
theorem Q9:type_of% @List.mem_map:=@List.mem_map
theorem QA:type_of% @List.mem_of_mem_take:=@List.mem_of_mem_take
theorem QB:type_of% @List.mem_range:=@List.mem_range
theorem QC:type_of% @List.mem_singleton:=@List.mem_singleton
theorem QD:type_of% @List.nil_append:=@List.nil_append
theorem QE:type_of% @List.nodup_append:=@List.nodup_append
theorem QF:type_of% @List.nodup_cons:=@List.nodup_cons
theorem QG:type_of% @List.nodup_range:=@List.nodup_range
theorem QH:type_of% @List.perm_append_comm:=@List.perm_append_comm
theorem QI:type_of% @List.perm_append_comm_assoc:=@List.perm_append_comm_assoc
theorem QJ:type_of% @List.perm_ext_iff_of_nodup:=@List.perm_ext_iff_of_nodup
theorem QK:type_of% @List.perm_middle:=@List.perm_middle
theorem QL:type_of% @List.prefix_append:=@List.prefix_append
theorem QM:type_of% @List.prefix_refl:=@List.prefix_refl
theorem QN:type_of% @List.sublist_cons_self:=@List.sublist_cons_self
theorem QO:type_of% @List.take_add_one:=@List.take_add_one
theorem QP:type_of% @List.take_append_drop:=@List.take_append_drop
theorem QR:type_of% @List.take_of_length_le:=@List.take_of_length_le
theorem QS:type_of% @List.take_zero:=@List.take_zero
theorem QT:type_of% @Nat.add_assoc:=@Nat.add_assoc
theorem QU:type_of% @Nat.add_zero:=@Nat.add_zero
theorem QV:type_of% @Nat.le_of_ble_eq_true:=@Nat.le_of_ble_eq_true
theorem QW:type_of% @Nat.le_refl:=@Nat.le_refl
theorem QX:type_of% @Nat.le_succ:=@Nat.le_succ
theorem QY:type_of% @Nat.le_trans:=@Nat.le_trans
theorem QZ:type_of% @Nat.lt_of_lt_of_le:=@Nat.lt_of_lt_of_le
theorem Qa:type_of% @Nat.lt_succ_self:=@Nat.lt_succ_self
theorem Qc:type_of% @Nat.mul_le_mul_right:=@Nat.mul_le_mul_right
theorem Qd:type_of% @Nat.sub_self:=@Nat.sub_self
theorem Qe:type_of% @Nat.zero_add:=@Nat.zero_add
theorem Qf:type_of% @Nat.zero_le:=@Nat.zero_le
theorem Qg:type_of% @Nat.zero_mul:=@Nat.zero_mul
theorem Qh:type_of% @Option.bind_eq_some_iff:=@Option.bind_eq_some_iff
theorem Qi:type_of% @Option.getD_some:=@Option.getD_some
theorem Qj:type_of% @Option.isSome_iff_exists:=@Option.isSome_iff_exists
theorem Qk:type_of% @Option.map_eq_some_iff:=@Option.map_eq_some_iff
theorem Ql:type_of% @Option.map_none:=@Option.map_none
theorem Qm:type_of% @Option.map_some:=@Option.map_some
theorem Qn:type_of% @Option.some.inj:=@Option.some.inj
theorem Qo:type_of% @Option.some.injEq:=@Option.some.injEq
theorem Qp:type_of% @Prod.mk.injEq:=@Prod.mk.injEq
theorem zA0 {P:Prop}(h:P:=by
 have hwk:∀(Uc:List UC),Uc.map UC.q=U.map UC.q->∀{k:Nat} {z:UC},U[k]? =some z->∃z',Uc[k]? =some z'/\z'.q=z.q:=fun Uc hq k z hk=>by
  have:=getq hq k;rw[hk]at this;cases e:Uc[k]? with
  |none=>rw[e]at this;cases this
  |some z'=>rw[e]at this;exact⟨z',rfl,Qn this⟩
 refine VC.loop (α:=Nat×Nat×List UC×List Nat) (Γf:=fun s=>[(0,kE s.2.1),(1,kE y.q)]) (Hf:=fun s=>[WK s.2.2.1 Vs2])
  (I:=fun s=>s.1 < st.outer.length/\(∃z,s.2.2.1[s.1]? =some z/\z.q=s.2.1)/\s.2.2.1.map UC.q=U.map UC.q/\s.2.2.1.map UC.body=U.map UC.body/\s.2.2.2++st.way s.1 v=st.way i v/\st.unitOf v∈st.line s.1/\(∀d∈s.2.2.2,s.1 < d)/\RepG st (doneF st v s.2.2.2) rf2 (fun k=>st.uses.length+(if k∈s.2.2.2 then 1 else 0)) s.2.2.1 Vs2) (μ:=fun s=>s.1) (i,u.q,U,[])
  ⟨hil,⟨u,hu,rfl⟩,rfl,rfl,rfl,hl,Zs,hR2⟩ ZU ZI ?_
 clear hR2
 rintro⟨c,q,Uc,dn⟩ ⟨hc,⟨z,hz,rfl⟩,hmq,hmb,hway,hln,hdn,hRc⟩
 simp only at hc hz hmq hmb hway hln hdn hRc;dsimp only;obtain⟨w',hw',hwq⟩:=hwk Uc hmq hw;have n0':kC.cell y2.q 0 (kK (some y2.unit))∈WK Uc Vs2:=wk_memv hy2 _ (kI.2 ⟨0,kK (some y2.unit),rfl,Zs⟩);have n1':kC.cell y2.q 1 (.int .i64 y2.arg)∈WK Uc Vs2:=wk_memv hy2 _ (kI.2 ⟨1,.int .i64 y2.arg,rfl,Zs⟩);rw[hyq2,hyu2,hyw]at n0';rw[hyq2,hya2,hya]at n1';have n0:kC.cell y.q 0 (kE w.q)∈WK Uc Vs2:=n0';have n1:kC.cell y.q 1 (.int .i64 x.own)∈WK Uc Vs2:=n1';have lw:wF (WK Uc Vs2) w.q:=hwq ▸ wk_lies hw';have lz:wF (WK Uc Vs2) z.q:=wk_lies hz;obtain⟨R2,hp2,hr2⟩:=wk_needs (V:=Vs2) hz;have k0:=wk_pick hp2 n0 Zs;have k1:=wk_pick hp2 n1 Zs;have k6:kC.cell z.q 6 (.map (some z.nb))∈R2:=wk_pick hp2 (zL hz _ (Q5 _ (Zw _ (kI.2 ⟨6,.map (some z.nb),rfl,Zs⟩)))) Zs;have k3:kC.cell z.q 3 (kK z.outer)∈R2:=wk_pick hp2 (zL hz _ (Q5 _ (Zw _ (kI.2 ⟨3,kK z.outer,rfl,Zs⟩)))) Zs;have hlr:∀{k:Nat} {z':UC},Uc[k]? =some z'->wF R2 z'.q:=fun {k z'} hk=>by
  obtain⟨⟨n,h1⟩,⟨vv,h2⟩⟩:=wk_lies (V:=Vs2) hk;exact⟨⟨n,wk_pick hp2 h1 Zs⟩,⟨vv,wk_pick hp2 h2 Zs⟩⟩
 refine VC.imp (H':=[[.obj z.nb (.map z.es z.cl)],R2]) (Imp.perm (by simpa using hp2)) ?_;have hlw:=hwq ▸ hlr hw';have hlz:=hlr hz;refine GOH ?_;refine st_nep u124 i206_eq i206_ne Zr Zr (hlz.more (fun _ hx=>by simp[hx])) (hlw.more (fun _ hx=>by simp[hx])) ?_;refine GOH ?_;by_cases hqe:z.q=w.q
 ·rw[Zt hqe];refine GOH ?_;have e1:c=st.unitOf v:=by rw[huo];exact hRc.q_inj hz hw' (hqe.trans hwq.symm)
  rw[hwf.way_here Zo e1,vd]at hway;refine kG (Post:=[WK Uc Vs2]) (.inl rfl) .nil ⟨Uc,Vs2,⟨rfl,?_,hmq,hmb,hvq2⟩,rfl⟩ (Imp.perm (by simpa using hp2.symm));refine RepG.congr (hRc.useS hil hvl) (fun k t=>?_) hrem2 (fun k=>?_)
  ·rw[doneF_all,hway]
  ·show st.uses.length+_<=(st.uses++[(i,v)]).length;rw[Vj,Vu];split <;> omega
 rw[Zf hqe];have hcu:c≠st.unitOf v:=fun e=>by
  rw[huo]at e;rw[<- e,hz]at hw';exact hqe (by rw[Qn hw'];exact hwq)
 have hline:=hln;rw[hwf.line Zo]at hline;have hon:¬st.outer.getD c (-1) < 0:=fun h'=>by
  rw[if_pos h']at hline;rcases Q4.1 hline with h''|h''
  ·exact hcu h''.symm
  ·cases h''
 rw[if_neg hon]at hline;have hln':st.unitOf v∈st.line (st.outer.getD c (-1)).toNat:=by
  rcases Q4.1 hline with h''|h''
  ·exact absurd h''.symm hcu
  ·exact h''
 have hwst:=hwf.way_step (v:=v) (by omega:c<=st.outer.length) hcu;rw[if_neg hon]at hwst;have hlow:=hwf.lowD c;obtain⟨c',hc'⟩:∃c',c'=(st.outer.getD c (-1)).toNat:=⟨_,rfl⟩;rw[<- hc']at hln' hwst;obtain⟨z',hz'⟩:∃z',Uc[c']? =some z':=⟨_,Zg (by rw[hRc.ul];omega)⟩;have hzo:z.outer=some z'.q:=by
  rw[hRc.ou c z hz,if_neg hon,<- hc',hz'];rfl
 rw[hzo]at k3;obtain⟨m,t1,t2,t3,t4⟩:=hRc.nd c z hz;have hls:∀p∈m,wF R2 p.1.1:=fun p hp=>by
  obtain⟨⟨j,wj,h1,h2⟩,_⟩:=t3 p hp;rw[h2];exact hlr h1
 have hcd:c∉dn:=fun h'=>Nat.lt_irrefl _ (hdn c h')
 have hcb:0<=(kq (w.q,x.own) m).getD 0/\(kq (w.q,x.own) m).getD 0<=st.uses.length:=by
  cases e:kq (w.q,x.own) m with
  |none=>exact⟨Zs,Zs⟩
  |some cn=>
   obtain⟨_,h1,h2⟩:=t3 _ (mget_mem e);rw[if_neg hcd]at h2;simp only[Qi];omega
 have hput:∀es' cl',ThIs es' cl' (jZ (w.q,x.own) ((kq (w.q,x.own) m).getD 0+1) m)->RepG st (doneF st v (dn++[c])) rf2 (fun k=>st.uses.length+(if k∈dn++[c]then 1 else 0)) (Uc.set c {z with es:=es',cl:=cl'}) Vs2:=fun es' cl' hes=>by
  rw[<- hwq]at hes;refine(hRc.put hz hw' t2 t3 t4 hes (by rw[hwq];omega) (by rw[if_neg hcd,hwq];omega)).congr (fun k t=>?_) (fun k=>rfl) (fun k=>?_)
  ·rw[doneF_snoc,huo,hoo]
  ·by_cases e1:k∈dn
   ·rw[if_pos e1,if_pos (Zw _ e1),if_neg (fun e=>hcd (by rw[<- e];exact e1))];omega
   ·rw[if_neg e1];by_cases e2:k=c
    ·rw[if_pos e2,if_pos (by simp[e2])];omega
    ·rw[if_neg e2];omega
 have hfin:∀es' cl',ThIs es' cl' (jZ (w.q,x.own) ((kq (w.q,x.own) m).getD 0+1) m)->∃s:Nat×Nat×List UC×List Nat,(s.1 < st.outer.length/\(∃z,s.2.2.1[s.1]? =some z/\z.q=s.2.1)/\s.2.2.1.map UC.q=U.map UC.q/\s.2.2.1.map UC.body=U.map UC.body/\s.2.2.2++st.way s.1 v=st.way i v/\st.unitOf v∈st.line s.1/\(∀d∈s.2.2.2,s.1 < d)/\RepG st (doneF st v s.2.2.2) rf2 (fun k=>st.uses.length+(if k∈s.2.2.2 then 1 else 0)) s.2.2.1 Vs2)/\s.1 < c/\s.2.1=z'.q/\
  Imp [[.obj z.nb (.map es' cl')],R2] [WK s.2.2.1 Vs2]:=fun es' cl' hes=>by
  have hq:=z5 (w':={z with es:=es',cl:=cl'}) hz rfl;refine⟨(c',z'.q,Uc.set c {z with es:=es',cl:=cl'},dn++[c]),⟨by simp only;omega,?_,hq.trans hmq,(map_b_set (w':={z with es:=es',cl:=cl'}) hz rfl).trans hmb,?_,hln',?_,hput es' cl' hes⟩,by simp only;omega,rfl,Imp.perm (by simpa using(hr2 es' cl').symm)⟩
  ·have:=getq hq c';rw[hz']at this;cases e:(Uc.set c {z with es:=es',cl:=cl'})[c']? with
   |none=>rw[e]at this;cases this
   |some z2=>rw[e]at this;exact⟨z2,rfl,Qn this⟩
  ·rw[<- hway,hwst];simp
  ·intro d hd;rcases Q1.1 hd with hd|hd
   ·have:=hdn d hd;simp only;omega
   ·rw[QC.1 hd];simp only;omega
 clear hput hRc hr2 hp2;generalize hcn:(kq (w.q,x.own) m).getD 0=cn at hcb hfin;refine GOH ?_;refine VC.draws ⟨?_,?_,trivial⟩
 ·refine GOH ?_;refine st_lookth (k:=(w.q,x.own)) thP Zr Zr .here t1.of (hlw.more (fun _ hx=>by simp[hx])) (fun p hp=>(hls p hp).more (fun _ hx=>by simp[hx])) ?_;rw[hcn];refine GOH ?_;refine st_ment (k:=(w.q,x.own)) thP Zr Zr .here t1 (hlw.more (fun _ hx=>by simp[hx])) (fun p hp=>(hls p hp).more (fun _ hx=>by simp[hx])) (fun es1 cl1 s1 hes1 hst1 _=>?_);refine GOH ?_;refine st_mst (k:=(w.q,x.own)) Zr Zr Zr .here hes1 hst1 ?_ (fun es2 hes2=>?_)
  ·split
   ·exact t2
   ·exact mset_nodup t2
  have hes3:ThIs es2 cl1 (jZ (w.q,x.own) (cn+1) m):=by
   split at hes2
   ·exact hes2
   ·rw[mset_mset]at hes2;exact hes2
  obtain⟨s2,i1,i2,i3,i4⟩:=hfin es2 cl1 hes3;refine GOH ?_;exact⟨s2,i1,i2,by rw[i3];exact SUx,i4⟩
 ·refine GOH ?_;refine st_ment (k:=(w.q,x.own)) thP Zr Zr .here t1 (hlw.more (fun _ hx=>by simp[hx])) (fun p hp=>(hls p hp).more (fun _ hx=>by simp[hx])) (fun es1 cl1 s1 hes1 hst1 _=>?_);rw[hcn];have hcn2:(kq (w.q,x.own) (if(kq (w.q,x.own) m).isSome=true then m else jZ (w.q,x.own) 0 m)).getD 0=cn:=by
   split
   ·exact hcn
   ·rename_i hno;rw[jo,if_pos rfl];cases e:kq (w.q,x.own) m with
    |none=>rw[e]at hcn;exact hcn
    |some _=>rw[e]at hno;exact absurd rfl hno
  have hls1:∀p∈(if(kq (w.q,x.own) m).isSome=true then m else jZ (w.q,x.own) 0 m),wF R2 p.1.1:=fun p hp=>by
   split at hp
   ·exact hls p hp
   ·rcases mset_mem hp with rfl|hp
    ·exact hlw
    ·exact hls p hp
  refine GOH ?_;refine st_lookth (k:=(w.q,x.own)) thP Zr Zr .here hes1.of (hlw.more (fun _ hx=>by simp[hx])) (fun p hp=>(hls1 p hp).more (fun _ hx=>by simp[hx])) ?_;rw[hcn2];refine GOH ?_;refine st_mst (k:=(w.q,x.own)) Zr Zr Zr .here hes1 hst1 ?_ (fun es2 hes2=>?_)
  ·split
   ·exact t2
   ·exact mset_nodup t2
  have hes3:ThIs es2 cl1 (jZ (w.q,x.own) (cn+1) m):=by
   split at hes2
   ·exact hes2
   ·rw[mset_mset]at hes2;exact hes2
  obtain⟨s2,i1,i2,i3,i4⟩:=hfin es2 cl1 hes3;refine GOH ?_;exact⟨s2,i1,i2,by rw[i3];exact SUx,i4⟩):P:=h
theorem zA1 {P:Prop}(h:P:=by
 refine jU ?_;refine VC.join (α:=Nat×Bool) (fun z=>[(0,kE lb),(3,kE q),(5,kE r),(6,vi z.1)]) (fun z=>[A,lkA lb (mB||z.2) deep,kA r 0 [cv 5,.string s,cv lk,vi ln,uv lbt,.string lt,.slice la items.length lc,.slice aa args.length ac,.slice ta temps.length tc,.slice none 0 0,vi p],kA q 0 [cv 5,.string s,cv lk,vi ln,uv lbt,.string lt,.slice la items.length lc,.slice aa args.length ac,.slice ta temps.length tc,.slice (some ⟨bk,o,none⟩) kids.length c,vi p]]) (fun e=>wM ((z::l).map fun y=>kP (decide (y.kind=6)) (kO y))=some (e.1,e.2)) ?_ ?_
 ·refine GOH ?_;refine st_slcL1 Zr Zr (l:=1) rfl Zo ?_;rw[<- hls,if_neg Zo];refine GOH ?_;refine VC.loop (α:=Nat×Nat×Bool) (Γf:=fun s=>[(0,kE lb),(3,kE q),(5,kE r),(6,vi s.2.1),(123,.slice (some ⟨bk,o+1*11,none⟩) (z::l).length (c - 1)),(124,vi (z::l).length),(125,vi s.1)]) (Hf:=fun e=>[A,lkA lb (mB||e.2.2) deep,kA r 0 [cv 5,.string s,cv lk,vi ln,uv lbt,.string lt,.slice la items.length lc,.slice aa args.length ac,.slice ta temps.length tc,.slice none 0 0,vi p],kA q 0 [cv 5,.string s,cv lk,vi ln,uv lbt,.string lt,.slice la items.length lc,.slice aa args.length ac,.slice ta temps.length tc,.slice (some ⟨bk,o,none⟩) kids.length c,vi p]])
   (I:=fun s=>s.1<=(z::l).length/\wM (((z::l).take s.1).map fun y=>kP (decide (y.kind=6)) (kO y))=some (s.2.1,s.2.2)) (μ:=fun s=>(z::l).length - s.1) (0,0,false) ⟨Qf _,rfl⟩ ZU (by show Imp _ [A,lkA lb (mB||false) deep,kA r 0 [cv 5,.string s,cv lk,vi ln,uv lbt,.string lt,.slice la items.length lc,.slice aa args.length ac,.slice ta temps.length tc,.slice none 0 0,vi p],kA q 0 [cv 5,.string s,cv lk,vi ln,uv lbt,.string lt,.slice la items.length lc,.slice aa args.length ac,.slice ta temps.length tc,.slice (some ⟨bk,o,none⟩) kids.length c,vi p]];rw[vQ,hmB0];exact IMx) ?_
  rintro⟨j,d,mm⟩ ⟨i1,i2⟩
  simp only at i1 i2;dsimp only;have hget:∀j y,(z::l)[j]? =some y->kids[j+1]? =some y:=fun j y e=>by rw[hky];exact e
  have hmul:(z::l).length<=140737488355328:=by omega
  generalize htl:z::l=tl at*;refine GOH ?_;by_cases hj:j < tl.length;rotate_left
  ·rw[show decide ((j:Int) < (tl.length:Int))=false from Zf Zo];rw[QR Zo]at i2;refine GOH ?_;exact⟨(d,mm),i2,ZU,ZI⟩
  rw[show decide ((j:Int) < (tl.length:Int))=true from Zt Zo];obtain⟨u,hu⟩:∃u,tl[j]? =some u:=⟨_,Zg hj⟩;have hur:=hr (j+1) u (hget j u hu);have hum:=hm (j+1) Zo;have huok:=hkids.ok (j+1) u (hget j u hu);rw[show o+(j+1)*11=o+(11+j*11) by omega]at hum;have hv:=huok.1 lb (mB||mm) deep;generalize us (j+1)=uj at hur hum hv;obtain⟨e1,e2,e3,e4,e5,e6,e7,e8,e9,e10,e11,e12,e13,e14,e15,e16,e17,rfl,hsz,hkk⟩:=nd_open2 hur;have htk:tl.take (j+1)=tl.take j++[u]:=by rw[QO,hu];rfl
  refine GOH ?_;refine kZ Zr (fun z hz=>Zw _ (hum z hz)) rfl ?_;refine GOH ?_;refine kL (fun q9=>?_);refine GOH ?_;by_cases h6:u.kind=6;rotate_left
  ·have hnone:RR=none:=by
    rw[hR5,bothR_none (.inl (maxR_none (Q9.2 ⟨u,Zv hu,by simp[kP,h6]⟩)))];unfold kP;split <;> rfl
   rw[show decide ((u.kind:Int)=6)=false from Zf Zo];refine GOH ?_;refine kJ (kw false) Zr ZP Zai (fun ch Post hz=>?_);obtain⟨_,rfl,rfl⟩:=hz;exact⟨[A,lkA lb (mB||mm) deep],ZI,hnone,rfl,_,rfl⟩
  rw[show decide ((u.kind:Int)=6)=true from Zt Zo];refine GOH ?_;refine kJ (kw true) Zr ZP (fun v Post hv=>?_) Zaj;obtain⟨_,rfl,rfl⟩:=hv;simp only[QD];refine GOH ?_;refine kJ hv Zr ZP (fun v Post hv=>?_) (fun ch Post hz=>?_);rotate_left
  ·obtain⟨hb,rfl,m2,rfl⟩:=hz;have hnone:RR=none:=by
    rw[hR5,bothR_none (.inl (maxR_none (Q9.2 ⟨u,Zv hu,by simp[kP,h6,hb]⟩)))];unfold kP;split <;> rfl
   exact⟨[A,lkA lb m2 deep],ZI,hnone,rfl,m2,rfl⟩
  obtain⟨e,m2,he,rfl,rfl⟩:=hv;simp only[CNx];refine GOH ?_;rw[show(if(e:Int) > (d:Int)then(e:Int)else(d:Int))=((max d e:Nat):Int) by split <;> omega];refine⟨(j+1,max d e,mm||m2),⟨by simp only;omega,?_⟩,by simp only;omega,ZU,?_⟩
  ·simp only[htk,Vw,Vy,Q0,he];simp only[h6,decide_true];exact maxR_snoc i2
  ·simp only[vM];exact IMx
 ·rintro⟨d,mm⟩ i2
  simp only at i2;dsimp only;cases hf:firstR y z.name (kO y)with
  |some pf=>
   obtain⟨dF,mF⟩:=pf;have hFf:=look_some (hF (mB||mm)) hf;refine VC.draws ⟨?_,trivial⟩;refine GOH ?_;refine kZ Zr (fun z hz=>by simp only[vz,Q1];simp[hym z hz]) hyl ?_;refine GOH ?_;refine kM hFf Zr ZP (fun v Post hv=>?_);obtain⟨rfl,rfl⟩:=hv;simp only[CNx];refine GOH ?_;rw[show(if(dF:Int) > (d:Int)then(dF:Int)else(d:Int))=((max d dF:Nat):Int) by split <;> omega];refine⟨⟨max d dF,decide (256 < kids.length)||(mm||mF),s,lk,ln,lbt,lt,la,items.length,lc,aa,args.length,ac,ta,temps.length,tc⟩,?_,ZU,?_⟩
   ·rw[hR5,hf,i2];simp[wa.ok,kP,bothR,wo,hk0,litZ,Lt.kind,Lt.n,Lt.bits,Lt.text,Lt.items];simp only[and_assoc]
   ·simp only;rw[<- vM,<- hmB,<- vM];show Imp _ [A,lkA lb (mB||mm||mF) deep,kA r 0 [cv 5,.string s,cv lk,vi ln,uv lbt,.string lt,.slice la items.length lc,.slice aa args.length ac,.slice ta temps.length tc,.slice none 0 0,vi p]];exact IMx
  |none=>
   have hnone:RR=none:=by
    rw[hR5,bothR_none (.inr hf)];unfold kP;split <;> rfl
   obtain⟨dF,φF,hFφ,hFz⟩:=look_any hF;refine VC.drawZ (fun ch H'=>ch=w9/\∃m,Imp H' [A,lkA lb m deep]) (fun H'=>∃m,Imp H' [A,lkA lb m deep,kA q 0 [cv 5,.string s,cv lk,vi ln,uv lbt,.string lt,.slice la items.length lc,.slice aa args.length ac,.slice ta temps.length tc,.slice (some ⟨bk,o,none⟩) kids.length c,vi p]]) ⟨mB||mm,ZI⟩ ?_ (fun ch H' hp=>?_)
   ·skip
    intro rs hrs;rcases Q4.1 hrs with rfl|hrs
    ·skip
     refine kH ?_;refine kH ?_;refine kH ?_;refine kH ?_;refine kH ?_;refine kH ?_;refine kH ?_;refine kH ?_;refine kH ?_;refine kH ?_;refine kH ?_;refine⟨rfl,vi dF,φF,fun Γ H hΓ hH=>?_,?_⟩
     ·obtain⟨mz,hz⟩:=hH;refine VO.imp hz ?_;refine kJ (hFz mz) (by simp only[V.evs,V.ev,hΓ 140 Zd _ rfl,hΓ 144 Zd _ rfl,hΓ 149 Zd _ rfl]) ZP (fun v Post hv=>?_) (fun ch Post hz=>?_)
      ·obtain⟨rfl,hφ,m',rfl⟩:=hv;exact VO.nil ⟨rfl,⟨m',Imp.refl _⟩,hφ⟩
      ·obtain⟨rfl,m',rfl⟩:=hz;exact⟨rfl,m',ZI⟩
     refine⟨rfl,vi (max d dF:Nat),True,fun Γ H hΓ hH=>?_,?_⟩
     ·obtain⟨mz,hz⟩:=hH;refine VO.imp hz ?_;exact st_max (by simp only[V.ev,hΓ 139 Zd _ rfl]) (by simp only[V.ev,hΓ 150 Zd _ rfl]) (VO.nil ⟨rfl,⟨mz,Imp.refl _⟩,trivial⟩)
     refine kH ?_;exact fun hh=>by
      simp only[true_and,and_true]at hh;exact hFφ hh hf
    ·cases hrs
   ·obtain⟨rfl,m,hi⟩:=hp;exact⟨_,hi,hnone,rfl,m,rfl⟩):P:=h
theorem zA2 {P:Prop}(h:P:=by
 refine GOH ?_;refine VC.loop (α:=Nat×Nat×Bool) (Γf:=fun s=>[(0,kE lb),(1,.string sel),(8,vi s.2.1),(29,.slice a l.length c),(30,vi l.length),(31,vi s.1)]) (Hf:=fun s=>[A,lkA lb (mB||s.2.2) deep])
  (I:=fun s=>s.1<=l.length/\wM ((l.take s.1).map fun x=>jr x (argS sel) (kO x))=some (s.2.1,s.2.2)) (μ:=fun s=>l.length - s.1) (0,0,false) ⟨Qf _,rfl⟩ ZU (by show Imp _ [A,lkA lb (mB||false) deep];rw[vQ,hmB0];exact IMx) ?_
 rintro⟨j,d,mm⟩ ⟨i1,i2⟩
 simp only at i1 i2;dsimp only;refine GOH ?_;by_cases hj:j < l.length;rotate_left
 ·rw[show decide ((j:Int) < (l.length:Int))=false from Zf Zo];have htk:l.take j=l:=QR Zo;rw[htk]at i2;refine GOH ?_;refine jI (kG (Post:=[A,lkA lb (m0'||(decide (15 < j7 sel)||mm)) deep]) (.inr rfl) (.tmp Zr .nil) ⟨d,_,by rw[hm1,i2];rfl,rfl,by rw[hm0']⟩ (by rw[hm0',<- vM,<- hmB];exact IMx))
 obtain rfl:=hk.at_ Zo;rw[show decide ((j:Int) < (l.length:Int))=true from Zt Zo];obtain⟨y,hy⟩:∃y,l[j]? =some y:=⟨_,Zg hj⟩;have hyr:=hk.rd j y hy;have hym:=hk.mem j hj;have hv:=zM A y _ hyr (hk.ok j y hy) (argS sel) lb (mB||mm) deep;generalize us j=uj at hyr hym hv;obtain⟨e1,e2,e3,e4,e5,e6,e7,e8,e9,e10,e11,e12,e13,e14,e15,e16,e17,rfl,hsz,hkk⟩:=nd_open2 hyr;have htk:l.take (j+1)=l.take j++[y]:=by rw[QO,hy];rfl
 refine GOH ?_;refine kZ Zr Zah rfl ?_;refine GOH ?_;refine kL (fun q=>?_);refine GOH ?_;cases he:jr y (argS sel) (kO y)with
 |some dm=>
  obtain⟨e,m2⟩:=dm;rw[he]at hv;have hvf:jY Tryz.prog 170 [kE lb,.agg #[cv y.kind,.string y.name,cv e1,vi e2,uv e3,.string e4,.slice e5 e6 e7,.slice e8 e9 e10,.slice e11 e12 e13,.slice e14 e15 e16,vi e17],vi (argS sel)] [A,lkA lb (mB||mm) deep] (fun v Post=>v=vi e/\Post=[A,lkA lb (mB||mm||m2) deep]) (fun _ _=>False):=
   jY.mono hv (fun v Post ⟨d',m',e,h1,h2⟩=>by cases e;exact⟨h1,h2⟩) (fun ch Post hz=>by cases hz.1)
  refine VC.draws ⟨?_,?_,trivial⟩
  ·skip
   refine GOH ?_;refine kV (argument_spec sel hsel) Zr ?_;refine GOH ?_;refine kM hvf.fun Zr ZP (fun v Post hv=>?_);obtain⟨rfl,rfl⟩:=hv;simp only[CNx];refine GOH ?_;rw[show(if(e:Int) > (d:Int)then(e:Int)else(d:Int))=((max d e:Nat):Int) by split <;> omega];refine⟨(j+1,max d e,mm||m2),⟨by simp only;omega,?_⟩,by simp only;omega,ZU,?_⟩
   ·simp only[htk,Vw,Vy,Q0,he];exact maxR_snoc i2
   ·simp only[vM];exact IMx
  ·skip
   refine GOH ?_;refine kV (argument_spec sel hsel) Zr ?_;refine GOH ?_;refine kM hvf.fun Zr ZP (fun v Post hv=>?_);obtain⟨rfl,rfl⟩:=hv;simp only[CNx];refine GOH ?_;rw[show(if(e:Int) > (d:Int)then(e:Int)else(d:Int))=((max d e:Nat):Int) by split <;> omega];refine⟨(j+1,max d e,mm||m2),⟨by simp only;omega,?_⟩,by simp only;omega,ZU,?_⟩
   ·simp only[htk,Vw,Vy,Q0,he];exact maxR_snoc i2
   ·simp only[vM];exact IMx
 |none=>
  rw[he]at hv;have hnone:RR=none:=by
   rw[hRR,maxR_none (Q9.2 ⟨y,Zv hy,he⟩)];unfold kP;split <;> rfl
  have hvz:jY Tryz.prog 170 [kE lb,.agg #[cv y.kind,.string y.name,cv e1,vi e2,uv e3,.string e4,.slice e5 e6 e7,.slice e8 e9 e10,.slice e11 e12 e13,.slice e14 e15 e16,vi e17],vi (argS sel)] [A,lkA lb (mB||mm) deep] (fun v Post=>False) (fun ch Post=>ch=w9/\∃m,Post=[A,lkA lb m deep]):=
   jY.mono hv (fun v Post ⟨d',m',e,_⟩=>by cases e) (fun ch Post hz=>hz.2)
  refine VC.drawZ (fun ch H'=>ch=w9/\∃m,Imp H' [A,lkA lb m deep]) (fun H'=>H'=[kA q 0 [cv y.kind,.string y.name,cv e1,vi e2,uv e3,.string e4,.slice e5 e6 e7,.slice e8 e9 e10,.slice e11 e12 e13,.slice e14 e15 e16,vi e17],A,lkA lb (mB||mm) deep]) rfl ?_ (fun ch H' hp=>?_)
  ·intro rs hrs;rcases Q4.1 hrs with rfl|hrs
   ·skip
    refine kH ?_;refine kH ?_;refine⟨rfl,.agg #[cv y.kind,.string y.name,cv e1,vi e2,uv e3,.string e4,.slice e5 e6 e7,.slice e8 e9 e10,.slice e11 e12 e13,.slice e14 e15 e16,vi e17],True,fun Γ H hΓ hH=>?_,?_⟩
    ·subst hH;exact st_loadM (hΓ 10 Zd _ rfl) Zab Zaf
    refine kH ?_;refine⟨rfl,vi (argS sel),True,fun Γ H hΓ hH=>?_,?_⟩
    ·subst hH;exact kV (argument_spec sel hsel) (by simp only[V.evs,V.ev,hΓ 38 Zd _ rfl]) Zaf
    refine⟨rfl,vi 0,False,fun Γ H hΓ hH=>?_,?_⟩
    ·subst hH;refine kJ hvz Zao ZP (fun v Post hv=>hv.elim) (fun ch Post hz=>?_);obtain⟨rfl,m,rfl⟩:=hz;exact⟨rfl,m,ZI⟩
    refine⟨rfl,vi d,True,fun Γ H hΓ hH=>?_,?_⟩
    ·subst hH;exact st_max (a:=d) (b:=0) (by simp only[V.ev,hΓ 35 Zd _ rfl]) (by simp only[V.ev,hΓ 40 Zd _ rfl];rfl) (VO.nil ⟨by rw[Nat.max_zero],rfl,trivial⟩)
    refine kH ?_;exact fun hh=>by simp at hh
   rcases Q4.1 hrs with rfl|hrs
   ·skip
    refine kH ?_;refine kH ?_;refine kH ?_;refine⟨rfl,vi (argS sel),True,fun Γ H hΓ hH=>?_,?_⟩
    ·subst hH;exact kV (argument_spec sel hsel) (by simp only[V.evs,V.ev,hΓ 38 Zd _ rfl]) Zaf
    refine⟨rfl,.agg #[cv y.kind,.string y.name,cv e1,vi e2,uv e3,.string e4,.slice e5 e6 e7,.slice e8 e9 e10,.slice e11 e12 e13,.slice e14 e15 e16,vi e17],True,fun Γ H hΓ hH=>?_,?_⟩
    ·subst hH;exact st_loadM (hΓ 10 Zd _ rfl) Zab Zaf
    refine⟨rfl,vi 0,False,fun Γ H hΓ hH=>?_,?_⟩
    ·subst hH;refine kJ hvz Zao ZP (fun v Post hv=>hv.elim) (fun ch Post hz=>?_);obtain⟨rfl,m,rfl⟩:=hz;exact⟨rfl,m,ZI⟩
    refine⟨rfl,vi d,True,fun Γ H hΓ hH=>?_,?_⟩
    ·subst hH;exact st_max (a:=d) (b:=0) (by simp only[V.ev,hΓ 35 Zd _ rfl]) (by simp only[V.ev,hΓ 40 Zd _ rfl];rfl) (VO.nil ⟨by rw[Nat.max_zero],rfl,trivial⟩)
    refine kH ?_;exact fun hh=>by simp at hh
   ·cases hrs
  ·obtain⟨rfl,m,hi⟩:=hp;exact⟨_,hi,hnone,rfl,m,rfl⟩):P:=h
theorem zA3 {P:Prop}(h:P:=by
 refine GOH ?_;refine kZ Zr (fun z hz=>by simp only[vz,Q1];simp[hym z hz]) hyl ?_;refine GOH ?_;refine kM hFf Zr ZP (fun v Post hv=>?_);obtain⟨rfl,rfl⟩:=hv;simp only[CNx];refine GOH ?_;refine st_slcL1 Zr Zr (l:=1) rfl Zo ?_;refine GOH ?_;refine kM hAf Zr ZP (fun v Post hv=>?_);obtain⟨rfl,rfl⟩:=hv;simp only[CNx];refine GOH ?_;rw[show(if(dA:Int) > (dF:Int)then(dA:Int)else(dF:Int))=((max dF dA:Nat):Int) by split <;> omega];refine⟨⟨max dF dA,mF||mA,⟨#[]⟩,lk,ln,lbt,lt,la,items.length,lc,aa,args.length,ac,ta,temps.length,tc⟩,?_,ZU,?_⟩
 ·rw[hR4,hf,hal2];simp[wa.ok,kP,bothR,har,litZ,Lt.kind,Lt.n,Lt.bits,Lt.text,Lt.items,show(⟨#[]⟩:ByteArray).size=0 from rfl];simp only[and_assoc]
 ·simp only;rw[<- vM];show Imp _ [A,lkA lb (m0||mF||mA) deep,kA r 0 [cv 4,.string ⟨#[]⟩,cv lk,vi ln,uv lbt,.string lt,.slice la items.length lc,.slice aa args.length ac,.slice ta temps.length tc,.slice none 0 0,vi p]];exact IMx):P:=h
theorem zA4 {P:Prop}(h:P:=by
 refine GOH ?_;refine kJ hall Zr ZP (fun v Post hv=>?_) (fun ch Post hz=>?_);rotate_left
 ·obtain⟨q1,e1,p1,hb1,rfl,rfl⟩:=hz;rw[hfa]at hb1;cases hb1
 obtain⟨us4,usp4,U4,V4,T4,B4,⟨hS4,hpU4,hpV4,rows,sp4,B5,hsl4,hrows4,rfl⟩,rfl⟩:=hv;simp only[CNx];obtain⟨w4,hw4,hwq4⟩:∃w,U4[st.outer.length]? =some w/\w.q=q:=unit_of rfl (by
  obtain⟨t,ht⟩:=hpU4;have h1:(U3.map UC.q)[st.outer.length]? =some q:=by rw[hq3,hq2];exact hq1
  rw[<- ht,V7 (Vd.1 h1).1];exact h1)
 obtain⟨Rb,hpb,hrb⟩:=wk_body (V:=V4) hw4
 replace hpb:(WK U4 V4).Perm (kA q 8 [w4.body]++Rb):=by rw[<- hwq4];exact hpb
 replace hrb:∀bv,(WK (U4.set st.outer.length {w4 with body:=bv}) V4).Perm (kA q 8 [bv]++Rb):=fun bv=>by rw[<- hwq4];exact hrb bv
 obtain⟨va,vc,rfl⟩:=hsl4.form;refine VO.imp (H':=[kA q 8 [w4.body],Rb,kA k9 0 [kE q],kA X.wq 0 [.map (some X.fb),.map (some X.gb),us4],slA us4 (U4.map fun u=>kK (some u.q)) usp4,[.obj X.fb (.map X.fes X.fc)],[.obj X.gb (.map X.ges X.gc)],T4,[.obj b (.map es c)],X.S,slA (.slice va (kR X.F X.G kids (inS args temps p st env o).1 (inS args temps p st env o).2 st.outer.length).1.length vc) rows.flatten sp4++B5]) (Imp.cut (M:=[WK U4 V4,kA k9 0 [kE q],kA X.wq 0 [.map (some X.fb),.map (some X.gb),us4],slA us4 (U4.map fun u=>kK (some u.q)) usp4,[.obj X.fb (.map X.fes X.fc)],[.obj X.gb (.map X.ges X.gc)],T4,[.obj b (.map es c)],X.S,slA (.slice va (kR X.F X.G kids (inS args temps p st env o).1 (inS args temps p st env o).2 st.outer.length).1.length vc) rows.flatten sp4++B5]) ZI (Imp.perm (by
  simp only[vz,V0,vd];rw[<- vZ (kA q 8 [w4.body])];exact vV _ hpb))) ?_
 refine GOH ?_;obtain⟨j1,j2,j3,⟨w5,j4,j5⟩,j6⟩:=hend us4 usp4 U4 V4 T4 rows sp4 B5 va vc w4 hS4 hsl4 hrows4 hw4 hwq4 hpU4 hpV4;refine jI (kG (Post:=[kA X.wq 0 [.map (some X.fb),.map (some X.gb),us4],slA us4 ((U4.set st.outer.length {w4 with body:=.slice va (kR X.F X.G kids (inS args temps p st env o).1 (inS args temps p st env o).2 st.outer.length).1.length vc}).map fun u=>kK (some u.q)) usp4,[.obj X.fb (.map X.fes X.fc)],[.obj X.gb (.map X.ges X.gc)],WK (U4.set st.outer.length {w4 with body:=.slice va (kR X.F X.G kids (inS args temps p st env o).1 (inS args temps p st env o).2 st.outer.length).1.length vc}) V4,T4++(slA (.slice va (kR X.F X.G kids (inS args temps p st env o).1 (inS args temps p st env o).2 st.outer.length).1.length vc) rows.flatten sp4++B5),[.obj b (.map es c)],X.S]) (.inr rfl) (.tmp (v:=kE q) Zr .nil) ⟨us4,usp4,_,V4,_,⟨j1,j2,j3,w5,j4,j5⟩,rfl⟩ ?_);rw[j6];refine Imp.cut (M:=[kA X.wq 0 [.map (some X.fb),.map (some X.gb),us4],slA us4 (U4.map fun u=>kK (some u.q)) usp4,[.obj X.fb (.map X.fes X.fc)],[.obj X.gb (.map X.ges X.gc)],kA q 8 [.slice va (kR X.F X.G kids (inS args temps p st env o).1 (inS args temps p st env o).2 st.outer.length).1.length vc],Rb,T4,slA (.slice va (kR X.F X.G kids (inS args temps p st env o).1 (inS args temps p st env o).2 st.outer.length).1.length vc) rows.flatten sp4++B5,[.obj b (.map es c)],X.S]) ZI (Imp.perm ?_);have h:=fun R=>(vV R (hrb (.slice va (kR X.F X.G kids (inS args temps p st env o).1 (inS args temps p st env o).2 st.outer.length).1.length vc))).symm
 simp only[vZ]at h;simp only[vz,V0,vd,vZ];exact vU _ (vU _ (vU _ (vU _ (h _))))):P:=h
theorem zA5 {P:Prop}(h:P:=by
 refine kH ?_;refine⟨rfl,vi dA,φA,fun Γ H hΓ hH=>?_,?_⟩
 ·obtain⟨mz,hz⟩:=hH;refine VO.imp hz ?_;refine kJ (hAz mz) Zaq ZP (fun v Post hv=>?_) (fun ch Post hz=>?_)
  ·obtain⟨rfl,hφ,m',rfl⟩:=hv;exact VO.nil ⟨rfl,⟨m',Imp.refl _⟩,hφ⟩
  ·obtain⟨rfl,m',rfl⟩:=hz;exact⟨rfl,m',ZI⟩
 refine⟨rfl,vi (max dF dA:Nat),True,fun Γ H hΓ hH=>?_,?_⟩
 ·obtain⟨mz,hz⟩:=hH;refine VO.imp hz ?_;exact st_max Zar Zas (VO.nil ⟨rfl,⟨mz,Imp.refl _⟩,trivial⟩)
 refine kH ?_;exact fun hh=>by
  simp only[true_and,and_true]at hh;rcases hno with h1|h1
  ·exact hFφ hh.1 h1
  ·exact hAφ hh.2 h1):P:=h
theorem zA6 {P:Prop}(h:P:=by
 refine GOH ?_;refine VC.loop (α:=Nat×Nat×Bool) (Γf:=fun s=>[(0,kE lb),(5,kE r),(6,vi s.2.1),(185,.slice a kids.length c),(186,vi kids.length),(187,vi s.1)]) (Hf:=fun z=>[A,lkA lb (mB||z.2.2) deep,kA r 0 [cv 8,.string s,cv lk,vi ln,uv lbt,.string lt,.slice la items.length lc,.slice aa args.length ac,.slice ta temps.length tc,.slice none 0 0,vi p]])
  (I:=fun s=>s.1<=kids.length/\wM ((kids.take s.1).map fun x=>jr x 1 (kO x))=some (s.2.1,s.2.2)) (μ:=fun s=>kids.length - s.1) (0,0,false) ⟨Qf _,rfl⟩ ZU (by show Imp _ [A,lkA lb (mB||false) deep,kA r 0 [cv 8,.string s,cv lk,vi ln,uv lbt,.string lt,.slice la items.length lc,.slice aa args.length ac,.slice ta temps.length tc,.slice none 0 0,vi p]];rw[vQ,hmB0];exact IMx) ?_
 rintro⟨j,d,mm⟩ ⟨i1,i2⟩
 simp only at i1 i2;dsimp only;have hdb:d<=1099511627777:=maxR_le (fun r hr d m e=>by
  obtain⟨y,hy,rfl⟩:=Q9.1 hr;obtain⟨i,hi⟩:=Vg (QA hy);exact valueR_le (hkids.ok i _ hi).2 e) i2
 refine GOH ?_;by_cases hj:j < kids.length;rotate_left
 ·rw[show decide ((j:Int) < (kids.length:Int))=false from Zf Zo];rw[QR Zo]at i2;refine GOH ?_;refine⟨⟨d+1,decide (255 < kids.length)||mm,s,lk,ln,lbt,lt,la,items.length,lc,aa,args.length,ac,ta,temps.length,tc⟩,?_,ZU,?_⟩
  ·simp only[hR8,i2,wV,wo];simp[wa.ok,kP,litZ,Lt.kind,Lt.n,Lt.bits,Lt.text,Lt.items];simp only[and_assoc]
  ·simp only;rw[<- vM,<- hmB];show Imp _ [A,lkA lb (mB||mm) deep,kA r 0 [cv 8,.string s,cv lk,vi ln,uv lbt,.string lt,.slice la items.length lc,.slice aa args.length ac,.slice ta temps.length tc,.slice none 0 0,vi p]];exact IMx
 obtain rfl:=ha Zo;rw[show decide ((j:Int) < (kids.length:Int))=true from Zt Zo];obtain⟨y,hy⟩:∃y,kids[j]? =some y:=⟨_,Zg hj⟩;have hyr:=hr j y hy;have hym:=hm j hj;have hv:=zM A y _ hyr (hkids.ok j y hy) 1 lb (mB||mm) deep;generalize us j=uj at hyr hym hv;obtain⟨e1,e2,e3,e4,e5,e6,e7,e8,e9,e10,e11,e12,e13,e14,e15,e16,e17,rfl,hsz,hkk⟩:=nd_open2 hyr;have htk:kids.take (j+1)=kids.take j++[y]:=by rw[QO,hy];rfl
 refine GOH ?_;refine kZ Zr Zah rfl ?_;refine GOH ?_;refine kL (fun q9=>?_);refine GOH ?_;refine kJ hv Zr ZP (fun v Post hv=>?_) (fun ch Post hz=>?_);rotate_left
 ·obtain⟨hb,rfl,m2,rfl⟩:=hz;have hnone:RR=none:=by
   rw[hR8,maxR_none (Q9.2 ⟨y,Zv hy,hb⟩)];unfold kP;split <;> rfl
  exact⟨[A,lkA lb m2 deep],ZI,hnone,rfl,m2,rfl⟩
 obtain⟨e,m2,he,rfl,rfl⟩:=hv;simp only[CNx];refine GOH ?_;rw[show(if(e:Int) > (d:Int)then(e:Int)else(d:Int))=((max d e:Nat):Int) by split <;> omega];refine⟨(j+1,max d e,mm||m2),⟨by simp only;omega,?_⟩,by simp only;omega,ZU,?_⟩
 ·simp only[htk,Vw,Vy,Q0,he];exact maxR_snoc i2
 ·simp only[vM];exact IMx):P:=h
theorem zA7 {P:Prop}(h:P:=by
 refine GOH ?_;refine kJ (kw false) Zr ZP Zai (fun ch Post hz=>?_);obtain⟨_,rfl,rfl⟩:=hz;exact⟨[A,lkA lb m0 deep],ZI,hnone,rfl,m0,rfl⟩):P:=h
theorem zA8 {P:Prop}(h:P:=by
 refine GOH ?_;refine VC.loop (α:=Nat×Nat×Bool) (Γf:=fun s=>[(0,kE lb),(7,vi s.2.1),(8,kE r),(114,.slice a items.length c),(115,vi items.length),(116,vi s.1)]) (Hf:=fun s=>[A,lkA lb (true||s.2.2) deep,kA r 0 [cv 10,vi n,uv b,.string t,.slice a items.length c]])
  (I:=fun s=>s.1<=items.length/\wM ((items.take s.1).map fun x=>w8 x true)=some (s.2.1,s.2.2)) (μ:=fun s=>items.length - s.1) (0,0,false) ⟨Qf _,rfl⟩ ZU (by rw[vQ];exact IMx) ?_
 rintro⟨j,d,mm⟩ ⟨i1,i2⟩
 simp only at i1 i2;dsimp only;have hmany:=wf.many;simp only[Lt.size]at hbd;have hdb:d<=Lt.sizes items:=maxR_le (fun r hr d m e=>by
  obtain⟨y,hy,rfl⟩:=Q9.1 hr;have h1:=Lt.sizes_mem (QA hy);have h2:=litD_le _ y (QW _) true d m e;omega) i2
 refine GOH ?_;by_cases hj:j < items.length;rotate_left
 ·rw[show decide ((j:Int) < (items.length:Int))=false from Zf Zo];have htk:items.take j=items:=QR Zo;rw[htk,<- litsD_map]at i2;refine GOH ?_;refine⟨⟨d+1,decide (255 < items.length)||mm,n,b,t,.slice none 0 0,0⟩,⟨⟨_,_,rfl⟩,?_⟩,ZU,?_⟩
  ·simp[w8,i2,wo,wV,kP,LitS.ok]
  ·rw[hmm1];exact IMx
 obtain rfl:=ha Zo;rw[show decide ((j:Int) < (items.length:Int))=true from Zt Zo];obtain⟨y,hy⟩:∃y,items[j]? =some y:=⟨_,Zg hj⟩;have hyr:=hr j y hy;have hym:=hm j hj;have hysz:y.size<=N:=by
  have h1:=Lt.sizes_mem (Zv hy);simp only[Lt.size]at hx;omega
 have hy1:=Lt.sizes_mem (Zv hy);have hcall:=ih y hysz Zo _ hyr lb (true||mm) deep true;generalize us j=uj at hyr hym hcall;have hyr2:=hyr;cases hyr2 with
 |@mk k2 n2 b2 t2 items2 a2 c2 bk2 o2 us2 wf2 ha2 hm2 hr2=>
 refine GOH ?_;refine kZ Zr Zah rfl ?_;refine GOH ?_;refine kL (fun q2=>?_);refine GOH ?_;refine kJ hcall Zr ZP (fun v Post hv=>?_) (fun ch Post hz=>?_);rotate_left
 ·obtain⟨hb,rfl,m2,rfl⟩:=hz;have hnone:w8 (.mk 10 n b t items) inside=none:=by
   have h1:wM (litsD items)=none:=by
    rw[litsD_map];exact maxR_none (Q9.2 ⟨_,Zv hy,hb⟩)
   simp[w8,h1,wo,wV,kP]
  exact⟨[A,lkA lb m2 deep],ZI,hnone,rfl,m2,rfl⟩
 obtain⟨e,m2,he,rfl,rfl⟩:=hv;simp only[CNx];have htk:items.take (j+1)=items.take j++[.mk k2 n2 b2 t2 items2]:=by rw[QO,hy];rfl
 refine GOH ?_;rw[show(if(e:Int) > (d:Int)then(e:Int)else(d:Int))=((max d e:Nat):Int) by split <;> omega];refine⟨(j+1,max d e,mm||m2),⟨by simp only;omega,?_⟩,by simp only;omega,ZU,?_⟩
 ·simp only[htk,Vw,Vy,Q0,he];exact maxR_snoc i2
 ·simp only[vM];exact IMx):P:=h
theorem zA9 {P:Prop}(h:P:=by
 have hseen:s1=seen:=by rw[hs1d];rfl
 refine GOH ?_;refine wP (E:=zX) (V:=fun n:Nat=>.int .i64 n) (k:=s) Zr Zr rfl Zay hH1 ?_;rw[lookN];generalize hgn:(kq s mH).getD 0=gn at hgs;refine GOH ?_;by_cases g0:gn=0
 ·rw[show decide ((gn:Int)=0)=true from Zt Zo];refine GOH ?_;refine wP (E:=zX) (V:=fun n:Nat=>.int .i64 n) (k:=s) Zr Zr rfl Zay hM1 ?_;rw[lookN];generalize hgm:(kq s mM).getD 0=gm at hms;refine GOH ?_;by_cases g1:gm=0
  ·rw[show decide ((gm:Int)=0)=true from Zt Zo];refine GOH ?_;refine wP (E:=zX) (V:=fun n:Nat=>.int .i64 n) (k:=s) Zr Zr rfl Zay hM1 ?_;rw[lookN,hgm];refine GOH ?_;refine wO (E:=zX) (V:=fun n:Nat=>.int .i64 n) (k:=s) (v:=gm+1) Zr Zr Zr rfl ZK hM1 (fun es' c' hes'=>?_);refine GOH ?_;refine j9 (out:=[.string s]) Zr Zr (fun qb=>?_);refine GOH ?_;refine jF (k:=out.length) (m:=1) (xs:=out.map Value.string) (sp:=sp) (ys:=[.string s]) Zr Zr hsl ZK Zr ?_ rfl Zr Zr Zd Zo (fun sv' sp' hsl'=>?_)
   ·exact Zal
   have ho1:o1=out++[s]:=by rw[ho1d,if_pos ⟨Zs,(hms.1 g1).1,hgs.1 g0,(hms.1 g1).2⟩]
   have hsl2:jC 1 sv' o1.length (o1.map Value.string) sp':=by rw[ho1];simpa using hsl'
   obtain⟨sa',sc',rfl⟩:=hsl'.form;refine GOH ?_;refine⟨(es',c',.slice sa' (out.length+1) sc',sp',hb,hes,hc,[]),⟨⟨⟨_,hes',by rw[ho1];exact met_put hM2⟩⟩,?_,hsl2,Zs⟩,ZU,?_⟩
   ·rw[hseen];exact hheld
   ·dsimp only;rw[ho1,Vw,Vy,Q0];exact IMx
  ·rw[show decide ((gm:Int)=0)=false from Zf Zo];refine GOH ?_;have ho1:o1=out:=by rw[ho1d,if_neg (fun c=>g1 (hms.2 ⟨c.2.1,c.2.2.2⟩))]
   refine⟨(mes,mc,.slice sa out.length sc,sp,hb,hes,hc,[]),⟨by rw[ho1];exact hmet,?_,by rw[ho1];exact hsl,Zs⟩,ZU,?_⟩
   ·rw[hseen];exact hheld
   ·dsimp only;rw[ho1];exact IMx
 ·rw[show decide ((gn:Int)=0)=false from Zf Zo];refine GOH ?_;have ho1:o1=out:=by rw[ho1d,if_neg (fun c=>g0 (hgs.2 c.2.2.1))]
  refine⟨(mes,mc,.slice sa out.length sc,sp,hb,hes,hc,[]),⟨by rw[ho1];exact hmet,?_,by rw[ho1];exact hsl,Zs⟩,ZU,?_⟩
  ·rw[hseen];exact hheld
  ·dsimp only;rw[ho1];exact IMx):P:=h
theorem zAA {P:Prop}(h:P:=by
 refine GOH ?_;refine kV (arity_spec sel hsel) Zr ?_;refine GOH ?_;rw[hb1];refine GOH ?_;rw[hb2];refine GOH ?_;rw[hb3];refine GOH ?_;refine kM ((kw true).mono (Z':=fun _ _=>False) (fun v Post h=>h) Zaj).fun Zr ZP (fun v Post hv=>?_);obtain⟨_,rfl,rfl⟩:=hv;simp only[QD];refine GOH ?_;refine kJ (names_spec A _ args hav lb 15 false false) Zr ZP (fun v Post hv=>?_) (fun ch Post hz=>?_);rotate_left
 ·obtain⟨hb,rfl,m2,rfl⟩:=hz;exact⟨[lkA lb m2 false,A],by simp only[CNx];exact IMx,rfl,m2,false,[A],rfl,by simp[hm,kP,wn,hb],rfl⟩
 obtain⟨hf1,rfl,rfl⟩:=hv;rw[vJ];obtain⟨m1,hm1⟩:∃m1,m1=decide (15 < args.length):=⟨_,rfl⟩;rw[<- hm1];simp only[CNx];refine GOH ?_;refine kJ (names_spec A _ temps htv lb 63 m1 false) Zr ZP (fun v Post hv=>?_) (fun ch Post hz=>?_);rotate_left
 ·obtain⟨hb,rfl,m2,rfl⟩:=hz;have hnone:RR=none:=by
   simp only[hm,wn,hb];simp[kP,wo]
  exact⟨[lkA lb m2 false,A],by simp only[CNx];exact IMx,rfl,m2,false,[A],rfl,hnone,rfl⟩
 obtain⟨hf2,rfl,rfl⟩:=hv;obtain⟨m2,hm2⟩:∃m2,m2=(m1||decide (63 < temps.length)):=⟨_,rfl⟩;rw[<- hm2];simp only[CNx];refine GOH ?_;refine kJ (statements_spec A body a c bk o us hkids lb m2 false) Zr ZP (fun v Post hv=>?_) (fun ch Post hz=>?_);rotate_left
 ·obtain⟨hb,rfl,m3,rfl⟩:=hz;have hnone:RR=none:=by
   simp only[hm,wn,hb,wo];simp[kP]
  exact⟨[lkA lb m3 false,A],by simp only[CNx];exact IMx,rfl,m3,false,[A],rfl,hnone,rfl⟩
 obtain⟨d,m3,he,rfl,rfl⟩:=hv;simp only[CNx];refine GOH ?_;refine jI (kG (Post:=[lkA lb (m2||m3) (decide ((d:Int) > 40)),A]) (.inl rfl) .nil ⟨m2||m3,_,[A],rfl,⟨d,?_,decide_eq_decide.2 Zo⟩,rfl⟩ ZI);simp only[hm,wn,hf1,hf2,he,wo,kP,if_true,hm2,hm1,vM]):P:=h
theorem zAB {P:Prop}(h:P:=by
 refine jU ?_;refine kJ (kw false) Zr ZP Zai (fun ch Post hz=>?_);obtain⟨_,rfl,rfl⟩:=hz;exact⟨[A,lkA lb (m0||mm) deep],ZI,if_neg hno,rfl,_,rfl⟩):P:=h
theorem zAC {P:Prop}(h:P:=by
 refine kH ?_;refine⟨rfl,.tuple #[],False,fun Γ H hΓ hH=>?_,?_⟩
 ·subst hH;refine kJ (kw false) Zau Spl.nil Zai (fun ch Post hz=>?_);obtain⟨_,rfl,rfl⟩:=hz;exact⟨rfl,by simp only[QD];exact Imp.refl _⟩
 exact fun hh=>by simp at hh):P:=h
theorem zAD {P:Prop}(h:P:=by
 have key:∀(s:List Nat),s.Sublist l->zE (fun x y=>!((ancs ops).getD x []).contains y) s=true:=by
  intro s
  induction s with
  |nil=>intro _;rfl
  |cons x s ih=>
   intro hs;simp only[zE,vF,vX,vK];refine⟨fun y hy=>?_,ih ((QN x s).trans hs)⟩;have h2:[x,y].Sublist l:=(List.Sublist.cons_cons x (List.singleton_sublist.2 hy)).trans hs;have b1:=sub_bef s1 h2;cases hcc:((ancs ops).getD x []).contains y with
   |false=>rfl
   |true=>
    have b2:=hanc ((hmem x).1 b1.1) (vg.1 hcc);have:=b1.2.2;have:=b2.2.2;omega
 exact key _ List.filter_sublist):P:=h
theorem zAE {P:Prop}(h:P:=by
 obtain⟨mz,hz⟩:=hH;refine VO.imp hz ?_;refine kJ (hFz mz) Zap ZP (fun v Post hv=>?_) (fun ch Post hz=>?_)
 ·obtain⟨rfl,hφ,m',rfl⟩:=hv;exact VO.nil ⟨rfl,⟨m',Imp.refl _⟩,hφ⟩
 ·obtain⟨rfl,m',rfl⟩:=hz;exact⟨rfl,m',ZI⟩):P:=h
theorem zAF {P:Prop}(h:P:=by
 refine GOH ?_;refine⟨_,hout,by simp only;omega,ZU,?_⟩;simp only;refine Imp.cut (M:=[kA q13 0 [.int .u8 (speK s:Nat),.string (speN s),.int .u8 0,.int .i64 0,.int .u64 0,.string e0,.slice none 0 0,.slice none 0 0,.int .i64 0,.bool false,.slice none 0 0,.slice pa pts.length pc,.slice sa' (j+1) sc'],kA q12 0 [.int .u8 0,.string e0,.int .u8 0,.int .i64 0,.int .u64 0,.string e0,.slice none 0 0,.slice none 0 0,.int .i64 0,.bool false,.slice none 0 0,.slice none 0 0,.slice none 0 0],kA X.wq 0 [.map (some X.fb),.map (some X.gb),us2q],slA us2q (U2.map fun u=>kK (some u.q)) usp2,[.obj X.fb (.map X.fes X.fc)],[.obj X.gb (.map X.ges X.gc)],WK U2 V2,T2,[.obj b (.map es c)],X.S,slA (.slice sa' (j+1) sc') (rows++[([.int .u8 pn.kind,.string pn.name,.int .u8 f1,.int .i64 f2,.int .u64 f3,.string f4,.slice f5 f6 f7,.slice r1 r2 r3,.int .i64 pn.unit,.bool pn.super,.slice none 0 0,.slice p1 p2 p3,.slice k1 k2 k3]:List Value)]).flatten sp',B,slA (.slice pa pts.length pc) (pts.map fun b=>kK (some b)) vsp,B2]) ZI (Imp.perm ?_);simp only[vz,V0,vd,vZ]
 repeat (first|exact vU _ QH|refine vU _ ?_)):P:=h
theorem zAG {P:Prop}(h:P:=by
 refine GOH ?_;refine kM (cloneTexts_spec S (.slice aa args.length ac) args hav) Zr ZP (fun v Post hv=>?_);obtain⟨B,⟨sp0,hs0,rfl,_,_⟩,rfl⟩:=hv;obtain⟨va,vc,rfl⟩:=hs0.form;simp only[CNx];refine GOH ?_;refine st_appendT (k:=args.length) (xs:=args.map Value.string) (sp:=sp0) (l:=temps) Zr Zr hs0 ZK htv (fun y hy=>by simp[hy]) Zo (fun sv' sp' hg=>?_);obtain⟨xa,xc,rfl⟩:=hg.form;refine GOH ?_;refine⟨(.slice xa (args.length+temps.length) xc,slA (.slice xa (args.length+temps.length) xc) (args.map Value.string++temps.map Value.string) sp'),⟨xa,xc,by rw[hnl],?_⟩,ZU,ZI⟩;have hto:TxOwn (.slice xa (args.length+temps.length) xc) (args++temps) (slA (.slice xa (args.length+temps.length) xc) (args.map Value.string++temps.map Value.string) sp'):=by
  refine⟨sp',by rw[Vj,Vw];exact hg,by rw[Vw],by rw[Vj];omega,fun t ht=>?_⟩;rcases Q1.1 ht with ht|ht
  ·obtain⟨i,hi⟩:=Vg ht;obtain⟨_,_,_,_,g⟩:=hav2 i t hi;exact g
  ·obtain⟨i,hi⟩:=Vg ht;obtain⟨_,_,_,_,g⟩:=htv2 i t hi;exact g
 exact hto.rd):P:=h
theorem zAH {P:Prop}(h:P:=by
 refine GOH ?_;refine kJ hv Zr ZP (fun v Post hv=>?_) (fun ch Post hz=>?_);rotate_left
 ·obtain⟨hb,rfl,m2,rfl⟩:=hz;exact⟨[A,lkA lb m2 deep],ZI,maxR_none (by rw[<- hb];exact Zv hget),rfl,m2,rfl⟩
 obtain⟨e,m2,he,rfl,rfl⟩:=hv;simp only[CNx];refine GOH ?_;rw[show(if(e:Int) > (d:Int)then(e:Int)else(d:Int))=((max d e:Nat):Int) by split <;> omega];refine⟨(j+1,max d e,mm||m2),⟨by simp only;omega,?_⟩,by simp only;omega,ZU,?_⟩
 ·simp only;rw[QO,hget,he];exact maxR_snoc i2
 ·simp only[vM];exact IMx):P:=h
theorem zAI {P:Prop}(h:P:=by
 have hol:o.Subset l:=fun x hx=>(hmem x).2 (o3 x hx)
 have hno:=nodupB_spec o2;have hl':l.length=ops.size:=by
  have:l.Perm (List.range ops.size):=(QJ s1 QG).2 (fun x=>by simp[hmem]);simpa using this.length_eq
 have hor:o.Perm (List.range ops.size):=by
  refine(QJ hno QG).2 (fun x=>?_);refine⟨fun hx=>by simpa using o3 x hx,fun hx=>?_⟩;exact mem_of_full hno o3 o1 (by simpa using hx)
 exact hor.trans ((QJ s1 QG).2 (fun x=>by simp[hmem])).symm):P:=h
theorem zAJ {P:Prop}(h:P:=by
 refine GOH ?_;refine jI ⟨.inr rfl,_,[kA X.wq 0 [.map (some X.fb),.map (some X.gb),us4],slA us4 (U4.map fun u=>kK (some u.q)) usp4,[.obj X.fb (.map X.fes X.fc)],[.obj X.gb (.map X.ges X.gc)],WK U4 V4,T4,[.obj b (.map es c)],X.S,slA (.slice va (kR X.F X.G kids D2.1 D2.2 i).1.length vc) rows.flatten sp4++(B5++slA (.slice tva ps2.length tvc) (ps2.map fun b=>kK (some b)) tsp)],.cellN (us:=ja (.slice tva ps2.length tvc) (.slice va (kR X.F X.G kids D2.1 D2.2 i).1.length vc)) Zr Zr (fun y hy=>by simp only[vz,Q1];repeat (first|exact Or.inl hy|refine Or.inr ?_)) (.tmp Zr .nil),?_,⟨us4,usp4,U4,V4,T4,_,⟨hS4,by rw[<- hqq];exact hpU4,(hp2.trans hp3).trans hpV4,hinl⟩,rfl⟩⟩;refine Imp.cut (M:=[kA X.wq 0 [.map (some X.fb),.map (some X.gb),us4],slA us4 (U4.map fun u=>kK (some u.q)) usp4,[.obj X.fb (.map X.fes X.fc)],[.obj X.gb (.map X.ges X.gc)],WK U4 V4,T4,[.obj b (.map es c)],X.S,slA (.slice va (kR X.F X.G kids D2.1 D2.2 i).1.length vc) rows.flatten sp4++B5,slA (.slice tva ps2.length tvc) (ps2.map fun b=>kK (some b)) tsp]) ?_ (Imp.perm Zs);exact IMx):P:=h
theorem zAK {P:Prop}(h:P:=by
 refine GOH ?_;refine kJ (kw _) Zr ZP (fun v Post hv=>?_) (fun ch Post hz=>?_);rotate_left
 ·obtain⟨hb,rfl,rfl⟩:=hz;exact⟨[A,lkA lb m0 deep],ZI,by first|(simp[w8,kP,hb];done)|(simp at hb;simp[w8,kP,hb];done)|(simp at hb;simp[w8,kP];omega),rfl,m0,rfl⟩
 obtain⟨hb,rfl,rfl⟩:=hv;simp only[QD];refine GOH ?_;refine⟨⟨0,false,n,b,t,_,_⟩,⟨⟨_,_,rfl⟩,?_⟩,ZU,by rw[vQ];exact IMx⟩;simp[w8,kP,LitS.ok,hb]):P:=h
theorem zAL {P:Prop}(h:P:=by
 refine GOH ?_;rw[<- hB];refine kM (used_spec st U Vs hR i v u y hu hy (hln v hg3) hb) Zr ZP (fun r Post hr=>?_);obtain⟨U',Vs',⟨rfl,h6,h7,h7b,h8⟩,rfl⟩:=hr;simp only[CNx];have hqo:qOf Vs' v=qOf Vs v:=by
  have e1:=congrArg (fun l=>l[v]?) h8;simp only[Ve]at e1;unfold qOf;rw[V5,V5];cases e2:Vs'[v]? <;> cases e3:Vs[v]? <;> rw[e2,e3]at e1 <;> simp_all
 refine GOH ?_;rw[refS_var hk hfe hcond];have hout:refOut Vs' (rawR v)=.tuple #[.agg rz.toArray,kE y.q]:=by
  unfold refOut rawR;simp only[if_true];rw[show((v:Nat):Int).toNat=v from rfl,hqo,<- hyq];rfl
 exact jI ⟨.inr rfl,_,[kA wq 0 [.map (some fb),.map (some gb),us],[.obj fb (.map fes fc)],[.obj gb (.map ges gc)],WK U' Vs',[.obj b (.map es c)]],.cellN (us:=rz) Zr Zr Zak (.tmp Zr .nil),ZI,U',Vs',⟨hf,hout.symm,h6,h7,h7b,h8⟩,rfl⟩):P:=h
theorem zAM {P:Prop}(h:P:=by
 refine GOH ?_;rw[show decide (r.index < 0)=false from Zf Zo];refine GOH ?_;refine kZ (us:=ws o') Zr (fun u hu=>by have:=hzm u hu;simp only[vz,Q1];simp[this]) hzl ?_;refine GOH ?_;refine kM hzf Zr ZP (fun v Post hv=>?_);obtain⟨rfl,rfl⟩:=hv;simp only[CNx];refine GOH ?_;rw[show decide (r.index ≥ z.frame)=false from Zf Zo];refine GOH ?_;exact⟨(),trivial,ZU,ZI⟩):P:=h
theorem zAN {P:Prop}(h:P:=by
 refine(pairsAll_spec hpo).imp_of_mem (fun {x y} hx hy h=>?_);simp only[vO]at h;rcases h with(h|h)|h
 ·left;simp only[indepAt]at h;split at h
  ·rename_i p q hp hq;simp only[V5,hp,hq,Qi];exact h
  ·cases h
 ·right;exact(hanc (o3 y hy) (vg.1 h)).sub
 ·right;exact(befB_sub h).trans List.filter_sublist):P:=h
theorem zAO {P:Prop}(h:P:=by
 rw[V6]at hy hs;rw[h.len]at hs;split at hy
 ·rename_i hi;rw[if_pos hi]at hs;exact h.rd i y s hy hs
 ·rename_i hi;rw[if_neg hi]at hs;have:=(Vd.1 hy).1;simp only[Vu]at this;have e:i - l.length=0:=by omega
  rw[e]at hy hs;obtain rfl:x=y:=by simpa using hy
  obtain rfl:r=s:=by simpa using hs
  exact hx):P:=h
theorem zAP {P:Prop}(h:P:=by
 refine GOH ?_;exact⟨(),trivial,ZU,ZI⟩):P:=h
theorem zAQ {P:Prop}(h:P:=by
 obtain⟨_,h2⟩:=look_argsEnv e;simp only[Nat.sub_zero]at h2;have hlt:t < args.length:=(Vd.1 h2).1;simp only[Array.getElem?_append,List.size_toArray,hlt,if_true];simpa using h2):P:=h
theorem zAR {P:Prop}(h:P:=by
 rintro e w' ⟨Post,h5,hs',hk⟩
 have hs2:Sat w' ((Post++R).flatten++F):=by rw[vy,vZ];exact hs'
 rcases h5 with⟨v,rfl,hQ⟩|⟨ch,rfl,hQ⟩
 ·refine .inl ⟨v,rfl,?_⟩;rw[<- g2];exact h v Post hQ l' hl' _ w' F ZZ Q' (ha.putE g3 v) hs2 (fun a2 w2 Γ2 H2 k1 k2 k3 k4 k5=>hq a2 w2 Γ2 H2 k1 k2 (k3.trans (jV ..)) k4 (hk.trans k5)) (fun ch a2 w2 Γ2 H2 k1 k2 k3 k4 k5=>hz ch a2 w2 Γ2 H2 k1 k2 (k3.trans (jV ..)) k4 (hk.trans k5))
 ·exact .inr ⟨ch,rfl,hz ch a w' Γ _ (hz' ch Post hQ) ha rfl hs2 hk⟩):P:=h
theorem zAS {P:Prop}(h:P:=by
 rw[<- vZ,<- vZ];exact vV _ QH):P:=h
theorem zAT {P:Prop}(h:P:=by
 refine GOH ?_;have hr:=refS_kw (F:=F) (G:=G) (st:=st) (env:=env) (nm:=nm) (u:=i) (p:=p) (put:=decide (k=3)) (by rw[hk];decide);rw[hr,hk];exact jI ⟨.inr rfl,_,[kA wq 0 [.map (some fb),.map (some gb),us],[.obj fb (.map fes fc)],[.obj gb (.map ges gc)],WK U Vs,[.obj b (.map es c)]],.cellN (us:=jG ⟨1,0,0,e0⟩) Zr Zr (fun y hy=>by simp only[vz,Q1];exact .inl hy) (.tmp Zr .nil),ZI,U,Vs,⟨hf,rfl,hR,rfl,rfl,rfl⟩,rfl⟩):P:=h
theorem zAU {P:Prop}(h:P:=by
 generalize signL (kF s)=z at har|-;refine GOH ?_;by_cases he:z=(kF s).length
 ·rw[Zt (show((z:Nat):Int)=(s.size:Int) by omega)];rw[if_pos he]at har;refine GOH ?_;rw[har];exact⟨.inr rfl,[vi 1],[],.cell1 (v:=vi 1) Zr Zan .nil,Imp.nil,⟨rfl,rfl⟩⟩
 ·rw[Zf (show ¬((z:Nat):Int)=(s.size:Int) by omega)];rw[if_neg he]at har;refine GOH ?_;rw[har];exact⟨.inr rfl,[vi (-1)],[],.cell1 (v:=vi (-1)) Zr Zan .nil,Imp.nil,⟨rfl,rfl⟩⟩):P:=h
theorem zAV {P:Prop}(h:P:=by
 subst hH;exact st_eqI (hΓ 5 Zd _ rfl) (hΓ 8 Zd _ rfl) (by simp only[hb1]) (VO.nil ⟨rfl,rfl,trivial⟩)):P:=h
theorem zAW {P:Prop}(h:P:=by
 refine GOH ?_;refine kM hc Zr ZP (fun v Post hv=>?_);obtain⟨rfl,rfl⟩:=hv;simp only[CNx];refine GOH ?_;refine kJ (kw _) Zr ZP (fun v Post hv=>?_) (fun ch Post hz=>?_)
 ·obtain⟨h1,rfl,rfl⟩:=hv;simp only[QD];refine GOH ?_;exact jI (kG (Post:=[B,lkA lb true deep]) (.inl rfl) .nil ⟨by simpa using h1,rfl,rfl⟩ ZI)
 ·obtain⟨h1,rfl,rfl⟩:=hz;exact⟨[B,lkA lb true deep],ZI,by simpa using h1,rfl,true,rfl⟩):P:=h
theorem zAX {P:Prop}(h:P:=by
 rintro Post rfl
 refine⟨.inr rfl,[.agg #[.string e0,.int .i64 0,.slice none 0 0],.iface 80 (kE q)],[S,jJ q e p],.cellN (us:=[.string e0,.int .i64 0,.slice none 0 0]) Zr Zr (fun y hy=>by simp only[vf,QD,vz,Q1];repeat (first|exact Or.inl hy|refine Or.inr ?_)) (.cell1 Zr (by simp[kA,failV]) .nil),by simp only[CNx];exact IMx,.inr ⟨e,p,q,hans.trans hae,he0,rfl,rfl⟩⟩):P:=h
theorem zAY {P:Prop}(h:P:=by
 refine GOH ?_;refine st_bin Zr Zr hcat ?_;refine GOH ?_;refine⟨.inr rfl,_,_,.cellN (us:=[cv 5,vi 0,uv 0,.string (⟨#[45]⟩++t),.slice none 0 0]) Zr Zr Zag .nil,ZI,.inr ⟨hns,_,rfl,by rw[bytesN_append];rfl⟩,rfl⟩):P:=h
theorem zAZ {P:Prop}(h:P:=by
 simp only[unl];refine vt.2 (fun i hi=>?_);have:=QB.1 hi;simp[this]):P:=h
theorem zB0 {P:Prop}(h:P:=by
 refine GOH ?_;refine kG (Post:=[]) (.inr rfl) (.tmp Zr .nil) ⟨by rw[hf];rfl,rfl⟩ ZI):P:=h
theorem zB1 {P:Prop}(h:P:=by
 refine VO.read rfl rfl (fun ρ hρ=>⟨_,rfl,fun F w hs=>?_⟩) h;rw[hρ _ _ hx,hρ _ _ hy];have hm:∀c∈H.flatten,c∈H.flatten++F:=fun c hc=>Zw _ hc
 have:=run_eqptr (P:=P) hs ht hi hz (ha.more hm) (hb.more hm) 9999;have h2:(Op.equal t (.pointer (some ⟨a,0,none⟩)) (.pointer (some ⟨b,0,none⟩))).run P w=.ok (decide (a=b)) w:=this;rw[Sem.run_bind,run_eqGuard_of Zs Zs];simp[Go.binOp,h2]):P:=h
theorem zB2 {P:Prop}(h:P:=by
 have p0:=wg e0;have p1:=wg e1;have p2:=wg e2;have p3:=wg e3;have p4:=wg e4;obtain⟨a0,a1,a2,a3,a4,rfl⟩:∃a0 a1 a2 a3 a4,cs=[a0,a1,a2,a3,a4]:=by
  match cs,hlen with
  |[a0,a1,a2,a3,a4],_=>exact⟨a0,a1,a2,a3,a4,rfl⟩
 simp only[VV,V9,Qo]at p0 p1 p2 p3 p4;rw[p0,p1,p2,p3,p4,hl]):P:=h
theorem zB3 {P:Prop}(h:P:=by
 have hzl:(rs.zip ops.toList).length=ops.size:=by simp[hlen]
 apply vm;intro i;simp only[Ve];by_cases hi:i < ops.size
 ·rw[List.getElem?_range hi,Qm];rw[V5];have:i < (rs.zip ops.toList).length:=by omega
  rw[Zg this];rfl
 ·rw[Vb (l:=List.range ops.size) (by simpa using hi),Vb Zo];rfl):P:=h
theorem zB4 {P:Prop}(h:P:=by
 have hf:jB (jM s)=1:=by rw[h];rfl
 have e1:speK s=11:=by simp[speK,h]
 have e2:speN s=s:=by simp[speN,h]
 rw[e1,e2];rw[show decide ((jB (jM s):Int)=0)=false from Zf Zo];refine GOH ?_;rw[show decide (s=⟨#[116,111,58,100,111,58]⟩)=false from Zf (fun e=>by have:=hto.1 e;omega)];refine GOH ?_;exact⟨(),trivial,ZU,by simp only[e0];exact Imp.refl _⟩):P:=h
theorem zB5 {P:Prop}(h:P:=by
 intro k
 induction k with
 |zero=>intro i acc w1 r w2 h;simp[loadCellsFrom]at h;exact h.2.symm
 |succ k ih=>
  intro i acc w1 r w2 h;simp only[loadCellsFrom,Sem.run_bind]at h;obtain⟨v,w3,h1,h2⟩:=kn h;have hw:w3=w1:=by
   simp only[Go.load,Sem.run]at h1;split at h1
   ·cases h1;rfl
   ·split at h1 <;> cases h1;rfl
  rw[ih _ _ _ _ _ h2,hw]):P:=h
theorem zB6 {P:Prop}(h:P:=by
 rintro e w' ⟨rfl,rfl⟩
 have hp:=Sat.push hs (.map es c) [.obj w.heap.size (.map es c)] (fun x hx=>by
  obtain rfl:=QC.1 hx;exact⟨rfl,Zs,rfl⟩) Zs
 refine⟨_,_,rfl,⟨_,rfl,rfl⟩,?_,hp.2⟩;refine hp.1.perm ?_;simp only[vz,V0,vd,vf,QD];exact List.Perm.swap _ _ _):P:=h
theorem zB7 {P:Prop}(h:P:=by
 refine(QJ (s1.filter _) (nodupB_spec hd)).2 (fun x=>?_);simp only[Q7,hmem,vg];exact⟨fun h=>h.2,fun h=>⟨hdlt x h,h⟩⟩):P:=h
theorem zB8 {P:Prop}(h:P:=by
 intro x hx;obtain⟨i,hi⟩:=Vg hx;have hi2:i < (rs.zip ops.toList).length:=(Vd.1 hi).1;have hi3:i < ops.size:=by simp[hlen]at hi2;omega
 obtain⟨g1,g2,g3⟩:=wd h1 hi3;have:(rs.zip ops.toList).getD i default=x:=by rw[V5,hi];rfl
 rw[this]at g3;exact⟨ops,g3⟩):P:=h
theorem zB9 {P:Prop}(h:P:=by
 exact⟨.inr rfl,[vi (-1)],[],.cell1 (v:=vi (-1)) Zr Zan .nil,Imp.nil,⟨rfl,rfl⟩⟩):P:=h
theorem zBA {P:Prop}(h:P:=by
 subst hH;exact st_gt (hΓ 10 Zd _ rfl) (st_leI rfl (hΓ 12 Zd _ rfl) (by simp only[hb2]) (VO.nil ⟨rfl,rfl,trivial⟩))):P:=h
theorem zBB {P:Prop}(h:P:=by
 show jq P ZZ (⟨d,some (s,b),r⟩,o) (wpR P ZZ Q l') a w;unfold jq;rw[if_neg (by simp[hw])];exact h l' hl' _ w F ZZ Q (ha.putE g3 undef) hsat (fun a2 w2 Γ2 H2 k1 k2 k3 k4 k5=>hq a2 w2 Γ2 H2 k1 k2 (k3.trans (jV ..)) k4 k5) (fun ch a2 w2 Γ2 H2 k1 k2 k3 k4 k5=>hz ch a2 w2 Γ2 H2 k1 k2 (k3.trans (jV ..)) k4 k5)):P:=h
theorem zBC {P:Prop}(h:P:=by
 refine GOH ?_;refine kJ hall Zr ZP (fun v Post hv=>?_) (fun ch Post hz=>?_)
 ·obtain⟨us4,usp4,U4,V4,T4,B4,⟨hS4,_⟩,_⟩:=hv;have:=hS4.ok;rw[hfa]at this;cases this
 ·obtain⟨q1,e1,p1,hb1,rfl,rfl⟩:=hz;refine⟨[X.S,jJ q1 e1 p1],ZI,q1,e1,p1,?_,rfl,rfl⟩;rw[we];exact hb1):P:=h
theorem zBD {P:Prop}(h:P:=by
 obtain⟨q1,e1',p1,hb1,rfl,rfl⟩:=hz;exact⟨[X.S,jJ q1 e1' p1],ZI,q1,e1',p1,hbad _ hb1,rfl,rfl⟩):P:=h
theorem zBE {P:Prop}(h:P:=by
 simp only[jw,Qo]at hs;subst hs;simpa[execOp]using hr):P:=h
theorem zBF {P:Prop}(h:P:=by
 rw[<- g2];refine h v Post hQ l' hl' _ w' F ZZ Q' (ha.putE g3 v) ?_ (fun a2 w2 Γ2 H2 k1 k2 k3 k4 k5=>hq a2 w2 Γ2 H2 k1 k2 (k3.trans (jV ..)) k4 (hk.trans k5)) (fun ch a2 w2 Γ2 H2 k1 k2 k3 k4 k5=>hz ch a2 w2 Γ2 H2 k1 k2 (k3.trans (jV ..)) k4 (hk.trans k5));rw[vy,vZ];exact hs'):P:=h
theorem zBG {P:Prop}(h:P:=by
 refine⟨rfl,vi 0,False,fun Γ H hΓ hH=>?_,?_⟩
 ·subst hH;refine kJ hvz (by simp only[V.evs,V.ev,hΓ 12 Zd _ rfl,hΓ 13 Zd _ rfl,hΓ 15 Zd _ rfl]) ZP (fun v Post hv=>hv.elim) (fun ch Post hz=>?_);obtain⟨rfl,m,rfl⟩:=hz;exact⟨rfl,m,ZI⟩
 refine kH ?_;exact fun hh=>by simp at hh):P:=h
theorem zBH {P:Prop}(h:P:=by
 rename_i i hu hi;simp only[Qk]at h1;obtain⟨r',h3,rfl⟩:=h1;cases h2 with
 |cellN k1 k2 k3 k4=>
  simp only[List.mapM_cons,Sem.run_bind,hf2,slot k1,asAddr,Sem.run_pure,Result.andThen_ok,loadVar,isAgg_of hu,if_true,kW hi,run_loadCells k2 k3 hs,ih r' _ f hf hf2 h3 k4]):P:=h
theorem zBI {P:Prop}(h:P:=by
 rw[Zt h2];refine GOH ?_;refine kJ (kw true) Zr ZP (fun v Post hv=>?_) Zaj;obtain⟨_,rfl,rfl⟩:=hv;simp only[QD];refine GOH ?_;refine⟨⟨0,false,0,b,t,_,_⟩,⟨⟨_,_,rfl⟩,?_⟩,ZU,by rw[vQ];exact IMx⟩;simp[w8,kP,LitS.ok,h1,h2]):P:=h
theorem zBJ {P:Prop}(h:P:=by
 refine GOH ?_;refine⟨.inr rfl,_,_,.cellN (us:=[cv 5,vi 0,uv 0,.string t,.slice none 0 0]) Zr Zr Zag .nil,ZI,.inr ⟨hns,_,rfl,rfl⟩,rfl⟩):P:=h
theorem zBK {P:Prop}(h:P:=by
 refine GOH ?_;refine⟨.inr rfl,_,_,.cellN (us:=[cv 0,vi 0,uv 0,.string ⟨#[]⟩,.slice none 0 0]) Zr Zr Zag (.tmp Zr .nil),ZI,hIntB hb,rfl⟩):P:=h
theorem zBL {P:Prop}(h:P:=by
 refine GOH ?_;refine kV (receiver_spec sel hsel) Zr ?_;refine GOH ?_;refine kM hvf.fun Zr ZP (fun v Post hv=>?_);obtain⟨rfl,rfl⟩:=hv;simp only[CNx];refine GOH ?_;refine jI (kG (Post:=[A,lkA lb (m0||m2) deep]) (.inr rfl) (.tmp Zr .nil) ⟨d,m2,rfl,rfl,rfl⟩ ZI)):P:=h
theorem zBM {P:Prop}(h:P:=by
 obtain⟨us4,usp4,U4,V4,T4,B4,⟨hS4,_⟩,_⟩:=hv;have:=hS4.ok;rw[hfa]at this;cases this):P:=h
theorem zBN {P:Prop}(h:P:=by
 rcases Nat.lt_or_ge i w.heap.size with h|h
 ·exact h
 ·rw[Array.getElem?_eq_none h]at hb;cases hb):P:=h
theorem zBO {P:Prop}(h:P:=by
 rw[Ve]at hi;obtain⟨f,hf1,hf2⟩:=Qk.1 hi;cases hf2;exact hfld i f (by rw[<- hf1,vB])):P:=h
theorem zBP {P:Prop}(h:P:=by
 simp only[Vy,Q0,rn_int,rn_string,rn_slice0,k1];show _=[Value.int .u8 (k.toNat:Nat),.string s,.int .u8 (lk.toNat:Nat),.int .i64 ln,.int .u64 (lb.toNat:Nat),_,_,_,_,_,_];rw[vT b1,vT b3,vT b5]):P:=h
theorem zBQ {P:Prop}(h:P:=by
 have hf:jB (jM s)=0:=by rw[h];rfl
 have e1:speK s=12:=by simp[speK,h]
 have e2:speN s=s:=by simp[speN,h]
 rw[e1,e2];rw[show decide ((jB (jM s):Int)=0)=true from Zt Zo];refine GOH ?_;exact⟨(),trivial,ZU,by simp only[e0];exact Imp.refl _⟩):P:=h
theorem zBR {P:Prop}(h:P:=by
 intro hl i st env u;simp only[Nd.sizes]at hl;obtain⟨h1,h2⟩:=ih x Zo st env u;cases h:inlK s i with
 |true=>rw[specS_in _ _ _ _ _ _ _ _ _ h];exact h2.trans (ihl Zo (i+1) _ env u)
 |false=>rw[specS_out _ _ _ _ _ _ _ _ _ h];exact h1.trans (ihl Zo (i+1) _ env u)):P:=h
theorem zBS {P:Prop}(h:P:=by
 rw[rls];simp only[Sem.run_bind,parts44a,parts44,Result.andThen];simp[ReflectliteValue.flagAddr,loadVar,isAgg,underlying,Tryz.underlying44,hb,Result.andThen,direct44,storeVar,Value.cells,storeCells,Addr.add];rw[run_store Tryz.prog W ta _ _ Zr];simp[ht,hf]):P:=h
theorem zBT {P:Prop}(h:P:=by
 refine GOH ?_;refine kG (Post:=[]) (.inr rfl) (.tmp Zr .nil) ⟨by rw[hb];rfl,rfl⟩ ZI):P:=h
theorem zBU {P:Prop}(h:P:=by
 obtain⟨k1,k2⟩:=hall kids hk st env u h hu he;exact⟨k1,plainCase _ _ _ _ _ _ _ k2⟩):P:=h
theorem zBV {P:Prop}(h:P:=by
 rw[V5,V8 (QW _),Qd];rfl):P:=h
theorem zBW {P:Prop}(h:P:=by
 simp only[kS]at hv;split at hv <;> try (cases hv;done)
 rename_i cs k m hx hi;split at hv <;> try (cases hv;done)
 rename_i hb;simp at hv;subst hv;simp[execOp,Instr.index,kB hs,hx,hi,asIntOf,hb,kW hj,part,isAgg_of hu]):P:=h
theorem zBX {P:Prop}(h:P:=by
 rcases Q4.1 h with rfl|h
 ·omega
 ·have:=ih h;omega):P:=h
theorem zBY {P:Prop}(h:P:=by
 intro l
 induction l with
 |nil=>simp
 |cons o r ih=>
  rw[List.flatMap_cons,Vj,Vl,Nat.succ_mul];have h1:=Vo (st.need u) (st.things o);rw[things_len]at h1;have:=h o;omega):P:=h
theorem zBZ {P:Prop}(h:P:=by
 refine GOH ?_;refine kM hcut Zr ZP (fun v Post hv=>?_);obtain⟨t,rfl,h1,h2,rfl⟩:=hv;simp only[QD];refine GOH ?_;refine kG (Post:=[]) (.inr rfl) (.tmp Zr (.tmp Zr .nil)) ⟨t,rfl,h1,h2,rfl⟩ ZI):P:=h
theorem zC0 {P:Prop}(h:P:=by
 refine GOH ?_;exact kG (Post:=[A]) (.inr rfl) (.tmp Zr .nil) ⟨rfl,rfl⟩ ZI):P:=h
theorem zC1 {P:Prop}(h:P:=by
 refine⟨Zs,fun x hx=>?_⟩;obtain⟨i,v,hi,rfl⟩:=kI.1 hx;rw[Ve]at hi;obtain⟨u,hu,rfl⟩:=Qk.1 hi;obtain⟨b2,o2,h1,h2,_⟩:=hr i u hu;cases h1;simpa using h2):P:=h
theorem zC2 {P:Prop}(h:P:=by
 simp only[CNx];refine GOH ?_;refine⟨(j+1,r'),⟨by simp only;omega,by simp only;omega,by simp only;unfold wN;omega,fun hh=>by simp only at hh|-;have:=h9 hh;rw[htk];omega⟩,by simp only;omega,ZU,ZI⟩):P:=h
theorem zC3 {P:Prop}(h:P:=by
 obtain⟨rfl,hi⟩:=hp;exact⟨[lkA lb false false,A],Imp.cut hi ZI,rfl,false,false,[A],rfl,hnone,rfl⟩):P:=h
theorem zC4 {P:Prop}(h:P:=by
 subst hH;exact kV (arity_spec sel hsel) Zat Zaf):P:=h
theorem zC5 {P:Prop}(h:P:=by
 rcases Nat.lt_or_ge t.block w.heap.size with h|h
 ·exact h
 ·simp[World.cell?,Array.getElem?_eq_none h]at ht0):P:=h
theorem zC6 {P:Prop}(h:P:=by
 cases h with
 |mk wf hl hav htv ha hm hr=>
  obtain⟨_,_,rfl,_⟩:=hav;obtain⟨_,_,rfl,_⟩:=htv;cases hl with
  |mk wf2 ha2 hm2 hr2=>exact⟨_,_,_,_,_,_,_,_,_,_,_,_,_,_,_,_,rfl⟩):P:=h
theorem zC7 {P:Prop}(h:P:=by
 refine(vV _ QH).trans ?_;rw[vZ];exact vW _):P:=h
theorem zC8 {P:Prop}(h:P:=by
 obtain⟨x,hx,he⟩:=Q9.1 hm;obtain⟨i,v,hi,rfl⟩:=kI.1 hx;simp only[kC.loc,Qp,Qo,true_and]at he;have:=(Vd.1 hi).1;omega):P:=h
theorem zC9 {P:Prop}(h:P:=by
 cases kids with
 |nil=>exact hk
 |cons x r=>simp only[Nd.sizes]at hk;simp only[List.tail_cons];omega):P:=h
theorem zCA {P:Prop}(h:P:=by
 refine GOH ?_;refine⟨⟨0,false,n,b,⟨#[]⟩,_,_⟩,⟨⟨_,_,rfl⟩,?_⟩,ZU,by rw[vQ];exact IMx⟩;simp[w8,kP,LitS.ok,show(⟨#[]⟩:ByteArray).size=0 from rfl]):P:=h
theorem zCB {P:Prop}(h:P:=by
 simp only[V.marks,Vy];rw[<- vZ,<- vZ];exact QK):P:=h
theorem zCC {P:Prop}(h:P:=by
 rw[World.cell?_alloc_lt _ _ ⟨0,0,none⟩ Zs,World.cell?_alloc_lt _ _ ⟨0,0,none⟩ hlt];exact hg):P:=h
theorem zCD {P:Prop}(h:P:=by
 refine⟨Y++R,?_,fun u' X' h'=>?_⟩
 ·rw[<- vZ];exact h1.trans (vV _ hx)
 ·rw[<- vZ];exact(h2 u').trans (vV _ h')):P:=h
theorem zCE {P:Prop}(h:P:=by
 simp only[kS]at hv;split at hv <;> try (cases hv;done)
 rename_i cs hx;simp at hv;subst hv;simp[execOp,Instr.field,kB hs,hf,hx,asAgg,part,isAgg_of hu,kW hj]):P:=h
theorem zCF {P:Prop}(h:P:=by
 intro x hx;rw[<- hdd]at hx;simp only[clash,Q7,QB]at hx;exact hx.1):P:=h
theorem zCG {P:Prop}(h:P:=by
 rcases Q4.1 hx with rfl|hx
 ·exact⟨rfl,_,_,_,_,hb,Zs,Zo⟩
 ·obtain⟨i,v,hi,rfl⟩:=kI.1 hx;exact⟨rfl,_,_,_,_,hb,by simpa using hi,Zo⟩):P:=h
theorem zCH {P:Prop}(h:P:=by
 intro F w hs;refine⟨h.1,?_⟩;have hall:first++args.toArray++cap=(first.toList++args++cap.toList).toArray:=by
  apply vC.1;simp
 rw[hall];exact h.2 F w hs):P:=h
theorem zCI {P:Prop}(h:P:=by
 rw[Zf (show ¬(s.size:Int) ≥ 1 by omega)];refine GOH ?_;refine⟨.inr rfl,_,_,.tmp Zr .nil,ZI,?_,rfl⟩;have:kF s=[]:=List.length_eq_zero_iff.1 Zo;simp[tup,this]):P:=h
theorem zCJ {P:Prop}(h:P:=by
 obtain⟨d,m2,he,rfl,rfl⟩:=hv;simp only[CNx];refine GOH ?_;refine jI (kG (Post:=[A,lkA lb (m0||m2) deep]) (.inr rfl) (.tmp Zr .nil) ⟨d,m2,he,rfl,rfl⟩ ZI)):P:=h
theorem zCK {P:Prop}(h:P:=by
 simp only[wU,Qk]at h;obtain⟨x,h1,rfl⟩:=h;exact⟨b,rfl,h1⟩):P:=h
theorem zCL {P:Prop}(h:P:=by
 obtain⟨hb,rfl,m2,rfl⟩:=hz;exact⟨[A,lkA lb m2 deep],ZI,by simp[hRR,wa.ok,je,kP,litZ,Lt.kind,Lt.n,Lt.bits,Lt.text,Lt.items,hky,hb],rfl,m2,rfl⟩):P:=h
theorem zCM {P:Prop}(h:P:=by
 simp only[rOps,Q4,Q1]at h;simp only[kS,h x (.inl rfl),opt_congr (fun y hy=>h y (.inr (.inl hy))),opt_congr (fun y hy=>h y (.inr (.inr hy)))]):P:=h
theorem zCN {P:Prop}(h:P:=by
 simp only[jP];refine Vx (fun p hp=>?_);obtain⟨a,b,c⟩:=p;have hc:=vX.1 hk c (Q9.2 ⟨_,hp,rfl⟩);simp[evD_of hc hρ]):P:=h
theorem zCO {P:Prop}(h:P:=by
 intro e he;rw[Array.toList_push,Q1]at he;rcases he with he|he
 ·exact Nat.lt_succ_of_lt (h.clock e he)
 ·rw[QC.1 he];exact Qa c):P:=h
theorem zCP {P:Prop}(h:P:=by
 obtain⟨hb,rfl,m2,rfl⟩:=hz;exact⟨[A,lkA lb m2 deep],ZI,by simp[hRR,wa.ok,je,kP,litZ,Lt.kind,Lt.n,Lt.bits,Lt.text,Lt.items,hb],rfl,m2,rfl⟩):P:=h
theorem zCQ {P:Prop}(h:P:=by
 rcases Nat.eq_zero_or_pos w.heap.size with h0|h
 ·simp[World.cell?,h0]at hg
 ·exact h):P:=h
theorem zCR {P:Prop}(h:P:=by
 cases agg with
 |true=>simp only[if_true]at h|-;cases h;simp[Array.map_extract]
 |false=>simp only[vI,if_false]at h|-;exact getElem_map_rn h):P:=h
theorem zCS {P:Prop}(h:P:=by
 refine Zw _ ?_;simp only[slA,ku];exact Zw _ (cells_row hr.w (hget i hi) y hy)):P:=h
theorem zCT {P:Prop}(h:P:=by
 refine GOH ?_;refine kG (.inr rfl) (.tmp Zr .nil) ⟨by simp[tup,h0,h45],rfl⟩ ZI):P:=h
theorem zCU {P:Prop}(h:P:=by
 rw[<- vZ];exact hsat.perm (hs.append_right F)):P:=h
theorem zCV {P:Prop}(h:P:=by
 simp only[Instr.mapUpdate,Sem.run_bind,kB hu,Result.andThen_ok,hx,hx2,zV hd hdk,run_findKey hd hdk hf];simpa[kb]using h2):P:=h
theorem zCW {P:Prop}(h:P:=by
 have h5:=hb.str s.data.toList;have e2:s.data.toList.length=s.size:=by simp
 omega):P:=h
theorem zCX {P:Prop}(h:P:=by
 obtain⟨g1,g2,g3⟩:=wd h1 hi;exact⟨g1,g3⟩):P:=h
theorem zCY {P:Prop}(h:P:=by
 rename_i i hu hi;simp only[jw,Qo]at hs;subst hs;simpa[execOp,Instr.loadAt,loadVar,isAgg_of hu,kW hi,kb]using hr):P:=h
theorem zCZ {P:Prop}(h:P:=by
 refine GOH ?_;exact kG (Post:=[S]) (.inr rfl) (.tmp Zr .nil) ⟨rfl,rfl⟩ ZI):P:=h
theorem zD0 {P:Prop}(h:P:=by
 split
 ·rfl
 ·split
  ·simp only;split
   ·exact hw _
   ·rfl
  ·split
   ·rfl
   ·simp only;split
    ·rfl
    ·exact hw _):P:=h
theorem zD1 {P:Prop}(h:P:=by
 refine GOH ?_;exact⟨j+1,Zo,Zo,ZU,ZI⟩):P:=h
theorem zD2 {P:Prop}(h:P:=by
 exact⟨a1,by simp only[PN.w,Vr];omega⟩):P:=h
theorem zD3 {P:Prop}(h:P:=by
 rw[vh hlt]
 congr 1
 exact(Vd.1 hy).2):P:=h
theorem zD4 {P:Prop}(h:P:=by
 obtain⟨t,rfl⟩:=hq;show(qs++t).getD v 0=qs.getD v 0;rw[V5,V5,V7 hv]):P:=h
theorem zD5 {P:Prop}(h:P:=by
 rcases Q4.1 hy with rfl|hy
 ·exact value_ne (h _ (Q6 ..))
 ·exact ih (fun r hr=>h r (Q5 _ hr)) y hy):P:=h
theorem zD6 {P:Prop}(h:P:=by
 cases hks:x.kids with
 |nil=>rw[hks]at hr0;cases hr0
 |cons y l=>rw[hks]at hr0;obtain rfl:y=r:=by simpa using hr0
            rfl):P:=h
theorem zD7 {P:Prop}(h:P:=by
 refine⟨h3,?_⟩;simp only[jf,vF];exact⟨rawIn_mono (fun v hv=>okv_gr (zK F G r _ env u) u v hv) _ h2,h4⟩):P:=h
theorem zD8 {P:Prop}(h:P:=by
 rw[Array.toList_push,List.pairwise_append];refine⟨h.born,Zs,fun a ha b hb=>?_⟩;rw[QC.1 hb];exact h.clock a ha):P:=h
theorem zD9 {P:Prop}(h:P:=by
 have:=h.nodup;simp only[Vy,QF,Q9,not_exists,not_and]at this;intro e;exact this.1 x hx e.symm):P:=h
theorem zDA {P:Prop}(h:P:=by
 refine GOH ?_;refine⟨.inr rfl,_,_,.tmp Zr .nil,ZI,?_,rfl⟩;rfl):P:=h
theorem zDB {P:Prop}(h:P:=by
 exact vU _ QH):P:=h
theorem zDC {P:Prop}(h:P:=by
 refine GOH ?_;exact kG (Post:=[A]) (.inr rfl) (.tmp Zr .nil) ⟨r,rfl,i2,by unfold wB;omega,fun _=>by omega,rfl⟩ ZI):P:=h
theorem zDD {P:Prop}(h:P:=by
 obtain⟨⟨a,z,k5,k6⟩,k7⟩:=k3 p hp;obtain⟨z',k8,k9⟩:=hback k5;exact⟨⟨a,z',k8,k6.trans k9.symm⟩,k7⟩):P:=h
theorem zDE {P:Prop}(h:P:=by
 rename_i sk hsk;obtain⟨d,hd,hdk⟩:=sk_of hsk;simp only[jw,Qo]at hs;subst hs;exact upd_aux hu hd hdk hr):P:=h
theorem zDF {P:Prop}(h:P:=by
 obtain⟨q1,e1',p1,hb1,rfl,rfl⟩:=hz;exact⟨[X.S,jJ q1 e1' p1],ZI,q1,e1',p1,by rw[hP];exact hb1,rfl,rfl⟩):P:=h
theorem zDG {P:Prop}(h:P:=by
 refine⟨h3,?_⟩;simp only[jk,vF];exact⟨partP_mono (zK F G r _ env u).outer.length_le _ h2,h4⟩):P:=h
theorem zDH {P:Prop}(h:P:=by
 simp only[hx,Sem.run_bind,hx2,Result.andThen_ok,zV hd hdk,run_findKey hd hdk hf];simpa[kb]using h2):P:=h
theorem zDI {P:Prop}(h:P:=by
 simp only[IntKind.wrap,IntKind.bits,IntKind.signed];simp;omega):P:=h
theorem zDJ {P:Prop}(h:P:=by
 rw[V5,Zg (by rw[hr.len];exact hi)];rfl):P:=h
theorem zDK {P:Prop}(h:P:=by
 subst hH;exact st_gt (hΓ 15 Zd _ rfl) (st_leI (hΓ 17 Zd _ rfl) rfl (by simp only[hb3]) (VO.nil ⟨rfl,rfl,trivial⟩))):P:=h
theorem zDL {P:Prop}(h:P:=by
 have:=(Q7.1 hi).1;simp only[Q1,Q4]at this|-;rcases this with h|h <;> simp[h]):P:=h
theorem zDM {P:Prop}(h:P:=by
 simp only[CNx];refine GOH ?_;exact kG (Post:=[B']) (.inr rfl) .nil ⟨rfl,.inr ⟨_,B',hok,hB',rfl⟩⟩ ZI):P:=h
theorem zDN {P:Prop}(h:P:=by
 cases e with
 |returned v=>exact⟨a.defers,v,w1,hR⟩
 |panicked c=>exact hR.elim
 |outgrown=>exact hR.elim):P:=h
theorem zDO {P:Prop}(h:P:=by
 refine GOH ?_;exact kG (Post:=[A]) (.inr rfl) (.tmp Zr .nil) ⟨_,rfl,fun hh=>(by simp at hh),rfl⟩ ZI):P:=h
theorem zDP {P:Prop}(h:P:=by
 exact⟨a1,plainCase _ _ _ _ _ _ _ Zo a2⟩):P:=h
theorem zDQ {P:Prop}(h:P:=by
 refine GOH ?_;refine kd Zr (fun q=>?_);simp only[Value.cells];refine GOH ?_;exact⟨q,trivial,ZU,ZI⟩):P:=h
theorem zDR {P:Prop}(h:P:=by
 cases r with
 |none=>simp[kX hi hiz,lookRes]
 |some p=>obtain⟨j,v⟩:=p;simp[lookRes]):P:=h
theorem zDS {P:Prop}(h:P:=by
 obtain⟨_,Pre,Rr,Q2,hfd,hspl,hfin⟩:=q;exact go .returning .returning Pre Rr Q2 Zs rfl hfd hspl hfin):P:=h
theorem zDT {P:Prop}(h:P:=by
 have ge:es[j]=e:=by rw[v7 g2']at this;exact Qn this
 simp[g2',ge]):P:=h
theorem zDU {P:Prop}(h:P:=by
 simp only[wU]at h;split at h
 case h_2=>cases h
 rename_i x y h1 h2;cases h;exact⟨a,b,rfl,h1,h2⟩):P:=h
theorem zDV {P:Prop}(h:P:=by
 simp[Instr.takeDeferred,Go.getObj,Go.setObj,Sem.run,k1]):P:=h
theorem zDW {P:Prop}(h:P:=by
 refine mem_new (fun b=>⟨_,_,.inl rfl,?_,h b⟩);simp):P:=h
theorem zDX {P:Prop}(h:P:=by
 rcases vP.1 hc with hc|hc <;> (simp only[coverG,vF]at hc;exact hc.1.1.1)):P:=h
theorem zDY {P:Prop}(h:P:=by
 intro hl st env u;simp only[Nd.sizes]at hl;rw[wE];exact(ih x Zo st env u).1.trans (ihl Zo _ env u)):P:=h
theorem zDZ {P:Prop}(h:P:=by
 rw[vZ]at this;exact this.sub ((List.Sublist.refl _).append (List.sublist_append_right _ _))):P:=h
theorem zE0 {P:Prop}(h:P:=by
 rcases Q1.1 hr' with h1|h1
 ·exact h.w r' h1
 ·rw[QC.1 h1];exact hx.len):P:=h
theorem zE1 {P:Prop}(h:P:=by
 refine GOH ?_;refine kG (Post:=[]) (.inr rfl) (.tmp Zr .nil) ⟨by simp[tup,argS,h],rfl⟩ ZI):P:=h
theorem zE2 {P:Prop}(h:P:=by
 simp only[vz,V0,vd];exact vU _ h9.symm):P:=h
theorem zE3 {P:Prop}(h:P:=by
 have:=(Vd.1 hx).1;simp only[Vl,Vr]at this;omega):P:=h
theorem zE4 {P:Prop}(h:P:=by
 obtain⟨c,t,lo,hi,hb,hn⟩:=hh;exact⟨c,t,lo,hi,by rw[h.block b hl];exact hb,hn⟩):P:=h
theorem zE5 {P:Prop}(h:P:=by
 apply vC.1;rw[vD,h3,hm]):P:=h
theorem Zo {P:Prop}(h:P:=by omega):P:=h
theorem Zr {P:Prop}(h:P:=by rfl):P:=h
theorem Zd {P:Prop}(h:P:=by decide):P:=h
theorem Zs {P:Prop}(h:P:=by simp):P:=h
theorem ZI {P:Prop}(h:P:=by exact IMx):P:=h
theorem ZP {P:Prop}(h:P:=by exact SPx):P:=h
theorem ZU {P:Prop}(h:P:=by exact SUx):P:=h
theorem ZK {P:Prop}(h:P:=by exact TKx):P:=h
theorem Zab {P:Prop}(h:P:=by(focus ((repeat (first|(apply HasM.cells;omega;(focus (simp only[Vl,Vr,Nat.reduceAdd,Qe,Nat.reduceSub,Qd,Nat.reduceLeDiff,QW];done));(focus (simp only[lnb,Value.cells,Qe,Nat.reduceEqDiff,↓reduceIte,eq_self,Nat.reduceAdd,Nat.reduceSub,Qd,Nat.reduceLeDiff,QW,and_self,rep,kf] <;> rfl));rfl)|apply HasM.there));first|done|fail))):P:=h
theorem Zac {P:Prop}(h:P:=by(focus ((repeat (first|(apply Upd.cells;omega;(focus (simp only[Vl,Vr,Nat.reduceAdd,Qe,Nat.reduceSub,Qd,Nat.reduceLeDiff,QW];done));(focus (simp only[lnb,Value.cells,Qe,Nat.reduceEqDiff,↓reduceIte,eq_self,Nat.reduceAdd,Nat.reduceSub,Qd,Nat.reduceLeDiff,QW,and_self,rep,kf] <;> rfl)))|apply Upd.there));first|done|fail))):P:=h
theorem Zl {P:Prop}(h:P:=by(first|exact ltM|(focus (apply ltB;(repeat' (first|exact modM|apply orC|apply andN_lt|apply divC|omega));done))|omega)):P:=h
theorem Zz {P:Prop}(h:P:=by((try simp only[Qe,QU,Nat.reduceAdd,Nat.reduceMul,QT,vS,Nat.mul_one]);rfl)):P:=h
theorem Zi {P:Prop}(h:P:=by(first|with_reducible exact vS _|((try simp only[Int.reduceToNat]);rfl))):P:=h
theorem Zh {P:Prop}(h:P:=by(focus ((repeat (first|(apply Has.cells;omega;rfl)|apply Has.there));first|done|fail))):P:=h
theorem Zm {P:Prop}(h:P:=by(focus ((repeat (first|(apply Has.among;assumption)|apply Has.there));first|done|fail))):P:=h
theorem Zax {P:Prop}(h:P:=by first|exact .here|exact .there .here|exact .there (.there .here)|exact .there (.there (.there .here))|exact .there (.there (.there (.there .here)))|exact .there (.there (.there (.there (.there .here))))|exact .there (.there (.there (.there (.there (.there .here)))))):P:=h
theorem Zaw {P:Prop}(h:P:=by rw[World.frozen?_alloc_old _ _ t (by simp;omega),World.frozen?_alloc_old _ _ t (by simp;omega),World.frozen?_alloc_old _ _ t (by simp;omega),World.frozen?_alloc_old _ _ t (Nat.ne_of_lt htl)];exact hf0):P:=h
theorem Zav {P:Prop}(h:P:=by rw[World.cell?_alloc_lt _ _ t (by simp;omega),World.cell?_alloc_lt _ _ t (by simp;omega),World.cell?_alloc_lt _ _ t (by simp;omega),World.cell?_alloc_lt _ _ t htl];exact ht0):P:=h
theorem Zao {P:Prop}(h:P:=by simp only[V.evs,V.ev,hΓ 36 (by decide) _ rfl,hΓ 37 (by decide) _ rfl,hΓ 39 (by decide) _ rfl]):P:=h
theorem Zap {P:Prop}(h:P:=by simp only[V.evs,V.ev,hΓ 76 (by decide) _ rfl,hΓ 80 (by decide) _ rfl,hΓ 82 (by decide) _ rfl]):P:=h
theorem Zaq {P:Prop}(h:P:=by simp only[V.evs,V.ev,hΓ 84 (by decide) _ rfl,hΓ 86 (by decide) _ rfl,hΓ 89 (by decide) _ rfl]):P:=h
theorem Zay {P:Prop}(h:P:=by(focus ((repeat (first|with_reducible exact HasO.here|apply HasO.there));done))):P:=h
theorem Zau {P:Prop}(h:P:=by simp only[V.evs,V.ev,hΓ 19 (by decide) _ rfl]):P:=h
theorem Zat {P:Prop}(h:P:=by simp only[V.evs,V.ev,hΓ 4 (by decide) _ rfl]):P:=h
theorem Zar {P:Prop}(h:P:=by simp only[V.ev,hΓ 83 (by decide) _ rfl]):P:=h
theorem Zas {P:Prop}(h:P:=by simp only[V.ev,hΓ 90 (by decide) _ rfl]):P:=h
theorem Zan {P:Prop}(h:P:=by simp[kA]):P:=h
theorem Zam {P:Prop}(h:P:=by simp;omega):P:=h
theorem Zae {P:Prop}(h:P:=by exact(VO.nil ⟨rfl,⟨mz,Imp.refl _⟩,trivial⟩)):P:=h
theorem Zaf {P:Prop}(h:P:=by exact(VO.nil ⟨rfl,rfl,trivial⟩)):P:=h
theorem Zag {P:Prop}(h:P:=by exact(fun x hx=>by simp only[vz,Q1];first|exact .inl hx|exact .inr (.inl hx))):P:=h
theorem Zah {P:Prop}(h:P:=by exact(fun z hz=>List.mem_append_left _ (hym z hz))):P:=h
theorem Zai {P:Prop}(h:P:=by exact(fun v Post hv=>absurd hv.1 (by decide))):P:=h
theorem Zaj {P:Prop}(h:P:=by exact(fun ch Post hz=>absurd hz.1 (by decide))):P:=h
theorem Zak {P:Prop}(h:P:=by exact(fun y hy=>by simp only[vz,Q1];first|exact .inl hy|exact .inr (.inl hy)|exact .inr (.inr (.inl hy)))):P:=h
theorem Zal {P:Prop}(h:P:=by exact⟨rfl,fun a ha=>by simp only[vz,Q1];exact .inl ha⟩):P:=h
theorem Zf {p:Prop}[Decidable p](h:¬p):decide p=false:=decide_eq_false h
theorem Zt {p:Prop}[Decidable p](h:p):decide p=true:=decide_eq_true h
theorem Zg {α:Type _}{l:List α}{i:Nat}(h:i < l.length):l[i]? =some l[i]:=List.getElem?_eq_getElem h
theorem Zv {α:Type _}{l:List α}{i:Nat}{a:α}(h:l[i]? =some a):a∈l:=List.mem_of_getElem? h
theorem Zw {α:Type _}{a:α}{s:List α}(t:List α)(h:a∈s):a∈s++t:=List.mem_append_left t h
end Go
namespace Go.V
open Go
inductive kC where
 |cell (b off:Nat) (v:Value)
 |obj (b:Nat) (o:Obj)
 |row (b n:Nat)
 |own (b n:Nat)
def kC.loc:kC->Nat×Option Nat
 |.cell b off _=>(b,some off)
 |.obj b _=>(b,none)
 |.row b _=>(b,none)
 |.own b n=>(b,some n)
def wI:Obj->Bool
 |.cells .. =>true
 |_=>false
def kC.holds(w:World):kC->Prop
 |.cell b off v=>∃c t lo hi,w.heap[b]? =some (Obj.cells c t (lo,hi))/\c[off]? =some v/\¬(lo<=off/\off < hi)
 |.obj b o=>w.heap[b]? =some o/\wI o=false
 |.row b n=>∃c t lo hi,w.heap[b]? =some (Obj.cells c t (lo,hi))/\c.size=n
 |.own b n=>∃c t lo hi,w.heap[b]? =some (Obj.cells c t (lo,hi))/\c.size=n/\¬(lo<=n/\n < hi)
structure Sat (w:World)(L:List kC):Prop where
 holds:∀x∈L,x.holds w
 nodup:(L.map kC.loc).Nodup
structure kg (w w':World):Prop where
 os:w'.os=w.os
 output:w'.output=w.output
 size:w.heap.size<=w'.heap.size
 cells:∀(i:Nat) c t lo hi,w.heap[i]? =some (Obj.cells c t (lo,hi))->∃c',w'.heap[i]? =some (Obj.cells c' t (lo,hi))/\c'.size=c.size/\∀j,lo<=j/\j < hi->c'[j]? =c[j]?
theorem kg.refl(w:World):kg w w:=⟨rfl,rfl,QW _,fun _ c _ _ _ h=>⟨c,h,rfl,fun _ _=>rfl⟩⟩
theorem kg.trans {a b c:World}(h:kg a b)(k:kg b c):kg a c:=by
 refine⟨k.os.trans h.os,k.output.trans h.output,QY h.size k.size,fun i x t lo hi hx=>?_⟩;obtain⟨y,hy,sy,fy⟩:=h.cells i x t lo hi hx;obtain⟨z,hz,sz,fz⟩:=k.cells i y t lo hi hy;exact⟨z,hz,sz.trans sy,fun j hj=>(fz j hj).trans (fy j hj)⟩
theorem kg.drawn {a b:World}(h:kg a b)(n:Nat):kg a {b with drawn:=n}:=⟨h.os,h.output,h.size,h.cells⟩
theorem Sat.drawn {w:World}{L:List kC}(h:Sat w L)(n:Nat):Sat {w with drawn:=n} L:=⟨fun x hx=>by
 have:=h.holds x hx;cases x <;> exact this,h.nodup⟩
theorem Sat.perm {w:World}{L M:List kC}(h:Sat w L)(p:L.Perm M):Sat w M:=
 ⟨fun x hx=>h.holds x (p.mem_iff.2 hx),(p.map kC.loc).nodup_iff.1 h.nodup⟩
theorem Sat.sub {w:World}{L M:List kC}(h:Sat w L)(p:M.Sublist L):Sat w M:=
 ⟨fun x hx=>h.holds x (p.subset hx),(p.map kC.loc).nodup h.nodup⟩
theorem Sat.left {w:World}{L M:List kC}(h:Sat w (L++M)):Sat w L:=h.sub (List.sublist_append_left L M)
theorem Sat.lt {w:World}{L:List kC}(h:Sat w L){x:kC}(hx:x∈L):x.loc.1 < w.heap.size:=by
 have:=h.holds x hx;cases x with
 |cell b off v=>obtain⟨c,t,lo,hi,hb,_⟩:=this;exact(v8.1 hb).1
 |obj b o=>exact(v8.1 this.1).1
 |row b n=>obtain⟨c,t,lo,hi,hb,_⟩:=this;exact(v8.1 hb).1
 |own b n=>obtain⟨c,t,lo,hi,hb,_⟩:=this;exact(v8.1 hb).1
theorem Sat.cell {w:World}{L:List kC}(h:Sat w L){b off:Nat}{v:Value}(hx:kC.cell b off v∈L):
 w.cell? ⟨b,off,none⟩=some v/\w.frozen? ⟨b,off,none⟩=false:=by
 obtain⟨c,t,lo,hi,hb,hc,hf⟩:=h.holds _ hx;refine⟨by simp[World.cell?,hb,hc],?_⟩;simp only[World.frozen?,hb];simp only[vE,decide_eq_false_iff_not];by_cases h1:lo<=off
 ·right;intro h2;exact hf ⟨h1,h2⟩
 ·left;exact h1
theorem Sat.obj {w:World}{L:List kC}(h:Sat w L){b:Nat}{o:Obj}(hx:kC.obj b o∈L):w.heap[b]? =some o/\wI o=false:=h.holds _ hx
theorem Sat.store {w:World}{L:List kC}{b off:Nat}{v u:Value}(h:Sat w (.cell b off v::L)):
 Sat (w.setCell ⟨b,off,none⟩ u) (.cell b off u::L)/\kg w (w.setCell ⟨b,off,none⟩ u):=by
 obtain⟨c,t,lo,hi,hb,hc,hf⟩:=h.holds _ (Q6 ..);have hlt:off < c.size:=(v8.1 hc).1;have hheap:∀i,(w.setCell ⟨b,off,none⟩ u).heap[i]? =if b=i then some (Obj.cells (c.setIfInBounds off u) t (lo,hi))else w.heap[i]?:=by
  intro i;simp only[World.setCell,v9];by_cases e:b=i
  ·subst e;simp[hb]
  ·simp[e]
 refine⟨⟨fun x hx=>?_,?_⟩,⟨rfl,rfl,by simp[World.setCell],fun i c' t' lo' hi' hi''=>?_⟩⟩
 ·rcases Q4.1 hx with rfl|hx
  ·exact⟨c.setIfInBounds off u,t,lo,hi,by rw[hheap];simp,by simp[hlt],hf⟩
  ·have hne:(b,some off)≠x.loc:=by
    exact zD9
   have hh:=h.holds x (Q5 _ hx);cases x with
   |cell b' off' v'=>
    obtain⟨c',t',lo',hi',hb',hc',hf'⟩:=hh;by_cases e:b=b'
    ·subst e;rw[hb]at hb';obtain⟨rfl,rfl,rfl,rfl⟩:c=c'/\t=t'/\lo=lo'/\hi=hi':=by simpa using hb'
     have hoff:off≠off':=fun e=>hne (by simp[kC.loc,e])
     exact⟨c.setIfInBounds off u,t,lo,hi,by rw[hheap];simp,by simp[vA hoff,hc'],hf'⟩
    ·exact⟨c',t',lo',hi',by rw[hheap];simp[e,hb'],hc',hf'⟩
   |obj b' o=>
    obtain⟨hb',ho⟩:=hh;have e:b≠b':=fun e=>by
     subst e;rw[hb]at hb';cases hb';simp[wI]at ho
    exact⟨by rw[hheap];simp[e,hb'],ho⟩
   |row b' n=>
    obtain⟨c',t',lo',hi',hb',hn⟩:=hh;by_cases e:b=b'
    ·subst e;rw[hb]at hb';obtain⟨rfl,rfl,rfl,rfl⟩:c=c'/\t=t'/\lo=lo'/\hi=hi':=by simpa using hb'
     exact⟨c.setIfInBounds off u,t,lo,hi,by rw[hheap];simp,by simpa using hn⟩
    ·exact⟨c',t',lo',hi',by rw[hheap];simp[e,hb'],hn⟩
   |own b' n=>
    obtain⟨c',t',lo',hi',hb',hn,hf'⟩:=hh;by_cases e:b=b'
    ·subst e;rw[hb]at hb';obtain⟨rfl,rfl,rfl,rfl⟩:c=c'/\t=t'/\lo=lo'/\hi=hi':=by simpa using hb'
     exact⟨c.setIfInBounds off u,t,lo,hi,by rw[hheap];simp,by simpa using hn,hf'⟩
    ·exact⟨c',t',lo',hi',by rw[hheap];simp[e,hb'],hn,hf'⟩
 ·have:=h.nodup;simpa[kC.loc]using this
 ·rw[hheap];by_cases e:b=i
  ·subst e;rw[hb]at hi'';obtain⟨rfl,rfl,rfl,rfl⟩:c=c'/\t=t'/\lo=lo'/\hi=hi':=by simpa using hi''
   refine⟨c.setIfInBounds off u,Zs,Zs,fun j hj=>?_⟩;have hne:off≠j:=fun e=>hf (e ▸ hj)
   simp[vA hne]
  ·simp[e,hi'']
def kA(b:Nat):Nat->List Value->List kC
 |_,[]=>[]
 |off,v::r=>.cell b off v::kA b (off+1) r
theorem kI {b:Nat}{x:kC}:∀{off:Nat} {vs:List Value},x∈kA b off vs↔∃i v,vs[i]? =some v/\x=.cell b (off+i) v:=by
 intro off vs
 induction vs generalizing off with
 |nil=>simp[kA]
 |cons u r ih=>
  simp only[kA,Q4,ih];constructor
  ·rintro(rfl|⟨i,v,h,rfl⟩)
   ·exact⟨0,u,rfl,rfl⟩
   ·exact⟨i+1,v,by simpa using h,by simp;omega⟩
  ·rintro⟨i,v,h,rfl⟩
   cases i with
   |zero=>left;simp at h;simp[h]
   |succ i=>right;exact⟨i,v,by simpa using h,by simp;omega⟩
theorem nodup_cellsAt(b:Nat)(vs:List Value):∀off,((kA b off vs).map kC.loc).Nodup:=by
 induction vs with
 |nil=>intro off;simp[kA]
 |cons u r ih=>
  intro off;simp only[kA,Vy,QF,ih,and_true];simp only[Q9,not_exists,not_and];intro x hx e;obtain⟨i,v,_,rfl⟩:=kI.1 hx;simp[kC.loc]at e;omega
theorem Sat.push {w:World}{L:List kC}(h:Sat w L)(o:Obj)(M:List kC)(hM:∀x∈M,x.loc.1=w.heap.size/\x.holds {w with heap:=w.heap.push o})
 (hn:(M.map kC.loc).Nodup):Sat {w with heap:=w.heap.push o} (M++L)/\kg w {w with heap:=w.heap.push o}:=by
 have hold:∀i,i < w.heap.size->(w.heap.push o)[i]? =w.heap[i]?:=fun i hi=>by
  rw[Array.getElem?_push];simp[Nat.ne_of_lt hi]
 refine⟨⟨fun x hx=>?_,?_⟩,⟨rfl,rfl,Zs,fun i c t lo hi hi'=>?_⟩⟩
 ·rcases Q1.1 hx with hx|hx
  ·exact(hM x hx).2
  ·have hl:=h.lt hx;have:=h.holds x hx;cases x with
   |cell b off v=>obtain⟨c,t,lo,hi,hb,r⟩:=this;exact⟨c,t,lo,hi,by simpa[hold b hl]using hb,r⟩
   |obj b o'=>exact⟨by simpa[hold b hl]using this.1,this.2⟩
   |row b n=>obtain⟨c,t,lo,hi,hb,hn⟩:=this;exact⟨c,t,lo,hi,by simpa[hold b hl]using hb,hn⟩
   |own b n=>obtain⟨c,t,lo,hi,hb,hn⟩:=this;exact⟨c,t,lo,hi,by simpa[hold b hl]using hb,hn⟩
 ·rw[Vw,QE];refine⟨hn,h.nodup,fun x hx y hy e=>?_⟩;obtain⟨m,hm,rfl⟩:=Q9.1 hx;obtain⟨l,hl,rfl⟩:=Q9.1 hy;have h1:=(hM m hm).1;have h2:=h.lt hl;rw[e]at h1;omega
 ·have hl:i < w.heap.size:=(v8.1 hi').1;exact⟨c,by simpa[hold i hl]using hi',rfl,fun _ _=>rfl⟩
theorem Sat.newCells {w:World}{L:List kC}(h:Sat w L)(c:Array Value)(t:TypeId):
 Sat {w with heap:=w.heap.push (.cells c t)} (kA w.heap.size 0 c.toList++L)/\kg w {w with heap:=w.heap.push (.cells c t)}:=by
 refine h.push _ _ (fun x hx=>?_) (nodup_cellsAt _ _ _);obtain⟨i,v,hi,rfl⟩:=kI.1 hx;exact⟨rfl,c,t,0,0,Zs,by simpa using hi,Zs⟩
theorem Sat.newObj {w:World}{L:List kC}(h:Sat w L)(o:Obj)(ho:wI o=false):
 Sat {w with heap:=w.heap.push o} (.obj w.heap.size o::L)/\kg w {w with heap:=w.heap.push o}:=by
 refine h.push o [.obj w.heap.size o] (fun x hx=>?_) Zs;rw[QC.1 hx];exact⟨rfl,Zs,ho⟩
theorem Sat.setObj {w:World}{L:List kC}{b:Nat}{o u:Obj}(h:Sat w (.obj b o::L))(hu:wI u=false):
 Sat {w with heap:=w.heap.setIfInBounds b u} (.obj b u::L)/\kg w {w with heap:=w.heap.setIfInBounds b u}:=by
 obtain⟨hb,ho⟩:=h.holds _ (Q6 ..);have hlt:b < w.heap.size:=(v8.1 hb).1;have hheap:∀i,(w.heap.setIfInBounds b u)[i]? =if b=i then some u else w.heap[i]?:=by
  intro i;by_cases e:b=i
  ·subst e;simp[hlt]
  ·simp[vA e,e]
 refine⟨⟨fun x hx=>?_,?_⟩,⟨rfl,rfl,Zs,fun i c t lo hi hi'=>?_⟩⟩
 ·rcases Q4.1 hx with rfl|hx
  ·exact⟨by simp[hlt],hu⟩
  ·have hne:(b,none)≠x.loc:=by
    exact zD9
   have hh:=h.holds x (Q5 _ hx);cases x with
   |cell b' off' v'=>
    obtain⟨c',t',lo',hi',hb',r⟩:=hh;have e:b≠b':=fun e=>by subst e;rw[hb]at hb';cases hb';cases ho
    exact⟨c',t',lo',hi',by simpa[hheap,e]using hb',r⟩
   |obj b' o'=>
    have e:b≠b':=fun e=>hne (by simp[kC.loc,e])
    exact⟨by simpa[hheap,e]using hh.1,hh.2⟩
   |row b' n=>
    have e:b≠b':=fun e=>hne (by simp[kC.loc,e])
    obtain⟨c',t',lo',hi',hb',hn⟩:=hh;exact⟨c',t',lo',hi',by simpa[hheap,e]using hb',hn⟩
   |own b' n=>
    obtain⟨c',t',lo',hi',hb',hn⟩:=hh;have e:b≠b':=fun e=>by subst e;rw[hb]at hb';cases hb';cases ho
    exact⟨c',t',lo',hi',by simpa[hheap,e]using hb',hn⟩
 ·have:=h.nodup;simpa[kC.loc]using this
 ·have e:b≠i:=fun e=>by subst e;rw[hb]at hi';cases hi';cases ho
  exact⟨c,by simpa[hheap,e]using hi',rfl,fun _ _=>rfl⟩
def SWP(P:Program){α:Type}(s:Sem α)(H:List kC)(K:α->List kC->Prop):Prop:=
 ∀F w,Sat w (H++F)->∃v w' H',s.run P w=.ok v w'/\K v H'/\Sat w' (H'++F)/\kg w w'
section
variable {P:Program} {α β:Type} {H:List kC} {K:α->List kC->Prop}
theorem SWP.pure {v:α}(h:K v H):SWP P (Pure.pure v) H K:=fun _ w hs=>⟨v,w,H,rfl,h,hs,.refl w⟩
theorem SWP.bind {s:Sem α}{f:α->Sem β}{K:β->List kC->Prop}(h:SWP P s H fun v H'=>SWP P (f v) H' K):SWP P (s >>=f) H K:=by
 intro F w hs;obtain⟨v,w1,H1,h1,h2,h3,h4⟩:=h F w hs;obtain⟨u,w2,H2,k1,k2,k3,k4⟩:=h2 F w1 h3;exact⟨u,w2,H2,by simp[h1,k1],k2,k3,h4.trans k4⟩
theorem SWP.mono {s:Sem α}{K':α->List kC->Prop}(h:SWP P s H K)(hk:∀v H',K v H'->K' v H'):SWP P s H K':=fun F w hs=>
 let⟨v,w',H',a,b,c⟩:=h F w hs;⟨v,w',H',a,hk _ _ b,c⟩
theorem SWP.perm {s:Sem α}{H':List kC}(p:H.Perm H')(h:SWP P s H' K):SWP P s H K:=fun F w hs=>
 h F w (hs.perm (p.append_right F))
theorem SWP.load {b off:Nat}{v:Value}{K:Value->List kC->Prop}(hx:kC.cell b off v∈H)(h:K v H):SWP P (Go.load ⟨b,off,none⟩) H K:=fun F w hs=>by
 have:=(hs.cell (Zw F hx)).1;exact⟨v,w,H,by simp[Go.load,Sem.run,this],h,hs,.refl w⟩
def jc:Value->Bool
 |.agg _|.tuple _=>false
 |_=>true
theorem SWP.store {b off:Nat}{v u:Value}{K:Unit->List kC->Prop}(hu:jc u=true)(h:K () (.cell b off u::H)):
 SWP P (Go.store ⟨b,off,none⟩ u) (.cell b off v::H) K:=fun F w hs=>by
 have hc:=hs.cell (Zw F (Q6 (a:=kC.cell b off v) (l:=H)));obtain⟨s1,s2⟩:=Sat.store (u:=u) (L:=H++F) (by simpa using hs);refine⟨(),_,_,?_,h,s1,s2⟩;cases u <;> simp_all [Go.store,Sem.run,jc]
theorem SWP.new_cells {c:Array Value}{t:TypeId}{K:Nat->List kC->Prop}(h:∀b,K b (kA b 0 c.toList++H)):SWP P (Go.newObj (.cells c t)) H K:=fun F w hs=>by
 obtain⟨s1,s2⟩:=hs.newCells c t;exact⟨w.heap.size,_,_,by simp[Go.newObj,Sem.run],h _,by rw[vZ];exact s1,s2⟩
theorem SWP.new_obj {o:Obj}{K:Nat->List kC->Prop}(ho:wI o=false)(h:∀b,K b (.obj b o::H)):SWP P (Go.newObj o) H K:=fun F w hs=>by
 obtain⟨s1,s2⟩:=hs.newObj o ho;exact⟨w.heap.size,_,_,by simp[Go.newObj,Sem.run],h _,s1,s2⟩
theorem SWP.getObj {b:Nat}{o:Obj}{K:Obj->List kC->Prop}(hx:kC.obj b o∈H)(h:K o H):SWP P (Go.getObj b) H K:=fun F w hs=>by
 obtain⟨h1,h2⟩:=hs.obj (Zw F hx);refine⟨o,w,H,?_,h,hs,.refl w⟩;cases o <;> simp_all [Go.getObj,Sem.run,wI]
theorem SWP.setObj {b:Nat}{o u:Obj}{K:Unit->List kC->Prop}(hu:wI u=false)(h:K () (.obj b u::H)):SWP P (Go.setObj b u) (.obj b o::H) K:=fun F w hs=>by
 obtain⟨h1,h2⟩:=hs.obj (Zw F (Q6 (a:=kC.obj b o) (l:=H)));obtain⟨s1,s2⟩:=Sat.setObj (u:=u) (L:=H++F) (by simpa using hs) hu;refine⟨(),_,_,?_,h,s1,s2⟩;cases o <;> simp_all [Go.setObj,Sem.run,wI]
theorem SWP.choose {q:Question}{K:Nat->List kC->Prop}(h0:q.forced=true->K 0 H)(h:∀n,K (q.cut n) H):SWP P (Go.choose q) H K:=fun F w hs=>by
 by_cases e:q.forced=true
 ·exact⟨0,w,H,by simp[Go.choose,Sem.run,e],h0 e,hs,.refl w⟩
 ·exact⟨_,_,H,by simp[Go.choose,Sem.run,e];exact⟨rfl,rfl⟩,h _,hs.drawn _,(kg.refl w).drawn _⟩
end
end Go.V

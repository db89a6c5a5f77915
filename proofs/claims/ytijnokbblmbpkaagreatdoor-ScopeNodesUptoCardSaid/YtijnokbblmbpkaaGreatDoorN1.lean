/-
  Cells and objects of memory as a list of atoms that a world satisfies, and triples over the model's own Sem programs.
-/
import Derived.Orders
import Derived.Laws.Sem
import Derived.Laws.World
set_option linter.all false
namespace Go
abbrev Ne1:List Value:=[.string ⟨#[]⟩,.int .i64 0,.slice none 0 0]
abbrev rP(k:Int)(s:ByteArray)(a b c:Int)(t:ByteArray)(d:Option Addr)(e f:Nat)(g:Option Addr)(h i:Nat)(u:Int)(v:Bool)(w:Option Addr)(x y:Nat):List Value:=[.int .u8 k,.string s,.int .u8 a,.int .i64 b,.int .u64 c,.string t,.slice d e f,.slice g h i,.int .i64 u,.bool v,.slice w x y]
abbrev rA(k:Nat)(s:ByteArray)(a:Nat)(b:Int)(c:Nat)(t:ByteArray)(d:Option Addr)(e f:Nat)(g:Option Addr)(h i:Nat)(l:Option Addr)(m n:Nat)(w:Option Addr)(x y:Nat)(p:Int):List Value:=[.int .u8 k,.string s,.int .u8 a,.int .i64 b,.int .u64 c,.string t,.slice d e f,.slice g h i,.slice l m n,.slice w x y,.int .i64 p]
abbrev rN(k:Int)(s:ByteArray)(a b c:Int)(t:ByteArray)(d:Option Addr)(e f:Nat)(g:Option Addr)(h i:Nat)(l:Option Addr)(m n:Nat)(w:Option Addr)(x y:Nat)(p:Int):List Value:=[.int .u8 k,.string s,.int .u8 a,.int .i64 b,.int .u64 c,.string t,.slice d e f,.slice g h i,.slice l m n,.slice w x y,.int .i64 p]
abbrev Nz:Value:=.slice none 0 0
theorem v6:type_of% @Array.eq_empty_of_size_eq_zero:=@Array.eq_empty_of_size_eq_zero
theorem v7:type_of% @Array.getElem?_eq_getElem:=@Array.getElem?_eq_getElem
theorem v8:type_of% @Array.getElem?_eq_some_iff:=@Array.getElem?_eq_some_iff
theorem vA:type_of% @Array.getElem?_modify:=@Array.getElem?_modify
theorem vB:type_of% @Array.getElem?_setIfInBounds_ne:=@Array.getElem?_setIfInBounds_ne
theorem vC:type_of% @Array.getElem?_toList:=@Array.getElem?_toList
theorem vD:type_of% @Array.toList_inj:=@Array.toList_inj
theorem vE:type_of% @Array.toList_map:=@Array.toList_map
theorem vF:type_of% @Bool.and_eq_true:=@Bool.and_eq_true
theorem vG:type_of% @Bool.and_eq_true_iff:=@Bool.and_eq_true_iff
theorem vH:type_of% @Bool.eq_false_iff:=@Bool.eq_false_iff
theorem vI:type_of% @Bool.false_and:=@Bool.false_and
theorem vJ:type_of% @Bool.false_eq_true:=@Bool.false_eq_true
theorem vK:type_of% @Bool.false_or:=@Bool.false_or
theorem vL:type_of% @Bool.not_eq_true':=@Bool.not_eq_true'
theorem vM:type_of% @Bool.not_false:=@Bool.not_false
theorem vN:type_of% @Bool.or_assoc:=@Bool.or_assoc
theorem vO:type_of% @Bool.or_eq_true:=@Bool.or_eq_true
theorem vP:type_of% @Bool.or_eq_true_iff:=@Bool.or_eq_true_iff
theorem vQ:type_of% @Bool.or_false:=@Bool.or_false
theorem vR:type_of% @Bool.true_and:=@Bool.true_and
theorem vS:type_of% @Int.toNat_natCast:=@Int.toNat_natCast
theorem vT:type_of% @Int.toNat_of_nonneg:=@Int.toNat_of_nonneg
theorem vU:type_of% @List.Perm.append_left:=@List.Perm.append_left
theorem vV:type_of% @List.Perm.append_right:=@List.Perm.append_right
theorem vW:type_of% @List.Perm.refl:=@List.Perm.refl
theorem vX:type_of% @List.all_eq_true:=@List.all_eq_true
theorem vY:type_of% @List.any_eq_true:=@List.any_eq_true
theorem vZ:type_of% @List.append_assoc:=@List.append_assoc
theorem vd:type_of% @List.append_nil:=@List.append_nil
theorem ve:type_of% @List.cons.injEq:=@List.cons.injEq
theorem vf:type_of% @List.cons_append:=@List.cons_append
theorem vg:type_of% @List.contains_iff_mem:=@List.contains_iff_mem
theorem vh:type_of% @List.drop_eq_getElem_cons:=@List.drop_eq_getElem_cons
theorem vj:type_of% @List.eq_nil_of_length_eq_zero:=@List.eq_nil_of_length_eq_zero
theorem vm:type_of% @List.ext_getElem?:=@List.ext_getElem?
theorem vp:type_of% @List.filter_append:=@List.filter_append
theorem vq:type_of% @List.filter_cons:=@List.filter_cons
theorem vr:type_of% @List.filter_eq_nil_iff:=@List.filter_eq_nil_iff
theorem vt:type_of% @List.filter_eq_self:=@List.filter_eq_self
theorem vw:type_of% @List.findIdx?_cons:=@List.findIdx?_cons
theorem vx:type_of% @List.flatMap_append:=@List.flatMap_append
theorem vy:type_of% @List.flatMap_cons:=@List.flatMap_cons
theorem vz:type_of% @List.flatMap_def:=@List.flatMap_def
theorem V0:type_of% @List.flatMap_singleton:=@List.flatMap_singleton
theorem V5:type_of% @List.flatten_append:=@List.flatten_append
theorem V6:type_of% @List.flatten_cons:=@List.flatten_cons
theorem V7:type_of% @List.flatten_nil:=@List.flatten_nil
theorem V8:type_of% @List.getD_eq_getElem?_getD:=@List.getD_eq_getElem?_getD
theorem V9:type_of% @List.getElem?_append:=@List.getElem?_append
theorem VV:type_of% @List.getElem?_append_left:=@List.getElem?_append_left
theorem Va:type_of% @List.getElem?_append_right:=@List.getElem?_append_right
theorem Vb:type_of% @List.getElem?_cons_succ:=@List.getElem?_cons_succ
theorem Vc:type_of% @List.getElem?_cons_zero:=@List.getElem?_cons_zero
theorem Vd:type_of% @List.getElem?_drop:=@List.getElem?_drop
theorem Ve:type_of% @List.getElem?_eq_none:=@List.getElem?_eq_none
theorem Vg:type_of% @List.getElem?_eq_none_iff:=@List.getElem?_eq_none_iff
theorem Vh:type_of% @List.getElem?_eq_some_iff:=@List.getElem?_eq_some_iff
theorem Vi:type_of% @List.getElem?_map:=@List.getElem?_map
theorem Vj:type_of% @List.getElem?_of_mem:=@List.getElem?_of_mem
theorem Vl:type_of% @List.getElem?_set:=@List.getElem?_set
theorem Vm:type_of% @List.getElem?_toArray:=@List.getElem?_toArray
theorem Vn:type_of% @List.getElem_mem:=@List.getElem_mem
theorem Vo:type_of% @List.length_append:=@List.length_append
theorem Vp:type_of% @List.length_cons:=@List.length_cons
theorem Vr:type_of% @List.length_drop:=@List.length_drop
theorem Vt:type_of% @List.length_eq_one_iff:=@List.length_eq_one_iff
theorem Vu:type_of% @List.length_filter_le:=@List.length_filter_le
theorem Vv:type_of% @List.length_map:=@List.length_map
theorem Vw:type_of% @List.length_nil:=@List.length_nil
theorem Vx:type_of% @List.length_set:=@List.length_set
theorem Vy:type_of% @List.length_singleton:=@List.length_singleton
theorem Vz:type_of% @List.length_take:=@List.length_take
theorem Q0:type_of% @List.map_append:=@List.map_append
theorem Q1:type_of% @List.map_congr_left:=@List.map_congr_left
theorem Q3:type_of% @List.map_cons:=@List.map_cons
theorem Q5:type_of% @List.map_map:=@List.map_map
theorem Q6:type_of% @List.map_nil:=@List.map_nil
theorem Q7:type_of% @List.mem_append:=@List.mem_append
theorem Q8:type_of% @List.mem_append_right:=@List.mem_append_right
theorem Q9:type_of% @List.mem_cons:=@List.mem_cons
theorem QA:type_of% @List.mem_cons_of_mem:=@List.mem_cons_of_mem
theorem QB:type_of% @List.mem_cons_self:=@List.mem_cons_self
theorem QC:type_of% @List.mem_filter:=@List.mem_filter
theorem QD:type_of% @List.mem_flatMap:=@List.mem_flatMap
theorem QE:type_of% @List.mem_map:=@List.mem_map
theorem QF:type_of% @List.mem_of_mem_take:=@List.mem_of_mem_take
theorem QG:type_of% @List.mem_range:=@List.mem_range
theorem QH:type_of% @List.mem_range'_1:=@List.mem_range'_1
theorem QI:type_of% @List.mem_singleton:=@List.mem_singleton
theorem QJ:type_of% @List.nil_append:=@List.nil_append
theorem QK:type_of% @List.nodup_append:=@List.nodup_append
theorem QL:type_of% @List.nodup_cons:=@List.nodup_cons
theorem QM:type_of% @List.nodup_range:=@List.nodup_range
theorem QN:type_of% @List.perm_append_comm:=@List.perm_append_comm
theorem QO:type_of% @List.perm_append_comm_assoc:=@List.perm_append_comm_assoc
theorem QP:type_of% @List.perm_ext_iff_of_nodup:=@List.perm_ext_iff_of_nodup
theorem QR:type_of% @List.perm_middle:=@List.perm_middle
theorem QS:type_of% @List.prefix_append:=@List.prefix_append
theorem QT:type_of% @List.prefix_refl:=@List.prefix_refl
theorem QU:type_of% @List.set_append_right:=@List.set_append_right
theorem QV:type_of% @List.set_cons_succ:=@List.set_cons_succ
theorem QW:type_of% @List.singleton_append:=@List.singleton_append
theorem QX:type_of% @List.sublist_cons_self:=@List.sublist_cons_self
theorem QY:type_of% @List.take_add_one:=@List.take_add_one
theorem QZ:type_of% @List.take_append_drop:=@List.take_append_drop
theorem Qa:type_of% @List.take_length:=@List.take_length
theorem Qc:type_of% @List.take_of_length_le:=@List.take_of_length_le
theorem Qd:type_of% @List.take_zero:=@List.take_zero
theorem Qe:type_of% @Nat.add_assoc:=@Nat.add_assoc
theorem Qf:type_of% @Nat.add_mul:=@Nat.add_mul
theorem Qg:type_of% @Nat.add_sub_cancel_left:=@Nat.add_sub_cancel_left
theorem Qh:type_of% @Nat.add_zero:=@Nat.add_zero
theorem Qi:type_of% @Nat.le_of_ble_eq_true:=@Nat.le_of_ble_eq_true
theorem Qj:type_of% @Nat.le_refl:=@Nat.le_refl
theorem Qk:type_of% @Nat.le_succ:=@Nat.le_succ
theorem Ql:type_of% @Nat.le_trans:=@Nat.le_trans
theorem Qm:type_of% @Nat.lt_of_lt_of_le:=@Nat.lt_of_lt_of_le
theorem Qn:type_of% @Nat.lt_succ_self:=@Nat.lt_succ_self
theorem Qo:type_of% @Nat.mul_le_mul_right:=@Nat.mul_le_mul_right
theorem Qp:type_of% @Nat.sub_self:=@Nat.sub_self
theorem Qq:type_of% @Nat.succ_mul:=@Nat.succ_mul
theorem Qr:type_of% @Nat.zero_add:=@Nat.zero_add
theorem Qs:type_of% @Nat.zero_le:=@Nat.zero_le
theorem Qt:type_of% @Nat.zero_mul:=@Nat.zero_mul
theorem Qu:type_of% @Option.bind_eq_some_iff:=@Option.bind_eq_some_iff
theorem Qv:type_of% @Option.getD_some:=@Option.getD_some
theorem Qw:type_of% @Option.isSome_iff_exists:=@Option.isSome_iff_exists
theorem Qx:type_of% @Option.map_eq_some_iff:=@Option.map_eq_some_iff
theorem Qy:type_of% @Option.map_none:=@Option.map_none
theorem Qz:type_of% @Option.map_some:=@Option.map_some
theorem X0:type_of% @Option.some.inj:=@Option.some.inj
theorem X1:type_of% @Option.some.injEq:=@Option.some.injEq
theorem X2:type_of% @Prod.mk.injEq:=@Prod.mk.injEq
theorem zA0 {P:Prop}(h:P:=by
 have hwk:∀(Uc:List UC),Uc.map UC.q=U.map UC.q->∀{k:Nat} {z:UC},U[k]? =some z->∃z',Uc[k]? =some z'/\z'.q=z.q:=fun Uc hq k z hk=>by
  have:=Cr hq k;rw[hk]at this;cases e:Uc[k]? with
  |none=>rw[e]at this;cases this
  |some z'=>rw[e]at this;exact⟨z',rfl,X0 this⟩
 refine VC.loop (α:=Nat×Nat×List UC×List Nat) (aW:=fun s=>[(0,kE s.2.1),(1,kE y.q)]) (Hf:=fun s=>[WK s.2.2.1 pH])
  (I:=fun s=>s.1 < st.outer.length/\(∃z,s.2.2.1[s.1]? =some z/\z.q=s.2.1)/\s.2.2.1.map UC.q=U.map UC.q/\s.2.2.1.map UC.body=U.map UC.body/\s.2.2.2++st.way s.1 v=st.way i v/\st.af v∈st.line s.1/\(∀d∈s.2.2.2,s.1 < d)/\cm st (lP st v s.2.2.2) Nv (fun k=>st.uses.length+(if k∈s.2.2.2 then 1 else 0)) s.2.2.1 pH) (μ:=fun s=>s.1) (i,u.q,U,[])
  ⟨cf,⟨u,hu,rfl⟩,rfl,rfl,rfl,hl,Zs,JK⟩ ZU ZI ?_
 clear JK
 rintro⟨c,q,Uc,dn⟩ ⟨hc,⟨z,hz,rfl⟩,GP,hmb,UU,DB,hdn,X6⟩
 simp only at hc hz GP hmb UU DB hdn X6;dsimp only;obtain⟨w',rT,pD⟩:=hwk Uc GP hw;have n0':kB.cell y2.q 0 (kL (some y2.unit))∈WK Uc pH:=iU Th _ (kH.2 ⟨0,kL (some y2.unit),rfl,Zs⟩);have n1':kB.cell y2.q 1 (.int .i64 y2.arg)∈WK Uc pH:=iU Th _ (kH.2 ⟨1,.int .i64 y2.arg,rfl,Zs⟩);rw[hyq2,hyu2,hyw]at n0';rw[hyq2,hya2,hya]at n1';have n0:kB.cell y.q 0 (kE w.q)∈WK Uc pH:=n0';have n1:kB.cell y.q 1 (.int .i64 x.own)∈WK Uc pH:=n1';have lw:wO (WK Uc pH) w.q:=pD ▸ fV rT;have lz:wO (WK Uc pH) z.q:=fV hz;obtain⟨R2,rh,ez⟩:=SQ (V:=pH) hz;have k0:=fW rh n0 Zs;have k1:=fW rh n1 Zs;have k6:kB.cell z.q 6 (.map (some z.nb))∈R2:=fW rh (za hz _ (QA _ (Zw _ (kH.2 ⟨6,.map (some z.nb),rfl,Zs⟩)))) Zs;have k3:kB.cell z.q 3 (kL z.outer)∈R2:=fW rh (za hz _ (QA _ (Zw _ (kH.2 ⟨3,kL z.outer,rfl,Zs⟩)))) Zs;have Lo:∀{k:Nat} {z':UC},Uc[k]? =some z'->wO R2 z'.q:=fun {k z'} hk=>by
  obtain⟨⟨n,h1⟩,⟨vv,h2⟩⟩:=fV (V:=pH) hk;exact⟨⟨n,fW rh h1 Zs⟩,⟨vv,fW rh h2 Zs⟩⟩
 refine VC.imp (H':=[[.obj z.nb (.map z.es z.cl)],R2]) (aj.perm (by simpa using rh)) ?_;have JU:=pD ▸ Lo rT;have hlz:=Lo hz;refine ae ?_;refine Sk u124 CS CT Zr Zr (hlz.more (fun _ hx=>by simp[hx])) (JU.more (fun _ hx=>by simp[hx])) ?_;refine ae ?_;by_cases hqe:z.q=w.q
 ·rw[Zt hqe];refine ae ?_;have e1:c=st.af v:=by rw[huo];exact X6.RQ hz rT (hqe.trans pD.symm)
  rw[hwf.qT Zo e1,vd]at UU;refine kG (Post:=[WK Uc pH]) (.inl rfl) .nil ⟨Uc,pH,⟨rfl,?_,GP,hmb,hvq2⟩,rfl⟩ (aj.perm (by simpa using rh.symm));refine cm.congr (X6.useS cf CR) (fun k t=>?_) Yo (fun k=>?_)
  ·rw[KR,UU]
  ·show st.uses.length+_<=(st.uses++[(i,v)]).length;rw[Vo,Vy];split <;> omega
 rw[Zf hqe];have hcu:c≠st.af v:=fun e=>by
  rw[huo]at e;rw[<- e,hz]at rT;exact hqe (by rw[X0 rT];exact pD)
 have EH:=DB;rw[hwf.line Zo]at EH;have Yl:¬st.outer.getD c (-1) < 0:=fun h'=>by
  rw[if_pos h']at EH;rcases Q9.1 EH with Zu|Zu
  ·exact hcu Zu.symm
  ·cases Zu
 rw[if_neg Yl]at EH;have hln':st.af v∈st.line (st.outer.getD c (-1)).toNat:=by
  rcases Q9.1 EH with Zu|Zu
  ·exact absurd Zu.symm hcu
  ·exact Zu
 have hwst:=hwf.qV (v:=v) (by omega:c<=st.outer.length) hcu;rw[if_neg Yl]at hwst;have nP:=hwf.eZ c;obtain⟨c',Le⟩:∃c',c'=(st.outer.getD c (-1)).toNat:=⟨_,rfl⟩;rw[<- Le]at hln' hwst;obtain⟨z',HY⟩:∃z',Uc[c']? =some z':=⟨_,Zg (by rw[X6.ul];omega)⟩;have hzo:z.outer=some z'.q:=by
  rw[X6.ou c z hz,if_neg Yl,<- Le,HY];rfl
 rw[hzo]at k3;obtain⟨m,t1,t2,t3,t4⟩:=X6.nd c z hz;have EI:∀p∈m,wO R2 p.1.1:=fun p hp=>by
  obtain⟨⟨j,wj,h1,h2⟩,_⟩:=t3 p hp;rw[h2];exact Lo h1
 have hcd:c∉dn:=fun h'=>Nat.lt_irrefl _ (hdn c h')
 have Hz:0<=(ky (w.q,x.own) m).getD 0/\(ky (w.q,x.own) m).getD 0<=st.uses.length:=by
  cases e:ky (w.q,x.own) m with
  |none=>exact⟨Zs,Zs⟩
  |some cn=>
   obtain⟨_,h1,h2⟩:=t3 _ (xU e);rw[if_neg hcd]at h2;simp only[Qv];omega
 have hput:∀cp nN,fY cp nN (jc (w.q,x.own) ((ky (w.q,x.own) m).getD 0+1) m)->cm st (lP st v (dn++[c])) Nv (fun k=>st.uses.length+(if k∈dn++[c]then 1 else 0)) (Uc.set c {z with es:=cp,cl:=nN}) pH:=fun cp nN ly=>by
  rw[<- pD]at ly;refine(X6.put hz rT t2 t3 t4 ly (by rw[pD];omega) (by rw[if_neg hcd,pD];omega)).congr (fun k t=>?_) (fun k=>rfl) (fun k=>?_)
  ·rw[Hk,huo,hoo]
  ·by_cases e1:k∈dn
   ·rw[if_pos e1,if_pos (Zw _ e1),if_neg (fun e=>hcd (by rw[<- e];exact e1))];omega
   ·rw[if_neg e1];by_cases e2:k=c
    ·rw[if_pos e2,if_pos (by simp[e2])];omega
    ·rw[if_neg e2];omega
 have oL:∀cp nN,fY cp nN (jc (w.q,x.own) ((ky (w.q,x.own) m).getD 0+1) m)->∃s:Nat×Nat×List UC×List Nat,(s.1 < st.outer.length/\(∃z,s.2.2.1[s.1]? =some z/\z.q=s.2.1)/\s.2.2.1.map UC.q=U.map UC.q/\s.2.2.1.map UC.body=U.map UC.body/\s.2.2.2++st.way s.1 v=st.way i v/\st.af v∈st.line s.1/\(∀d∈s.2.2.2,s.1 < d)/\cm st (lP st v s.2.2.2) Nv (fun k=>st.uses.length+(if k∈s.2.2.2 then 1 else 0)) s.2.2.1 pH)/\s.1 < c/\s.2.1=z'.q/\
  aj [[.obj z.nb (.map cp nN)],R2] [WK s.2.2.1 pH]:=fun cp nN ly=>by
  have hq:=zD (w':={z with es:=cp,cl:=nN}) hz rfl;refine⟨(c',z'.q,Uc.set c {z with es:=cp,cl:=nN},dn++[c]),⟨by simp only;omega,?_,hq.trans GP,(rX (w':={z with es:=cp,cl:=nN}) hz rfl).trans hmb,?_,hln',?_,hput cp nN ly⟩,by simp only;omega,rfl,aj.perm (by simpa using(ez cp nN).symm)⟩
  ·have:=Cr hq c';rw[HY]at this;cases e:(Uc.set c {z with es:=cp,cl:=nN})[c']? with
   |none=>rw[e]at this;cases this
   |some z2=>rw[e]at this;exact⟨z2,rfl,X0 this⟩
  ·rw[<- UU,hwst];simp
  ·intro d hd;rcases Q7.1 hd with hd|hd
   ·have:=hdn d hd;simp only;omega
   ·rw[QI.1 hd];simp only;omega
 clear hput X6 ez rh;generalize OM:(ky (w.q,x.own) m).getD 0=cn at Hz oL;refine ae ?_;refine VC.draws ⟨?_,?_,trivial⟩
 ·refine ae ?_;refine sr (k:=(w.q,x.own)) thP Zr Zr .here t1.of (JU.more (fun _ hx=>by simp[hx])) (fun p hp=>(EI p hp).more (fun _ hx=>by simp[hx])) ?_;rw[OM];refine ae ?_;refine Kr (k:=(w.q,x.own)) thP Zr Zr .here t1 (JU.more (fun _ hx=>by simp[hx])) (fun p hp=>(EI p hp).more (fun _ hx=>by simp[hx])) (fun es1 cl1 s1 Cx Ω _=>?_);refine ae ?_;refine Sj (k:=(w.q,x.own)) Zr Zr Zr .here Cx Ω ?_ (fun Dx xp=>?_)
  ·split
   ·exact t2
   ·exact oV t2
  have ZX:fY Dx cl1 (jc (w.q,x.own) (cn+1) m):=by
   split at xp
   ·exact xp
   ·rw[Bh]at xp;exact xp
  obtain⟨s2,i1,i2,i3,i4⟩:=oL Dx cl1 ZX;refine ae ?_;exact⟨s2,i1,i2,by rw[i3];exact Nh,i4⟩
 ·refine ae ?_;refine Kr (k:=(w.q,x.own)) thP Zr Zr .here t1 (JU.more (fun _ hx=>by simp[hx])) (fun p hp=>(EI p hp).more (fun _ hx=>by simp[hx])) (fun es1 cl1 s1 Cx Ω _=>?_);rw[OM];have hcn2:(ky (w.q,x.own) (if(ky (w.q,x.own) m).isSome=true then m else jc (w.q,x.own) 0 m)).getD 0=cn:=by
   split
   ·exact OM
   ·rename_i bQ;rw[jv,if_pos rfl];cases e:ky (w.q,x.own) m with
    |none=>rw[e]at OM;exact OM
    |some _=>rw[e]at bQ;exact absurd rfl bQ
  have hls1:∀p∈(if(ky (w.q,x.own) m).isSome=true then m else jc (w.q,x.own) 0 m),wO R2 p.1.1:=fun p hp=>by
   split at hp
   ·exact EI p hp
   ·rcases E4 hp with rfl|hp
    ·exact JU
    ·exact EI p hp
  refine ae ?_;refine sr (k:=(w.q,x.own)) thP Zr Zr .here Cx.of (JU.more (fun _ hx=>by simp[hx])) (fun p hp=>(hls1 p hp).more (fun _ hx=>by simp[hx])) ?_;rw[hcn2];refine ae ?_;refine Sj (k:=(w.q,x.own)) Zr Zr Zr .here Cx Ω ?_ (fun Dx xp=>?_)
  ·split
   ·exact t2
   ·exact oV t2
  have ZX:fY Dx cl1 (jc (w.q,x.own) (cn+1) m):=by
   split at xp
   ·exact xp
   ·rw[Bh]at xp;exact xp
  obtain⟨s2,i1,i2,i3,i4⟩:=oL Dx cl1 ZX;refine ae ?_;exact⟨s2,i1,i2,by rw[i3];exact Nh,i4⟩):P:=h
theorem zA1 {P:Prop}(h:P:=by
 refine jW ?_;refine VC.join (α:=Nat×Bool) (fun z=>[(0,kE lb),(3,kE q),(5,kE r),(6,vi z.1)]) (fun z=>[A,aV lb (mB||z.2) deep,kA r 0 (rA 5 s lk ln aX lt la items.length lc aa args.length ac ta ab.length tc none 0 0 p),kA q 0 (rA 5 s lk ln aX lt la items.length lc aa args.length ac ta ab.length tc (some ⟨bk,o,none⟩) kids.length c p)]) (fun e=>wZ ((z::l).map fun y=>kP (decide (y.kind=6)) (kN y))=some (e.1,e.2)) ?_ ?_
 ·refine ae ?_;refine mO Zr Zr (l:=1) rfl Zo ?_;rw[<- EI,if_neg Zo];refine ae ?_;refine VC.loop (α:=Nat×Nat×Bool) (aW:=fun s=>[(0,kE lb),(3,kE q),(5,kE r),(6,vi s.2.1),(123,.slice (some ⟨bk,o+1*11,none⟩) (z::l).length (c - 1)),(124,vi (z::l).length),(125,vi s.1)]) (Hf:=fun e=>[A,aV lb (mB||e.2.2) deep,kA r 0 (rA 5 s lk ln aX lt la items.length lc aa args.length ac ta ab.length tc none 0 0 p),kA q 0 (rA 5 s lk ln aX lt la items.length lc aa args.length ac ta ab.length tc (some ⟨bk,o,none⟩) kids.length c p)])
   (I:=fun s=>s.1<=(z::l).length/\wZ (((z::l).take s.1).map fun y=>kP (decide (y.kind=6)) (kN y))=some (s.2.1,s.2.2)) (μ:=fun s=>(z::l).length - s.1) (0,0,false) ⟨Qs _,rfl⟩ ZU (by show aj _ [A,aV lb (mB||false) deep,kA r 0 (rA 5 s lk ln aX lt la items.length lc aa args.length ac ta ab.length tc none 0 0 p),kA q 0 (rA 5 s lk ln aX lt la items.length lc aa args.length ac ta ab.length tc (some ⟨bk,o,none⟩) kids.length c p)];rw[vQ,EJ];exact bE) ?_
  rintro⟨j,d,mm⟩ ⟨i1,i2⟩
  simp only at i1 i2;dsimp only;have aC:∀j y,(z::l)[j]? =some y->kids[j+1]? =some y:=fun j y e=>by rw[DA];exact e
  have hmul:(z::l).length<=140737488355328:=by omega
  generalize tI:z::l=tl at*;refine ae ?_;by_cases hj:j < tl.length;rotate_left
  ·rw[show decide ((j:Int) < (tl.length:Int))=false from Zf Zo];rw[Qc Zo]at i2;refine ae ?_;exact⟨(d,mm),i2,ZU,ZI⟩
  rw[show decide ((j:Int) < (tl.length:Int))=true from Zt Zo];obtain⟨u,hu⟩:∃u,tl[j]? =some u:=⟨_,Zg hj⟩;have hur:=hr (j+1) u (aC j u hu);have hum:=hm (j+1) Zo;have huok:=bA.ok (j+1) u (aC j u hu);rw[show o+(j+1)*11=o+(11+j*11) by omega]at hum;have hv:=huok.1 lb (mB||mm) deep;generalize us (j+1)=uj at hur hum hv;obtain⟨e1,e2,e3,e4,e5,e6,e7,e8,e9,u7,u9,xd,xe,Ee,Ef,Eg,Oh,rfl,gh,iy⟩:=zv hur;have fK:tl.take (j+1)=tl.take j++[u]:=by rw[QY,hu];rfl
  refine ae ?_;refine kS Zr (fun z hz=>Zw _ (hum z hz)) rfl ?_;refine ae ?_;refine kM (fun q9=>?_);refine ae ?_;by_cases h6:u.kind=6;rotate_left
  ·have aA:RR=none:=by
    rw[hR5,io (.inl (cK (QE.2 ⟨u,Zv hu,by simp[kP,h6]⟩)))];unfold kP;split <;> rfl
   rw[show decide ((u.kind:Int)=6)=false from Zf Zo];refine ae ?_;refine kK (j9 false) Zr ZP Zai (fun ch Post hz=>?_);obtain⟨_,rfl,rfl⟩:=hz;exact⟨[A,aV lb (mB||mm) deep],ZI,aA,rfl,_,rfl⟩
  rw[show decide ((u.kind:Int)=6)=true from Zt Zo];refine ae ?_;refine kK (j9 true) Zr ZP (fun v Post hv=>?_) GJ;obtain⟨_,rfl,rfl⟩:=hv;simp only[QJ];refine ae ?_;refine kK hv Zr ZP (fun v Post hv=>?_) (fun ch Post hz=>?_);rotate_left
  ·obtain⟨hb,rfl,m2,rfl⟩:=hz;have aA:RR=none:=by
    rw[hR5,io (.inl (cK (QE.2 ⟨u,Zv hu,by simp[kP,h6,hb]⟩)))];unfold kP;split <;> rfl
   exact⟨[A,aV lb m2 deep],ZI,aA,rfl,m2,rfl⟩
  obtain⟨e,m2,he,rfl,rfl⟩:=hv;simp only[aE];refine ae ?_;rw[show(if(e:Int) > (d:Int)then(e:Int)else(d:Int))=((max d e:Nat):Int) by split <;> omega];refine⟨(j+1,max d e,mm||m2),⟨by simp only;omega,?_⟩,by simp only;omega,ZU,?_⟩
  ·simp only[fK,Q0,Q3,Q6,he];simp only[h6,decide_true];exact cL i2
  ·simp only[vN];exact bE
 ·rintro⟨d,mm⟩ i2
  simp only at i2;dsimp only;cases hf:ze y z.name (kN y)with
  |some pf=>
   obtain⟨dF,mF⟩:=pf;have hFf:=rW (hF (mB||mm)) hf;refine VC.draws ⟨?_,trivial⟩;refine ae ?_;refine kS Zr (fun z hz=>by simp only[V6,Q7];simp[lh z hz]) yR ?_;refine ae ?_;refine kI hFf Zr ZP (fun v Post hv=>?_);obtain⟨rfl,rfl⟩:=hv;simp only[aE];refine ae ?_;rw[show(if(dF:Int) > (d:Int)then(dF:Int)else(d:Int))=((max d dF:Nat):Int) by split <;> omega];refine⟨⟨max d dF,decide (256 < kids.length)||(mm||mF),s,lk,ln,aX,lt,la,items.length,lc,aa,args.length,ac,ta,ab.length,tc⟩,?_,ZU,?_⟩
   ·rw[hR5,hf,i2];simp[wo.ok,kP,nZ,wy,tZ,dI,Lt.kind,Lt.n,Lt.bits,Lt.text,Lt.items];simp only[and_assoc]
   ·simp only;rw[<- vN,<- JV,<- vN];show aj _ [A,aV lb (mB||mm||mF) deep,kA r 0 (rA 5 s lk ln aX lt la items.length lc aa args.length ac ta ab.length tc none 0 0 p)];exact bE
  |none=>
   have aA:RR=none:=by
    rw[hR5,io (.inr hf)];unfold kP;split <;> rfl
   obtain⟨dF,YP,ZB,hFz⟩:=xJ hF;refine VC.u5 (fun ch H'=>ch=wG/\∃m,aj H' [A,aV lb m deep]) (fun H'=>∃m,aj H' [A,aV lb m deep,kA q 0 (rA 5 s lk ln aX lt la items.length lc aa args.length ac ta ab.length tc (some ⟨bk,o,none⟩) kids.length c p)]) ⟨mB||mm,ZI⟩ ?_ (fun ch H' hp=>?_)
   ·skip
    intro rs dC;rcases Q9.1 dC with rfl|dC
    ·skip
     refine kJ ?_;refine kJ ?_;refine kJ ?_;refine kJ ?_;refine kJ ?_;refine kJ ?_;refine kJ ?_;refine kJ ?_;refine kJ ?_;refine kJ ?_;refine kJ ?_;refine⟨rfl,vi dF,YP,fun Γ H bp hH=>?_,?_⟩
     ·obtain⟨mz,hz⟩:=hH;refine VO.imp hz ?_;refine kK (hFz mz) (by simp only[V.gN,V.ev,bp 140 Zd _ rfl,bp 144 Zd _ rfl,bp 149 Zd _ rfl]) ZP (fun v Post hv=>?_) (fun ch Post hz=>?_)
      ·obtain⟨rfl,UY,m',rfl⟩:=hv;exact VO.nil ⟨rfl,⟨m',aj.refl _⟩,UY⟩
      ·obtain⟨rfl,m',rfl⟩:=hz;exact⟨rfl,m',ZI⟩
     refine⟨rfl,vi (max d dF:Nat),True,fun Γ H bp hH=>?_,?_⟩
     ·obtain⟨mz,hz⟩:=hH;refine VO.imp hz ?_;exact Dq (by simp only[V.ev,bp 139 Zd _ rfl]) (by simp only[V.ev,bp 150 Zd _ rfl]) (VO.nil ⟨rfl,⟨mz,aj.refl _⟩,trivial⟩)
     refine kJ ?_;exact fun hh=>by
      simp only[true_and,and_true]at hh;exact ZB hh hf
    ·cases dC
   ·obtain⟨rfl,m,hi⟩:=hp;exact⟨_,hi,aA,rfl,m,rfl⟩):P:=h
theorem zA2 {P:Prop}(h:P:=by
 refine ae ?_;refine VC.loop (α:=Nat×Nat×Bool) (aW:=fun s=>[(0,kE lb),(1,.string aQ),(8,vi s.2.1),(29,.slice a l.length c),(30,vi l.length),(31,vi s.1)]) (Hf:=fun s=>[A,aV lb (mB||s.2.2) deep])
  (I:=fun s=>s.1<=l.length/\wZ ((l.take s.1).map fun x=>jm x (tk aQ) (kN x))=some (s.2.1,s.2.2)) (μ:=fun s=>l.length - s.1) (0,0,false) ⟨Qs _,rfl⟩ ZU (by show aj _ [A,aV lb (mB||false) deep];rw[vQ,EJ];exact bE) ?_
 rintro⟨j,d,mm⟩ ⟨i1,i2⟩
 simp only at i1 i2;dsimp only;refine ae ?_;by_cases hj:j < l.length;rotate_left
 ·rw[show decide ((j:Int) < (l.length:Int))=false from Zf Zo];have fK:l.take j=l:=Qc Zo;rw[fK]at i2;refine ae ?_;refine jJ (kG (Post:=[A,aV lb (Wc||(decide (15 < jA aQ)||mm)) deep]) (.inr rfl) (.tmp Zr .nil) ⟨d,_,by rw[re,i2];rfl,rfl,by rw[UG]⟩ (by rw[UG,<- vN,<- JV];exact bE))
 obtain rfl:=hk.at_ Zo;rw[show decide ((j:Int) < (l.length:Int))=true from Zt Zo];obtain⟨y,hy⟩:∃y,l[j]? =some y:=⟨_,Zg hj⟩;have dD:=hk.rd j y hy;have lh:=hk.mem j hj;have hv:=zb A y _ dD (hk.ok j y hy) (tk aQ) lb (mB||mm) deep;generalize us j=uj at dD lh hv;obtain⟨e1,e2,e3,e4,e5,e6,e7,e8,e9,u7,u9,xd,xe,Ee,Ef,Eg,Oh,rfl,gh,iy⟩:=zv dD;have fK:l.take (j+1)=l.take j++[y]:=by rw[QY,hy];rfl
 refine ae ?_;refine kS Zr NR rfl ?_;refine ae ?_;refine kM (fun q=>?_);refine ae ?_;cases he:jm y (tk aQ) (kN y)with
 |some dm=>
  obtain⟨e,m2⟩:=dm;rw[he]at hv;have hvf:jb Tryz.prog 170 [kE lb,.agg #[cv y.kind,.string y.name,cv e1,vi e2,uv e3,.string e4,.slice e5 e6 e7,.slice e8 e9 u7,.slice u9 xd xe,.slice Ee Ef Eg,vi Oh],vi (tk aQ)] [A,aV lb (mB||mm) deep] (fun v Post=>v=vi e/\Post=[A,aV lb (mB||mm||m2) deep]) (fun _ _=>False):=
   jb.mono hv (fun v Post ⟨d',m',e,h1,h2⟩=>by cases e;exact⟨h1,h2⟩) (fun ch Post hz=>by cases hz.1)
  refine VC.draws ⟨?_,?_,trivial⟩
  ·skip
   refine ae ?_;refine kQ (dc aQ bK) Zr ?_;refine ae ?_;refine kI hvf.fun Zr ZP (fun v Post hv=>?_);obtain⟨rfl,rfl⟩:=hv;simp only[aE];refine ae ?_;rw[show(if(e:Int) > (d:Int)then(e:Int)else(d:Int))=((max d e:Nat):Int) by split <;> omega];refine⟨(j+1,max d e,mm||m2),⟨by simp only;omega,?_⟩,by simp only;omega,ZU,?_⟩
   ·simp only[fK,Q0,Q3,Q6,he];exact cL i2
   ·simp only[vN];exact bE
  ·skip
   refine ae ?_;refine kQ (dc aQ bK) Zr ?_;refine ae ?_;refine kI hvf.fun Zr ZP (fun v Post hv=>?_);obtain⟨rfl,rfl⟩:=hv;simp only[aE];refine ae ?_;rw[show(if(e:Int) > (d:Int)then(e:Int)else(d:Int))=((max d e:Nat):Int) by split <;> omega];refine⟨(j+1,max d e,mm||m2),⟨by simp only;omega,?_⟩,by simp only;omega,ZU,?_⟩
   ·simp only[fK,Q0,Q3,Q6,he];exact cL i2
   ·simp only[vN];exact bE
 |none=>
  rw[he]at hv;have aA:RR=none:=by
   rw[bU,cK (QE.2 ⟨y,Zv hy,he⟩)];unfold kP;split <;> rfl
  have hvz:jb Tryz.prog 170 [kE lb,.agg #[cv y.kind,.string y.name,cv e1,vi e2,uv e3,.string e4,.slice e5 e6 e7,.slice e8 e9 u7,.slice u9 xd xe,.slice Ee Ef Eg,vi Oh],vi (tk aQ)] [A,aV lb (mB||mm) deep] (fun v Post=>False) (fun ch Post=>ch=wG/\∃m,Post=[A,aV lb m deep]):=
   jb.mono hv (fun v Post ⟨d',m',e,_⟩=>by cases e) (fun ch Post hz=>hz.2)
  refine VC.u5 (fun ch H'=>ch=wG/\∃m,aj H' [A,aV lb m deep]) (fun H'=>H'=[kA q 0 (rA y.kind y.name e1 e2 e3 e4 e5 e6 e7 e8 e9 u7 u9 xd xe Ee Ef Eg Oh),A,aV lb (mB||mm) deep]) rfl ?_ (fun ch H' hp=>?_)
  ·intro rs dC;rcases Q9.1 dC with rfl|dC
   ·skip
    refine kJ ?_;refine kJ ?_;refine⟨rfl,.agg #[cv y.kind,.string y.name,cv e1,vi e2,uv e3,.string e4,.slice e5 e6 e7,.slice e8 e9 u7,.slice u9 xd xe,.slice Ee Ef Eg,vi Oh],True,fun Γ H bp hH=>?_,?_⟩
    ·subst hH;exact zQ (bp 10 Zd _ rfl) SZ DO
    refine kJ ?_;refine⟨rfl,vi (tk aQ),True,fun Γ H bp hH=>?_,?_⟩
    ·subst hH;exact kQ (dc aQ bK) (by simp only[V.gN,V.ev,bp 38 Zd _ rfl]) DO
    refine⟨rfl,vi 0,False,fun Γ H bp hH=>?_,?_⟩
    ·subst hH;refine kK hvz Zao ZP (fun v Post hv=>hv.elim) (fun ch Post hz=>?_);obtain⟨rfl,m,rfl⟩:=hz;exact⟨rfl,m,ZI⟩
    refine⟨rfl,vi d,True,fun Γ H bp hH=>?_,?_⟩
    ·subst hH;exact Dq (a:=d) (b:=0) (by simp only[V.ev,bp 35 Zd _ rfl]) (by simp only[V.ev,bp 40 Zd _ rfl];rfl) (VO.nil ⟨by rw[Nat.max_zero],rfl,trivial⟩)
    refine kJ ?_;exact fun hh=>by simp at hh
   rcases Q9.1 dC with rfl|dC
   ·skip
    refine kJ ?_;refine kJ ?_;refine kJ ?_;refine⟨rfl,vi (tk aQ),True,fun Γ H bp hH=>?_,?_⟩
    ·subst hH;exact kQ (dc aQ bK) (by simp only[V.gN,V.ev,bp 38 Zd _ rfl]) DO
    refine⟨rfl,.agg #[cv y.kind,.string y.name,cv e1,vi e2,uv e3,.string e4,.slice e5 e6 e7,.slice e8 e9 u7,.slice u9 xd xe,.slice Ee Ef Eg,vi Oh],True,fun Γ H bp hH=>?_,?_⟩
    ·subst hH;exact zQ (bp 10 Zd _ rfl) SZ DO
    refine⟨rfl,vi 0,False,fun Γ H bp hH=>?_,?_⟩
    ·subst hH;refine kK hvz Zao ZP (fun v Post hv=>hv.elim) (fun ch Post hz=>?_);obtain⟨rfl,m,rfl⟩:=hz;exact⟨rfl,m,ZI⟩
    refine⟨rfl,vi d,True,fun Γ H bp hH=>?_,?_⟩
    ·subst hH;exact Dq (a:=d) (b:=0) (by simp only[V.ev,bp 35 Zd _ rfl]) (by simp only[V.ev,bp 40 Zd _ rfl];rfl) (VO.nil ⟨by rw[Nat.max_zero],rfl,trivial⟩)
    refine kJ ?_;exact fun hh=>by simp at hh
   ·cases dC
  ·obtain⟨rfl,m,hi⟩:=hp;exact⟨_,hi,aA,rfl,m,rfl⟩):P:=h
theorem zA3 {P:Prop}(h:P:=by
 refine ae ?_;refine kS Zr (fun z hz=>by simp only[V6,Q7];simp[lh z hz]) yR ?_;refine ae ?_;refine kI hFf Zr ZP (fun v Post hv=>?_);obtain⟨rfl,rfl⟩:=hv;simp only[aE];refine ae ?_;refine mO Zr Zr (l:=1) rfl Zo ?_;refine ae ?_;refine kI hAf Zr ZP (fun v Post hv=>?_);obtain⟨rfl,rfl⟩:=hv;simp only[aE];refine ae ?_;rw[show(if(dA:Int) > (dF:Int)then(dA:Int)else(dF:Int))=((max dF dA:Nat):Int) by split <;> omega];refine⟨⟨max dF dA,mF||mA,⟨#[]⟩,lk,ln,aX,lt,la,items.length,lc,aa,args.length,ac,ta,ab.length,tc⟩,?_,ZU,?_⟩
 ·rw[hR4,hf,hal2];simp[wo.ok,kP,nZ,iv,dI,Lt.kind,Lt.n,Lt.bits,Lt.text,Lt.items,show(⟨#[]⟩:ByteArray).size=0 from rfl];simp only[and_assoc]
 ·simp only;rw[<- vN];show aj _ [A,aV lb (m0||mF||mA) deep,kA r 0 [cv 4,.string ⟨#[]⟩,cv lk,vi ln,uv aX,.string lt,.slice la items.length lc,.slice aa args.length ac,.slice ta ab.length tc,.slice none 0 0,vi p]];exact bE):P:=h
theorem zA4 {P:Prop}(h:P:=by
 refine ae ?_;refine kK ap Zr ZP (fun v Post hv=>?_) (fun ch Post hz=>?_);rotate_left
 ·obtain⟨q1,e1,p1,eg,rfl,rfl⟩:=hz;rw[hfa]at eg;cases eg
 obtain⟨iT,cW,U4,V4,T4,B4,⟨Us,Lr,CO,rows,yo,B5,Ae,cG,rfl⟩,rfl⟩:=hv;simp only[aE];obtain⟨w4,hw4,hwq4⟩:∃w,U4[st.outer.length]? =some w/\w.q=q:=iS rfl (by
  obtain⟨t,ht⟩:=Lr;have h1:(U3.map UC.q)[st.outer.length]? =some q:=by rw[HQ,l7];exact HP
  rw[<- ht,VV (Vh.1 h1).1];exact h1)
 obtain⟨Rb,hpb,hrb⟩:=XG (V:=V4) hw4
 replace hpb:(WK U4 V4).Perm (kA q 8 [w4.body]++Rb):=by rw[<- hwq4];exact hpb
 replace hrb:∀bv,(WK (U4.set st.outer.length {w4 with body:=bv}) V4).Perm (kA q 8 [bv]++Rb):=fun bv=>by rw[<- hwq4];exact hrb bv
 obtain⟨va,vc,rfl⟩:=Ae.form;refine VO.imp (H':=[kA q 8 [w4.body],Rb,kA k9 0 [kE q],kA X.wq 0 [.map (some X.fb),.map (some X.gb),iT],ai iT (U4.map fun u=>kL (some u.q)) cW,[.obj X.fb (.map X.bF X.fc)],[.obj X.gb (.map X.bH X.gc)],T4,[.obj b (.map es c)],X.S,ai (.slice va (kT X.F X.G kids (bn args ab p st env o).1 (bn args ab p st env o).2 st.outer.length).1.length vc) rows.flatten yo++B5]) (aj.cut (M:=[WK U4 V4,kA k9 0 [kE q],kA X.wq 0 [.map (some X.fb),.map (some X.gb),iT],ai iT (U4.map fun u=>kL (some u.q)) cW,[.obj X.fb (.map X.bF X.fc)],[.obj X.gb (.map X.bH X.gc)],T4,[.obj b (.map es c)],X.S,ai (.slice va (kT X.F X.G kids (bn args ab p st env o).1 (bn args ab p st env o).2 st.outer.length).1.length vc) rows.flatten yo++B5]) ZI (aj.perm (by
  simp only[V6,V7,vd];rw[<- vZ (kA q 8 [w4.body])];exact vV _ hpb))) ?_
 refine ae ?_;obtain⟨j1,j2,j3,⟨w5,j4,j5⟩,j6⟩:=Uz iT cW U4 V4 T4 rows yo B5 va vc w4 Us Ae cG hw4 hwq4 Lr CO;refine jJ (kG (Post:=[kA X.wq 0 [.map (some X.fb),.map (some X.gb),iT],ai iT ((U4.set st.outer.length {w4 with body:=.slice va (kT X.F X.G kids (bn args ab p st env o).1 (bn args ab p st env o).2 st.outer.length).1.length vc}).map fun u=>kL (some u.q)) cW,[.obj X.fb (.map X.bF X.fc)],[.obj X.gb (.map X.bH X.gc)],WK (U4.set st.outer.length {w4 with body:=.slice va (kT X.F X.G kids (bn args ab p st env o).1 (bn args ab p st env o).2 st.outer.length).1.length vc}) V4,T4++(ai (.slice va (kT X.F X.G kids (bn args ab p st env o).1 (bn args ab p st env o).2 st.outer.length).1.length vc) rows.flatten yo++B5),[.obj b (.map es c)],X.S]) (.inr rfl) (.tmp (v:=kE q) Zr .nil) ⟨iT,cW,_,V4,_,⟨j1,j2,j3,w5,j4,j5⟩,rfl⟩ ?_);rw[j6];refine aj.cut (M:=[kA X.wq 0 [.map (some X.fb),.map (some X.gb),iT],ai iT (U4.map fun u=>kL (some u.q)) cW,[.obj X.fb (.map X.bF X.fc)],[.obj X.gb (.map X.bH X.gc)],kA q 8 [.slice va (kT X.F X.G kids (bn args ab p st env o).1 (bn args ab p st env o).2 st.outer.length).1.length vc],Rb,T4,ai (.slice va (kT X.F X.G kids (bn args ab p st env o).1 (bn args ab p st env o).2 st.outer.length).1.length vc) rows.flatten yo++B5,[.obj b (.map es c)],X.S]) ZI (aj.perm ?_);have h:=fun R=>(vV R (hrb (.slice va (kT X.F X.G kids (bn args ab p st env o).1 (bn args ab p st env o).2 st.outer.length).1.length vc))).symm
 simp only[vZ]at h;simp only[V6,V7,vd,vZ];exact vU _ (vU _ (vU _ (vU _ (h _))))):P:=h
theorem zA5 {P:Prop}(h:P:=by
 refine kJ ?_;refine⟨rfl,vi dA,φA,fun Γ H bp hH=>?_,?_⟩
 ·obtain⟨mz,hz⟩:=hH;refine VO.imp hz ?_;refine kK (hAz mz) Zaq ZP (fun v Post hv=>?_) (fun ch Post hz=>?_)
  ·obtain⟨rfl,UY,m',rfl⟩:=hv;exact VO.nil ⟨rfl,⟨m',aj.refl _⟩,UY⟩
  ·obtain⟨rfl,m',rfl⟩:=hz;exact⟨rfl,m',ZI⟩
 refine⟨rfl,vi (max dF dA:Nat),True,fun Γ H bp hH=>?_,?_⟩
 ·obtain⟨mz,hz⟩:=hH;refine VO.imp hz ?_;exact Dq Zar Zas (VO.nil ⟨rfl,⟨mz,aj.refl _⟩,trivial⟩)
 refine kJ ?_;exact fun hh=>by
  simp only[true_and,and_true]at hh;rcases bQ with h1|h1
  ·exact ZB hh.1 h1
  ·exact hAφ hh.2 h1):P:=h
theorem zA6 {P:Prop}(h:P:=by
 refine ae ?_;refine VC.loop (α:=Nat×Nat×Bool) (aW:=fun s=>[(0,kE lb),(5,kE r),(6,vi s.2.1),(185,.slice a kids.length c),(186,vi kids.length),(187,vi s.1)]) (Hf:=fun z=>[A,aV lb (mB||z.2.2) deep,kA r 0 (rA 8 s lk ln aX lt la items.length lc aa args.length ac ta ab.length tc none 0 0 p)])
  (I:=fun s=>s.1<=kids.length/\wZ ((kids.take s.1).map fun x=>jm x 1 (kN x))=some (s.2.1,s.2.2)) (μ:=fun s=>kids.length - s.1) (0,0,false) ⟨Qs _,rfl⟩ ZU (by show aj _ [A,aV lb (mB||false) deep,kA r 0 (rA 8 s lk ln aX lt la items.length lc aa args.length ac ta ab.length tc none 0 0 p)];rw[vQ,EJ];exact bE) ?_
 rintro⟨j,d,mm⟩ ⟨i1,i2⟩
 simp only at i1 i2;dsimp only;have hdb:d<=1099511627777:=fL (fun r hr d m e=>by
  obtain⟨y,hy,rfl⟩:=QE.1 hr;obtain⟨i,hi⟩:=Vj (QF hy);exact sw (bA.ok i _ hi).2 e) i2
 refine ae ?_;by_cases hj:j < kids.length;rotate_left
 ·rw[show decide ((j:Int) < (kids.length:Int))=false from Zf Zo];rw[Qc Zo]at i2;refine ae ?_;refine⟨⟨d+1,decide (255 < kids.length)||mm,s,lk,ln,aX,lt,la,items.length,lc,aa,args.length,ac,ta,ab.length,tc⟩,?_,ZU,?_⟩
  ·simp only[hR8,i2,wm,wy];simp[wo.ok,kP,dI,Lt.kind,Lt.n,Lt.bits,Lt.text,Lt.items];simp only[and_assoc]
  ·simp only;rw[<- vN,<- JV];show aj _ [A,aV lb (mB||mm) deep,kA r 0 (rA 8 s lk ln aX lt la items.length lc aa args.length ac ta ab.length tc none 0 0 p)];exact bE
 obtain rfl:=ha Zo;rw[show decide ((j:Int) < (kids.length:Int))=true from Zt Zo];obtain⟨y,hy⟩:∃y,kids[j]? =some y:=⟨_,Zg hj⟩;have dD:=hr j y hy;have lh:=hm j hj;have hv:=zb A y _ dD (bA.ok j y hy) 1 lb (mB||mm) deep;generalize us j=uj at dD lh hv;obtain⟨e1,e2,e3,e4,e5,e6,e7,e8,e9,u7,u9,xd,xe,Ee,Ef,Eg,Oh,rfl,gh,iy⟩:=zv dD;have fK:kids.take (j+1)=kids.take j++[y]:=by rw[QY,hy];rfl
 refine ae ?_;refine kS Zr NR rfl ?_;refine ae ?_;refine kM (fun q9=>?_);refine ae ?_;refine kK hv Zr ZP (fun v Post hv=>?_) (fun ch Post hz=>?_);rotate_left
 ·obtain⟨hb,rfl,m2,rfl⟩:=hz;have aA:RR=none:=by
   rw[hR8,cK (QE.2 ⟨y,Zv hy,hb⟩)];unfold kP;split <;> rfl
  exact⟨[A,aV lb m2 deep],ZI,aA,rfl,m2,rfl⟩
 obtain⟨e,m2,he,rfl,rfl⟩:=hv;simp only[aE];refine ae ?_;rw[show(if(e:Int) > (d:Int)then(e:Int)else(d:Int))=((max d e:Nat):Int) by split <;> omega];refine⟨(j+1,max d e,mm||m2),⟨by simp only;omega,?_⟩,by simp only;omega,ZU,?_⟩
 ·simp only[fK,Q0,Q3,Q6,he];exact cL i2
 ·simp only[vN];exact bE):P:=h
theorem AA {P:Prop}(h:P:=by
 refine ae ?_;refine kK (j9 false) Zr ZP Zai (fun ch Post hz=>?_);obtain⟨_,rfl,rfl⟩:=hz;exact⟨[A,aV lb m0 deep],ZI,aA,rfl,m0,rfl⟩):P:=h
theorem zA8 {P:Prop}(h:P:=by
 refine ae ?_;refine VC.loop (α:=Nat×Nat×Bool) (aW:=fun s=>[(0,kE lb),(7,vi s.2.1),(8,kE r),(114,.slice a items.length c),(115,vi items.length),(116,vi s.1)]) (Hf:=fun s=>[A,aV lb (true||s.2.2) deep,kA r 0 [cv 10,vi n,uv b,.string t,.slice a items.length c]])
  (I:=fun s=>s.1<=items.length/\wZ ((items.take s.1).map fun x=>wE x true)=some (s.2.1,s.2.2)) (μ:=fun s=>items.length - s.1) (0,0,false) ⟨Qs _,rfl⟩ ZU (by rw[vQ];exact bE) ?_
 rintro⟨j,d,mm⟩ ⟨i1,i2⟩
 simp only at i1 i2;dsimp only;have bL:=wf.many;simp only[Lt.size]at hbd;have hdb:d<=Lt.aq items:=fL (fun r hr d m e=>by
  obtain⟨y,hy,rfl⟩:=QE.1 hr;have h1:=Lt.aH (QF hy);have h2:=CX _ y (Qj _) true d m e;omega) i2
 refine ae ?_;by_cases hj:j < items.length;rotate_left
 ·rw[show decide ((j:Int) < (items.length:Int))=false from Zf Zo];have fK:items.take j=items:=Qc Zo;rw[fK,<- gQ]at i2;refine ae ?_;refine⟨⟨d+1,decide (255 < items.length)||mm,n,b,t,.slice none 0 0,0⟩,⟨⟨_,_,rfl⟩,?_⟩,ZU,?_⟩
  ·simp[wE,i2,wy,wm,kP,nL.ok]
  ·rw[UI];exact bE
 obtain rfl:=ha Zo;rw[show decide ((j:Int) < (items.length:Int))=true from Zt Zo];obtain⟨y,hy⟩:∃y,items[j]? =some y:=⟨_,Zg hj⟩;have dD:=hr j y hy;have lh:=hm j hj;have Pc:y.size<=N:=by
  have h1:=Lt.aH (Zv hy);simp only[Lt.size]at hx;omega
 have Nq:=Lt.aH (Zv hy);have aU:=ih y Pc Zo _ dD lb (true||mm) deep true;generalize us j=uj at dD lh aU;have hyr2:=dD;cases hyr2 with
 |@mk k2 n2 b2 t2 H9 a2 c2 XR o2 DG Nw GL pC ez=>
 refine ae ?_;refine kS Zr NR rfl ?_;refine ae ?_;refine kM (fun q2=>?_);refine ae ?_;refine kK aU Zr ZP (fun v Post hv=>?_) (fun ch Post hz=>?_);rotate_left
 ·obtain⟨hb,rfl,m2,rfl⟩:=hz;have aA:wE (.mk 10 n b t items) inside=none:=by
   have h1:wZ (Be items)=none:=by
    rw[gQ];exact cK (QE.2 ⟨_,Zv hy,hb⟩)
   simp[wE,h1,wy,wm,kP]
  exact⟨[A,aV lb m2 deep],ZI,aA,rfl,m2,rfl⟩
 obtain⟨e,m2,he,rfl,rfl⟩:=hv;simp only[aE];have fK:items.take (j+1)=items.take j++[.mk k2 n2 b2 t2 H9]:=by rw[QY,hy];rfl
 refine ae ?_;rw[show(if(e:Int) > (d:Int)then(e:Int)else(d:Int))=((max d e:Nat):Int) by split <;> omega];refine⟨(j+1,max d e,mm||m2),⟨by simp only;omega,?_⟩,by simp only;omega,ZU,?_⟩
 ·simp only[fK,Q0,Q3,Q6,he];exact cL i2
 ·simp only[vN];exact bE):P:=h
theorem zA9 {P:Prop}(h:P:=by
 have pR:s1=seen:=by rw[Ac];rfl
 refine ae ?_;refine wd (E:=zw) (V:=fun n:Nat=>.int .i64 n) (k:=s) Zr Zr rfl Zay hH1 ?_;rw[J9];generalize hgn:(ky s mH).getD 0=gn at hgs;refine ae ?_;by_cases g0:gn=0
 ·rw[show decide ((gn:Int)=0)=true from Zt Zo];refine ae ?_;refine wd (E:=zw) (V:=fun n:Nat=>.int .i64 n) (k:=s) Zr Zr rfl Zay hM1 ?_;rw[J9];generalize hgm:(ky s mM).getD 0=gm at JW;refine ae ?_;by_cases g1:gm=0
  ·rw[show decide ((gm:Int)=0)=true from Zt Zo];refine ae ?_;refine wd (E:=zw) (V:=fun n:Nat=>.int .i64 n) (k:=s) Zr Zr rfl Zay hM1 ?_;rw[J9,hgm];refine ae ?_;refine wa (E:=zw) (V:=fun n:Nat=>.int .i64 n) (k:=s) (v:=gm+1) Zr Zr Zr rfl ZK hM1 (fun cp c' ZW=>?_);refine ae ?_;refine kg (out:=[.string s]) Zr Zr (fun qb=>?_);refine ae ?_;refine j8 (k:=out.length) (m:=1) (xs:=out.map Value.string) (sp:=sp) (ys:=[.string s]) Zr Zr bh ZK Zr ?_ rfl Zr Zr Zd Zo (fun cq aY ax=>?_)
   ·exact AI
   have nQ:o1=out++[s]:=by rw[oO,if_pos ⟨Zs,(JW.1 g1).1,hgs.1 g0,(JW.1 g1).2⟩]
   have ψ:kY 1 cq o1.length (o1.map Value.string) aY:=by rw[nQ];simpa using ax
   obtain⟨lF,lG,rfl⟩:=ax.form;refine ae ?_;refine⟨(cp,c',.slice lF (out.length+1) lG,aY,hb,ly,hc,[]),⟨⟨⟨_,ZW,by rw[nQ];exact Wh hM2⟩⟩,?_,ψ,Zs⟩,ZU,?_⟩
   ·rw[pR];exact AX
   ·dsimp only;rw[nQ,Q0,Q3,Q6];exact bE
  ·rw[show decide ((gm:Int)=0)=false from Zf Zo];refine ae ?_;have nQ:o1=out:=by rw[oO,if_neg (fun c=>g1 (JW.2 ⟨c.2.1,c.2.2.2⟩))]
   refine⟨(Ai,mc,.slice sa out.length sc,sp,hb,ly,hc,[]),⟨by rw[nQ];exact OU,?_,by rw[nQ];exact bh,Zs⟩,ZU,?_⟩
   ·rw[pR];exact AX
   ·dsimp only;rw[nQ];exact bE
 ·rw[show decide ((gn:Int)=0)=false from Zf Zo];refine ae ?_;have nQ:o1=out:=by rw[oO,if_neg (fun c=>g0 (hgs.2 c.2.2.1))]
  refine⟨(Ai,mc,.slice sa out.length sc,sp,hb,ly,hc,[]),⟨by rw[nQ];exact OU,?_,by rw[nQ];exact bh,Zs⟩,ZU,?_⟩
  ·rw[pR];exact AX
  ·dsimp only;rw[nQ];exact bE):P:=h
theorem zAA {P:Prop}(h:P:=by
 refine ae ?_;refine kQ (eR aQ bK) Zr ?_;refine ae ?_;rw[eg];refine ae ?_;rw[sK];refine ae ?_;rw[Oz];refine ae ?_;refine kI ((j9 true).mono (Z':=fun _ _=>False) (fun v Post h=>h) GJ).fun Zr ZP (fun v Post hv=>?_);obtain⟨_,rfl,rfl⟩:=hv;simp only[QJ];refine ae ?_;refine kK (fk A _ args bB lb 15 false false) Zr ZP (fun v Post hv=>?_) (fun ch Post hz=>?_);rotate_left
 ·obtain⟨hb,rfl,m2,rfl⟩:=hz;exact⟨[aV lb m2 false,A],by simp only[aE];exact bE,rfl,m2,false,[A],rfl,by simp[hm,kP,wx,hb],rfl⟩
 obtain⟨Li,rfl,rfl⟩:=hv;rw[vK];obtain⟨m1,re⟩:∃m1,m1=decide (15 < args.length):=⟨_,rfl⟩;rw[<- re];simp only[aE];refine ae ?_;refine kK (fk A _ ab bu lb 63 m1 false) Zr ZP (fun v Post hv=>?_) (fun ch Post hz=>?_);rotate_left
 ·obtain⟨hb,rfl,m2,rfl⟩:=hz;have aA:RR=none:=by
   simp only[hm,wx,hb];simp[kP,wy]
  exact⟨[aV lb m2 false,A],by simp only[aE];exact bE,rfl,m2,false,[A],rfl,aA,rfl⟩
 obtain⟨Cy,rfl,rfl⟩:=hv;obtain⟨m2,pC⟩:∃m2,m2=(m1||decide (63 < ab.length)):=⟨_,rfl⟩;rw[<- pC];simp only[aE];refine ae ?_;refine kK (lp A body a c bk o us bA lb m2 false) Zr ZP (fun v Post hv=>?_) (fun ch Post hz=>?_);rotate_left
 ·obtain⟨hb,rfl,m3,rfl⟩:=hz;have aA:RR=none:=by
   simp only[hm,wx,hb,wy];simp[kP]
  exact⟨[aV lb m3 false,A],by simp only[aE];exact bE,rfl,m3,false,[A],rfl,aA,rfl⟩
 obtain⟨d,m3,he,rfl,rfl⟩:=hv;simp only[aE];refine ae ?_;refine jJ (kG (Post:=[aV lb (m2||m3) (decide ((d:Int) > 40)),A]) (.inl rfl) .nil ⟨m2||m3,_,[A],rfl,⟨d,?_,decide_eq_decide.2 Zo⟩,rfl⟩ ZI);simp only[hm,wx,Li,Cy,he,wy,kP,if_true,pC,re,vN]):P:=h
theorem Nx {P:Prop}(h:P:=by
 refine jW ?_;refine kK (j9 false) Zr ZP Zai (fun ch Post hz=>?_);obtain⟨_,rfl,rfl⟩:=hz;exact⟨[A,aV lb (m0||mm) deep],ZI,if_neg bQ,rfl,_,rfl⟩):P:=h
theorem zAC {P:Prop}(h:P:=by
 refine ae ?_;refine kQ (Gm s) Zr ?_;by_cases hR:wS s=0;rotate_left
 ·rw[show decide (wS s≠0)=true from Zt hR];have nQ:o1=out:=by rw[oO,if_neg (fun c=>hR c.2.1)]
  refine ae ?_;exact⟨(.slice oa out.length oc,IE),by rw[nQ];exact bh,ZU,by dsimp only;rw[nQ];exact bE⟩
 rw[show decide (wS s≠0)=false from Zf (by simpa using hR)];refine ae ?_;refine Gf (sR S seen _ J3 s) Zr ZK ?_;by_cases bf:s∈seen
 ·obtain⟨i,hi⟩:=Ou bf;rw[hi];have nQ:o1=out:=by rw[oO,if_neg (fun c=>c.2.2.1 bf)]
  simp only[RF];refine ae ?_;exact⟨(.slice oa out.length oc,IE),by rw[nQ];exact bh,ZU,by dsimp only;rw[nQ];exact bE⟩
 rw[Ov bf];simp only[RF];refine ae ?_;refine Gf (sR _ out _ (cU rfl bh Zo hos) s) Zr ZK ?_;by_cases Ez:s∈out
 ·obtain⟨i,hi⟩:=Ou Ez;rw[hi];have nQ:o1=out:=by rw[oO,if_neg (fun c=>c.2.2.2 Ez)]
  simp only[RF];refine ae ?_;exact⟨(.slice oa out.length oc,IE),by rw[nQ];exact bh,ZU,by dsimp only;rw[nQ];exact bE⟩
 rw[Ov Ez];simp only[RF];refine ae ?_;refine kg (out:=[.string s]) Zr Zr (fun qb=>?_);refine ae ?_;refine j8 (k:=out.length) (m:=1) (xs:=out.map Value.string) (sp:=IE) (ys:=[.string s]) Zr Zr bh ZK Zr ?_ rfl Zr Zr Zd Zo (fun cq aY ax=>?_)
 ·exact AI
 have nQ:o1=out++[s]:=by rw[oO,if_pos ⟨Zs,hR,bf,Ez⟩]
 have ψ:kY 1 cq o1.length (o1.map Value.string) aY:=by rw[nQ];simpa using ax
 obtain⟨lF,lG,rfl⟩:=ax.form;refine ae ?_;refine⟨(.slice lF (out.length+1) lG,aY),ψ,ZU,?_⟩;dsimp only;rw[nQ,Q0,Q3,Q6];exact bE):P:=h
theorem zAD {P:Prop}(h:P:=by
 refine kJ ?_;refine⟨rfl,.tuple #[],False,fun Γ H bp hH=>?_,?_⟩
 ·subst hH;refine kK (j9 false) Zau cz.nil Zai (fun ch Post hz=>?_);obtain⟨_,rfl,rfl⟩:=hz;exact⟨rfl,by simp only[QJ];exact aj.refl _⟩
 exact fun hh=>by simp at hh):P:=h
theorem zAE {P:Prop}(h:P:=by
 have key:∀(s:List Nat),s.Sublist l->zS (fun x y=>!((gD ops).getD x []).contains y) s=true:=by
  intro s
  induction s with
  |nil=>intro _;rfl
  |cons x s ih=>
   intro hs;simp only[zS,vF,vX,vL];refine⟨fun y hy=>?_,ih ((QX x s).trans hs)⟩;have h2:[x,y].Sublist l:=(List.Sublist.cons_cons x (List.singleton_sublist.2 hy)).trans hs;have b1:=uD s1 h2;cases hcc:((gD ops).getD x []).contains y with
   |false=>rfl
   |true=>
    have b2:=Uu ((bM x).1 b1.1) (vg.1 hcc);have:=b1.2.2;have:=b2.2.2;omega
 exact key _ List.filter_sublist):P:=h
theorem zAF {P:Prop}(h:P:=by
 refine GO ?_;refine VC.loop (α:=Unit) (aW:=fun _=>[(0,.slice none 0 0),(3,.slice none 0 0),(4,vi 0)]) (Hf:=fun _=>[]) (I:=fun _=>True) (μ:=fun _=>0) () trivial ZU aj.nil ?_;intro _ _;refine GO ?_;refine VC.loop (α:=Unit) (aW:=fun _=>[(0,.slice none 0 0),(3,.slice none 0 0),(6,vi 0)]) (Hf:=fun _=>[]) (I:=fun _=>True) (μ:=fun _=>0) () trivial ZU aj.nil ?_;intro _ _;refine GO ?_;refine VC.loop (α:=Unit) (aW:=fun _=>[(0,.slice none 0 0),(3,.slice none 0 0),(9,vi 0)]) (Hf:=fun _=>[]) (I:=fun _=>True) (μ:=fun _=>0) () trivial ZU aj.nil ?_;intro _ _;refine GO ?_;exact kG (Post:=[]) (.inr rfl) (.tmp Zr .nil) ⟨rfl,rfl⟩ aj.nil):P:=h
theorem GI {P:Prop}(h:P:=by
 refine ae ?_;exact kG (Post:=[A]) (.inr rfl) (.tmp Zr .nil) ⟨by rw[bQ];rfl,rfl⟩ ZI):P:=h
theorem zAH {P:Prop}(h:P:=by
 obtain⟨mz,hz⟩:=hH;refine VO.imp hz ?_;refine kK (hFz mz) Zap ZP (fun v Post hv=>?_) (fun ch Post hz=>?_)
 ·obtain⟨rfl,UY,m',rfl⟩:=hv;exact VO.nil ⟨rfl,⟨m',aj.refl _⟩,UY⟩
 ·obtain⟨rfl,m',rfl⟩:=hz;exact⟨rfl,m',ZI⟩):P:=h
theorem zAI {P:Prop}(h:P:=by
 refine ae ?_;refine⟨_,lZ,by simp only;omega,ZU,?_⟩;simp only;refine aj.cut (M:=[kA IM 0 [.int .u8 (iL s:Nat),.string (iM s),.int .u8 0,.int .i64 0,.int .u64 0,.string e0,.slice none 0 0,.slice none 0 0,.int .i64 0,.bool false,.slice none 0 0,.slice pa lC.length pc,.slice lF (j+1) lG],kA fB 0 [.int .u8 0,.string e0,.int .u8 0,.int .i64 0,.int .u64 0,.string e0,.slice none 0 0,.slice none 0 0,.int .i64 0,.bool false,.slice none 0 0,.slice none 0 0,.slice none 0 0],kA X.wq 0 [.map (some X.fb),.map (some X.gb),nX],ai nX (U2.map fun u=>kL (some u.q)) ig,[.obj X.fb (.map X.bF X.fc)],[.obj X.gb (.map X.bH X.gc)],WK U2 V2,T2,[.obj b (.map es c)],X.S,ai (.slice lF (j+1) lG) (rows++[([.int .u8 pn.kind,.string pn.name,.int .u8 f1,.int .i64 f2,.int .u64 f3,.string f4,.slice f5 f6 f7,.slice r1 r2 r3,.int .i64 pn.unit,.bool pn.super,.slice none 0 0,.slice p1 p2 p3,.slice k1 k2 k3]:List Value)]).flatten aY,B,ai (.slice pa lC.length pc) (lC.map fun b=>kL (some b)) Jg,B2]) ZI (aj.perm ?_);simp only[V6,V7,vd,vZ]
 repeat (first|exact vU _ QN|refine vU _ ?_)):P:=h
theorem zAJ {P:Prop}(h:P:=by
 refine ae ?_;refine kI (tx S (.slice aa args.length ac) args bB) Zr ZP (fun v Post hv=>?_);obtain⟨B,⟨sp0,hs0,rfl,_,_⟩,rfl⟩:=hv;obtain⟨va,vc,rfl⟩:=hs0.form;simp only[aE];refine ae ?_;refine iN (k:=args.length) (xs:=args.map Value.string) (sp:=sp0) (l:=ab) Zr Zr hs0 ZK bu (fun y hy=>by simp[hy]) Zo (fun cq aY hg=>?_);obtain⟨xa,xc,rfl⟩:=hg.form;refine ae ?_;refine⟨(.slice xa (args.length+ab.length) xc,ai (.slice xa (args.length+ab.length) xc) (args.map Value.string++ab.map Value.string) aY),⟨xa,xc,by rw[Yh],?_⟩,ZU,ZI⟩;have hto:ed (.slice xa (args.length+ab.length) xc) (args++ab) (ai (.slice xa (args.length+ab.length) xc) (args.map Value.string++ab.map Value.string) aY):=by
  refine⟨aY,by rw[Vo,Q0];exact hg,by rw[Q0],by rw[Vo];omega,fun t ht=>?_⟩;rcases Q7.1 ht with ht|ht
  ·obtain⟨i,hi⟩:=Vj ht;obtain⟨_,_,_,_,g⟩:=dV i t hi;exact g
  ·obtain⟨i,hi⟩:=Vj ht;obtain⟨_,_,_,_,g⟩:=dW i t hi;exact g
 exact hto.rd):P:=h
theorem zAK {P:Prop}(h:P:=by
 refine ae ?_;refine kK hv Zr ZP (fun v Post hv=>?_) (fun ch Post hz=>?_);rotate_left
 ·obtain⟨hb,rfl,m2,rfl⟩:=hz;exact⟨[A,aV lb m2 deep],ZI,cK (by rw[<- hb];exact Zv aC),rfl,m2,rfl⟩
 obtain⟨e,m2,he,rfl,rfl⟩:=hv;simp only[aE];refine ae ?_;rw[show(if(e:Int) > (d:Int)then(e:Int)else(d:Int))=((max d e:Nat):Int) by split <;> omega];refine⟨(j+1,max d e,mm||m2),⟨by simp only;omega,?_⟩,by simp only;omega,ZU,?_⟩
 ·simp only;rw[QY,aC,he];exact cL i2
 ·simp only[vN];exact bE):P:=h
theorem zAL {P:Prop}(h:P:=by
 have Yk:o.Subset l:=fun x hx=>(bM x).2 (o3 x hx)
 have bQ:=sV o2;have qZ:l.length=ops.size:=by
  have:l.Perm (List.range ops.size):=(QP s1 QM).2 (fun x=>by simp[bM]);simpa using this.length_eq
 have η:o.Perm (List.range ops.size):=by
  refine(QP bQ QM).2 (fun x=>?_);refine⟨fun hx=>by simpa using o3 x hx,fun hx=>?_⟩;exact E1 bQ o3 o1 (by simpa using hx)
 exact η.trans ((QP s1 QM).2 (fun x=>by simp[bM])).symm):P:=h
theorem zAM {P:Prop}(h:P:=by
 refine ae ?_;refine jJ ⟨.inr rfl,_,[kA X.wq 0 [.map (some X.fb),.map (some X.gb),iT],ai iT (U4.map fun u=>kL (some u.q)) cW,[.obj X.fb (.map X.bF X.fc)],[.obj X.gb (.map X.bH X.gc)],WK U4 V4,T4,[.obj b (.map es c)],X.S,ai (.slice va (kT X.F X.G kids D2.1 D2.2 i).1.length vc) rows.flatten yo++(B5++ai (.slice Sv Bn.length Sx) (Bn.map fun b=>kL (some b)) ic)],.aS (us:=jf (.slice Sv Bn.length Sx) (.slice va (kT X.F X.G kids D2.1 D2.2 i).1.length vc)) Zr Zr (fun y hy=>by simp only[V6,Q7];repeat (first|exact Or.inl hy|refine Or.inr ?_)) (.tmp Zr .nil),?_,⟨iT,cW,U4,V4,T4,_,⟨Us,by rw[<- UJ];exact Lr,(rh.trans hp3).trans CO,dw⟩,rfl⟩⟩;refine aj.cut (M:=[kA X.wq 0 [.map (some X.fb),.map (some X.gb),iT],ai iT (U4.map fun u=>kL (some u.q)) cW,[.obj X.fb (.map X.bF X.fc)],[.obj X.gb (.map X.bH X.gc)],WK U4 V4,T4,[.obj b (.map es c)],X.S,ai (.slice va (kT X.F X.G kids D2.1 D2.2 i).1.length vc) rows.flatten yo++B5,ai (.slice Sv Bn.length Sx) (Bn.map fun b=>kL (some b)) ic]) ?_ (aj.perm Zs);exact bE):P:=h
theorem zAN {P:Prop}(h:P:=by
 refine ae ?_;refine kK (j9 _) Zr ZP (fun v Post hv=>?_) (fun ch Post hz=>?_);rotate_left
 ·obtain⟨hb,rfl,rfl⟩:=hz;exact⟨[A,aV lb m0 deep],ZI,by first|(simp[wE,kP,hb];done)|(simp at hb;simp[wE,kP,hb];done)|(simp at hb;simp[wE,kP];omega),rfl,m0,rfl⟩
 obtain⟨hb,rfl,rfl⟩:=hv;simp only[QJ];refine ae ?_;refine⟨⟨0,false,n,b,t,_,_⟩,⟨⟨_,_,rfl⟩,?_⟩,ZU,by rw[vQ];exact bE⟩;simp[wE,kP,nL.ok,hb]):P:=h
theorem zAO {P:Prop}(h:P:=by
 refine ae ?_;rw[<- hB];refine kI (M5 st U Vs hR i v u y hu hy (DB v hg3) hb) Zr ZP (fun r Post hr=>?_);obtain⟨U',nM,⟨rfl,h6,h7,h7b,h8⟩,rfl⟩:=hr;simp only[aE];have hqo:sZ nM v=sZ Vs v:=by
  have e1:=congrArg (fun l=>l[v]?) h8;simp only[Vi]at e1;unfold sZ;rw[V8,V8];cases e2:nM[v]? <;> cases e3:Vs[v]? <;> rw[e2,e3]at e1 <;> simp_all
 refine ae ?_;rw[Fz hk HC fI];have lZ:sg nM (dL v)=.tuple #[.agg rz.toArray,kE y.q]:=by
  unfold sg dL;simp only[if_true];rw[show((v:Nat):Int).toNat=v from rfl,hqo,<- hyq];rfl
 exact jJ ⟨.inr rfl,_,[kA wq 0 [.map (some fb),.map (some gb),us],[.obj fb (.map bF fc)],[.obj gb (.map bH gc)],WK U' nM,[.obj b (.map es c)]],.aS (us:=rz) Zr Zr Zak (.tmp Zr .nil),ZI,U',nM,⟨hf,lZ.symm,h6,h7,h7b,h8⟩,rfl⟩):P:=h
theorem Ny {P:Prop}(h:P:=by
 exact kG (Post:=[A]) (.inr rfl) (.tmp Zr .nil) ⟨by rw[cE];rfl,rfl⟩ ZI):P:=h
theorem zAQ {P:Prop}(h:P:=by
 refine(Ao HL).imp_of_mem (fun {x y} hx hy h=>?_);simp only[vO]at h;rcases h with(h|h)|h
 ·left;simp only[mV]at h;split at h
  ·rename_i p q hp hq;simp only[V8,hp,hq,Qv];exact h
  ·cases h
 ·right;exact(Uu (o3 y hy) (vg.1 h)).sub
 ·right;exact(N2 h).trans List.filter_sublist):P:=h
theorem zAR {P:Prop}(h:P:=by
 rw[V9]at hy hs;rw[h.len]at hs;split at hy
 ·rename_i hi;rw[if_pos hi]at hs;exact h.rd i y s hy hs
 ·rename_i hi;rw[if_neg hi]at hs;have:=(Vh.1 hy).1;simp only[Vy]at this;have e:i - l.length=0:=by omega
  rw[e]at hy hs;obtain rfl:x=y:=by simpa using hy
  obtain rfl:r=s:=by simpa using hs
  exact hx):P:=h
theorem zAS {P:Prop}(h:P:=by
 obtain⟨_,h2⟩:=C0 e;simp only[Nat.sub_zero]at h2;have aI:t < args.length:=(Vh.1 h2).1;simp only[Array.getElem?_append,List.size_toArray,aI,if_true];simpa using h2):P:=h
theorem zAT {P:Prop}(h:P:=by
 obtain⟨h1,h2,Ls,rfl,h3⟩:=h;obtain⟨Ls',e1,e2,e3⟩:=K6 Ls L l.length;refine⟨by simp[h1],fun r' sN=>?_,Ls',by rw[Vo,Vy,e3],fun i y r' hy sN=>?_⟩
 ·rcases Q7.1 sN with h|h
  ·exact h2 r' h
  ·rw[QI.1 h];exact hx.rd.len
 ·rcases ux hy with⟨hi,hy⟩|⟨rfl,rfl⟩
  ·rcases ux sN with⟨_,sN⟩|⟨e,_⟩
   ·rw[e1 i hi];exact h3 i y r' hy sN
   ·omega
  ·rcases ux sN with⟨e,_⟩|⟨_,rfl⟩
   ·omega
   ·rw[e2];exact hx):P:=h
theorem zAU {P:Prop}(h:P:=by
 rintro e w' ⟨Post,h5,DD,hk⟩
 have nT:Sat w' ((Post++R).flatten++F):=by rw[V5,vZ];exact DD
 rcases h5 with⟨v,rfl,hQ⟩|⟨ch,rfl,hQ⟩
 ·refine .inl ⟨v,rfl,?_⟩;rw[<- g2];exact h v Post hQ l' qZ _ w' F ZZ Q' (ha.ak g3 v) nT (fun a2 w2 cr H2 k1 k2 k3 k4 k5=>hq a2 w2 cr H2 k1 k2 (k3.trans (jY ..)) k4 (hk.trans k5)) (fun ch a2 w2 cr H2 k1 k2 k3 k4 k5=>hz ch a2 w2 cr H2 k1 k2 (k3.trans (jY ..)) k4 (hk.trans k5))
 ·exact .inr ⟨ch,rfl,hz ch a w' Γ _ (HY ch Post hQ) ha rfl nT hk⟩):P:=h
theorem zAV {P:Prop}(h:P:=by
 rw[<- vZ,<- vZ];exact vV _ QN):P:=h
theorem zAW {P:Prop}(h:P:=by
 simp only[om];refine vt.2 (fun i hi=>?_);have:=QG.1 hi;simp[this]):P:=h
theorem zAX {P:Prop}(h:P:=by
 obtain⟨h1,h2,h3⟩:=h;refine⟨by simp[h1],fun q hq=>?_,fun i y q hy hq=>?_⟩
 ·rcases Q7.1 hq with hq|hq
  ·exact h2 q hq
  ·rw[QI.1 hq];exact hx.len
 ·rcases ux hy with⟨g1,g2⟩|⟨g1,rfl⟩
  ·rw[VV Zo]at hq;exact(h3 i y q g2 hq).more fun _ ha=>Zw _ ha
  ·subst g1;rw[<- h1,Va (Qj _),Qp]at hq;cases hq;exact hx.more fun _ ha=>Q8 _ ha):P:=h
theorem zAY {P:Prop}(h:P:=by
 refine ae ?_;have hr:=qq (F:=F) (G:=G) (st:=st) (env:=env) (nm:=nm) (u:=i) (p:=p) (put:=decide (k=3)) (by rw[hk];decide);rw[hr,hk];exact jJ ⟨.inr rfl,_,[kA wq 0 [.map (some fb),.map (some gb),us],[.obj fb (.map bF fc)],[.obj gb (.map bH gc)],WK U Vs,[.obj b (.map es c)]],.aS (us:=jS ⟨1,0,0,e0⟩) Zr Zr (fun y hy=>by simp only[V6,Q7];exact .inl hy) (.tmp Zr .nil),ZI,U,Vs,⟨hf,rfl,hR,rfl,rfl,rfl⟩,rfl⟩):P:=h
theorem zAZ {P:Prop}(h:P:=by
 generalize yn (kF s)=z at iv|-;refine ae ?_;by_cases he:z=(kF s).length
 ·rw[Zt (show((z:Nat):Int)=(s.size:Int) by omega)];rw[if_pos he]at iv;refine ae ?_;rw[iv];exact⟨.inr rfl,[vi 1],[],.bT (v:=vi 1) Zr Jo .nil,aj.nil,⟨rfl,rfl⟩⟩
 ·rw[Zf (show ¬((z:Nat):Int)=(s.size:Int) by omega)];rw[if_neg he]at iv;refine ae ?_;rw[iv];exact⟨.inr rfl,[vi (-1)],[],.bT (v:=vi (-1)) Zr Jo .nil,aj.nil,⟨rfl,rfl⟩⟩):P:=h
theorem zB0 {P:Prop}(h:P:=by
 subst hH;exact st_eqI (bp 5 Zd _ rfl) (bp 8 Zd _ rfl) (by simp only[eg]) (VO.nil ⟨rfl,rfl,trivial⟩)):P:=h
theorem zB1 {P:Prop}(h:P:=by
 refine ae ?_;refine kI hc Zr ZP (fun v Post hv=>?_);obtain⟨rfl,rfl⟩:=hv;simp only[aE];refine ae ?_;refine kK (j9 _) Zr ZP (fun v Post hv=>?_) (fun ch Post hz=>?_)
 ·obtain⟨h1,rfl,rfl⟩:=hv;simp only[QJ];refine ae ?_;exact jJ (kG (Post:=[B,aV lb true deep]) (.inl rfl) .nil ⟨by simpa using h1,rfl,rfl⟩ ZI)
 ·obtain⟨h1,rfl,rfl⟩:=hz;exact⟨[B,aV lb true deep],ZI,by simpa using h1,rfl,true,rfl⟩):P:=h
theorem zB2 {P:Prop}(h:P:=by
 rintro Post rfl
 refine⟨.inr rfl,[.agg #[.string e0,.int .i64 0,.slice none 0 0],.iface 80 (kE q)],[S,jL q e p],.aS (us:=[.string e0,.int .i64 0,.slice none 0 0]) Zr Zr (fun y hy=>by simp only[vf,QJ,V6,Q7];repeat (first|exact Or.inl hy|refine Or.inr ?_)) (.bT Zr (by simp[kA,Ej]) .nil),by simp only[aE];exact bE,.inr ⟨e,p,q,Lc.trans hae,he0,rfl,rfl⟩⟩):P:=h
theorem zB3 {P:Prop}(h:P:=by
 refine ae ?_;refine ec Zr Zr hcat ?_;refine ae ?_;refine⟨.inr rfl,_,_,.aS (us:=[cv 5,vi 0,uv 0,.string (⟨#[45]⟩++t),.slice none 0 0]) Zr Zr Y2 .nil,ZI,.inr ⟨Ab,_,rfl,by rw[yY];rfl⟩,rfl⟩):P:=h
theorem zB4 {P:Prop}(h:P:=by
 refine ae ?_;exact kG (Post:=[A]) (.inr rfl) (.tmp Zr .nil) ⟨rfl,rfl⟩ ZI):P:=h
theorem zB5 {P:Prop}(h:P:=by
 refine ae ?_;refine kG (Post:=[]) (.inr rfl) (.tmp Zr .nil) ⟨by rw[hf];rfl,rfl⟩ ZI):P:=h
theorem zB6 {P:Prop}(h:P:=by
 refine VO.read rfl rfl (fun ρ aG=>⟨_,rfl,fun F w hs=>?_⟩) h;rw[aG _ _ hx,aG _ _ hy];have hm:∀c∈H.flatten,c∈H.flatten++F:=fun c hc=>Zw _ hc
 have:=By (P:=P) hs ht hi hz (ha.more hm) (hb.more hm) 9999;have h2:(Op.equal t (.pointer (some ⟨a,0,none⟩)) (.pointer (some ⟨b,0,none⟩))).run P w=.ok (decide (a=b)) w:=this;rw[Sem.run_bind,fq Zs Zs];simp[Go.binOp,h2]):P:=h
theorem zB7 {P:Prop}(h:P:=by
 have Ys:(rs.zip ops.toList).length=ops.size:=by simp[hlen]
 apply vm;intro i;simp only[Vi];by_cases hi:i < ops.size
 ·rw[List.getElem?_range hi,Qz];rw[V8];have:i < (rs.zip ops.toList).length:=by omega
  rw[Zg this];rfl
 ·rw[Ve (l:=List.range ops.size) (by simpa using hi),Ve Zo];rfl):P:=h
theorem zB8 {P:Prop}(h:P:=by
 have hf:jC (kb s)=1:=by rw[h];rfl
 have e1:iL s=11:=by simp[iL,h]
 have e2:iM s=s:=by simp[iM,h]
 rw[e1,e2];rw[show decide ((jC (kb s):Int)=0)=false from Zf Zo];refine ae ?_;rw[show decide (s=⟨#[116,111,58,100,111,58]⟩)=false from Zf (fun e=>by have:=hto.1 e;omega)];refine ae ?_;exact⟨(),trivial,ZU,by simp only[e0];exact aj.refl _⟩):P:=h
theorem zB9 {P:Prop}(h:P:=by
 rintro⟨h1,h2,h3⟩
 refine⟨Zo,fun j=>?_⟩;cases j with
 |zero=>intro x' y' e1 e2;cases e1;cases e2;exact h1
 |succ j=>intro x' y' e1 e2;exact h3 j x' y' (by simpa using e1) (by simpa using e2)):P:=h
theorem zBA {P:Prop}(h:P:=by
 refine GO ?_;exact kG (Post:=[]) (.inr rfl) (.tmp Zr .nil) ⟨rfl,rfl⟩ aj.nil):P:=h
theorem zBB {P:Prop}(h:P:=by
 intro k
 induction k with
 |zero=>intro i acc w1 r w2 h;simp[loadCellsFrom]at h;exact h.2.symm
 |succ k ih=>
  intro i acc w1 r w2 h;simp only[loadCellsFrom,Sem.run_bind]at h;obtain⟨v,w3,h1,h2⟩:=kw h;have hw:w3=w1:=by
   simp only[Go.load,Sem.run]at h1;split at h1
   ·cases h1;rfl
   ·split at h1 <;> cases h1;rfl
  rw[ih _ _ _ _ _ h2,hw]):P:=h
theorem zBC {P:Prop}(h:P:=by
 rintro e w' ⟨rfl,rfl⟩
 have hp:=Sat.push hs (.map es c) [.obj w.heap.size (.map es c)] (fun x hx=>by
  obtain rfl:=QI.1 hx;exact⟨rfl,Zs,rfl⟩) Zs
 refine⟨_,_,rfl,⟨_,rfl,rfl⟩,?_,hp.2⟩;refine hp.1.perm ?_;simp only[V6,V7,vd,vf,QJ];exact List.Perm.swap _ _ _):P:=h
theorem zBD {P:Prop}(h:P:=by
 have e:kids=kids.take j++z::kids.drop (j+1):=by
  rw[<- QZ j kids]
  congr 1
  ·rw[QZ]
  ·rw[QZ,vh aI]
   congr 1
   rw[Zg aI]at hz;exact X0 hz
 have:=Db (z::kids.drop (j+1)) (kids.take j);rw[<- e]at this;rw[this];simp only[Nd.ws];omega):P:=h
theorem zBE {P:Prop}(h:P:=by
 refine(QP (s1.filter _) (sV hd)).2 (fun x=>?_);simp only[QC,bM,vg];exact⟨fun h=>h.2,fun h=>⟨ZT x h,h⟩⟩):P:=h
theorem zBF {P:Prop}(h:P:=by
 intro x hx;obtain⟨i,hi⟩:=Vj hx;have Ll:i < (rs.zip ops.toList).length:=(Vh.1 hi).1;have hi3:i < ops.size:=by simp[hlen]at Ll;omega
 obtain⟨g1,g2,g3⟩:=wY h1 hi3;have:(rs.zip ops.toList).getD i default=x:=by rw[V8,hi];rfl
 rw[this]at g3;exact⟨ops,g3⟩):P:=h
theorem zBG {P:Prop}(h:P:=by
 exact⟨.inr rfl,[vi (-1)],[],.bT (v:=vi (-1)) Zr Jo .nil,aj.nil,⟨rfl,rfl⟩⟩):P:=h
theorem zBH {P:Prop}(h:P:=by
 subst hH;exact zG (bp 10 Zd _ rfl) (Sh rfl (bp 12 Zd _ rfl) (by simp only[sK]) (VO.nil ⟨rfl,rfl,trivial⟩))):P:=h
theorem zBI {P:Prop}(h:P:=by
 show jx P ZZ (⟨d,some (s,b),r⟩,o) (eK P ZZ Q l') a w;unfold jx;rw[if_neg (by simp[hw])];exact h l' qZ _ w F ZZ Q (ha.ak g3 undef) fC (fun a2 w2 cr H2 k1 k2 k3 k4 k5=>hq a2 w2 cr H2 k1 k2 (k3.trans (jY ..)) k4 k5) (fun ch a2 w2 cr H2 k1 k2 k3 k4 k5=>hz ch a2 w2 cr H2 k1 k2 (k3.trans (jY ..)) k4 k5)):P:=h
theorem zBJ {P:Prop}(h:P:=by
 refine ae ?_;refine kK ap Zr ZP (fun v Post hv=>?_) (fun ch Post hz=>?_)
 ·obtain⟨iT,cW,U4,V4,T4,B4,⟨Us,_⟩,_⟩:=hv;have:=Us.ok;rw[hfa]at this;cases this
 ·obtain⟨q1,e1,p1,eg,rfl,rfl⟩:=hz;refine⟨[X.S,jL q1 e1 p1],ZI,q1,e1,p1,?_,rfl,rfl⟩;rw[zP];exact eg):P:=h
theorem zBK {P:Prop}(h:P:=by
 obtain⟨q1,Ni,p1,eg,rfl,rfl⟩:=hz;exact⟨[X.S,jL q1 Ni p1],ZI,q1,Ni,p1,iw _ eg,rfl,rfl⟩):P:=h
theorem zBL {P:Prop}(h:P:=by
 simp only[w7,X1]at hs;subst hs;simpa[execOp]using hr):P:=h
theorem zBM {P:Prop}(h:P:=by
 rw[<- g2];refine h v Post hQ l' qZ _ w' F ZZ Q' (ha.ak g3 v) ?_ (fun a2 w2 cr H2 k1 k2 k3 k4 k5=>hq a2 w2 cr H2 k1 k2 (k3.trans (jY ..)) k4 (hk.trans k5)) (fun ch a2 w2 cr H2 k1 k2 k3 k4 k5=>hz ch a2 w2 cr H2 k1 k2 (k3.trans (jY ..)) k4 (hk.trans k5));rw[V5,vZ];exact DD):P:=h
theorem zBN {P:Prop}(h:P:=by
 refine⟨rfl,vi 0,False,fun Γ H bp hH=>?_,?_⟩
 ·subst hH;refine kK hvz (by simp only[V.gN,V.ev,bp 12 Zd _ rfl,bp 13 Zd _ rfl,bp 15 Zd _ rfl]) ZP (fun v Post hv=>hv.elim) (fun ch Post hz=>?_);obtain⟨rfl,m,rfl⟩:=hz;exact⟨rfl,m,ZI⟩
 refine kJ ?_;exact fun hh=>by simp at hh):P:=h
theorem zBO {P:Prop}(h:P:=by
 rename_i i hu hi;simp only[Qx]at h1;obtain⟨r',h3,rfl⟩:=h1;cases h2 with
 |aS k1 k2 k3 k4=>
  simp only[List.mapM_cons,Sem.run_bind,Cy,slot k1,asAddr,Sem.run_pure,Result.andThen_ok,loadVar,dH hu,if_true,kZ hi,run_loadCells k2 k3 hs,ih r' _ f hf Cy h3 k4]):P:=h
theorem zBP {P:Prop}(h:P:=by
 simp only[aE];obtain⟨a',c',rfl⟩:=id j2.form;refine ae ?_;exact kG (Post:=[S,ai (.slice a' (fH [] [] x).length c') ((fH [] [] x).map Value.string) aY]) (.inr rfl) (.tmp Zr .nil) ⟨_,⟨aY,j2,rfl,by rw[Vw]at hlen;omega,fun t ht=>by have:=gh t ht;omega⟩,rfl⟩ ZI):P:=h
theorem zBQ {P:Prop}(h:P:=by
 simp only[hm];by_cases hle:0+m<=0
 ·rw[if_pos hle];have Z7:m=0:=by omega
  subst Z7;obtain rfl:ys=[]:=by simpa using hlen
  refine az.bind (az.firstCells A4 (az.pure ?_));exact⟨_,_,[],.inl rfl,by simp[ai],h _ _ .nil⟩
 ·rw[if_neg hle];exact grow _ 0 rfl hle rfl):P:=h
theorem zBR {P:Prop}(h:P:=by
 rw[Zt h2];refine ae ?_;refine kK (j9 true) Zr ZP (fun v Post hv=>?_) GJ;obtain⟨_,rfl,rfl⟩:=hv;simp only[QJ];refine ae ?_;refine⟨⟨0,false,0,b,t,_,_⟩,⟨⟨_,_,rfl⟩,?_⟩,ZU,by rw[vQ];exact bE⟩;simp[wE,kP,nL.ok,h1,h2]):P:=h
theorem zBS {P:Prop}(h:P:=by
 refine ae ?_;refine⟨.inr rfl,_,_,.aS (us:=[cv 5,vi 0,uv 0,.string t,.slice none 0 0]) Zr Zr Y2 .nil,ZI,.inr ⟨Ab,_,rfl,rfl⟩,rfl⟩):P:=h
theorem zBT {P:Prop}(h:P:=by
 refine ae ?_;refine⟨.inr rfl,_,_,.aS (us:=[cv 0,vi 0,uv 0,.string ⟨#[]⟩,.slice none 0 0]) Zr Zr Y2 (.tmp Zr .nil),ZI,hIntB hb,rfl⟩):P:=h
theorem zBU {P:Prop}(h:P:=by
 refine ae ?_;refine kQ (gq aQ bK) Zr ?_;refine ae ?_;refine kI hvf.fun Zr ZP (fun v Post hv=>?_);obtain⟨rfl,rfl⟩:=hv;simp only[aE];refine ae ?_;refine jJ (kG (Post:=[A,aV lb (m0||m2) deep]) (.inr rfl) (.tmp Zr .nil) ⟨d,m2,rfl,rfl,rfl⟩ ZI)):P:=h
theorem zBV {P:Prop}(h:P:=by
 obtain⟨iT,cW,U4,V4,T4,B4,⟨Us,_⟩,_⟩:=hv;have:=Us.ok;rw[hfa]at this;cases this):P:=h
theorem zBW {P:Prop}(h:P:=by
 rcases Nat.lt_or_ge i w.heap.size with h|h
 ·exact h
 ·rw[Array.getElem?_eq_none h]at hb;cases hb):P:=h
theorem zBX {P:Prop}(h:P:=by
 simp only[Q3,Q6,ck,eI,nF,k1];show _=[Value.int .u8 (k.toNat:Nat),.string s,.int .u8 (lk.toNat:Nat),.int .i64 ln,.int .u64 (lb.toNat:Nat),_,_,_,_,_,_];rw[vT b1,vT b3,vT b5]):P:=h
theorem zBY {P:Prop}(h:P:=by
 cases lY:x.kids with
 |nil=>rw[lY]at ud;cases ud
 |cons y l=>rw[lY]at ud;obtain rfl:y=r:=by simpa using ud
            rfl):P:=h
theorem zBZ {P:Prop}(h:P:=by
 have hf:jC (kb s)=0:=by rw[h];rfl
 have e1:iL s=12:=by simp[iL,h]
 have e2:iM s=s:=by simp[iM,h]
 rw[e1,e2];rw[show decide ((jC (kb s):Int)=0)=true from Zt Zo];refine ae ?_;exact⟨(),trivial,ZU,by simp only[e0];exact aj.refl _⟩):P:=h
theorem zC0 {P:Prop}(h:P:=by
 intro hl i st env u;simp only[Nd.aq]at hl;obtain⟨h1,h2⟩:=ih x Zo st env u;cases h:dX s i with
 |true=>rw[dQ _ _ _ _ _ _ _ _ _ h];exact h2.trans (xB Zo (i+1) _ env u)
 |false=>rw[zi _ _ _ _ _ _ _ _ _ h];exact h1.trans (xB Zo (i+1) _ env u)):P:=h
theorem zC1 {P:Prop}(h:P:=by
 rw[rls];simp only[Sem.run_bind,RH,W0,Result.andThen];simp[ReflectliteValue.flagAddr,loadVar,isAgg,underlying,Tryz.underlying44,hb,Result.andThen,Od,storeVar,Value.cells,storeCells,Addr.add];rw[run_store Tryz.prog W ta _ _ Zr];simp[ht,hf]):P:=h
theorem zC2 {P:Prop}(h:P:=by
 have aU:=ih y Zo _ dD;have yR:=dD.len;generalize us j=uj at*;refine ae ?_;refine kS Zr NR yR ?_;refine ae ?_;refine kI aU Zr ZP (fun v Post hv=>?_);obtain⟨rfl,rfl⟩:=hv;simp only[aE];refine ae ?_;exact⟨j+1,Zo,Zo,ZU,ZI⟩):P:=h
theorem zC3 {P:Prop}(h:P:=by
 refine ae ?_;refine kG (Post:=[]) (.inr rfl) (.tmp Zr .nil) ⟨by rw[hb];rfl,rfl⟩ ZI):P:=h
theorem zC4 {P:Prop}(h:P:=by
 obtain⟨k1,k2⟩:=ap kids hk st env u h hu he;exact⟨k1,nC _ _ _ _ _ _ _ k2⟩):P:=h
theorem zC5 {P:Prop}(h:P:=by
 rw[V8,Va (Qj _),Qp];rfl):P:=h
theorem zC6 {P:Prop}(h:P:=by
 simp only[kR]at hv;split at hv <;> try (cases hv;done)
 rename_i cs k m hx hi;split at hv <;> try (cases hv;done)
 rename_i hb;simp at hv;subst hv;simp[execOp,Instr.index,kC hs,hx,hi,asIntOf,hb,kZ hj,part,dH hu]):P:=h
theorem zC7 {P:Prop}(h:P:=by
 rintro⟨h1,h2⟩
 exact⟨h2 0 x y rfl rfl,Zo,fun j x' y' e1 e2=>h2 (j+1) x' y' (by simpa using e1) (by simpa using e2)⟩):P:=h
theorem zC8 {P:Prop}(h:P:=by
 rw[Zt g0];refine ae ?_;exact⟨true,by rw[g0];decide,ZU,by subst Nk;exact bE⟩):P:=h
theorem zC9 {P:Prop}(h:P:=by
 rcases Q9.1 h with rfl|h
 ·omega
 ·have:=ih h;omega):P:=h
theorem zCA {P:Prop}(h:P:=by
 intro l
 induction l with
 |nil=>simp
 |cons o r ih=>
  rw[vy,Vo,Vp,Qq];have h1:=Vu (st.bg u) (st.things o);rw[pz]at h1;have:=h o;omega):P:=h
theorem zCB {P:Prop}(h:P:=by
 refine ae ?_;refine kI hcut Zr ZP (fun v Post hv=>?_);obtain⟨t,rfl,h1,h2,rfl⟩:=hv;simp only[QJ];refine ae ?_;refine kG (Post:=[]) (.inr rfl) (.tmp Zr (.tmp Zr .nil)) ⟨t,rfl,h1,h2,rfl⟩ ZI):P:=h
theorem zCC {P:Prop}(h:P:=by
 exact kG (Post:=[A]) (.inr rfl) (.tmp Zr .nil) ⟨by rw[dw];rfl,rfl⟩ ZI):P:=h
theorem zCD {P:Prop}(h:P:=by
 refine⟨Zs,fun x hx=>?_⟩;obtain⟨i,v,hi,rfl⟩:=kH.1 hx;rw[Vi]at hi;obtain⟨u,hu,rfl⟩:=Qx.1 hi;obtain⟨b2,o2,h1,h2,_⟩:=hr i u hu;cases h1;simpa using h2):P:=h
theorem zCE {P:Prop}(h:P:=by
 obtain⟨rfl,hi⟩:=hp;exact⟨[aV lb false false,A],aj.cut hi ZI,rfl,false,false,[A],rfl,aA,rfl⟩):P:=h
theorem zCF {P:Prop}(h:P:=by
 subst hH;exact kQ (eR aQ bK) Zat DO):P:=h
theorem zCG {P:Prop}(h:P:=by
 rcases Nat.lt_or_ge t.block w.heap.size with h|h
 ·exact h
 ·simp[World.cell?,Array.getElem?_eq_none h]at ht0):P:=h
theorem zCH {P:Prop}(h:P:=by
 refine ae ?_;exact⟨(),trivial,ZU,ZI⟩):P:=h
theorem zCI {P:Prop}(h:P:=by
 cases h with
 |mk wf hl bB bu ha hm hr=>
  obtain⟨_,_,rfl,_⟩:=bB;obtain⟨_,_,rfl,_⟩:=bu;cases hl with
  |mk Nw GL pC ez=>exact⟨_,_,_,_,_,_,_,_,_,_,_,_,_,_,_,_,rfl⟩):P:=h
theorem zCJ {P:Prop}(h:P:=by
 refine(vV _ QN).trans ?_;rw[vZ];exact vW _):P:=h
theorem zCK {P:Prop}(h:P:=by
 obtain⟨x,hx,he⟩:=QE.1 hm;obtain⟨i,v,hi,rfl⟩:=kH.1 hx;simp only[kB.loc,X2,X1,true_and]at he;have:=(Vh.1 hi).1;omega):P:=h
theorem zCL {P:Prop}(h:P:=by
 refine ae ?_;refine⟨⟨0,false,n,b,⟨#[]⟩,_,_⟩,⟨⟨_,_,rfl⟩,?_⟩,ZU,by rw[vQ];exact bE⟩;simp[wE,kP,nL.ok,show(⟨#[]⟩:ByteArray).size=0 from rfl]):P:=h
theorem zCM {P:Prop}(h:P:=by
 simp only[V.marks,Q3];rw[<- vZ,<- vZ];exact QR):P:=h
theorem zCN {P:Prop}(h:P:=by
 rw[World.cell?_alloc_lt _ _ ⟨0,0,none⟩ Zs,World.cell?_alloc_lt _ _ ⟨0,0,none⟩ aI];exact hg):P:=h
theorem zCO {P:Prop}(h:P:=by
 intro h;split at h
 ·assumption
 ·repeat' (split at h)
  all_goals omega):P:=h
theorem zCP {P:Prop}(h:P:=by
 refine⟨Y++R,?_,fun u' X' h'=>?_⟩
 ·rw[<- vZ];exact h1.trans (vV _ hx)
 ·rw[<- vZ];exact(h2 u').trans (vV _ h')):P:=h
theorem zCQ {P:Prop}(h:P:=by
 simp only[kR]at hv;split at hv <;> try (cases hv;done)
 rename_i cs hx;simp at hv;subst hv;simp[execOp,Instr.field,kC hs,hf,hx,asAgg,part,dH hu,kZ hj]):P:=h
theorem zCR {P:Prop}(h:P:=by
 intro x hx;rw[<- S6]at hx;simp only[D8,QC,QG]at hx;exact hx.1):P:=h
theorem zCS {P:Prop}(h:P:=by
 refine .mk ?_ ?_ Cw
 ·rw[Vo,bh.len,hlen,Qf]
 ·rw[Vo,bh.len,hlen,zm,hz,<- Qf,<- Qf]
  congr 1;omega):P:=h
theorem zCT {P:Prop}(h:P:=by
 rcases Q9.1 hx with rfl|hx
 ·exact⟨rfl,_,_,_,_,hb,Zs,Zo⟩
 ·obtain⟨i,v,hi,rfl⟩:=kH.1 hx;exact⟨rfl,_,_,_,_,hb,by simpa using hi,Zo⟩):P:=h
theorem zCU {P:Prop}(h:P:=by
 refine kW Zr (fun q=>?_);simp only[Value.cells];refine ae ?_;exact⟨q,trivial,ZU,ZI⟩):P:=h
theorem zCV {P:Prop}(h:P:=by
 intro F w hs;refine⟨h.1,?_⟩;have ap:first++args.toArray++cap=(first.toList++args++cap.toList).toArray:=by
  apply vD.1;simp
 rw[ap];exact h.2 F w hs):P:=h
theorem zCW {P:Prop}(h:P:=by
 rw[Zf (show ¬(s.size:Int) ≥ 1 by omega)];refine ae ?_;refine⟨.inr rfl,_,_,.tmp Zr .nil,ZI,?_,rfl⟩;have:kF s=[]:=List.length_eq_zero_iff.1 Zo;simp[gw,this]):P:=h
theorem zCX {P:Prop}(h:P:=by
 refine ae ?_;exact kG (Post:=[A]) (.inr rfl) (.tmp Zr .nil) ⟨by rw[htt];rfl,rfl⟩ ZI):P:=h
theorem zCY {P:Prop}(h:P:=by
 obtain⟨d,m2,he,rfl,rfl⟩:=hv;simp only[aE];refine ae ?_;refine jJ (kG (Post:=[A,aV lb (m0||m2) deep]) (.inr rfl) (.tmp Zr .nil) ⟨d,m2,he,rfl,rfl⟩ ZI)):P:=h
theorem zCZ {P:Prop}(h:P:=by
 simp only[wk,Qx]at h;obtain⟨x,h1,rfl⟩:=h;exact⟨b,rfl,h1⟩):P:=h
theorem zD0 {P:Prop}(h:P:=by
 obtain⟨hb,rfl,m2,rfl⟩:=hz;exact⟨[A,aV lb m2 deep],ZI,by simp[bU,wo.ok,jU,kP,dI,Lt.kind,Lt.n,Lt.bits,Lt.text,Lt.items,DA,hb],rfl,m2,rfl⟩):P:=h
theorem zD1 {P:Prop}(h:P:=by
 simp only[iI,Q9,Q7]at h;simp only[kR,h x (.inl rfl),gW (fun y hy=>h y (.inr (.inl hy))),gW (fun y hy=>h y (.inr (.inr hy)))]):P:=h
theorem zD2 {P:Prop}(h:P:=by
 simp only[jR];refine Q1 (fun p hp=>?_);obtain⟨a,b,c⟩:=p;have hc:=vX.1 hk c (QE.2 ⟨_,hp,rfl⟩);simp[Oo hc aG]):P:=h
theorem zD3 {P:Prop}(h:P:=by
 intro e he;rw[Array.toList_push,Q7]at he;rcases he with he|he
 ·exact Nat.lt_succ_of_lt (h.clock e he)
 ·rw[QI.1 he];exact Qn c):P:=h
theorem zD4 {P:Prop}(h:P:=by
 obtain⟨hb,rfl,m2,rfl⟩:=hz;exact⟨[A,aV lb m2 deep],ZI,by simp[bU,wo.ok,jU,kP,dI,Lt.kind,Lt.n,Lt.bits,Lt.text,Lt.items,hb],rfl,m2,rfl⟩):P:=h
theorem zD5 {P:Prop}(h:P:=by
 rcases Nat.eq_zero_or_pos w.heap.size with h0|h
 ·simp[World.cell?,h0]at hg
 ·exact h):P:=h
theorem zD6 {P:Prop}(h:P:=by
 cases agg with
 |true=>simp only[if_true]at h|-;cases h;simp[Array.map_extract]
 |false=>simp only[vJ,if_false]at h|-;exact lU h):P:=h
theorem zD7 {P:Prop}(h:P:=by
 refine Zw _ ?_;simp only[ai,kd];exact Zw _ (eD hr.w (aC i hi) y hy)):P:=h
theorem zD8 {P:Prop}(h:P:=by
 refine ae ?_;refine kG (.inr rfl) (.tmp Zr .nil) ⟨by simp[gw,h0,h45],rfl⟩ ZI):P:=h
theorem zD9 {P:Prop}(h:P:=by
 rw[<- vZ];exact fC.perm (hs.append_right F)):P:=h
theorem zDA {P:Prop}(h:P:=by
 simp only[Instr.mapUpdate,Sem.run_bind,kC hu,Result.andThen_ok,hx,J6,zt hd Eu,run_findKey hd Eu hf];simpa[kq]using h2):P:=h
theorem zDB {P:Prop}(h:P:=by
 have h5:=hb.str s.data.toList;have e2:s.data.toList.length=s.size:=by simp
 omega):P:=h
theorem zDC {P:Prop}(h:P:=by
 obtain⟨g1,g2,g3⟩:=wY h1 hi;exact⟨g1,g3⟩):P:=h
theorem zDD {P:Prop}(h:P:=by
 rename_i i hu hi;simp only[w7,X1]at hs;subst hs;simpa[execOp,Instr.loadAt,loadVar,dH hu,kZ hi,kq]using hr):P:=h
theorem zDE {P:Prop}(h:P:=by
 refine ae ?_;exact kG (Post:=[S]) (.inr rfl) (.tmp Zr .nil) ⟨rfl,rfl⟩ ZI):P:=h
theorem zDF {P:Prop}(h:P:=by
 split
 ·rfl
 ·split
  ·simp only;split
   ·exact hw _
   ·rfl
  ·split
   ·rfl
   ·simp only;split
    ·rfl
    ·exact hw _):P:=h
theorem zDG {P:Prop}(h:P:=by
 exact⟨a1,by simp only[PN.w,Vw];omega⟩):P:=h
theorem zDH {P:Prop}(h:P:=by
 rw[vh aI]
 congr 1
 exact(Vh.1 hy).2):P:=h
theorem zDI {P:Prop}(h:P:=by
 obtain⟨t,rfl⟩:=hq;show(qs++t).getD v 0=qs.getD v 0;rw[V8,V8,VV hv]):P:=h
theorem zDJ {P:Prop}(h:P:=by
 rw[Vi]at hi;obtain⟨f,Li,Cy⟩:=Qx.1 hi;cases Cy;exact hfld i f (by rw[<- Li,vC])):P:=h
theorem zDK {P:Prop}(h:P:=by
 rcases Q9.1 hy with rfl|hy
 ·exact qR (h _ (QB ..))
 ·exact ih (fun r hr=>h r (QA _ hr)) y hy):P:=h
theorem zDL {P:Prop}(h:P:=by
 refine⟨h3,?_⟩;simp only[jy,vF];exact⟨iJ (fun v hv=>gl (wU F G r _ env u) u v hv) _ h2,h4⟩):P:=h
theorem zDM {P:Prop}(h:P:=by
 rw[Array.toList_push,List.pairwise_append];refine⟨h.born,Zs,fun a ha b hb=>?_⟩;rw[QI.1 hb];exact h.clock a ha):P:=h
theorem zDN {P:Prop}(h:P:=by
 have:=h.nodup;simp only[Q3,QL,QE,not_exists,not_and]at this;intro e;exact this.1 x hx e.symm):P:=h
theorem zDO {P:Prop}(h:P:=by
 rw[if_neg hle];refine grow _ c rfl hle ⟨h1,fun x hx=>?_⟩;simp only[ai,kd,Q7];exact .inl (.inl hx)):P:=h
theorem zDP {P:Prop}(h:P:=by
 refine ae ?_;refine⟨.inr rfl,_,_,.tmp Zr .nil,ZI,?_,rfl⟩;rfl):P:=h
theorem zDQ {P:Prop}(h:P:=by
 exact vU _ QN):P:=h
theorem zDR {P:Prop}(h:P:=by
 refine ae ?_;exact kG (Post:=[A]) (.inr rfl) (.tmp Zr .nil) ⟨r,rfl,i2,by unfold wB;omega,fun _=>by omega,rfl⟩ ZI):P:=h
theorem zDS {P:Prop}(h:P:=by
 obtain⟨⟨a,z,k5,k6⟩,k7⟩:=k3 p hp;obtain⟨z',k8,k9⟩:=ej k5;exact⟨⟨a,z',k8,k6.trans k9.symm⟩,k7⟩):P:=h
theorem zDT {P:Prop}(h:P:=by
 rename_i sk Ad;obtain⟨d,hd,Eu⟩:=Sc Ad;simp only[w7,X1]at hs;subst hs;exact XB hu hd Eu hr):P:=h
theorem zDU {P:Prop}(h:P:=by
 obtain⟨q1,Ni,p1,eg,rfl,rfl⟩:=hz;exact⟨[X.S,jL q1 Ni p1],ZI,q1,Ni,p1,by rw[hP];exact eg,rfl,rfl⟩):P:=h
theorem zDV {P:Prop}(h:P:=by
 rw[kd,h1]
 congr 1
 conv=>lhs;rw[<- QZ ys.length sp]
 rw[kd]
 congr 2
 simp;omega):P:=h
theorem zDW {P:Prop}(h:P:=by
 simp only[hx,Sem.run_bind,J6,Result.andThen_ok,zt hd Eu,run_findKey hd Eu hf];simpa[kq]using h2):P:=h
theorem zDX {P:Prop}(h:P:=by
 refine az.bind (az.choose (fun hf=>by simp[Question.forced]at hf) (fun t'=>fin _ ?_));simp only[Question.cut];omega):P:=h
theorem zDY {P:Prop}(h:P:=by
 simp only[IntKind.wrap,IntKind.bits,IntKind.signed];simp;omega):P:=h
theorem zDZ {P:Prop}(h:P:=by
 rw[V8,Zg (by rw[hr.len];exact hi)];rfl):P:=h
theorem zE0 {P:Prop}(h:P:=by
 subst hH;exact zG (bp 15 Zd _ rfl) (Sh (bp 17 Zd _ rfl) rfl (by simp only[Oz]) (VO.nil ⟨rfl,rfl,trivial⟩))):P:=h
theorem zE1 {P:Prop}(h:P:=by
 have:=(QC.1 hi).1;simp only[Q7,Q9]at this|-;rcases this with h|h <;> simp[h]):P:=h
theorem zE2 {P:Prop}(h:P:=by
 refine .mk ?_ ?_ hle
 ·rw[Vo,h1,hlen,Qf]
 ·rw[Vo,Vr];omega):P:=h
theorem zE3 {P:Prop}(h:P:=by
 simp only[aE];refine ae ?_;exact kG (Post:=[B']) (.inr rfl) .nil ⟨rfl,.inr ⟨_,B',aN,hB',rfl⟩⟩ ZI):P:=h
theorem zE4 {P:Prop}(h:P:=by
 cases e with
 |returned v=>exact⟨a.defers,v,w1,hR⟩
 |panicked c=>exact hR.elim
 |outgrown=>exact hR.elim):P:=h
theorem zE5 {P:Prop}(h:P:=by
 cases r with
 |none=>simp[ke hi hiz,uf]
 |some p=>obtain⟨j,v⟩:=p;simp[uf]):P:=h
theorem zE6 {P:Prop}(h:P:=by
 unfold wM fD;rw[tF];have:zl (kb x.name) []=false:=by unfold zl;split <;> rfl
 rw[this];simp):P:=h
theorem zE7 {P:Prop}(h:P:=by
 simp only[ai,V6,vd,kd,h1,vZ];exact ju _ _ _):P:=h
theorem zE8 {P:Prop}(h:P:=by
 obtain⟨_,bq,Rr,Q2,S8,O3,oL⟩:=q;exact go .returning .returning bq Rr Q2 Zs rfl S8 O3 oL):P:=h
theorem zE9 {P:Prop}(h:P:=by
 have ge:es[j]=e:=by rw[v7 g2']at this;exact X0 this
 simp[g2',ge]):P:=h
theorem zEA {P:Prop}(h:P:=by
 simp only[wk]at h;split at h
 case h_2=>cases h
 rename_i x y h1 h2;cases h;exact⟨a,b,rfl,h1,h2⟩):P:=h
theorem zEB {P:Prop}(h:P:=by
 simp[Instr.takeDeferred,Go.getObj,Go.setObj,Sem.run,k1]):P:=h
theorem zEC {P:Prop}(h:P:=by
 refine uh (fun b=>⟨_,_,.inl rfl,?_,h b⟩);simp):P:=h
theorem zED {P:Prop}(h:P:=by
 rcases vP.1 hc with hc|hc <;> (simp only[eT,vF]at hc;exact hc.1.1.1)):P:=h
theorem zEE {P:Prop}(h:P:=by
 intro hl st env u;simp only[Nd.aq]at hl;rw[wL];exact(ih x Zo st env u).1.trans (xB Zo _ env u)):P:=h
theorem zEF {P:Prop}(h:P:=by
 cases kids with
 |nil=>exact hk
 |cons x r=>simp only[Nd.aq]at hk;simp only[List.tail_cons];omega):P:=h
theorem zEG {P:Prop}(h:P:=by
 rw[vZ]at this;exact this.sub ((List.Sublist.refl _).append (List.sublist_append_right _ _))):P:=h
theorem zEH {P:Prop}(h:P:=by
 rcases Q7.1 sN with h1|h1
 ·exact h.w r' h1
 ·rw[QI.1 h1];exact hx.len):P:=h
theorem zEI {P:Prop}(h:P:=by
 refine ae ?_;refine kG (Post:=[]) (.inr rfl) (.tmp Zr .nil) ⟨by simp[gw,tk,h],rfl⟩ ZI):P:=h
theorem zEJ {P:Prop}(h:P:=by
 simp only[V6,V7,vd];exact vU _ h9.symm):P:=h
theorem zEK {P:Prop}(h:P:=by
 have:=(Vh.1 hx).1;simp only[Vp,Vw]at this;omega):P:=h
theorem zEL {P:Prop}(h:P:=by
 obtain⟨c,t,lo,hi,hb,hn⟩:=hh;exact⟨c,t,lo,hi,by rw[h.block b hl];exact hb,hn⟩):P:=h
theorem zEM {P:Prop}(h:P:=by
 apply vD.1;rw[vE,h3,hm]):P:=h
theorem Zo {P:Prop}(h:P:=by omega):P:=h
theorem Zr {P:Prop}(h:P:=by rfl):P:=h
theorem Zd {P:Prop}(h:P:=by decide):P:=h
theorem Zs {P:Prop}(h:P:=by simp):P:=h
theorem ZI {P:Prop}(h:P:=by exact bE):P:=h
theorem ZP {P:Prop}(h:P:=by exact SPx):P:=h
theorem ZU {P:Prop}(h:P:=by exact Nh):P:=h
theorem ZK {P:Prop}(h:P:=by exact TKx):P:=h
theorem SZ {P:Prop}(h:P:=by(focus ((repeat (first|(apply DJ.cells;omega;(focus (simp only[Vp,Vw,Nat.reduceAdd,Qr,Nat.reduceSub,Qp,Nat.reduceLeDiff,Qj];done));(focus (simp only[Nt,Value.cells,Qr,Nat.reduceEqDiff,↓reduceIte,eq_self,Nat.reduceAdd,Nat.reduceSub,Qp,Nat.reduceLeDiff,Qj,and_self,rep,kX] <;> rfl));rfl)|apply DJ.there));first|done|fail))):P:=h
theorem Zac {P:Prop}(h:P:=by(focus ((repeat (first|(apply iY.cells;omega;(focus (simp only[Vp,Vw,Nat.reduceAdd,Qr,Nat.reduceSub,Qp,Nat.reduceLeDiff,Qj];done));(focus (simp only[Nt,Value.cells,Qr,Nat.reduceEqDiff,↓reduceIte,eq_self,Nat.reduceAdd,Nat.reduceSub,Qp,Nat.reduceLeDiff,Qj,and_self,rep,kX] <;> rfl)))|apply iY.there));first|done|fail))):P:=h
theorem Zl {P:Prop}(h:P:=by(first|exact ltM|(focus (apply ltB;(repeat' (first|exact modM|apply orC|apply Ty|apply divC|omega));done))|omega)):P:=h
theorem Zz {P:Prop}(h:P:=by((try simp only[Qr,Qh,Nat.reduceAdd,Nat.reduceMul,Qe,vS,Nat.mul_one]);rfl)):P:=h
theorem Zi {P:Prop}(h:P:=by(first|with_reducible exact vS _|((try simp only[Int.reduceToNat]);rfl))):P:=h
theorem Zh {P:Prop}(h:P:=by(focus ((repeat (first|(apply Has.cells;omega;rfl)|apply Has.there));first|done|fail))):P:=h
theorem Zm {P:Prop}(h:P:=by(focus ((repeat (first|(apply Has.among;assumption)|apply Has.there));first|done|fail))):P:=h
theorem Zax {P:Prop}(h:P:=by first|exact .here|exact .there .here|exact .there (.there .here)|exact .there (.there (.there .here))|exact .there (.there (.there (.there .here)))|exact .there (.there (.there (.there (.there .here))))|exact .there (.there (.there (.there (.there (.there .here)))))):P:=h
theorem Zaw {P:Prop}(h:P:=by rw[World.frozen?_alloc_old _ _ t (by simp;omega),World.frozen?_alloc_old _ _ t (by simp;omega),World.frozen?_alloc_old _ _ t (by simp;omega),World.frozen?_alloc_old _ _ t (Nat.ne_of_lt tI)];exact hf0):P:=h
theorem Zav {P:Prop}(h:P:=by rw[World.cell?_alloc_lt _ _ t (by simp;omega),World.cell?_alloc_lt _ _ t (by simp;omega),World.cell?_alloc_lt _ _ t (by simp;omega),World.cell?_alloc_lt _ _ t tI];exact ht0):P:=h
theorem Zao {P:Prop}(h:P:=by simp only[V.gN,V.ev,bp 36 (by decide) _ rfl,bp 37 (by decide) _ rfl,bp 39 (by decide) _ rfl]):P:=h
theorem Zap {P:Prop}(h:P:=by simp only[V.gN,V.ev,bp 76 (by decide) _ rfl,bp 80 (by decide) _ rfl,bp 82 (by decide) _ rfl]):P:=h
theorem Zaq {P:Prop}(h:P:=by simp only[V.gN,V.ev,bp 84 (by decide) _ rfl,bp 86 (by decide) _ rfl,bp 89 (by decide) _ rfl]):P:=h
theorem Zay {P:Prop}(h:P:=by(focus ((repeat (first|with_reducible exact uG.here|apply uG.there));done))):P:=h
theorem Zau {P:Prop}(h:P:=by simp only[V.gN,V.ev,bp 19 (by decide) _ rfl]):P:=h
theorem Zat {P:Prop}(h:P:=by simp only[V.gN,V.ev,bp 4 (by decide) _ rfl]):P:=h
theorem Zar {P:Prop}(h:P:=by simp only[V.ev,bp 83 (by decide) _ rfl]):P:=h
theorem Zas {P:Prop}(h:P:=by simp only[V.ev,bp 90 (by decide) _ rfl]):P:=h
theorem Jo {P:Prop}(h:P:=by simp[kA]):P:=h
theorem tj {P:Prop}(h:P:=by simp;omega):P:=h
theorem lH {P:Prop}(h:P:=by exact(VO.nil ⟨_,[],rfl,⟨rfl,rfl⟩,aj.perm (by simp)⟩)):P:=h
theorem Zae {P:Prop}(h:P:=by exact(VO.nil ⟨rfl,⟨mz,aj.refl _⟩,trivial⟩)):P:=h
theorem DO {P:Prop}(h:P:=by exact(VO.nil ⟨rfl,rfl,trivial⟩)):P:=h
theorem Y2 {P:Prop}(h:P:=by exact(fun x hx=>by simp only[V6,Q7];first|exact .inl hx|exact .inr (.inl hx))):P:=h
theorem NR {P:Prop}(h:P:=by exact(fun z hz=>List.mem_append_left _ (lh z hz))):P:=h
theorem Zai {P:Prop}(h:P:=by exact(fun v Post hv=>absurd hv.1 (by decide))):P:=h
theorem GJ {P:Prop}(h:P:=by exact(fun ch Post hz=>absurd hz.1 (by decide))):P:=h
theorem Zak {P:Prop}(h:P:=by exact(fun y hy=>by simp only[V6,Q7];first|exact .inl hy|exact .inr (.inl hy)|exact .inr (.inr (.inl hy)))):P:=h
theorem AI {P:Prop}(h:P:=by exact⟨rfl,fun a ha=>by simp only[V6,Q7];exact .inl ha⟩):P:=h
theorem Zf {p:Prop}[Decidable p](h:¬p):decide p=false:=decide_eq_false h
theorem Zt {p:Prop}[Decidable p](h:p):decide p=true:=decide_eq_true h
theorem Zg {α:Type _}{l:List α}{i:Nat}(h:i < l.length):l[i]? =some l[i]:=List.getElem?_eq_getElem h
theorem Zv {α:Type _}{l:List α}{i:Nat}{a:α}(h:l[i]? =some a):a∈l:=List.mem_of_getElem? h
theorem Zw {α:Type _}{a:α}{s:List α}(t:List α)(h:a∈s):a∈s++t:=List.mem_append_left t h
end Go
namespace Go.V
open Go
inductive kB where
 |cell (b off:Nat) (v:Value)
 |obj (b:Nat) (o:Obj)
 |row (b n:Nat)
 |own (b n:Nat)
def kB.loc:kB->Nat×Option Nat
 |.cell b off _=>(b,some off)
 |.obj b _=>(b,none)
 |.row b _=>(b,none)
 |.own b n=>(b,some n)
def wT:Obj->Bool
 |.cells .. =>true
 |_=>false
def kB.holds(w:World):kB->Prop
 |.cell b off v=>∃c t lo hi,w.heap[b]? =some (Obj.cells c t (lo,hi))/\c[off]? =some v/\¬(lo<=off/\off < hi)
 |.obj b o=>w.heap[b]? =some o/\wT o=false
 |.row b n=>∃c t lo hi,w.heap[b]? =some (Obj.cells c t (lo,hi))/\c.size=n
 |.own b n=>∃c t lo hi,w.heap[b]? =some (Obj.cells c t (lo,hi))/\c.size=n/\¬(lo<=n/\n < hi)
structure Sat (w:World)(L:List kB):Prop where
 holds:∀x∈L,x.holds w
 nodup:(L.map kB.loc).Nodup
structure ki (w w':World):Prop where
 os:w'.os=w.os
 output:w'.output=w.output
 size:w.heap.size<=w'.heap.size
 cells:∀(i:Nat) c t lo hi,w.heap[i]? =some (Obj.cells c t (lo,hi))->∃c',w'.heap[i]? =some (Obj.cells c' t (lo,hi))/\c'.size=c.size/\∀j,lo<=j/\j < hi->c'[j]? =c[j]?
theorem ki.refl(w:World):ki w w:=⟨rfl,rfl,Qj _,fun _ c _ _ _ h=>⟨c,h,rfl,fun _ _=>rfl⟩⟩
theorem ki.trans {a b c:World}(h:ki a b)(k:ki b c):ki a c:=by
 refine⟨k.os.trans h.os,k.output.trans h.output,Ql h.size k.size,fun i x t lo hi hx=>?_⟩;obtain⟨y,hy,sy,fy⟩:=h.cells i x t lo hi hx;obtain⟨z,hz,sz,fz⟩:=k.cells i y t lo hi hy;exact⟨z,hz,sz.trans sy,fun j hj=>(fz j hj).trans (fy j hj)⟩
theorem ki.drawn {a b:World}(h:ki a b)(n:Nat):ki a {b with drawn:=n}:=⟨h.os,h.output,h.size,h.cells⟩
theorem Sat.drawn {w:World}{L:List kB}(h:Sat w L)(n:Nat):Sat {w with drawn:=n} L:=⟨fun x hx=>by
 have:=h.holds x hx;cases x <;> exact this,h.nodup⟩
theorem Sat.perm {w:World}{L M:List kB}(h:Sat w L)(p:L.Perm M):Sat w M:=
 ⟨fun x hx=>h.holds x (p.mem_iff.2 hx),(p.map kB.loc).nodup_iff.1 h.nodup⟩
theorem Sat.sub {w:World}{L M:List kB}(h:Sat w L)(p:M.Sublist L):Sat w M:=
 ⟨fun x hx=>h.holds x (p.subset hx),(p.map kB.loc).nodup h.nodup⟩
theorem Sat.left {w:World}{L M:List kB}(h:Sat w (L++M)):Sat w L:=h.sub (List.sublist_append_left L M)
theorem Sat.lt {w:World}{L:List kB}(h:Sat w L){x:kB}(hx:x∈L):x.loc.1 < w.heap.size:=by
 have:=h.holds x hx;cases x with
 |cell b off v=>obtain⟨c,t,lo,hi,hb,_⟩:=this;exact(v8.1 hb).1
 |obj b o=>exact(v8.1 this.1).1
 |row b n=>obtain⟨c,t,lo,hi,hb,_⟩:=this;exact(v8.1 hb).1
 |own b n=>obtain⟨c,t,lo,hi,hb,_⟩:=this;exact(v8.1 hb).1
theorem Sat.cell {w:World}{L:List kB}(h:Sat w L){b off:Nat}{v:Value}(hx:kB.cell b off v∈L):
 w.cell? ⟨b,off,none⟩=some v/\w.frozen? ⟨b,off,none⟩=false:=by
 obtain⟨c,t,lo,hi,hb,hc,hf⟩:=h.holds _ hx;refine⟨by simp[World.cell?,hb,hc],?_⟩;simp only[World.frozen?,hb];simp only[Bool.and_eq_false_iff,decide_eq_false_iff_not];by_cases h1:lo<=off
 ·right;intro h2;exact hf ⟨h1,h2⟩
 ·left;exact h1
theorem Sat.obj {w:World}{L:List kB}(h:Sat w L){b:Nat}{o:Obj}(hx:kB.obj b o∈L):w.heap[b]? =some o/\wT o=false:=h.holds _ hx
theorem Sat.store {w:World}{L:List kB}{b off:Nat}{v u:Value}(h:Sat w (.cell b off v::L)):
 Sat (w.setCell ⟨b,off,none⟩ u) (.cell b off u::L)/\ki w (w.setCell ⟨b,off,none⟩ u):=by
 obtain⟨c,t,lo,hi,hb,hc,hf⟩:=h.holds _ (QB ..);have aI:off < c.size:=(v8.1 hc).1;have eW:∀i,(w.setCell ⟨b,off,none⟩ u).heap[i]? =if b=i then some (Obj.cells (c.setIfInBounds off u) t (lo,hi))else w.heap[i]?:=by
  intro i;simp only[World.setCell,vA];by_cases e:b=i
  ·subst e;simp[hb]
  ·simp[e]
 refine⟨⟨fun x hx=>?_,?_⟩,⟨rfl,rfl,by simp[World.setCell],fun i c' t' Bf bO Z0=>?_⟩⟩
 ·rcases Q9.1 hx with rfl|hx
  ·exact⟨c.setIfInBounds off u,t,lo,hi,by rw[eW];simp,by simp[aI],hf⟩
  ·have cF:(b,some off)≠x.loc:=by
    exact zDN
   have hh:=h.holds x (QA _ hx);cases x with
   |cell b' off' v'=>
    obtain⟨c',t',Bf,bO,nO,Le,hf'⟩:=hh;by_cases e:b=b'
    ·subst e;rw[hb]at nO;obtain⟨rfl,rfl,rfl,rfl⟩:c=c'/\t=t'/\lo=Bf/\hi=bO:=by simpa using nO
     have hoff:off≠off':=fun e=>cF (by simp[kB.loc,e])
     exact⟨c.setIfInBounds off u,t,lo,hi,by rw[eW];simp,by simp[vB hoff,Le],hf'⟩
    ·exact⟨c',t',Bf,bO,by rw[eW];simp[e,nO],Le,hf'⟩
   |obj b' o=>
    obtain⟨nO,ho⟩:=hh;have e:b≠b':=fun e=>by
     subst e;rw[hb]at nO;cases nO;simp[wT]at ho
    exact⟨by rw[eW];simp[e,nO],ho⟩
   |row b' n=>
    obtain⟨c',t',Bf,bO,nO,hn⟩:=hh;by_cases e:b=b'
    ·subst e;rw[hb]at nO;obtain⟨rfl,rfl,rfl,rfl⟩:c=c'/\t=t'/\lo=Bf/\hi=bO:=by simpa using nO
     exact⟨c.setIfInBounds off u,t,lo,hi,by rw[eW];simp,by simpa using hn⟩
    ·exact⟨c',t',Bf,bO,by rw[eW];simp[e,nO],hn⟩
   |own b' n=>
    obtain⟨c',t',Bf,bO,nO,hn,hf'⟩:=hh;by_cases e:b=b'
    ·subst e;rw[hb]at nO;obtain⟨rfl,rfl,rfl,rfl⟩:c=c'/\t=t'/\lo=Bf/\hi=bO:=by simpa using nO
     exact⟨c.setIfInBounds off u,t,lo,hi,by rw[eW];simp,by simpa using hn,hf'⟩
    ·exact⟨c',t',Bf,bO,by rw[eW];simp[e,nO],hn,hf'⟩
 ·have:=h.nodup;simpa[kB.loc]using this
 ·rw[eW];by_cases e:b=i
  ·subst e;rw[hb]at Z0;obtain⟨rfl,rfl,rfl,rfl⟩:c=c'/\t=t'/\lo=Bf/\hi=bO:=by simpa using Z0
   refine⟨c.setIfInBounds off u,Zs,Zs,fun j hj=>?_⟩;have cF:off≠j:=fun e=>hf (e ▸ hj)
   simp[vB cF]
  ·simp[e,Z0]
def kA(b:Nat):Nat->List Value->List kB
 |_,[]=>[]
 |off,v::r=>.cell b off v::kA b (off+1) r
theorem kH {b:Nat}{x:kB}:∀{off:Nat} {vs:List Value},x∈kA b off vs↔∃i v,vs[i]? =some v/\x=.cell b (off+i) v:=by
 intro off vs
 induction vs generalizing off with
 |nil=>simp[kA]
 |cons u r ih=>
  simp only[kA,Q9,ih];constructor
  ·rintro(rfl|⟨i,v,h,rfl⟩)
   ·exact⟨0,u,rfl,rfl⟩
   ·exact⟨i+1,v,by simpa using h,by simp;omega⟩
  ·rintro⟨i,v,h,rfl⟩
   cases i with
   |zero=>left;simp at h;simp[h]
   |succ i=>right;exact⟨i,v,by simpa using h,by simp;omega⟩
theorem df(b:Nat)(vs:List Value):∀off,((kA b off vs).map kB.loc).Nodup:=by
 induction vs with
 |nil=>intro off;simp[kA]
 |cons u r ih=>
  intro off;simp only[kA,Q3,QL,ih,and_true];simp only[QE,not_exists,not_and];intro x hx e;obtain⟨i,v,_,rfl⟩:=kH.1 hx;simp[kB.loc]at e;omega
theorem Sat.push {w:World}{L:List kB}(h:Sat w L)(o:Obj)(M:List kB)(hM:∀x∈M,x.loc.1=w.heap.size/\x.holds {w with heap:=w.heap.push o})
 (hn:(M.map kB.loc).Nodup):Sat {w with heap:=w.heap.push o} (M++L)/\ki w {w with heap:=w.heap.push o}:=by
 have hold:∀i,i < w.heap.size->(w.heap.push o)[i]? =w.heap[i]?:=fun i hi=>by
  rw[Array.getElem?_push];simp[Nat.ne_of_lt hi]
 refine⟨⟨fun x hx=>?_,?_⟩,⟨rfl,rfl,Zs,fun i c t lo hi bO=>?_⟩⟩
 ·rcases Q7.1 hx with hx|hx
  ·exact(hM x hx).2
  ·have hl:=h.lt hx;have:=h.holds x hx;cases x with
   |cell b off v=>obtain⟨c,t,lo,hi,hb,r⟩:=this;exact⟨c,t,lo,hi,by simpa[hold b hl]using hb,r⟩
   |obj b o'=>exact⟨by simpa[hold b hl]using this.1,this.2⟩
   |row b n=>obtain⟨c,t,lo,hi,hb,hn⟩:=this;exact⟨c,t,lo,hi,by simpa[hold b hl]using hb,hn⟩
   |own b n=>obtain⟨c,t,lo,hi,hb,hn⟩:=this;exact⟨c,t,lo,hi,by simpa[hold b hl]using hb,hn⟩
 ·rw[Q0,QK];refine⟨hn,h.nodup,fun x hx y hy e=>?_⟩;obtain⟨m,hm,rfl⟩:=QE.1 hx;obtain⟨l,hl,rfl⟩:=QE.1 hy;have h1:=(hM m hm).1;have h2:=h.lt hl;rw[e]at h1;omega
 ·have hl:i < w.heap.size:=(v8.1 bO).1;exact⟨c,by simpa[hold i hl]using bO,rfl,fun _ _=>rfl⟩
theorem Sat.P9 {w:World}{L:List kB}(h:Sat w L)(c:Array Value)(t:TypeId):
 Sat {w with heap:=w.heap.push (.cells c t)} (kA w.heap.size 0 c.toList++L)/\ki w {w with heap:=w.heap.push (.cells c t)}:=by
 refine h.push _ _ (fun x hx=>?_) (df _ _ _);obtain⟨i,v,hi,rfl⟩:=kH.1 hx;exact⟨rfl,c,t,0,0,Zs,by simpa using hi,Zs⟩
theorem Sat.newObj {w:World}{L:List kB}(h:Sat w L)(o:Obj)(ho:wT o=false):
 Sat {w with heap:=w.heap.push o} (.obj w.heap.size o::L)/\ki w {w with heap:=w.heap.push o}:=by
 refine h.push o [.obj w.heap.size o] (fun x hx=>?_) Zs;rw[QI.1 hx];exact⟨rfl,Zs,ho⟩
theorem Sat.setObj {w:World}{L:List kB}{b:Nat}{o u:Obj}(h:Sat w (.obj b o::L))(hu:wT u=false):
 Sat {w with heap:=w.heap.setIfInBounds b u} (.obj b u::L)/\ki w {w with heap:=w.heap.setIfInBounds b u}:=by
 obtain⟨hb,ho⟩:=h.holds _ (QB ..);have aI:b < w.heap.size:=(v8.1 hb).1;have eW:∀i,(w.heap.setIfInBounds b u)[i]? =if b=i then some u else w.heap[i]?:=by
  intro i;by_cases e:b=i
  ·subst e;simp[aI]
  ·simp[vB e,e]
 refine⟨⟨fun x hx=>?_,?_⟩,⟨rfl,rfl,Zs,fun i c t lo hi bO=>?_⟩⟩
 ·rcases Q9.1 hx with rfl|hx
  ·exact⟨by simp[aI],hu⟩
  ·have cF:(b,none)≠x.loc:=by
    exact zDN
   have hh:=h.holds x (QA _ hx);cases x with
   |cell b' off' v'=>
    obtain⟨c',t',Bf,bO,nO,r⟩:=hh;have e:b≠b':=fun e=>by subst e;rw[hb]at nO;cases nO;cases ho
    exact⟨c',t',Bf,bO,by simpa[eW,e]using nO,r⟩
   |obj b' o'=>
    have e:b≠b':=fun e=>cF (by simp[kB.loc,e])
    exact⟨by simpa[eW,e]using hh.1,hh.2⟩
   |row b' n=>
    have e:b≠b':=fun e=>cF (by simp[kB.loc,e])
    obtain⟨c',t',Bf,bO,nO,hn⟩:=hh;exact⟨c',t',Bf,bO,by simpa[eW,e]using nO,hn⟩
   |own b' n=>
    obtain⟨c',t',Bf,bO,nO,hn⟩:=hh;have e:b≠b':=fun e=>by subst e;rw[hb]at nO;cases nO;cases ho
    exact⟨c',t',Bf,bO,by simpa[eW,e]using nO,hn⟩
 ·have:=h.nodup;simpa[kB.loc]using this
 ·have e:b≠i:=fun e=>by subst e;rw[hb]at bO;cases bO;cases ho
  exact⟨c,by simpa[eW,e]using bO,rfl,fun _ _=>rfl⟩
def az(P:Program){α:Type}(s:Sem α)(H:List kB)(K:α->List kB->Prop):Prop:=
 ∀F w,Sat w (H++F)->∃v w' H',s.run P w=.ok v w'/\K v H'/\Sat w' (H'++F)/\ki w w'
section
variable {P:Program} {α β:Type} {H:List kB} {K:α->List kB->Prop}
theorem az.pure {v:α}(h:K v H):az P (Pure.pure v) H K:=fun _ w hs=>⟨v,w,H,rfl,h,hs,.refl w⟩
theorem az.bind {s:Sem α}{f:α->Sem β}{K:β->List kB->Prop}(h:az P s H fun v H'=>az P (f v) H' K):az P (s >>=f) H K:=by
 intro F w hs;obtain⟨v,w1,H1,h1,h2,h3,h4⟩:=h F w hs;obtain⟨u,w2,H2,k1,k2,k3,k4⟩:=h2 F w1 h3;exact⟨u,w2,H2,by simp[h1,k1],k2,k3,h4.trans k4⟩
theorem az.mono {s:Sem α}{K':α->List kB->Prop}(h:az P s H K)(hk:∀v H',K v H'->K' v H'):az P s H K':=fun F w hs=>
 let⟨v,w',H',a,b,c⟩:=h F w hs;⟨v,w',H',a,hk _ _ b,c⟩
theorem az.perm {s:Sem α}{H':List kB}(p:H.Perm H')(h:az P s H' K):az P s H K:=fun F w hs=>
 h F w (hs.perm (p.append_right F))
theorem az.load {b off:Nat}{v:Value}{K:Value->List kB->Prop}(hx:kB.cell b off v∈H)(h:K v H):az P (Go.load ⟨b,off,none⟩) H K:=fun F w hs=>by
 have:=(hs.cell (Zw F hx)).1;exact⟨v,w,H,by simp[Go.load,Sem.run,this],h,hs,.refl w⟩
def je:Value->Bool
 |.agg _|.tuple _=>false
 |_=>true
theorem az.store {b off:Nat}{v u:Value}{K:Unit->List kB->Prop}(hu:je u=true)(h:K () (.cell b off u::H)):
 az P (Go.store ⟨b,off,none⟩ u) (.cell b off v::H) K:=fun F w hs=>by
 have hc:=hs.cell (Zw F (QB (a:=kB.cell b off v) (l:=H)));obtain⟨s1,s2⟩:=Sat.store (u:=u) (L:=H++F) (by simpa using hs);refine⟨(),_,_,?_,h,s1,s2⟩;cases u <;> simp_all [Go.store,Sem.run,je]
theorem az.LX {c:Array Value}{t:TypeId}{K:Nat->List kB->Prop}(h:∀b,K b (kA b 0 c.toList++H)):az P (Go.newObj (.cells c t)) H K:=fun F w hs=>by
 obtain⟨s1,s2⟩:=hs.P9 c t;exact⟨w.heap.size,_,_,by simp[Go.newObj,Sem.run],h _,by rw[vZ];exact s1,s2⟩
theorem az.Wn {o:Obj}{K:Nat->List kB->Prop}(ho:wT o=false)(h:∀b,K b (.obj b o::H)):az P (Go.newObj o) H K:=fun F w hs=>by
 obtain⟨s1,s2⟩:=hs.newObj o ho;exact⟨w.heap.size,_,_,by simp[Go.newObj,Sem.run],h _,s1,s2⟩
theorem az.getObj {b:Nat}{o:Obj}{K:Obj->List kB->Prop}(hx:kB.obj b o∈H)(h:K o H):az P (Go.getObj b) H K:=fun F w hs=>by
 obtain⟨h1,h2⟩:=hs.obj (Zw F hx);refine⟨o,w,H,?_,h,hs,.refl w⟩;cases o <;> simp_all [Go.getObj,Sem.run,wT]
theorem az.setObj {b:Nat}{o u:Obj}{K:Unit->List kB->Prop}(hu:wT u=false)(h:K () (.obj b u::H)):az P (Go.setObj b u) (.obj b o::H) K:=fun F w hs=>by
 obtain⟨h1,h2⟩:=hs.obj (Zw F (QB (a:=kB.obj b o) (l:=H)));obtain⟨s1,s2⟩:=Sat.setObj (u:=u) (L:=H++F) (by simpa using hs) hu;refine⟨(),_,_,?_,h,s1,s2⟩;cases o <;> simp_all [Go.setObj,Sem.run,wT]
theorem az.choose {q:Question}{K:Nat->List kB->Prop}(h0:q.forced=true->K 0 H)(h:∀n,K (q.cut n) H):az P (Go.choose q) H K:=fun F w hs=>by
 by_cases e:q.forced=true
 ·exact⟨0,w,H,by simp[Go.choose,Sem.run,e],h0 e,hs,.refl w⟩
 ·exact⟨_,_,H,by simp[Go.choose,Sem.run,e];exact⟨rfl,rfl⟩,h _,hs.drawn _,(ki.refl w).drawn _⟩
end
end Go.V

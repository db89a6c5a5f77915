/-
  Cells and objects of memory as a list of atoms that a world satisfies, and triples over the model's own Sem programs.
-/
import Derived.Orders
import Derived.Laws.Sem
import Derived.Laws.World
set_option linter.all false
namespace Go
abbrev Ne1:List Value:=[.string ⟨#[]⟩,.int .i64 0,.slice none 0 0]
abbrev rP(k:Int)(s:ByteArray)(a b c:Int)(t:ByteArray)(d:Option Addr)(e f:Nat)(g:Option Addr)(h i:Nat)(u:Int)(v:Bool)(w:Option Addr)(x y:Nat):List Value:=[.int .u8 k,.string s,.int .u8 a,.int .i64 b,.int .u64 c,.string t,.slice d e f,.slice g h i,.int .i64 u,.bool v,.slice w x y]
abbrev rA(k:Nat)(s:ByteArray)(a:Nat)(b:Int)(c:Nat)(t:ByteArray)(d:Option Addr)(e f:Nat)(g:Option Addr)(h i:Nat)(l:Option Addr)(m n:Nat)(w:Option Addr)(x y:Nat)(p:Int):List Value:=[.int .u8 k,.string s,.int .u8 a,.int .i64 b,.int .u64 c,.string t,.slice d e f,.slice g h i,.slice l m n,.slice w x y,.int .i64 p]
abbrev rN(k:Int)(s:ByteArray)(a b c:Int)(t:ByteArray)(d:Option Addr)(e f:Nat)(g:Option Addr)(h i:Nat)(l:Option Addr)(m n:Nat)(w:Option Addr)(x y:Nat)(p:Int):List Value:=[.int .u8 k,.string s,.int .u8 a,.int .i64 b,.int .u64 c,.string t,.slice d e f,.slice g h i,.slice l m n,.slice w x y,.int .i64 p]
abbrev Nz:Value:=.slice none 0 0
theorem v6:type_of% @Array.eq_empty_of_size_eq_zero:=@Array.eq_empty_of_size_eq_zero
theorem v7:type_of% @Array.getElem?_eq_getElem:=@Array.getElem?_eq_getElem
theorem v8:type_of% @Array.getElem?_eq_some_iff:=@Array.getElem?_eq_some_iff
theorem v9:type_of% @Array.getElem?_modify:=@Array.getElem?_modify
theorem vA:type_of% @Array.getElem?_setIfInBounds_ne:=@Array.getElem?_setIfInBounds_ne
theorem vB:type_of% @Array.getElem?_toList:=@Array.getElem?_toList
theorem vC:type_of% @Array.toList_inj:=@Array.toList_inj
theorem vD:type_of% @Array.toList_map:=@Array.toList_map
theorem vE:type_of% @Bool.and_eq_false_iff:=@Bool.and_eq_false_iff
theorem vF:type_of% @Bool.and_eq_true:=@Bool.and_eq_true
theorem vG:type_of% @Bool.and_eq_true_iff:=@Bool.and_eq_true_iff
theorem vH:type_of% @Bool.eq_false_iff:=@Bool.eq_false_iff
theorem vI:type_of% @Bool.eq_iff_iff:=@Bool.eq_iff_iff
theorem vJ:type_of% @Bool.false_and:=@Bool.false_and
theorem vK:type_of% @Bool.false_eq_true:=@Bool.false_eq_true
theorem vL:type_of% @Bool.false_or:=@Bool.false_or
theorem vM:type_of% @Bool.not_eq_true':=@Bool.not_eq_true'
theorem vN:type_of% @Bool.not_false:=@Bool.not_false
theorem vO:type_of% @Bool.or_assoc:=@Bool.or_assoc
theorem vP:type_of% @Bool.or_eq_true:=@Bool.or_eq_true
theorem vQ:type_of% @Bool.or_eq_true_iff:=@Bool.or_eq_true_iff
theorem vR:type_of% @Bool.or_false:=@Bool.or_false
theorem vS:type_of% @Bool.true_and:=@Bool.true_and
theorem vT:type_of% @Int.toNat_natCast:=@Int.toNat_natCast
theorem vU:type_of% @Int.toNat_of_nonneg:=@Int.toNat_of_nonneg
theorem vV:type_of% @List.Perm.append_left:=@List.Perm.append_left
theorem vW:type_of% @List.Perm.append_right:=@List.Perm.append_right
theorem vX:type_of% @List.Perm.refl:=@List.Perm.refl
theorem vY:type_of% @List.all_cons:=@List.all_cons
theorem vZ:type_of% @List.all_eq_true:=@List.all_eq_true
theorem vd:type_of% @List.any_cons:=@List.any_cons
theorem ve:type_of% @List.any_eq_true:=@List.any_eq_true
theorem vf:type_of% @List.append_assoc:=@List.append_assoc
theorem vg:type_of% @List.append_nil:=@List.append_nil
theorem vh:type_of% @List.cons.injEq:=@List.cons.injEq
theorem vj:type_of% @List.cons_append:=@List.cons_append
theorem vm:type_of% @List.contains_iff_mem:=@List.contains_iff_mem
theorem vp:type_of% @List.drop_eq_getElem_cons:=@List.drop_eq_getElem_cons
theorem vq:type_of% @List.drop_eq_nil_of_le:=@List.drop_eq_nil_of_le
theorem vr:type_of% @List.drop_zero:=@List.drop_zero
theorem vt:type_of% @List.eq_nil_of_length_eq_zero:=@List.eq_nil_of_length_eq_zero
theorem vw:type_of% @List.ext_getElem?:=@List.ext_getElem?
theorem vx:type_of% @List.filter_append:=@List.filter_append
theorem vy:type_of% @List.filter_cons:=@List.filter_cons
theorem vz:type_of% @List.filter_eq_nil_iff:=@List.filter_eq_nil_iff
theorem V0:type_of% @List.filter_eq_self:=@List.filter_eq_self
theorem V5:type_of% @List.findIdx?_cons:=@List.findIdx?_cons
theorem V6:type_of% @List.flatMap_append:=@List.flatMap_append
theorem V7:type_of% @List.flatMap_singleton:=@List.flatMap_singleton
theorem V8:type_of% @List.flatten_append:=@List.flatten_append
theorem V9:type_of% @List.flatten_cons:=@List.flatten_cons
theorem VV:type_of% @List.flatten_nil:=@List.flatten_nil
theorem Va:type_of% @List.foldl_cons:=@List.foldl_cons
theorem Vb:type_of% @List.getD_eq_getElem?_getD:=@List.getD_eq_getElem?_getD
theorem Vc:type_of% @List.getElem?_append:=@List.getElem?_append
theorem Vd:type_of% @List.getElem?_append_left:=@List.getElem?_append_left
theorem Ve:type_of% @List.getElem?_append_right:=@List.getElem?_append_right
theorem Vg:type_of% @List.getElem?_cons_succ:=@List.getElem?_cons_succ
theorem Vh:type_of% @List.getElem?_cons_zero:=@List.getElem?_cons_zero
theorem Vi:type_of% @List.getElem?_drop:=@List.getElem?_drop
theorem Vj:type_of% @List.getElem?_eq_none:=@List.getElem?_eq_none
theorem Vl:type_of% @List.getElem?_eq_none_iff:=@List.getElem?_eq_none_iff
theorem Vm:type_of% @List.getElem?_eq_some_iff:=@List.getElem?_eq_some_iff
theorem Vn:type_of% @List.getElem?_map:=@List.getElem?_map
theorem Vo:type_of% @List.getElem?_of_mem:=@List.getElem?_of_mem
theorem Vp:type_of% @List.getElem?_set:=@List.getElem?_set
theorem Vr:type_of% @List.getElem?_toArray:=@List.getElem?_toArray
theorem Vt:type_of% @List.length_append:=@List.length_append
theorem Vu:type_of% @List.length_cons:=@List.length_cons
theorem Vv:type_of% @List.length_drop:=@List.length_drop
theorem Vw:type_of% @List.length_eq_one_iff:=@List.length_eq_one_iff
theorem Vx:type_of% @List.length_eq_zero_iff:=@List.length_eq_zero_iff
theorem Vy:type_of% @List.length_filter_le:=@List.length_filter_le
theorem Vz:type_of% @List.length_map:=@List.length_map
theorem Q0:type_of% @List.length_nil:=@List.length_nil
theorem Q1:type_of% @List.length_set:=@List.length_set
theorem Q3:type_of% @List.length_singleton:=@List.length_singleton
theorem Q4:type_of% @List.length_take:=@List.length_take
theorem Q5:type_of% @List.map_append:=@List.map_append
theorem Q6:type_of% @List.map_congr_left:=@List.map_congr_left
theorem Q7:type_of% @List.map_cons:=@List.map_cons
theorem Q8:type_of% @List.map_map:=@List.map_map
theorem Q9:type_of% @List.map_nil:=@List.map_nil
theorem QA:type_of% @List.mem_append:=@List.mem_append
theorem QB:type_of% @List.mem_append_right:=@List.mem_append_right
theorem QC:type_of% @List.mem_cons:=@List.mem_cons
theorem QD:type_of% @List.mem_cons_of_mem:=@List.mem_cons_of_mem
theorem QE:type_of% @List.mem_cons_self:=@List.mem_cons_self
theorem QF:type_of% @List.mem_filter:=@List.mem_filter
theorem QG:type_of% @List.mem_flatMap:=@List.mem_flatMap
theorem QH:type_of% @List.mem_map:=@List.mem_map
theorem QI:type_of% @List.mem_of_mem_take:=@List.mem_of_mem_take
theorem QJ:type_of% @List.mem_range:=@List.mem_range
theorem QK:type_of% @List.mem_singleton:=@List.mem_singleton
theorem QL:type_of% @List.nil_append:=@List.nil_append
theorem QM:type_of% @List.nodup_append:=@List.nodup_append
theorem QN:type_of% @List.nodup_cons:=@List.nodup_cons
theorem QO:type_of% @List.nodup_range:=@List.nodup_range
theorem QP:type_of% @List.perm_append_comm:=@List.perm_append_comm
theorem QR:type_of% @List.perm_append_comm_assoc:=@List.perm_append_comm_assoc
theorem QS:type_of% @List.perm_ext_iff_of_nodup:=@List.perm_ext_iff_of_nodup
theorem QT:type_of% @List.perm_middle:=@List.perm_middle
theorem QU:type_of% @List.prefix_append:=@List.prefix_append
theorem QV:type_of% @List.prefix_refl:=@List.prefix_refl
theorem QW:type_of% @List.sublist_cons_self:=@List.sublist_cons_self
theorem QX:type_of% @List.take_add_one:=@List.take_add_one
theorem QY:type_of% @List.take_append_drop:=@List.take_append_drop
theorem QZ:type_of% @List.take_of_length_le:=@List.take_of_length_le
theorem Qa:type_of% @List.take_zero:=@List.take_zero
theorem Qc:type_of% @Nat.add_assoc:=@Nat.add_assoc
theorem Qd:type_of% @Nat.add_zero:=@Nat.add_zero
theorem Qe:type_of% @Nat.and_two_pow_sub_one_eq_mod:=@Nat.and_two_pow_sub_one_eq_mod
theorem Qf:type_of% @Nat.eq_zero_or_pos:=@Nat.eq_zero_or_pos
theorem Qg:type_of% @Nat.le_of_ble_eq_true:=@Nat.le_of_ble_eq_true
theorem Qh:type_of% @Nat.le_refl:=@Nat.le_refl
theorem Qi:type_of% @Nat.le_succ:=@Nat.le_succ
theorem Qj:type_of% @Nat.le_trans:=@Nat.le_trans
theorem Qk:type_of% @Nat.lt_of_lt_of_le:=@Nat.lt_of_lt_of_le
theorem Ql:type_of% @Nat.lt_succ_self:=@Nat.lt_succ_self
theorem Qm:type_of% @Nat.mul_le_mul_right:=@Nat.mul_le_mul_right
theorem Qn:type_of% @Nat.sub_self:=@Nat.sub_self
theorem Qo:type_of% @Nat.zero_add:=@Nat.zero_add
theorem Qp:type_of% @Nat.zero_le:=@Nat.zero_le
theorem Qq:type_of% @Nat.zero_mul:=@Nat.zero_mul
theorem Qr:type_of% @Option.bind_eq_some_iff:=@Option.bind_eq_some_iff
theorem Qs:type_of% @Option.getD_some:=@Option.getD_some
theorem Qt:type_of% @Option.isSome_iff_exists:=@Option.isSome_iff_exists
theorem Qu:type_of% @Option.map_eq_some_iff:=@Option.map_eq_some_iff
theorem Qv:type_of% @Option.map_none:=@Option.map_none
theorem Qw:type_of% @Option.map_some:=@Option.map_some
theorem Qx:type_of% @Option.some.inj:=@Option.some.inj
theorem Qy:type_of% @Option.some.injEq:=@Option.some.injEq
theorem Qz:type_of% @Prod.mk.injEq:=@Prod.mk.injEq
theorem zA0 {P:Prop}(h:P:=by
 have hwk:∀(Uc:List UC),Uc.map UC.q=U.map UC.q->∀{k:Nat} {z:UC},U[k]? =some z->∃z',Uc[k]? =some z'/\z'.q=z.q:=fun Uc hq k z hk=>by
  have:=CN hq k;rw[hk]at this;cases e:Uc[k]? with
  |none=>rw[e]at this;cases this
  |some z'=>rw[e]at this;exact⟨z',rfl,Qx this⟩
 refine VC.loop (α:=Nat×Nat×List UC×List Nat) (bn:=fun s=>[(0,kF s.2.1),(1,kF y.q)]) (Hf:=fun s=>[WK s.2.2.1 pw])
  (I:=fun s=>s.1 < st.outer.length/\(∃z,s.2.2.1[s.1]? =some z/\z.q=s.2.1)/\s.2.2.1.map UC.q=U.map UC.q/\s.2.2.1.map UC.body=U.map UC.body/\s.2.2.2++st.way s.1 v=st.way i v/\st.af v∈st.line s.1/\(∀d∈s.2.2.2,s.1 < d)/\cr st (lR st v s.2.2.2) ME (fun k=>st.uses.length+(if k∈s.2.2.2 then 1 else 0)) s.2.2.1 pw) (μ:=fun s=>s.1) (i,u.q,U,[])
  ⟨et,⟨u,hu,rfl⟩,rfl,rfl,rfl,hl,Zs,JC⟩ ZU ZI ?_
 clear JC
 rintro⟨c,q,Uc,dn⟩ ⟨hc,⟨z,hz,rfl⟩,G4,hmb,Ud,DY,hdn,Xm⟩
 simp only at hc hz G4 hmb Ud DY hdn Xm;dsimp only;obtain⟨w',rX,po⟩:=hwk Uc G4 hw;have n0':kC.cell y2.q 0 (kM (some y2.unit))∈WK Uc pw:=iY SB _ (kI.2 ⟨0,kM (some y2.unit),rfl,Zs⟩);have n1':kC.cell y2.q 1 (.int .i64 y2.arg)∈WK Uc pw:=iY SB _ (kI.2 ⟨1,.int .i64 y2.arg,rfl,Zs⟩);rw[η,hyu2,hyw]at n0';rw[η,hya2,hya]at n1';have n0:kC.cell y.q 0 (kF w.q)∈WK Uc pw:=n0';have n1:kC.cell y.q 1 (.int .i64 x.own)∈WK Uc pw:=n1';have lw:wZ (WK Uc pw) w.q:=po ▸ fZ rX;have lz:wZ (WK Uc pw) z.q:=fZ hz;obtain⟨R2,sU,dS⟩:=R6 (V:=pw) hz;have k0:=gf sU n0 Zs;have k1:=gf sU n1 Zs;have k6:kC.cell z.q 6 (.map (some z.nb))∈R2:=gf sU (zp hz _ (QD _ (Zw _ (kI.2 ⟨6,.map (some z.nb),rfl,Zs⟩)))) Zs;have k3:kC.cell z.q 3 (kM z.outer)∈R2:=gf sU (zp hz _ (QD _ (Zw _ (kI.2 ⟨3,kM z.outer,rfl,Zs⟩)))) Zs;have K3:∀{k:Nat} {z':UC},Uc[k]? =some z'->wZ R2 z'.q:=fun {k z'} hk=>by
  obtain⟨⟨n,h1⟩,⟨vv,h2⟩⟩:=fZ (V:=pw) hk;exact⟨⟨n,gf sU h1 Zs⟩,⟨vv,gf sU h2 Zs⟩⟩
 refine VC.imp (H':=[[.obj z.nb (.map z.es z.cl)],R2]) (ao.perm (by simpa using sU)) ?_;have JG:=po ▸ K3 rX;have hlz:=K3 hz;refine ae ?_;refine RC u124 C7 C8 Zr Zr (hlz.more (fun _ hx=>by simp[hx])) (JG.more (fun _ hx=>by simp[hx])) ?_;refine ae ?_;by_cases hqe:z.q=w.q
 ·rw[Zt hqe];refine ae ?_;have e1:c=st.af v:=by rw[huo];exact Xm.Re hz rX (hqe.trans po.symm)
  rw[hwf.qW Zo e1,vg]at Ud;refine kG (Post:=[WK Uc pw]) (.inl rfl) .nil ⟨Uc,pw,⟨rfl,?_,G4,hmb,hvq2⟩,rfl⟩ (ao.perm (by simpa using sU.symm));refine cr.congr (Xm.useS et C6) (fun k t=>?_) XB (fun k=>?_)
  ·rw[Kx,Ud]
  ·show st.uses.length+_<=(st.uses++[(i,v)]).length;rw[Vt,Q3];split <;> omega
 rw[Zf hqe];have hcu:c≠st.af v:=fun e=>by
  rw[huo]at e;rw[<- e,hz]at rX;exact hqe (by rw[Qx rX];exact po)
 have E0:=DY;rw[hwf.line Zo]at E0;have Xy:¬st.outer.getD c (-1) < 0:=fun h'=>by
  rw[if_pos h']at E0;rcases QC.1 E0 with YV|YV
  ·exact hcu YV.symm
  ·cases YV
 rw[if_neg Xy]at E0;have hln':st.af v∈st.line (st.outer.getD c (-1)).toNat:=by
  rcases QC.1 E0 with YV|YV
  ·exact absurd YV.symm hcu
  ·exact YV
 have Z8:=hwf.qX (v:=v) (by omega:c<=st.outer.length) hcu;rw[if_neg Xy]at Z8;have tN:=hwf.ff c;obtain⟨c',KU⟩:∃c',c'=(st.outer.getD c (-1)).toNat:=⟨_,rfl⟩;rw[<- KU]at hln' Z8;obtain⟨z',H7⟩:∃z',Uc[c']? =some z':=⟨_,Zg (by rw[Xm.ul];omega)⟩;have hzo:z.outer=some z'.q:=by
  rw[Xm.ou c z hz,if_neg Xy,<- KU,H7];rfl
 rw[hzo]at k3;obtain⟨m,t1,t2,t3,t4⟩:=Xm.nd c z hz;have DZ:∀p∈m,wZ R2 p.1.1:=fun p hp=>by
  obtain⟨⟨j,wj,h1,h2⟩,_⟩:=t3 p hp;rw[h2];exact K3 h1
 have NE:c∉dn:=fun h'=>Nat.lt_irrefl _ (hdn c h')
 have HR:0<=(ky (w.q,x.own) m).getD 0/\(ky (w.q,x.own) m).getD 0<=st.uses.length:=by
  cases e:ky (w.q,x.own) m with
  |none=>exact⟨Zs,Zs⟩
  |some cn=>
   obtain⟨_,h1,h2⟩:=t3 _ (xZ e);rw[if_neg NE]at h2;simp only[Qs];omega
 have hput:∀cw nP,gh cw nP (jg (w.q,x.own) ((ky (w.q,x.own) m).getD 0+1) m)->cr st (lR st v (dn++[c])) ME (fun k=>st.uses.length+(if k∈dn++[c]then 1 else 0)) (Uc.set c {z with es:=cw,cl:=nP}) pw:=fun cw nP lE=>by
  rw[<- po]at lE;refine(Xm.put hz rX t2 t3 t4 lE (by rw[po];omega) (by rw[if_neg NE,po];omega)).congr (fun k t=>?_) (fun k=>rfl) (fun k=>?_)
  ·rw[Hx,huo,hoo]
  ·by_cases e1:k∈dn
   ·rw[if_pos e1,if_pos (Zw _ e1),if_neg (fun e=>NE (by rw[<- e];exact e1))];omega
   ·rw[if_neg e1];by_cases e2:k=c
    ·rw[if_pos e2,if_pos (by simp[e2])];omega
    ·rw[if_neg e2];omega
 have ep:∀cw nP,gh cw nP (jg (w.q,x.own) ((ky (w.q,x.own) m).getD 0+1) m)->∃s:Nat×Nat×List UC×List Nat,(s.1 < st.outer.length/\(∃z,s.2.2.1[s.1]? =some z/\z.q=s.2.1)/\s.2.2.1.map UC.q=U.map UC.q/\s.2.2.1.map UC.body=U.map UC.body/\s.2.2.2++st.way s.1 v=st.way i v/\st.af v∈st.line s.1/\(∀d∈s.2.2.2,s.1 < d)/\cr st (lR st v s.2.2.2) ME (fun k=>st.uses.length+(if k∈s.2.2.2 then 1 else 0)) s.2.2.1 pw)/\s.1 < c/\s.2.1=z'.q/\
  ao [[.obj z.nb (.map cw nP)],R2] [WK s.2.2.1 pw]:=fun cw nP lE=>by
  have hq:=zS (w':={z with es:=cw,cl:=nP}) hz rfl;refine⟨(c',z'.q,Uc.set c {z with es:=cw,cl:=nP},dn++[c]),⟨by simp only;omega,?_,hq.trans G4,(se (w':={z with es:=cw,cl:=nP}) hz rfl).trans hmb,?_,hln',?_,hput cw nP lE⟩,by simp only;omega,rfl,ao.perm (by simpa using(dS cw nP).symm)⟩
  ·have:=CN hq c';rw[H7]at this;cases e:(Uc.set c {z with es:=cw,cl:=nP})[c']? with
   |none=>rw[e]at this;cases this
   |some z2=>rw[e]at this;exact⟨z2,rfl,Qx this⟩
  ·rw[<- Ud,Z8];simp
  ·intro d hd;rcases QA.1 hd with hd|hd
   ·have:=hdn d hd;simp only;omega
   ·rw[QK.1 hd];simp only;omega
 clear hput Xm dS sU;generalize NG:(ky (w.q,x.own) m).getD 0=cn at HR ep;refine ae ?_;refine VC.draws ⟨?_,?_,trivial⟩
 ·refine ae ?_;refine sB (k:=(w.q,x.own)) thP Zr Zr .here t1.of (JG.more (fun _ hx=>by simp[hx])) (fun p hp=>(DZ p hp).more (fun _ hx=>by simp[hx])) ?_;rw[NG];refine ae ?_;refine J6 (k:=(w.q,x.own)) thP Zr Zr .here t1 (JG.more (fun _ hx=>by simp[hx])) (fun p hp=>(DZ p hp).more (fun _ hx=>by simp[hx])) (fun es1 cl1 s1 CS N2 _=>?_);refine ae ?_;refine RB (k:=(w.q,x.own)) Zr Zr Zr .here CS N2 ?_ (fun DU xw=>?_)
  ·split
   ·exact t2
   ·exact oR t2
  have Zc:gh DU cl1 (jg (w.q,x.own) (cn+1) m):=by
   split at xw
   ·exact xw
   ·rw[Br]at xw;exact xw
  obtain⟨s2,i1,i2,i3,i4⟩:=ep DU cl1 Zc;refine ae ?_;exact⟨s2,i1,i2,by rw[i3];exact tX,i4⟩
 ·refine ae ?_;refine J6 (k:=(w.q,x.own)) thP Zr Zr .here t1 (JG.more (fun _ hx=>by simp[hx])) (fun p hp=>(DZ p hp).more (fun _ hx=>by simp[hx])) (fun es1 cl1 s1 CS N2 _=>?_);rw[NG];have hcn2:(ky (w.q,x.own) (if(ky (w.q,x.own) m).isSome=true then m else jg (w.q,x.own) 0 m)).getD 0=cn:=by
   split
   ·exact NG
   ·rename_i dR;rw[wC,if_pos rfl];cases e:ky (w.q,x.own) m with
    |none=>rw[e]at NG;exact NG
    |some _=>rw[e]at dR;exact absurd rfl dR
  have hls1:∀p∈(if(ky (w.q,x.own) m).isSome=true then m else jg (w.q,x.own) 0 m),wZ R2 p.1.1:=fun p hp=>by
   split at hp
   ·exact DZ p hp
   ·rcases Fq hp with rfl|hp
    ·exact JG
    ·exact DZ p hp
  refine ae ?_;refine sB (k:=(w.q,x.own)) thP Zr Zr .here CS.of (JG.more (fun _ hx=>by simp[hx])) (fun p hp=>(hls1 p hp).more (fun _ hx=>by simp[hx])) ?_;rw[hcn2];refine ae ?_;refine RB (k:=(w.q,x.own)) Zr Zr Zr .here CS N2 ?_ (fun DU xw=>?_)
  ·split
   ·exact t2
   ·exact oR t2
  have Zc:gh DU cl1 (jg (w.q,x.own) (cn+1) m):=by
   split at xw
   ·exact xw
   ·rw[Br]at xw;exact xw
  obtain⟨s2,i1,i2,i3,i4⟩:=ep DU cl1 Zc;refine ae ?_;exact⟨s2,i1,i2,by rw[i3];exact tX,i4⟩):P:=h
theorem zA1 {P:Prop}(h:P:=by
 refine jD ?_;refine VC.join (α:=Nat×Bool) (fun z=>[(0,kF lb),(3,kF q),(5,kF r),(6,vi z.1)]) (fun z=>[A,aW lb (mB||z.2) deep,kA r 0 (rA 5 s lk ln bq lt la items.length lc aa args.length ac ta ab.length tc none 0 0 p),kA q 0 (rA 5 s lk ln bq lt la items.length lc aa args.length ac ta ab.length tc (some ⟨bk,o,none⟩) kids.length c p)]) (fun e=>jb ((z::l).map fun y=>kP (decide (y.kind=6)) (kO y))=some (e.1,e.2)) ?_ ?_
 ·refine ae ?_;refine mL Zr Zr (l:=1) rfl Zo ?_;rw[<- DZ,if_neg Zo];refine ae ?_;refine VC.loop (α:=Nat×Nat×Bool) (bn:=fun s=>[(0,kF lb),(3,kF q),(5,kF r),(6,vi s.2.1),(123,.slice (some ⟨bk,o+1*11,none⟩) (z::l).length (c - 1)),(124,vi (z::l).length),(125,vi s.1)]) (Hf:=fun e=>[A,aW lb (mB||e.2.2) deep,kA r 0 (rA 5 s lk ln bq lt la items.length lc aa args.length ac ta ab.length tc none 0 0 p),kA q 0 (rA 5 s lk ln bq lt la items.length lc aa args.length ac ta ab.length tc (some ⟨bk,o,none⟩) kids.length c p)])
   (I:=fun s=>s.1<=(z::l).length/\jb (((z::l).take s.1).map fun y=>kP (decide (y.kind=6)) (kO y))=some (s.2.1,s.2.2)) (μ:=fun s=>(z::l).length - s.1) (0,0,false) ⟨Qp _,rfl⟩ ZU (by show ao _ [A,aW lb (mB||false) deep,kA r 0 (rA 5 s lk ln bq lt la items.length lc aa args.length ac ta ab.length tc none 0 0 p),kA q 0 (rA 5 s lk ln bq lt la items.length lc aa args.length ac ta ab.length tc (some ⟨bk,o,none⟩) kids.length c p)];rw[vR,E1];exact bQ) ?_
  rintro⟨j,d,mm⟩ ⟨i1,i2⟩
  simp only at i1 i2;dsimp only;have aA:∀j y,(z::l)[j]? =some y->kids[j+1]? =some y:=fun j y e=>by rw[DX];exact e
  have hmul:(z::l).length<=140737488355328:=by omega
  generalize ue:z::l=tl at*;refine ae ?_;by_cases hj:j < tl.length;rotate_left
  ·rw[show decide ((j:Int) < (tl.length:Int))=false from Zf Zo];rw[QZ Zo]at i2;refine ae ?_;exact⟨(d,mm),i2,ZU,ZI⟩
  rw[show decide ((j:Int) < (tl.length:Int))=true from Zt Zo];obtain⟨u,hu⟩:∃u,tl[j]? =some u:=⟨_,Zg hj⟩;have hur:=hr (j+1) u (aA j u hu);have hum:=hm (j+1) Zo;have huok:=bh.ok (j+1) u (aA j u hu);rw[show o+(j+1)*11=o+(11+j*11) by omega]at hum;have hv:=huok.1 lb (mB||mm) deep;generalize us (j+1)=uj at hur hum hv;obtain⟨e1,e2,e3,e4,e5,e6,e7,e8,e9,tF,tG,tH,tI,GX,GY,GZ,Si,rfl,eu,mT⟩:=dG hur;have cy:tl.take (j+1)=tl.take j++[u]:=by rw[QX,hu];rfl
  refine ae ?_;refine kX Zr (fun z hz=>Zw _ (hum z hz)) rfl ?_;refine ae ?_;refine kN (fun q9=>?_);refine ae ?_;by_cases h6:u.kind=6;rotate_left
  ·have aC:RR=none:=by
    rw[hR5,iv (.inl (cL (QH.2 ⟨u,Zv hu,by simp[kP,h6]⟩)))];unfold kP;split <;> rfl
   rw[show decide ((u.kind:Int)=6)=false from Zf Zo];refine ae ?_;refine kL (j8 false) Zr ZP Zai (fun ch Post hz=>?_);obtain⟨_,rfl,rfl⟩:=hz;exact⟨[A,aW lb (mB||mm) deep],ZI,aC,rfl,_,rfl⟩
  rw[show decide ((u.kind:Int)=6)=true from Zt Zo];refine ae ?_;refine kL (j8 true) Zr ZP (fun v Post hv=>?_) GW;obtain⟨_,rfl,rfl⟩:=hv;simp only[QL];refine ae ?_;refine kL hv Zr ZP (fun v Post hv=>?_) (fun ch Post hz=>?_);rotate_left
  ·obtain⟨hb,rfl,m2,rfl⟩:=hz;have aC:RR=none:=by
    rw[hR5,iv (.inl (cL (QH.2 ⟨u,Zv hu,by simp[kP,h6,hb]⟩)))];unfold kP;split <;> rfl
   exact⟨[A,aW lb m2 deep],ZI,aC,rfl,m2,rfl⟩
  obtain⟨e,m2,he,rfl,rfl⟩:=hv;simp only[aH];refine ae ?_;rw[show(if(e:Int) > (d:Int)then(e:Int)else(d:Int))=((max d e:Nat):Int) by split <;> omega];refine⟨(j+1,max d e,mm||m2),⟨by simp only;omega,?_⟩,by simp only;omega,ZU,?_⟩
  ·simp only[cy,Q5,Q7,Q9,he];simp only[h6,decide_true];exact cM i2
  ·simp only[vO];exact bQ
 ·rintro⟨d,mm⟩ i2
  simp only at i2;dsimp only;cases hf:zL y z.name (kO y)with
  |some pf=>
   obtain⟨dF,mF⟩:=pf;have hFf:=sd (hF (mB||mm)) hf;refine VC.draws ⟨?_,trivial⟩;refine ae ?_;refine kX Zr (fun z hz=>by simp only[V9,QA];simp[cH z hz]) fH ?_;refine ae ?_;refine kJ hFf Zr ZP (fun v Post hv=>?_);obtain⟨rfl,rfl⟩:=hv;simp only[aH];refine ae ?_;rw[show(if(dF:Int) > (d:Int)then(dF:Int)else(d:Int))=((max d dF:Nat):Int) by split <;> omega];refine⟨⟨max d dF,decide (256 < kids.length)||(mm||mF),s,lk,ln,bq,lt,la,items.length,lc,aa,args.length,ac,ta,ab.length,tc⟩,?_,ZU,?_⟩
   ·rw[hR5,hf,i2];simp[zB.ok,kP,zh,wd,Bd,wY,Lt.kind,Lt.n,Lt.bits,Lt.text,Lt.items];simp only[and_assoc]
   ·simp only;rw[<- vO,<- JH,<- vO];show ao _ [A,aW lb (mB||mm||mF) deep,kA r 0 (rA 5 s lk ln bq lt la items.length lc aa args.length ac ta ab.length tc none 0 0 p)];exact bQ
  |none=>
   have aC:RR=none:=by
    rw[hR5,iv (.inr hf)];unfold kP;split <;> rfl
   obtain⟨dF,X6,YY,hFz⟩:=xP hF;refine VC.xe (fun ch H'=>ch=wR/\∃m,ao H' [A,aW lb m deep]) (fun H'=>∃m,ao H' [A,aW lb m deep,kA q 0 (rA 5 s lk ln bq lt la items.length lc aa args.length ac ta ab.length tc (some ⟨bk,o,none⟩) kids.length c p)]) ⟨mB||mm,ZI⟩ ?_ (fun ch H' hp=>?_)
   ·skip
    intro rs dw;rcases QC.1 dw with rfl|dw
    ·skip
     refine kH ?_;refine kH ?_;refine kH ?_;refine kH ?_;refine kH ?_;refine kH ?_;refine kH ?_;refine kH ?_;refine kH ?_;refine kH ?_;refine kH ?_;refine⟨rfl,vi dF,X6,fun Γ H bj hH=>?_,?_⟩
     ·obtain⟨mz,hz⟩:=hH;refine VO.imp hz ?_;refine kL (hFz mz) (by simp only[V.nQ,V.ev,bj 140 Zd _ rfl,bj 144 Zd _ rfl,bj 149 Zd _ rfl]) ZP (fun v Post hv=>?_) (fun ch Post hz=>?_)
      ·obtain⟨rfl,Ug,m',rfl⟩:=hv;exact VO.nil ⟨rfl,⟨m',ao.refl _⟩,Ug⟩
      ·obtain⟨rfl,m',rfl⟩:=hz;exact⟨rfl,m',ZI⟩
     refine⟨rfl,vi (max d dF:Nat),True,fun Γ H bj hH=>?_,?_⟩
     ·obtain⟨mz,hz⟩:=hH;refine VO.imp hz ?_;exact DI (by simp only[V.ev,bj 139 Zd _ rfl]) (by simp only[V.ev,bj 150 Zd _ rfl]) (VO.nil ⟨rfl,⟨mz,ao.refl _⟩,trivial⟩)
     refine kH ?_;exact fun hh=>by
      simp only[true_and,and_true]at hh;exact YY hh hf
    ·cases dw
   ·obtain⟨rfl,m,hi⟩:=hp;exact⟨_,hi,aC,rfl,m,rfl⟩):P:=h
theorem zA2 {P:Prop}(h:P:=by
 refine ae ?_;refine VC.loop (α:=Nat×Nat×Bool) (bn:=fun s=>[(0,kF lb),(1,.string aP),(8,vi s.2.1),(29,.slice a l.length c),(30,vi l.length),(31,vi s.1)]) (Hf:=fun s=>[A,aW lb (mB||s.2.2) deep])
  (I:=fun s=>s.1<=l.length/\jb ((l.take s.1).map fun x=>jY x (lD aP) (kO x))=some (s.2.1,s.2.2)) (μ:=fun s=>l.length - s.1) (0,0,false) ⟨Qp _,rfl⟩ ZU (by show ao _ [A,aW lb (mB||false) deep];rw[vR,E1];exact bQ) ?_
 rintro⟨j,d,mm⟩ ⟨i1,i2⟩
 simp only at i1 i2;dsimp only;refine ae ?_;by_cases hj:j < l.length;rotate_left
 ·rw[show decide ((j:Int) < (l.length:Int))=false from Zf Zo];have cy:l.take j=l:=QZ Zo;rw[cy]at i2;refine ae ?_;refine jM (kG (Post:=[A,aW lb (Us||(decide (15 < kR aP)||mm)) deep]) (.inr rfl) (.tmp Zr .nil) ⟨d,_,by rw[yV,i2];rfl,rfl,by rw[Tz]⟩ (by rw[Tz,<- vO,<- JH];exact bQ))
 obtain rfl:=hk.at_ Zo;rw[show decide ((j:Int) < (l.length:Int))=true from Zt Zo];obtain⟨y,hy⟩:∃y,l[j]? =some y:=⟨_,Zg hj⟩;have bL:=hk.rd j y hy;have cH:=hk.mem j hj;have hv:=zq A y _ bL (hk.ok j y hy) (lD aP) lb (mB||mm) deep;generalize us j=uj at bL cH hv;obtain⟨e1,e2,e3,e4,e5,e6,e7,e8,e9,tF,tG,tH,tI,GX,GY,GZ,Si,rfl,eu,mT⟩:=dG bL;have cy:l.take (j+1)=l.take j++[y]:=by rw[QX,hy];rfl
 refine ae ?_;refine kX Zr Cv rfl ?_;refine ae ?_;refine kN (fun q=>?_);refine ae ?_;cases he:jY y (lD aP) (kO y)with
 |some dm=>
  obtain⟨e,m2⟩:=dm;rw[he]at hv;have hvf:jf Tryz.prog 170 [kF lb,.agg #[cv y.kind,.string y.name,cv e1,vi e2,uv e3,.string e4,.slice e5 e6 e7,.slice e8 e9 tF,.slice tG tH tI,.slice GX GY GZ,vi Si],vi (lD aP)] [A,aW lb (mB||mm) deep] (fun v Post=>v=vi e/\Post=[A,aW lb (mB||mm||m2) deep]) (fun _ _=>False):=
   jf.mono hv (fun v Post ⟨d',m',e,h1,h2⟩=>by cases e;exact⟨h1,h2⟩) (fun ch Post hz=>by cases hz.1)
  refine VC.draws ⟨?_,?_,trivial⟩
  ·skip
   refine ae ?_;refine kK (cZ aP bW) Zr ?_;refine ae ?_;refine kJ hvf.fun Zr ZP (fun v Post hv=>?_);obtain⟨rfl,rfl⟩:=hv;simp only[aH];refine ae ?_;rw[show(if(e:Int) > (d:Int)then(e:Int)else(d:Int))=((max d e:Nat):Int) by split <;> omega];refine⟨(j+1,max d e,mm||m2),⟨by simp only;omega,?_⟩,by simp only;omega,ZU,?_⟩
   ·simp only[cy,Q5,Q7,Q9,he];exact cM i2
   ·simp only[vO];exact bQ
  ·skip
   refine ae ?_;refine kK (cZ aP bW) Zr ?_;refine ae ?_;refine kJ hvf.fun Zr ZP (fun v Post hv=>?_);obtain⟨rfl,rfl⟩:=hv;simp only[aH];refine ae ?_;rw[show(if(e:Int) > (d:Int)then(e:Int)else(d:Int))=((max d e:Nat):Int) by split <;> omega];refine⟨(j+1,max d e,mm||m2),⟨by simp only;omega,?_⟩,by simp only;omega,ZU,?_⟩
   ·simp only[cy,Q5,Q7,Q9,he];exact cM i2
   ·simp only[vO];exact bQ
 |none=>
  rw[he]at hv;have aC:RR=none:=by
   rw[bU,cL (QH.2 ⟨y,Zv hy,he⟩)];unfold kP;split <;> rfl
  have hvz:jf Tryz.prog 170 [kF lb,.agg #[cv y.kind,.string y.name,cv e1,vi e2,uv e3,.string e4,.slice e5 e6 e7,.slice e8 e9 tF,.slice tG tH tI,.slice GX GY GZ,vi Si],vi (lD aP)] [A,aW lb (mB||mm) deep] (fun v Post=>False) (fun ch Post=>ch=wR/\∃m,Post=[A,aW lb m deep]):=
   jf.mono hv (fun v Post ⟨d',m',e,_⟩=>by cases e) (fun ch Post hz=>hz.2)
  refine VC.xe (fun ch H'=>ch=wR/\∃m,ao H' [A,aW lb m deep]) (fun H'=>H'=[kA q 0 (rA y.kind y.name e1 e2 e3 e4 e5 e6 e7 e8 e9 tF tG tH tI GX GY GZ Si),A,aW lb (mB||mm) deep]) rfl ?_ (fun ch H' hp=>?_)
  ·intro rs dw;rcases QC.1 dw with rfl|dw
   ·skip
    refine kH ?_;refine kH ?_;refine⟨rfl,.agg #[cv y.kind,.string y.name,cv e1,vi e2,uv e3,.string e4,.slice e5 e6 e7,.slice e8 e9 tF,.slice tG tH tI,.slice GX GY GZ,vi Si],True,fun Γ H bj hH=>?_,?_⟩
    ·subst hH;exact dO (bj 10 Zd _ rfl) Xe Ef
    refine kH ?_;refine⟨rfl,vi (lD aP),True,fun Γ H bj hH=>?_,?_⟩
    ·subst hH;exact kK (cZ aP bW) (by simp only[V.nQ,V.ev,bj 38 Zd _ rfl]) Ef
    refine⟨rfl,vi 0,False,fun Γ H bj hH=>?_,?_⟩
    ·subst hH;refine kL hvz Zao ZP (fun v Post hv=>hv.elim) (fun ch Post hz=>?_);obtain⟨rfl,m,rfl⟩:=hz;exact⟨rfl,m,ZI⟩
    refine⟨rfl,vi d,True,fun Γ H bj hH=>?_,?_⟩
    ·subst hH;exact DI (a:=d) (b:=0) (by simp only[V.ev,bj 35 Zd _ rfl]) (by simp only[V.ev,bj 40 Zd _ rfl];rfl) (VO.nil ⟨by rw[Nat.max_zero],rfl,trivial⟩)
    refine kH ?_;exact fun hh=>by simp at hh
   rcases QC.1 dw with rfl|dw
   ·skip
    refine kH ?_;refine kH ?_;refine kH ?_;refine⟨rfl,vi (lD aP),True,fun Γ H bj hH=>?_,?_⟩
    ·subst hH;exact kK (cZ aP bW) (by simp only[V.nQ,V.ev,bj 38 Zd _ rfl]) Ef
    refine⟨rfl,.agg #[cv y.kind,.string y.name,cv e1,vi e2,uv e3,.string e4,.slice e5 e6 e7,.slice e8 e9 tF,.slice tG tH tI,.slice GX GY GZ,vi Si],True,fun Γ H bj hH=>?_,?_⟩
    ·subst hH;exact dO (bj 10 Zd _ rfl) Xe Ef
    refine⟨rfl,vi 0,False,fun Γ H bj hH=>?_,?_⟩
    ·subst hH;refine kL hvz Zao ZP (fun v Post hv=>hv.elim) (fun ch Post hz=>?_);obtain⟨rfl,m,rfl⟩:=hz;exact⟨rfl,m,ZI⟩
    refine⟨rfl,vi d,True,fun Γ H bj hH=>?_,?_⟩
    ·subst hH;exact DI (a:=d) (b:=0) (by simp only[V.ev,bj 35 Zd _ rfl]) (by simp only[V.ev,bj 40 Zd _ rfl];rfl) (VO.nil ⟨by rw[Nat.max_zero],rfl,trivial⟩)
    refine kH ?_;exact fun hh=>by simp at hh
   ·cases dw
  ·obtain⟨rfl,m,hi⟩:=hp;exact⟨_,hi,aC,rfl,m,rfl⟩):P:=h
theorem zA3 {P:Prop}(h:P:=by
 refine ae ?_;refine kX Zr (fun z hz=>by simp only[V9,QA];simp[cH z hz]) fH ?_;refine ae ?_;refine kJ hFf Zr ZP (fun v Post hv=>?_);obtain⟨rfl,rfl⟩:=hv;simp only[aH];refine ae ?_;refine mL Zr Zr (l:=1) rfl Zo ?_;refine ae ?_;refine kJ hAf Zr ZP (fun v Post hv=>?_);obtain⟨rfl,rfl⟩:=hv;simp only[aH];refine ae ?_;rw[show(if(dA:Int) > (dF:Int)then(dA:Int)else(dF:Int))=((max dF dA:Nat):Int) by split <;> omega];refine⟨⟨max dF dA,mF||mA,⟨#[]⟩,lk,ln,bq,lt,la,items.length,lc,aa,args.length,ac,ta,ab.length,tc⟩,?_,ZU,?_⟩
 ·rw[hR4,hf,hal2];simp[zB.ok,kP,zh,dQ,wY,Lt.kind,Lt.n,Lt.bits,Lt.text,Lt.items,show(⟨#[]⟩:ByteArray).size=0 from rfl];simp only[and_assoc]
 ·simp only;rw[<- vO];show ao _ [A,aW lb (m0||mF||mA) deep,kA r 0 [cv 4,.string ⟨#[]⟩,cv lk,vi ln,uv bq,.string lt,.slice la items.length lc,.slice aa args.length ac,.slice ta ab.length tc,.slice none 0 0,vi p]];exact bQ):P:=h
theorem zA4 {P:Prop}(h:P:=by
 refine ae ?_;refine kL au Zr ZP (fun v Post hv=>?_) (fun ch Post hz=>?_);rotate_left
 ·obtain⟨q1,e1,p1,eC,rfl,rfl⟩:=hz;rw[Sq]at eC;cases eC
 obtain⟨iX,cV,U4,V4,T4,B4,⟨Tg,K9,CZ,rows,yw,B5,Af,cG,rfl⟩,rfl⟩:=hv;simp only[aH];obtain⟨w4,hw4,Z7⟩:∃w,U4[st.outer.length]? =some w/\w.q=q:=iW rfl (by
  obtain⟨t,ht⟩:=K9;have h1:(U3.map UC.q)[st.outer.length]? =some q:=by rw[H0,im];exact D4
  rw[<- ht,Vd (Vm.1 h1).1];exact h1)
 obtain⟨Rb,hpb,hrb⟩:=W5 (V:=V4) hw4
 replace hpb:(WK U4 V4).Perm (kA q 8 [w4.body]++Rb):=by rw[<- Z7];exact hpb
 replace hrb:∀bv,(WK (U4.set st.outer.length {w4 with body:=bv}) V4).Perm (kA q 8 [bv]++Rb):=fun bv=>by rw[<- Z7];exact hrb bv
 obtain⟨va,vc,rfl⟩:=Af.form;refine VO.imp (H':=[kA q 8 [w4.body],Rb,kA k9 0 [kF q],kA X.wq 0 [.map (some X.fb),.map (some X.gb),iX],ai iX (U4.map fun u=>kM (some u.q)) cV,[.obj X.fb (.map X.bI X.fc)],[.obj X.gb (.map X.bM X.gc)],T4,[.obj b (.map es c)],X.S,ai (.slice va (kV X.F X.G kids (bi args ab p st env o).1 (bi args ab p st env o).2 st.outer.length).1.length vc) rows.flatten yw++B5]) (ao.cut (M:=[WK U4 V4,kA k9 0 [kF q],kA X.wq 0 [.map (some X.fb),.map (some X.gb),iX],ai iX (U4.map fun u=>kM (some u.q)) cV,[.obj X.fb (.map X.bI X.fc)],[.obj X.gb (.map X.bM X.gc)],T4,[.obj b (.map es c)],X.S,ai (.slice va (kV X.F X.G kids (bi args ab p st env o).1 (bi args ab p st env o).2 st.outer.length).1.length vc) rows.flatten yw++B5]) ZI (ao.perm (by
  simp only[V9,VV,vg];rw[<- vf (kA q 8 [w4.body])];exact vW _ hpb))) ?_
 refine ae ?_;obtain⟨j1,j2,j3,⟨w5,j4,j5⟩,j6⟩:=Tr iX cV U4 V4 T4 rows yw B5 va vc w4 Tg Af cG hw4 Z7 K9 CZ;refine jM (kG (Post:=[kA X.wq 0 [.map (some X.fb),.map (some X.gb),iX],ai iX ((U4.set st.outer.length {w4 with body:=.slice va (kV X.F X.G kids (bi args ab p st env o).1 (bi args ab p st env o).2 st.outer.length).1.length vc}).map fun u=>kM (some u.q)) cV,[.obj X.fb (.map X.bI X.fc)],[.obj X.gb (.map X.bM X.gc)],WK (U4.set st.outer.length {w4 with body:=.slice va (kV X.F X.G kids (bi args ab p st env o).1 (bi args ab p st env o).2 st.outer.length).1.length vc}) V4,T4++(ai (.slice va (kV X.F X.G kids (bi args ab p st env o).1 (bi args ab p st env o).2 st.outer.length).1.length vc) rows.flatten yw++B5),[.obj b (.map es c)],X.S]) (.inr rfl) (.tmp (v:=kF q) Zr .nil) ⟨iX,cV,_,V4,_,⟨j1,j2,j3,w5,j4,j5⟩,rfl⟩ ?_);rw[j6];refine ao.cut (M:=[kA X.wq 0 [.map (some X.fb),.map (some X.gb),iX],ai iX (U4.map fun u=>kM (some u.q)) cV,[.obj X.fb (.map X.bI X.fc)],[.obj X.gb (.map X.bM X.gc)],kA q 8 [.slice va (kV X.F X.G kids (bi args ab p st env o).1 (bi args ab p st env o).2 st.outer.length).1.length vc],Rb,T4,ai (.slice va (kV X.F X.G kids (bi args ab p st env o).1 (bi args ab p st env o).2 st.outer.length).1.length vc) rows.flatten yw++B5,[.obj b (.map es c)],X.S]) ZI (ao.perm ?_);have h:=fun R=>(vW R (hrb (.slice va (kV X.F X.G kids (bi args ab p st env o).1 (bi args ab p st env o).2 st.outer.length).1.length vc))).symm
 simp only[vf]at h;simp only[V9,VV,vg,vf];exact vV _ (vV _ (vV _ (vV _ (h _))))):P:=h
theorem zA5 {P:Prop}(h:P:=by
 refine kH ?_;refine⟨rfl,vi dA,φA,fun Γ H bj hH=>?_,?_⟩
 ·obtain⟨mz,hz⟩:=hH;refine VO.imp hz ?_;refine kL (hAz mz) Zaq ZP (fun v Post hv=>?_) (fun ch Post hz=>?_)
  ·obtain⟨rfl,Ug,m',rfl⟩:=hv;exact VO.nil ⟨rfl,⟨m',ao.refl _⟩,Ug⟩
  ·obtain⟨rfl,m',rfl⟩:=hz;exact⟨rfl,m',ZI⟩
 refine⟨rfl,vi (max dF dA:Nat),True,fun Γ H bj hH=>?_,?_⟩
 ·obtain⟨mz,hz⟩:=hH;refine VO.imp hz ?_;exact DI Zar Zas (VO.nil ⟨rfl,⟨mz,ao.refl _⟩,trivial⟩)
 refine kH ?_;exact fun hh=>by
  simp only[true_and,and_true]at hh;rcases dR with h1|h1
  ·exact YY hh.1 h1
  ·exact hAφ hh.2 h1):P:=h
theorem zA6 {P:Prop}(h:P:=by
 refine ae ?_;refine VC.loop (α:=Nat×Nat×Bool) (bn:=fun s=>[(0,kF lb),(5,kF r),(6,vi s.2.1),(185,.slice a kids.length c),(186,vi kids.length),(187,vi s.1)]) (Hf:=fun z=>[A,aW lb (mB||z.2.2) deep,kA r 0 (rA 8 s lk ln bq lt la items.length lc aa args.length ac ta ab.length tc none 0 0 p)])
  (I:=fun s=>s.1<=kids.length/\jb ((kids.take s.1).map fun x=>jY x 1 (kO x))=some (s.2.1,s.2.2)) (μ:=fun s=>kids.length - s.1) (0,0,false) ⟨Qp _,rfl⟩ ZU (by show ao _ [A,aW lb (mB||false) deep,kA r 0 (rA 8 s lk ln bq lt la items.length lc aa args.length ac ta ab.length tc none 0 0 p)];rw[vR,E1];exact bQ) ?_
 rintro⟨j,d,mm⟩ ⟨i1,i2⟩
 simp only at i1 i2;dsimp only;have hdb:d<=1099511627777:=fQ (fun r hr d m e=>by
  obtain⟨y,hy,rfl⟩:=QH.1 hr;obtain⟨i,hi⟩:=Vo (QI hy);exact sG (bh.ok i _ hi).2 e) i2
 refine ae ?_;by_cases hj:j < kids.length;rotate_left
 ·rw[show decide ((j:Int) < (kids.length:Int))=false from Zf Zo];rw[QZ Zo]at i2;refine ae ?_;refine⟨⟨d+1,decide (255 < kids.length)||mm,s,lk,ln,bq,lt,la,items.length,lc,aa,args.length,ac,ta,ab.length,tc⟩,?_,ZU,?_⟩
  ·simp only[hR8,i2,wV,wd];simp[zB.ok,kP,wY,Lt.kind,Lt.n,Lt.bits,Lt.text,Lt.items];simp only[and_assoc]
  ·simp only;rw[<- vO,<- JH];show ao _ [A,aW lb (mB||mm) deep,kA r 0 (rA 8 s lk ln bq lt la items.length lc aa args.length ac ta ab.length tc none 0 0 p)];exact bQ
 obtain rfl:=ha Zo;rw[show decide ((j:Int) < (kids.length:Int))=true from Zt Zo];obtain⟨y,hy⟩:∃y,kids[j]? =some y:=⟨_,Zg hj⟩;have bL:=hr j y hy;have cH:=hm j hj;have hv:=zq A y _ bL (bh.ok j y hy) 1 lb (mB||mm) deep;generalize us j=uj at bL cH hv;obtain⟨e1,e2,e3,e4,e5,e6,e7,e8,e9,tF,tG,tH,tI,GX,GY,GZ,Si,rfl,eu,mT⟩:=dG bL;have cy:kids.take (j+1)=kids.take j++[y]:=by rw[QX,hy];rfl
 refine ae ?_;refine kX Zr Cv rfl ?_;refine ae ?_;refine kN (fun q9=>?_);refine ae ?_;refine kL hv Zr ZP (fun v Post hv=>?_) (fun ch Post hz=>?_);rotate_left
 ·obtain⟨hb,rfl,m2,rfl⟩:=hz;have aC:RR=none:=by
   rw[hR8,cL (QH.2 ⟨y,Zv hy,hb⟩)];unfold kP;split <;> rfl
  exact⟨[A,aW lb m2 deep],ZI,aC,rfl,m2,rfl⟩
 obtain⟨e,m2,he,rfl,rfl⟩:=hv;simp only[aH];refine ae ?_;rw[show(if(e:Int) > (d:Int)then(e:Int)else(d:Int))=((max d e:Nat):Int) by split <;> omega];refine⟨(j+1,max d e,mm||m2),⟨by simp only;omega,?_⟩,by simp only;omega,ZU,?_⟩
 ·simp only[cy,Q5,Q7,Q9,he];exact cM i2
 ·simp only[vO];exact bQ):P:=h
theorem AK {P:Prop}(h:P:=by
 refine ae ?_;refine kL (j8 false) Zr ZP Zai (fun ch Post hz=>?_);obtain⟨_,rfl,rfl⟩:=hz;exact⟨[A,aW lb m0 deep],ZI,aC,rfl,m0,rfl⟩):P:=h
theorem zA8 {P:Prop}(h:P:=by
 refine ae ?_;refine VC.loop (α:=Nat×Nat×Bool) (bn:=fun s=>[(0,kF lb),(7,vi s.2.1),(8,kF r),(114,.slice a items.length c),(115,vi items.length),(116,vi s.1)]) (Hf:=fun s=>[A,aW lb (true||s.2.2) deep,kA r 0 [cv 10,vi n,uv b,.string t,.slice a items.length c]])
  (I:=fun s=>s.1<=items.length/\jb ((items.take s.1).map fun x=>jL x true)=some (s.2.1,s.2.2)) (μ:=fun s=>items.length - s.1) (0,0,false) ⟨Qp _,rfl⟩ ZU (by rw[vR];exact bQ) ?_
 rintro⟨j,d,mm⟩ ⟨i1,i2⟩
 simp only at i1 i2;dsimp only;have bA:=wf.many;simp only[Lt.size]at hbd;have hdb:d<=Lt.aw items:=fQ (fun r hr d m e=>by
  obtain⟨y,hy,rfl⟩:=QH.1 hr;have h1:=Lt.aD (QI hy);have h2:=Dd _ y (Qh _) true d m e;omega) i2
 refine ae ?_;by_cases hj:j < items.length;rotate_left
 ·rw[show decide ((j:Int) < (items.length:Int))=false from Zf Zo];have cy:items.take j=items:=QZ Zo;rw[cy,<- cJ]at i2;refine ae ?_;refine⟨⟨d+1,decide (255 < items.length)||mm,n,b,t,.slice none 0 0,0⟩,⟨⟨_,_,rfl⟩,?_⟩,ZU,?_⟩
  ·simp[jL,i2,wd,wV,kP,nM.ok]
  ·rw[TT];exact bQ
 obtain rfl:=ha Zo;rw[show decide ((j:Int) < (items.length:Int))=true from Zt Zo];obtain⟨y,hy⟩:∃y,items[j]? =some y:=⟨_,Zg hj⟩;have bL:=hr j y hy;have cH:=hm j hj;have Oa:y.size<=N:=by
  have h1:=Lt.aD (Zv hy);simp only[Lt.size]at hx;omega
 have SA:=Lt.aD (Zv hy);have aE:=ih y Oa Zo _ bL lb (true||mm) deep true;generalize us j=uj at bL cH aE;have θ:=bL;cases θ with
 |@mk k2 n2 b2 t2 Ih a2 c2 Yx o2 GJ R5 HP rV dS=>
 refine ae ?_;refine kX Zr Cv rfl ?_;refine ae ?_;refine kN (fun q2=>?_);refine ae ?_;refine kL aE Zr ZP (fun v Post hv=>?_) (fun ch Post hz=>?_);rotate_left
 ·obtain⟨hb,rfl,m2,rfl⟩:=hz;have aC:jL (.mk 10 n b t items) inside=none:=by
   have h1:jb (sX items)=none:=by
    rw[cJ];exact cL (QH.2 ⟨_,Zv hy,hb⟩)
   simp[jL,h1,wd,wV,kP]
  exact⟨[A,aW lb m2 deep],ZI,aC,rfl,m2,rfl⟩
 obtain⟨e,m2,he,rfl,rfl⟩:=hv;simp only[aH];have cy:items.take (j+1)=items.take j++[.mk k2 n2 b2 t2 Ih]:=by rw[QX,hy];rfl
 refine ae ?_;rw[show(if(e:Int) > (d:Int)then(e:Int)else(d:Int))=((max d e:Nat):Int) by split <;> omega];refine⟨(j+1,max d e,mm||m2),⟨by simp only;omega,?_⟩,by simp only;omega,ZU,?_⟩
 ·simp only[cy,Q5,Q7,Q9,he];exact cM i2
 ·simp only[vO];exact bQ):P:=h
theorem zA9 {P:Prop}(h:P:=by
 have E5:s1=seen:=by rw[NX];rfl
 refine ae ?_;refine wx (E:=yC) (V:=fun n:Nat=>.int .i64 n) (k:=s) Zr Zr rfl Zay hH1 ?_;rw[JQ];generalize hgn:(ky s mH).getD 0=gn at hgs;refine ae ?_;by_cases g0:gn=0
 ·rw[show decide ((gn:Int)=0)=true from Zt Zo];refine ae ?_;refine wx (E:=yC) (V:=fun n:Nat=>.int .i64 n) (k:=s) Zr Zr rfl Zay hM1 ?_;rw[JQ];generalize hgm:(ky s mM).getD 0=gm at Xu;refine ae ?_;by_cases g1:gm=0
  ·rw[show decide ((gm:Int)=0)=true from Zt Zo];refine ae ?_;refine wx (E:=yC) (V:=fun n:Nat=>.int .i64 n) (k:=s) Zr Zr rfl Zay hM1 ?_;rw[JQ,hgm];refine ae ?_;refine ww (E:=yC) (V:=fun n:Nat=>.int .i64 n) (k:=s) (v:=gm+1) Zr Zr Zr rfl ZK hM1 (fun cw c' Zb=>?_);refine ae ?_;refine jE (out:=[.string s]) Zr Zr (fun qb=>?_);refine ae ?_;refine jK (k:=out.length) (m:=1) (xs:=out.map Value.string) (sp:=sp) (ys:=[.string s]) Zr Zr bF ZK Zr ?_ rfl Zr Zr Zd Zo (fun eK bE aR=>?_)
   ·exact Eg
   have D3:o1=out++[s]:=by rw[K6,if_pos ⟨Zs,(Xu.1 g1).1,hgs.1 g0,(Xu.1 g1).2⟩]
   have hsl2:jG 1 eK o1.length (o1.map Value.string) bE:=by rw[D3];simpa using aR
   obtain⟨nE,nF,rfl⟩:=aR.form;refine ae ?_;refine⟨(cw,c',.slice nE (out.length+1) nF,bE,hb,lE,hc,[]),⟨⟨⟨_,Zb,by rw[D3];exact Ux hM2⟩⟩,?_,hsl2,Zs⟩,ZU,?_⟩
   ·rw[E5];exact A9
   ·dsimp only;rw[D3,Q5,Q7,Q9];exact bQ
  ·rw[show decide ((gm:Int)=0)=false from Zf Zo];refine ae ?_;have D3:o1=out:=by rw[K6,if_neg (fun c=>g1 (Xu.2 ⟨c.2.1,c.2.2.2⟩))]
   refine⟨(Ar,mc,.slice sa out.length sc,sp,hb,lE,hc,[]),⟨by rw[D3];exact NP,?_,by rw[D3];exact bF,Zs⟩,ZU,?_⟩
   ·rw[E5];exact A9
   ·dsimp only;rw[D3];exact bQ
 ·rw[show decide ((gn:Int)=0)=false from Zf Zo];refine ae ?_;have D3:o1=out:=by rw[K6,if_neg (fun c=>g0 (hgs.2 c.2.2.1))]
  refine⟨(Ar,mc,.slice sa out.length sc,sp,hb,lE,hc,[]),⟨by rw[D3];exact NP,?_,by rw[D3];exact bF,Zs⟩,ZU,?_⟩
  ·rw[E5];exact A9
  ·dsimp only;rw[D3];exact bQ):P:=h
theorem zAA {P:Prop}(h:P:=by
 refine ae ?_;refine kK (eP aP bW) Zr ?_;refine ae ?_;rw[eC];refine ae ?_;rw[sR];refine ae ?_;rw[Ms];refine ae ?_;refine kJ ((j8 true).mono (Z':=fun _ _=>False) (fun v Post h=>h) GW).fun Zr ZP (fun v Post hv=>?_);obtain⟨_,rfl,rfl⟩:=hv;simp only[QL];refine ae ?_;refine kL (fj A _ args bK lb 15 false false) Zr ZP (fun v Post hv=>?_) (fun ch Post hz=>?_);rotate_left
 ·obtain⟨hb,rfl,m2,rfl⟩:=hz;exact⟨[aW lb m2 false,A],by simp only[aH];exact bQ,rfl,m2,false,[A],rfl,by simp[hm,kP,wk,hb],rfl⟩
 obtain⟨G2,rfl,rfl⟩:=hv;rw[vL];obtain⟨m1,yV⟩:∃m1,m1=decide (15 < args.length):=⟨_,rfl⟩;rw[<- yV];simp only[aH];refine ae ?_;refine kL (fj A _ ab bG lb 63 m1 false) Zr ZP (fun v Post hv=>?_) (fun ch Post hz=>?_);rotate_left
 ·obtain⟨hb,rfl,m2,rfl⟩:=hz;have aC:RR=none:=by
   simp only[hm,wk,hb];simp[kP,wd]
  exact⟨[aW lb m2 false,A],by simp only[aH];exact bQ,rfl,m2,false,[A],rfl,aC,rfl⟩
 obtain⟨CT,rfl,rfl⟩:=hv;obtain⟨m2,rV⟩:∃m2,m2=(m1||decide (63 < ab.length)):=⟨_,rfl⟩;rw[<- rV];simp only[aH];refine ae ?_;refine kL (lC A body a c bk o us bh lb m2 false) Zr ZP (fun v Post hv=>?_) (fun ch Post hz=>?_);rotate_left
 ·obtain⟨hb,rfl,m3,rfl⟩:=hz;have aC:RR=none:=by
   simp only[hm,wk,hb,wd];simp[kP]
  exact⟨[aW lb m3 false,A],by simp only[aH];exact bQ,rfl,m3,false,[A],rfl,aC,rfl⟩
 obtain⟨d,m3,he,rfl,rfl⟩:=hv;simp only[aH];refine ae ?_;refine jM (kG (Post:=[aW lb (m2||m3) (decide ((d:Int) > 40)),A]) (.inl rfl) .nil ⟨m2||m3,_,[A],rfl,⟨d,?_,decide_eq_decide.2 Zo⟩,rfl⟩ ZI);simp only[hm,wk,G2,CT,he,wd,kP,if_true,rV,yV,vO]):P:=h
theorem MG {P:Prop}(h:P:=by
 refine jD ?_;refine kL (j8 false) Zr ZP Zai (fun ch Post hz=>?_);obtain⟨_,rfl,rfl⟩:=hz;exact⟨[A,aW lb (m0||mm) deep],ZI,if_neg dR,rfl,_,rfl⟩):P:=h
theorem zAC {P:Prop}(h:P:=by
 refine kH ?_;refine⟨rfl,.tuple #[],False,fun Γ H bj hH=>?_,?_⟩
 ·subst hH;refine kL (j8 false) Zau dX.nil Zai (fun ch Post hz=>?_);obtain⟨_,rfl,rfl⟩:=hz;exact⟨rfl,by simp only[QL];exact ao.refl _⟩
 exact fun hh=>by simp at hh):P:=h
theorem zAD {P:Prop}(h:P:=by
 have key:∀(s:List Nat),s.Sublist l->zd (fun x y=>!((nO ops).getD x []).contains y) s=true:=by
  intro s
  induction s with
  |nil=>intro _;rfl
  |cons x s ih=>
   intro hs;simp only[zd,vF,vZ,vM];refine⟨fun y hy=>?_,ih ((QW x s).trans hs)⟩;have h2:[x,y].Sublist l:=(List.Sublist.cons_cons x (List.singleton_sublist.2 hy)).trans hs;have b1:=uE s1 h2;cases hcc:((nO ops).getD x []).contains y with
   |false=>rfl
   |true=>
    have b2:=Ti ((cF x).1 b1.1) (vm.1 hcc);have:=b1.2.2;have:=b2.2.2;omega
 exact key _ List.filter_sublist):P:=h
theorem zAE {P:Prop}(h:P:=by
 obtain⟨mz,hz⟩:=hH;refine VO.imp hz ?_;refine kL (hFz mz) Zap ZP (fun v Post hv=>?_) (fun ch Post hz=>?_)
 ·obtain⟨rfl,Ug,m',rfl⟩:=hv;exact VO.nil ⟨rfl,⟨m',ao.refl _⟩,Ug⟩
 ·obtain⟨rfl,m',rfl⟩:=hz;exact⟨rfl,m',ZI⟩):P:=h
theorem zAF {P:Prop}(h:P:=by
 refine ae ?_;refine⟨_,lZ,by simp only;omega,ZU,?_⟩;simp only;refine ao.cut (M:=[kA IH 0 [.int .u8 (iS s:Nat),.string (iT s),.int .u8 0,.int .i64 0,.int .u64 0,.string e0,.slice none 0 0,.slice none 0 0,.int .i64 0,.bool false,.slice none 0 0,.slice pa lG.length pc,.slice nE (j+1) nF],kA eF 0 lI,kA X.wq 0 [.map (some X.fb),.map (some X.gb),nX],ai nX (U2.map fun u=>kM (some u.q)) ij,[.obj X.fb (.map X.bI X.fc)],[.obj X.gb (.map X.bM X.gc)],WK U2 V2,T2,[.obj b (.map es c)],X.S,ai (.slice nE (j+1) nF) (rows++[([.int .u8 pn.kind,.string pn.name,.int .u8 f1,.int .i64 f2,.int .u64 f3,.string f4,.slice f5 f6 f7,.slice r1 r2 r3,.int .i64 pn.unit,.bool pn.super,.slice none 0 0,.slice p1 p2 p3,.slice k1 k2 k3]:List Value)]).flatten bE,B,ai (.slice pa lG.length pc) (lG.map fun b=>kM (some b)) Mh,B2]) ZI (ao.perm ?_);simp only[V9,VV,vg,vf]
 repeat (first|exact vV _ QP|refine vV _ ?_)):P:=h
theorem zAG {P:Prop}(h:P:=by
 refine ae ?_;refine kJ (tD S (.slice aa args.length ac) args bK) Zr ZP (fun v Post hv=>?_);obtain⟨B,⟨sp0,hs0,rfl,_,_⟩,rfl⟩:=hv;obtain⟨va,vc,rfl⟩:=hs0.form;simp only[aH];refine ae ?_;refine I0 (k:=args.length) (xs:=args.map Value.string) (sp:=sp0) (l:=ab) Zr Zr hs0 ZK bG (fun y hy=>by simp[hy]) Zo (fun eK bE hg=>?_);obtain⟨xa,xc,rfl⟩:=hg.form;refine ae ?_;refine⟨(.slice xa (args.length+ab.length) xc,ai (.slice xa (args.length+ab.length) xc) (args.map Value.string++ab.map Value.string) bE),⟨xa,xc,by rw[ZD],?_⟩,ZU,ZI⟩;have Sy:uM (.slice xa (args.length+ab.length) xc) (args++ab) (ai (.slice xa (args.length+ab.length) xc) (args.map Value.string++ab.map Value.string) bE):=by
  refine⟨bE,by rw[Vt,Q5];exact hg,by rw[Q5],by rw[Vt];omega,fun t ht=>?_⟩;rcases QA.1 ht with ht|ht
  ·obtain⟨i,hi⟩:=Vo ht;obtain⟨_,_,_,_,g⟩:=gl i t hi;exact g
  ·obtain⟨i,hi⟩:=Vo ht;obtain⟨_,_,_,_,g⟩:=gu i t hi;exact g
 exact Sy.rd):P:=h
theorem zAH {P:Prop}(h:P:=by
 refine ae ?_;refine kL hv Zr ZP (fun v Post hv=>?_) (fun ch Post hz=>?_);rotate_left
 ·obtain⟨hb,rfl,m2,rfl⟩:=hz;exact⟨[A,aW lb m2 deep],ZI,cL (by rw[<- hb];exact Zv aA),rfl,m2,rfl⟩
 obtain⟨e,m2,he,rfl,rfl⟩:=hv;simp only[aH];refine ae ?_;rw[show(if(e:Int) > (d:Int)then(e:Int)else(d:Int))=((max d e:Nat):Int) by split <;> omega];refine⟨(j+1,max d e,mm||m2),⟨by simp only;omega,?_⟩,by simp only;omega,ZU,?_⟩
 ·simp only;rw[QX,aA,he];exact cM i2
 ·simp only[vO];exact bQ):P:=h
theorem zAI {P:Prop}(h:P:=by
 have hol:o.Subset l:=fun x hx=>(cF x).2 (o3 x hx)
 have dR:=s5 o2;have tM:l.length=ops.size:=by
  have:l.Perm (List.range ops.size):=(QS s1 QO).2 (fun x=>by simp[cF]);simpa using this.length_eq
 have ZH:o.Perm (List.range ops.size):=by
  refine(QS dR QO).2 (fun x=>?_);refine⟨fun hx=>by simpa using o3 x hx,fun hx=>?_⟩;exact Fm dR o3 o1 (by simpa using hx)
 exact ZH.trans ((QS s1 QO).2 (fun x=>by simp[cF])).symm):P:=h
theorem zAJ {P:Prop}(h:P:=by
 refine ae ?_;refine jM ⟨.inr rfl,_,[kA X.wq 0 [.map (some X.fb),.map (some X.gb),iX],ai iX (U4.map fun u=>kM (some u.q)) cV,[.obj X.fb (.map X.bI X.fc)],[.obj X.gb (.map X.bM X.gc)],WK U4 V4,T4,[.obj b (.map es c)],X.S,ai (.slice va (kV X.F X.G kids D2.1 D2.2 i).1.length vc) rows.flatten yw++(B5++ai (.slice RP Bx.length RQ) (Bx.map fun b=>kM (some b)) ig)],.aJ (us:=jk (.slice RP Bx.length RQ) (.slice va (kV X.F X.G kids D2.1 D2.2 i).1.length vc)) Zr Zr (fun y hy=>by simp only[V9,QA];repeat (first|exact Or.inl hy|refine Or.inr ?_)) (.tmp Zr .nil),?_,⟨iX,cV,U4,V4,T4,_,⟨Tg,by rw[<- TZ];exact K9,(sU.trans hp3).trans CZ,NM⟩,rfl⟩⟩;refine ao.cut (M:=[kA X.wq 0 [.map (some X.fb),.map (some X.gb),iX],ai iX (U4.map fun u=>kM (some u.q)) cV,[.obj X.fb (.map X.bI X.fc)],[.obj X.gb (.map X.bM X.gc)],WK U4 V4,T4,[.obj b (.map es c)],X.S,ai (.slice va (kV X.F X.G kids D2.1 D2.2 i).1.length vc) rows.flatten yw++B5,ai (.slice RP Bx.length RQ) (Bx.map fun b=>kM (some b)) ig]) ?_ (ao.perm Zs);exact bQ):P:=h
theorem zAK {P:Prop}(h:P:=by
 refine ae ?_;refine kL (j8 _) Zr ZP (fun v Post hv=>?_) (fun ch Post hz=>?_);rotate_left
 ·obtain⟨hb,rfl,rfl⟩:=hz;exact⟨[A,aW lb m0 deep],ZI,by first|(simp[jL,kP,hb];done)|(simp at hb;simp[jL,kP,hb];done)|(simp at hb;simp[jL,kP];omega),rfl,m0,rfl⟩
 obtain⟨hb,rfl,rfl⟩:=hv;simp only[QL];refine ae ?_;refine⟨⟨0,false,n,b,t,_,_⟩,⟨⟨_,_,rfl⟩,?_⟩,ZU,by rw[vR];exact bQ⟩;simp[jL,kP,nM.ok,hb]):P:=h
theorem zAL {P:Prop}(h:P:=by
 refine ae ?_;rw[<- hB];refine kJ (Mc st U Vs hR i v u y hu hy (DY v hg3) hb) Zr ZP (fun r Post hr=>?_);obtain⟨U',nN,⟨rfl,h6,h7,h7b,h8⟩,rfl⟩:=hr;simp only[aH];have hqo:tf nN v=tf Vs v:=by
  have e1:=congrArg (fun l=>l[v]?) h8;simp only[Vn]at e1;unfold tf;rw[Vb,Vb];cases e2:nN[v]? <;> cases e3:Vs[v]? <;> rw[e2,e3]at e1 <;> simp_all
 refine ae ?_;rw[Gf hk HT fO];have lZ:sr nN (dH v)=.tuple #[.agg rz.toArray,kF y.q]:=by
  unfold sr dH;simp only[if_true];rw[show((v:Nat):Int).toNat=v from rfl,hqo,<- hyq];rfl
 exact jM ⟨.inr rfl,_,[kA wq 0 [.map (some fb),.map (some gb),us],[.obj fb (.map bI fc)],[.obj gb (.map bM gc)],WK U' nN,[.obj b (.map es c)]],.aJ (us:=rz) Zr Zr Zak (.tmp Zr .nil),ZI,U',nN,⟨hf,lZ.symm,h6,h7,h7b,h8⟩,rfl⟩):P:=h
theorem Se {P:Prop}(h:P:=by
 refine ae ?_;exact kG (Post:=[A]) (.inr rfl) (.tmp Zr .nil) ⟨by simp[bJ],rfl⟩ ZI):P:=h
theorem zAN {P:Prop}(h:P:=by
 refine(Aw hpo).imp_of_mem (fun {x y} hx hy h=>?_);simp only[vP]at h;rcases h with(h|h)|h
 ·left;simp only[mV]at h;split at h
  ·rename_i p q hp hq;simp only[Vb,hp,hq,Qs];exact h
  ·cases h
 ·right;exact(Ti (o3 y hy) (vm.1 h)).sub
 ·right;exact(M1 h).trans List.filter_sublist):P:=h
theorem zAO {P:Prop}(h:P:=by
 rw[Vc]at hy hs;rw[h.len]at hs;split at hy
 ·rename_i hi;rw[if_pos hi]at hs;exact h.rd i y s hy hs
 ·rename_i hi;rw[if_neg hi]at hs;have:=(Vm.1 hy).1;simp only[Q3]at this;have e:i - l.length=0:=by omega
  rw[e]at hy hs;obtain rfl:x=y:=by simpa using hy
  obtain rfl:r=s:=by simpa using hs
  exact hx):P:=h
theorem SM {P:Prop}(h:P:=by
 refine ae ?_;refine kG (Post:=[]) (.inr rfl) (.tmp Zr .nil) ⟨by rw[hf];rfl,rfl⟩ ZI):P:=h
theorem zAQ {P:Prop}(h:P:=by
 obtain⟨_,h2⟩:=Dj e;simp only[Nat.sub_zero]at h2;have aO:t < args.length:=(Vm.1 h2).1;simp only[Array.getElem?_append,List.size_toArray,aO,if_true];simpa using h2):P:=h
theorem zAR {P:Prop}(h:P:=by
 refine ae ?_;refine kY Zr (fun q=>?_);simp only[Value.cells];refine ae ?_;by_cases h1:k=2
 ·rw[show decide ((k:Int)=2)=true from Zt Zo];refine ae ?_;refine kG (Post:=[]) (.inr rfl) (.tmp Zr .nil) ⟨?_,rfl⟩ ZI;have:(s=⟨#[115,117,112,101,114]⟩)↔kB s=[115,117,112,101,114]:=⟨fun e=>by rw[e];rfl,fun e=>jS (by rw[e];rfl)⟩;simp[bJ,z8,h1,this]
 ·rw[show decide ((k:Int)=2)=false from Zf Zo];refine ae ?_;refine kG (Post:=[]) (.inr rfl) (.tmp Zr .nil) ⟨by simp[bJ,z8,h1],rfl⟩ ZI):P:=h
theorem zAS {P:Prop}(h:P:=by
 rintro e w' ⟨Post,h5,JJ,hk⟩
 have xF:Sat w' ((Post++R).flatten++F):=by rw[V8,vf];exact JJ
 rcases h5 with⟨v,rfl,hQ⟩|⟨ch,rfl,hQ⟩
 ·refine .inl ⟨v,rfl,?_⟩;rw[<- g2];exact h v Post hQ l' tM _ w' F ZZ Q' (ha.ap g3 v) xF (fun a2 w2 cY H2 k1 k2 k3 k4 k5=>hq a2 w2 cY H2 k1 k2 (k3.trans (jc ..)) k4 (hk.trans k5)) (fun ch a2 w2 cY H2 k1 k2 k3 k4 k5=>hz ch a2 w2 cY H2 k1 k2 (k3.trans (jc ..)) k4 (hk.trans k5))
 ·exact .inr ⟨ch,rfl,hz ch a w' Γ _ (H7 ch Post hQ) ha rfl xF hk⟩):P:=h
theorem zAT {P:Prop}(h:P:=by
 rw[<- vf,<- vf];exact vW _ QP):P:=h
theorem zAU {P:Prop}(h:P:=by
 refine ae ?_;refine kG (Post:=[]) (.inr rfl) (.tmp Zr .nil) ⟨by rw[hb];rfl,rfl⟩ ZI):P:=h
theorem zAV {P:Prop}(h:P:=by
 refine ae ?_;have hr:=qq (F:=F) (G:=G) (st:=st) (env:=env) (nm:=nm) (u:=i) (p:=p) (put:=decide (k=3)) (by rw[hk];decide);rw[hr,hk];exact jM ⟨.inr rfl,_,[kA wq 0 [.map (some fb),.map (some gb),us],[.obj fb (.map bI fc)],[.obj gb (.map bM gc)],WK U Vs,[.obj b (.map es c)]],.aJ (us:=jX ⟨1,0,0,e0⟩) Zr Zr (fun y hy=>by simp only[V9,QA];exact .inl hy) (.tmp Zr .nil),ZI,U,Vs,⟨hf,rfl,hR,rfl,rfl,rfl⟩,rfl⟩):P:=h
theorem zAW {P:Prop}(h:P:=by
 generalize ef (kB s)=z at dQ|-;refine ae ?_;by_cases he:z=(kB s).length
 ·rw[Zt (show((z:Nat):Int)=(s.size:Int) by omega)];rw[if_pos he]at dQ;refine ae ?_;rw[dQ];exact⟨.inr rfl,[vi 1],[],.bT (v:=vi 1) Zr Ji .nil,ao.nil,⟨rfl,rfl⟩⟩
 ·rw[Zf (show ¬((z:Nat):Int)=(s.size:Int) by omega)];rw[if_neg he]at dQ;refine ae ?_;rw[dQ];exact⟨.inr rfl,[vi (-1)],[],.bT (v:=vi (-1)) Zr Ji .nil,ao.nil,⟨rfl,rfl⟩⟩):P:=h
theorem zAX {P:Prop}(h:P:=by
 subst hH;exact st_eqI (bj 5 Zd _ rfl) (bj 8 Zd _ rfl) (by simp only[eC]) (VO.nil ⟨rfl,rfl,trivial⟩)):P:=h
theorem zAY {P:Prop}(h:P:=by
 refine ae ?_;refine kJ hc Zr ZP (fun v Post hv=>?_);obtain⟨rfl,rfl⟩:=hv;simp only[aH];refine ae ?_;refine kL (j8 _) Zr ZP (fun v Post hv=>?_) (fun ch Post hz=>?_)
 ·obtain⟨h1,rfl,rfl⟩:=hv;simp only[QL];refine ae ?_;exact jM (kG (Post:=[B,aW lb true deep]) (.inl rfl) .nil ⟨by simpa using h1,rfl,rfl⟩ ZI)
 ·obtain⟨h1,rfl,rfl⟩:=hz;exact⟨[B,aW lb true deep],ZI,by simpa using h1,rfl,true,rfl⟩):P:=h
theorem zAZ {P:Prop}(h:P:=by
 refine ae ?_;by_cases h:k < s.size
 ·rw[Zt Zo];obtain⟨c,hc,oa⟩:=jt h;refine ae ?_;refine jx Zr Zr (j:=k) rfl hc ?_;refine ae ?_;refine⟨.inr rfl,_,_,.tmp Zr .nil,ZI,?_,rfl⟩;simp[bJ,Vb,oa]
 ·rw[Zf Zo];refine ae ?_;refine⟨.inr rfl,_,_,.tmp Zr .nil,ZI,?_,rfl⟩;have:(kB s)[k]? =none:=Vj (by rw[kS];omega);simp[bJ,Vb,this]):P:=h
theorem zB0 {P:Prop}(h:P:=by
 rintro Post rfl
 refine⟨.inr rfl,[.agg #[.string e0,.int .i64 0,.slice none 0 0],.iface 80 (kF q)],[S,j9 q e p],.aJ (us:=qY) Zr Zr (fun y hy=>by simp only[vj,QL,V9,QA];repeat (first|exact Or.inl hy|refine Or.inr ?_)) (.bT Zr (by simp[kA,EI]) .nil),by simp only[aH];exact bQ,.inr ⟨e,p,q,CQ.trans hae,he0,rfl,rfl⟩⟩):P:=h
theorem zB1 {P:Prop}(h:P:=by
 refine ae ?_;refine fA Zr Zr Y5 ?_;refine ae ?_;refine⟨.inr rfl,_,_,.aJ (us:=[cv 5,vi 0,uv 0,.string (⟨#[45]⟩++t),.slice none 0 0]) Zr Zr GV .nil,ZI,.inr ⟨Ae,_,rfl,by rw[nZ];rfl⟩,rfl⟩):P:=h
theorem zB2 {P:Prop}(h:P:=by
 simp only[pd];refine V0.2 (fun i hi=>?_);have:=QJ.1 hi;simp[this]):P:=h
theorem zB3 {P:Prop}(h:P:=by
 rw[hk x Zs];have hkb:gz 7 (l++[x]).length (0+l.length) x=(!jQ x&&decide (x.kind≠6)):=by
  unfold gz;rw[Zt (show 0+l.length+1=(l++[x]).length by simp)];by_cases h6:x.kind=6 <;> simp[h6]
 rw[hkb];by_cases h9:x.kind=9
 ·rw[if_pos h9];have:jQ x=false:=by rw[vH];intro h;have:=fB h;omega
  simp[this,h9]
 ·rw[if_neg h9,ik,l1]
  congr 1
  simp[zt,h9]):P:=h
theorem zB4 {P:Prop}(h:P:=by
 refine ae ?_;refine kK hsg Zr ?_;refine ae ?_;by_cases he:z=(kB s).length
 ·rw[Zt (show((z:Nat):Int)=(s.size:Int) by omega)];rw[if_pos he]at Mt;refine ae ?_;refine⟨.inr rfl,_,_,.tmp Zr .nil,ZI,?_,rfl⟩;rw[Mt];rfl
 ·rw[Zf (show ¬((z:Nat):Int)=(s.size:Int) by omega)];rw[if_neg he]at Mt;refine ae ?_;refine⟨.inr rfl,_,_,.tmp Zr .nil,ZI,?_,rfl⟩;rw[Mt];rfl):P:=h
theorem zB5 {P:Prop}(h:P:=by
 refine VO.read rfl rfl (fun ρ aK=>⟨_,rfl,fun F w hs=>?_⟩) h;rw[aK _ _ hx,aK _ _ hy];have hm:∀c∈H.flatten,c∈H.flatten++F:=fun c hc=>Zw _ hc
 have:=Cd (P:=P) hs ht hi hz (ha.more hm) (hb.more hm) 9999;have h2:(Op.equal t (.pointer (some ⟨a,0,none⟩)) (.pointer (some ⟨b,0,none⟩))).run P w=.ok (decide (a=b)) w:=this;rw[Sem.run_bind,fu Zs Zs];simp[Go.binOp,h2]):P:=h
theorem zB6 {P:Prop}(h:P:=by
 have p0:=zD e0;have p1:=zD e1;have p2:=zD e2;have p3:=zD e3;have p4:=zD e4;obtain⟨a0,a1,a2,a3,a4,rfl⟩:∃a0 a1 a2 a3 a4,cs=[a0,a1,a2,a3,a4]:=by
  match cs,hlen with
  |[a0,a1,a2,a3,a4],_=>exact⟨a0,a1,a2,a3,a4,rfl⟩
 simp only[Vh,Vg,Qy]at p0 p1 p2 p3 p4;rw[p0,p1,p2,p3,p4,hl]):P:=h
theorem zB7 {P:Prop}(h:P:=by
 have hzl:(rs.zip ops.toList).length=ops.size:=by simp[hlen]
 apply vw;intro i;simp only[Vn];by_cases hi:i < ops.size
 ·rw[List.getElem?_range hi,Qw];rw[Vb];have:i < (rs.zip ops.toList).length:=by omega
  rw[Zg this];rfl
 ·rw[Vj (l:=List.range ops.size) (by simpa using hi),Vj Zo];rfl):P:=h
theorem zB8 {P:Prop}(h:P:=by
 have hf:jB (jP s)=1:=by rw[h];rfl
 have e1:iS s=11:=by simp[iS,h]
 have e2:iT s=s:=by simp[iT,h]
 rw[e1,e2];rw[show decide ((jB (jP s):Int)=0)=false from Zf Zo];refine ae ?_;rw[show decide (s=⟨#[116,111,58,100,111,58]⟩)=false from Zf (fun e=>by have:=Sy.1 e;omega)];refine ae ?_;exact⟨(),trivial,ZU,by simp only[e0];exact ao.refl _⟩):P:=h
theorem zB9 {P:Prop}(h:P:=by
 intro k
 induction k with
 |zero=>intro i acc w1 r w2 h;simp[loadCellsFrom]at h;exact h.2.symm
 |succ k ih=>
  intro i acc w1 r w2 h;simp only[loadCellsFrom,Sem.run_bind]at h;obtain⟨v,w3,h1,h2⟩:=kw h;have hw:w3=w1:=by
   simp only[Go.load,Sem.run]at h1;split at h1
   ·cases h1;rfl
   ·split at h1 <;> cases h1;rfl
  rw[ih _ _ _ _ _ h2,hw]):P:=h
theorem zBA {P:Prop}(h:P:=by
 rintro e w' ⟨rfl,rfl⟩
 have hp:=Sat.push hs (.map es c) [.obj w.heap.size (.map es c)] (fun x hx=>by
  obtain rfl:=QK.1 hx;exact⟨rfl,Zs,rfl⟩) Zs
 refine⟨_,_,rfl,⟨_,rfl,rfl⟩,?_,hp.2⟩;refine hp.1.perm ?_;simp only[V9,VV,vg,vj,QL];exact List.Perm.swap _ _ _):P:=h
theorem zBB {P:Prop}(h:P:=by
 refine(QS (s1.filter _) (s5 hd)).2 (fun x=>?_);simp only[QF,cF,vm];exact⟨fun h=>h.2,fun h=>⟨Za x h,h⟩⟩):P:=h
theorem zBC {P:Prop}(h:P:=by
 rw[vH];intro h;rw[vm]at h;simp only[fC,QC,List.not_mem_nil,or_false]at h;rcases h with h|h|h|h|h
 ·exact h1 (jS (by rw[h];rfl))
 ·exact h2 (jS (by rw[h];rfl))
 ·exact h3 (jS (by rw[h];rfl))
 ·exact h4 (jS (by rw[h];rfl))
 ·exact h5 (jS (by rw[h];rfl))):P:=h
theorem zBD {P:Prop}(h:P:=by
 intro x hx;obtain⟨i,hi⟩:=Vo hx;have K1:i < (rs.zip ops.toList).length:=(Vm.1 hi).1;have hi3:i < ops.size:=by simp[hlen]at K1;omega
 obtain⟨g1,g2,g3⟩:=zC h1 hi3;have:(rs.zip ops.toList).getD i default=x:=by rw[Vb,hi];rfl
 rw[this]at g3;exact⟨ops,g3⟩):P:=h
theorem zBE {P:Prop}(h:P:=by
 exact⟨.inr rfl,[vi (-1)],[],.bT (v:=vi (-1)) Zr Ji .nil,ao.nil,⟨rfl,rfl⟩⟩):P:=h
theorem zBF {P:Prop}(h:P:=by
 subst hH;exact qP (bj 10 Zd _ rfl) (Rz rfl (bj 12 Zd _ rfl) (by simp only[sR]) (VO.nil ⟨rfl,rfl,trivial⟩))):P:=h
theorem zBG {P:Prop}(h:P:=by
 refine ae ?_;exact kG (Post:=[A]) (.inr rfl) (.tmp Zr .nil) ⟨by rw[stop _ (by rw[Zf Zo];rfl)];rfl,rfl⟩ ZI):P:=h
theorem zBH {P:Prop}(h:P:=by
 show ju P ZZ (⟨d,some (s,b),r⟩,o) (cp P ZZ Q l') a w;unfold ju;rw[if_neg (by simp[hw])];exact h l' tM _ w F ZZ Q (ha.ap g3 undef) gU (fun a2 w2 cY H2 k1 k2 k3 k4 k5=>hq a2 w2 cY H2 k1 k2 (k3.trans (jc ..)) k4 k5) (fun ch a2 w2 cY H2 k1 k2 k3 k4 k5=>hz ch a2 w2 cY H2 k1 k2 (k3.trans (jc ..)) k4 k5)):P:=h
theorem zBI {P:Prop}(h:P:=by
 refine ae ?_;refine kL au Zr ZP (fun v Post hv=>?_) (fun ch Post hz=>?_)
 ·obtain⟨iX,cV,U4,V4,T4,B4,⟨Tg,_⟩,_⟩:=hv;have:=Tg.ok;rw[Sq]at this;cases this
 ·obtain⟨q1,e1,p1,eC,rfl,rfl⟩:=hz;refine⟨[X.S,j9 q1 e1 p1],ZI,q1,e1,p1,?_,rfl,rfl⟩;rw[zc];exact eC):P:=h
theorem zBJ {P:Prop}(h:P:=by
 obtain⟨q1,Mq,p1,eC,rfl,rfl⟩:=hz;exact⟨[X.S,j9 q1 Mq p1],ZI,q1,Mq,p1,gp _ eC,rfl,rfl⟩):P:=h
theorem zBK {P:Prop}(h:P:=by
 simp only[wI,Qy]at hs;subst hs;simpa[execOp]using hr):P:=h
theorem zBL {P:Prop}(h:P:=by
 rw[<- g2];refine h v Post hQ l' tM _ w' F ZZ Q' (ha.ap g3 v) ?_ (fun a2 w2 cY H2 k1 k2 k3 k4 k5=>hq a2 w2 cY H2 k1 k2 (k3.trans (jc ..)) k4 (hk.trans k5)) (fun ch a2 w2 cY H2 k1 k2 k3 k4 k5=>hz ch a2 w2 cY H2 k1 k2 (k3.trans (jc ..)) k4 (hk.trans k5));rw[V8,vf];exact JJ):P:=h
theorem zBM {P:Prop}(h:P:=by
 refine⟨rfl,vi 0,False,fun Γ H bj hH=>?_,?_⟩
 ·subst hH;refine kL hvz (by simp only[V.nQ,V.ev,bj 12 Zd _ rfl,bj 13 Zd _ rfl,bj 15 Zd _ rfl]) ZP (fun v Post hv=>hv.elim) (fun ch Post hz=>?_);obtain⟨rfl,m,rfl⟩:=hz;exact⟨rfl,m,ZI⟩
 refine kH ?_;exact fun hh=>by simp at hh):P:=h
theorem zBN {P:Prop}(h:P:=by
 rename_i i hu hi;simp only[Qu]at h1;obtain⟨r',h3,rfl⟩:=h1;cases h2 with
 |aJ k1 k2 k3 k4=>
  simp only[List.mapM_cons,Sem.run_bind,CT,slot k1,asAddr,Sem.run_pure,Result.andThen_ok,loadVar,dD hu,if_true,kZ hi,run_loadCells k2 k3 hs,ih r' _ f hf CT h3 k4]):P:=h
theorem zBO {P:Prop}(h:P:=by
 refine ae ?_;exact kG (Post:=[A]) (.inr rfl) (.tmp Zr .nil) ⟨rfl,rfl⟩ ZI):P:=h
theorem zBP {P:Prop}(h:P:=by
 rw[Zt h2];refine ae ?_;refine kL (j8 true) Zr ZP (fun v Post hv=>?_) GW;obtain⟨_,rfl,rfl⟩:=hv;simp only[QL];refine ae ?_;refine⟨⟨0,false,0,b,t,_,_⟩,⟨⟨_,_,rfl⟩,?_⟩,ZU,by rw[vR];exact bQ⟩;simp[jL,kP,nM.ok,h1,h2]):P:=h
theorem zBQ {P:Prop}(h:P:=by
 refine ae ?_;refine⟨.inr rfl,_,_,.aJ (us:=[cv 5,vi 0,uv 0,.string t,.slice none 0 0]) Zr Zr GV .nil,ZI,.inr ⟨Ae,_,rfl,rfl⟩,rfl⟩):P:=h
theorem zBR {P:Prop}(h:P:=by
 refine ae ?_;refine⟨.inr rfl,_,_,.aJ (us:=[cv 0,vi 0,uv 0,.string ⟨#[]⟩,.slice none 0 0]) Zr Zr GV (.tmp Zr .nil),ZI,JB hb,rfl⟩):P:=h
theorem zBS {P:Prop}(h:P:=by
 refine ae ?_;refine kK (gG aP bW) Zr ?_;refine ae ?_;refine kJ hvf.fun Zr ZP (fun v Post hv=>?_);obtain⟨rfl,rfl⟩:=hv;simp only[aH];refine ae ?_;refine jM (kG (Post:=[A,aW lb (m0||m2) deep]) (.inr rfl) (.tmp Zr .nil) ⟨d,m2,rfl,rfl,rfl⟩ ZI)):P:=h
theorem zBT {P:Prop}(h:P:=by
 rw[hr]at au;simp only[bJ,hr,Zt h2,hl,au,vS,Value.bool.injEq];rw[<- hr,hlen]
 (rw[vI];simp only[vP,vF,vM,decide_eq_true_eq,decide_eq_false_iff_not,true_iff,iff_true,reduceCtorEq,false_iff,iff_false];omega)):P:=h
theorem zBU {P:Prop}(h:P:=by
 obtain⟨iX,cV,U4,V4,T4,B4,⟨Tg,_⟩,_⟩:=hv;have:=Tg.ok;rw[Sq]at this;cases this):P:=h
theorem zBV {P:Prop}(h:P:=by
 rcases Nat.lt_or_ge i w.heap.size with h|h
 ·exact h
 ·rw[Array.getElem?_eq_none h]at hb;cases hb):P:=h
theorem zBW {P:Prop}(h:P:=by
 rw[Vn]at hi;obtain⟨f,G2,CT⟩:=Qu.1 hi;cases CT;exact Zk i f (by rw[<- G2,vB])):P:=h
theorem W8 {P:Prop}(h:P:=by
 refine ae ?_;exact⟨(),trivial,ZU,ZI⟩):P:=h
theorem zBY {P:Prop}(h:P:=by
 simp only[Q7,Q9,cm,eJ,nD,k1];show _=[Value.int .u8 (k.toNat:Nat),.string s,.int .u8 (lk.toNat:Nat),.int .i64 ln,.int .u64 (lb.toNat:Nat),_,_,_,_,_,_];rw[vU b1,vU b3,vU b5]):P:=h
theorem zBZ {P:Prop}(h:P:=by
 have hf:jB (jP s)=0:=by rw[h];rfl
 have e1:iS s=12:=by simp[iS,h]
 have e2:iT s=s:=by simp[iT,h]
 rw[e1,e2];rw[show decide ((jB (jP s):Int)=0)=true from Zt Zo];refine ae ?_;exact⟨(),trivial,ZU,by simp only[e0];exact ao.refl _⟩):P:=h
theorem zC0 {P:Prop}(h:P:=by
 intro hl i st env u;simp only[Nd.aw]at hl;obtain⟨h1,h2⟩:=ih x Zo st env u;cases h:dU s i with
 |true=>rw[dM _ _ _ _ _ _ _ _ _ h];exact h2.trans (xI Zo (i+1) _ env u)
 |false=>rw[zy _ _ _ _ _ _ _ _ _ h];exact h1.trans (xI Zo (i+1) _ env u)):P:=h
theorem zC1 {P:Prop}(h:P:=by
 rw[rls];simp only[Sem.run_bind,P7,Wg,Result.andThen];simp[ReflectliteValue.flagAddr,loadVar,isAgg,underlying,Tryz.underlying44,hb,Result.andThen,Nc,storeVar,Value.cells,storeCells,Addr.add];rw[run_store Tryz.prog W ta _ _ Zr];simp[ht,hf]):P:=h
theorem zC2 {P:Prop}(h:P:=by
 refine ae ?_;exact kG (Post:=[A]) (.inr rfl) (.tmp Zr .nil) ⟨by rw[i2];rfl,rfl⟩ ZI):P:=h
theorem zC3 {P:Prop}(h:P:=by
 obtain⟨k1,k2⟩:=au kids hk st env u h hu he;exact⟨k1,nA _ _ _ _ _ _ _ k2⟩):P:=h
theorem zC4 {P:Prop}(h:P:=by
 rw[Vb,Ve (Qh _),Qn];rfl):P:=h
theorem zC5 {P:Prop}(h:P:=by
 simp only[kT]at hv;split at hv <;> try (cases hv;done)
 rename_i cs k m hx hi;split at hv <;> try (cases hv;done)
 rename_i hb;simp at hv;subst hv;simp[execOp,Instr.index,kE hs,hx,hi,asIntOf,hb,kZ hj,part,dD hu]):P:=h
theorem zC6 {P:Prop}(h:P:=by
 refine ae ?_;refine⟨.inr rfl,_,_,.tmp Zr .nil,ZI,?_,rfl⟩;rfl):P:=h
theorem zC7 {P:Prop}(h:P:=by
 refine ae ?_;refine⟨.inr rfl,_,_,.tmp Zr .nil,ZI,?_,rfl⟩;simp[bJ,nT,hl]):P:=h
theorem zC8 {P:Prop}(h:P:=by
 rcases QC.1 h with rfl|h
 ·omega
 ·have:=ih h;omega):P:=h
theorem zC9 {P:Prop}(h:P:=by
 refine ae ?_;refine⟨⟨true,n,b,⟨#[]⟩,_,_⟩,⟨⟨_,_,rfl⟩,?_⟩,ZU,ZI⟩;simp only[hz];simp[jL,sm]):P:=h
theorem zCA {P:Prop}(h:P:=by
 intro l
 induction l with
 |nil=>simp
 |cons o r ih=>
  rw[List.flatMap_cons,Vt,Vu,Nat.succ_mul];have h1:=Vy (st.bg u) (st.things o);rw[pb]at h1;have:=h o;omega):P:=h
theorem zCB {P:Prop}(h:P:=by
 refine ae ?_;refine kJ hcut Zr ZP (fun v Post hv=>?_);obtain⟨t,rfl,h1,h2,rfl⟩:=hv;simp only[QL];refine ae ?_;refine kG (Post:=[]) (.inr rfl) (.tmp Zr (.tmp Zr .nil)) ⟨t,rfl,h1,h2,rfl⟩ ZI):P:=h
theorem zCC {P:Prop}(h:P:=by
 refine ae ?_;refine kG (Post:=[]) (.inr rfl) (.tmp Zr .nil) ⟨rfl,rfl⟩ ZI):P:=h
theorem zCD {P:Prop}(h:P:=by
 refine⟨Zs,fun x hx=>?_⟩;obtain⟨i,v,hi,rfl⟩:=kI.1 hx;rw[Vn]at hi;obtain⟨u,hu,rfl⟩:=Qu.1 hi;obtain⟨b2,o2,h1,h2,_⟩:=hr i u hu;cases h1;simpa using h2):P:=h
theorem zCE {P:Prop}(h:P:=by
 simp only[aH];refine ae ?_;refine⟨(j+1,r'),⟨by simp only;omega,by simp only;omega,by simp only;unfold wN;omega,fun hh=>by simp only at hh|-;have:=h9 hh;rw[cy];omega⟩,by simp only;omega,ZU,ZI⟩):P:=h
theorem zCF {P:Prop}(h:P:=by
 obtain⟨rfl,hi⟩:=hp;exact⟨[aW lb false false,A],ao.cut hi ZI,rfl,false,false,[A],rfl,aC,rfl⟩):P:=h
theorem zCG {P:Prop}(h:P:=by
 subst hH;exact kK (eP aP bW) Zat Ef):P:=h
theorem zCH {P:Prop}(h:P:=by
 rcases Nat.lt_or_ge t.block w.heap.size with h|h
 ·exact h
 ·simp[World.cell?,Array.getElem?_eq_none h]at T7):P:=h
theorem zCI {P:Prop}(h:P:=by
 cases h with
 |mk wf hl bK bG ha hm hr=>
  obtain⟨_,_,rfl,_⟩:=bK;obtain⟨_,_,rfl,_⟩:=bG;cases hl with
  |mk R5 HP rV dS=>exact⟨_,_,_,_,_,_,_,_,_,_,_,_,_,_,_,_,rfl⟩):P:=h
theorem zCJ {P:Prop}(h:P:=by
 refine(vW _ QP).trans ?_;rw[vf];exact vX _):P:=h
theorem zCK {P:Prop}(h:P:=by
 obtain⟨x,hx,he⟩:=QH.1 hm;obtain⟨i,v,hi,rfl⟩:=kI.1 hx;simp only[kC.loc,Qz,Qy,true_and]at he;have:=(Vm.1 hi).1;omega):P:=h
theorem zCL {P:Prop}(h:P:=by
 refine ae ?_;refine⟨⟨0,false,n,b,⟨#[]⟩,_,_⟩,⟨⟨_,_,rfl⟩,?_⟩,ZU,by rw[vR];exact bQ⟩;simp[jL,kP,nM.ok,show(⟨#[]⟩:ByteArray).size=0 from rfl]):P:=h
theorem zCM {P:Prop}(h:P:=by
 simp only[V.marks,Q7];rw[<- vf,<- vf];exact QT):P:=h
theorem zCN {P:Prop}(h:P:=by
 rw[World.cell?_alloc_lt _ _ ⟨0,0,none⟩ Zs,World.cell?_alloc_lt _ _ ⟨0,0,none⟩ aO];exact hg):P:=h
theorem zCO {P:Prop}(h:P:=by
 refine⟨Y++R,?_,fun u' X' h'=>?_⟩
 ·rw[<- vf];exact h1.trans (vW _ hx)
 ·rw[<- vf];exact(h2 u').trans (vW _ h')):P:=h
theorem zCP {P:Prop}(h:P:=by
 refine ae ?_;refine⟨⟨inside,n,b,t,_,_⟩,⟨⟨_,_,rfl⟩,?_⟩,ZU,ZI⟩;simp[jL,sm]):P:=h
theorem zCQ {P:Prop}(h:P:=by
 simp only[kT]at hv;split at hv <;> try (cases hv;done)
 rename_i cs hx;simp at hv;subst hv;simp[execOp,Instr.field,kE hs,hf,hx,asAgg,part,dD hu,kZ hj]):P:=h
theorem zCR {P:Prop}(h:P:=by
 intro x hx;rw[<- KY]at hx;simp only[Es,QF,QJ]at hx;exact hx.1):P:=h
theorem zCS {P:Prop}(h:P:=by
 rw[Zf Zo];refine ae ?_;refine⟨.inr rfl,_,_,.tmp Zr .nil,ZI,?_,rfl⟩;have h2:¬(c.toNat::r).length<=40:=by rw[<- hr];omega
 simp only[bJ,hr,Zf h2,vJ]):P:=h
theorem zCT {P:Prop}(h:P:=by
 rcases QC.1 hx with rfl|hx
 ·exact⟨rfl,_,_,_,_,hb,Zs,Zo⟩
 ·obtain⟨i,v,hi,rfl⟩:=kI.1 hx;exact⟨rfl,_,_,_,_,hb,by simpa using hi,Zo⟩):P:=h
theorem zCU {P:Prop}(h:P:=by
 refine ae ?_;exact kG (Post:=[A]) (.inr rfl) (.tmp Zr .nil) ⟨by simp[bJ,h1],rfl⟩ ZI):P:=h
theorem zCV {P:Prop}(h:P:=by
 intro F w hs;refine⟨h.1,?_⟩;have au:first++args.toArray++cap=(first.toList++args++cap.toList).toArray:=by
  apply vC.1;simp
 rw[au];exact h.2 F w hs):P:=h
theorem zCW {P:Prop}(h:P:=by
 rw[Zf (show ¬(s.size:Int) ≥ 1 by omega)];refine ae ?_;refine⟨.inr rfl,_,_,.tmp Zr .nil,ZI,?_,rfl⟩;have:kB s=[]:=Vx.1 Zo;simp[bJ,this]):P:=h
theorem zCX {P:Prop}(h:P:=by
 obtain⟨d,m2,he,rfl,rfl⟩:=hv;simp only[aH];refine ae ?_;refine jM (kG (Post:=[A,aW lb (m0||m2) deep]) (.inr rfl) (.tmp Zr .nil) ⟨d,m2,he,rfl,rfl⟩ ZI)):P:=h
theorem zCY {P:Prop}(h:P:=by
 simp only[z5,Qu]at h;obtain⟨x,h1,rfl⟩:=h;exact⟨b,rfl,h1⟩):P:=h
theorem zCZ {P:Prop}(h:P:=by
 obtain⟨hb,rfl,m2,rfl⟩:=hz;exact⟨[A,aW lb m2 deep],ZI,by simp[bU,zB.ok,jr,kP,wY,Lt.kind,Lt.n,Lt.bits,Lt.text,Lt.items,DX,hb],rfl,m2,rfl⟩):P:=h
theorem zD0 {P:Prop}(h:P:=by
 simp only[iN,QC,QA]at h;simp only[kT,h x (.inl rfl),gX (fun y hy=>h y (.inr (.inl hy))),gX (fun y hy=>h y (.inr (.inr hy)))]):P:=h
theorem zD1 {P:Prop}(h:P:=by
 simp only[jU];refine Q6 (fun p hp=>?_);obtain⟨a,b,c⟩:=p;have hc:=vZ.1 hk c (QH.2 ⟨_,hp,rfl⟩);simp[No hc aK]):P:=h
theorem zD2 {P:Prop}(h:P:=by
 intro e he;rw[Array.toList_push,QA]at he;rcases he with he|he
 ·exact Nat.lt_succ_of_lt (h.clock e he)
 ·rw[QK.1 he];exact Ql c):P:=h
theorem zD3 {P:Prop}(h:P:=by
 obtain⟨hb,rfl,m2,rfl⟩:=hz;exact⟨[A,aW lb m2 deep],ZI,by simp[bU,zB.ok,jr,kP,wY,Lt.kind,Lt.n,Lt.bits,Lt.text,Lt.items,hb],rfl,m2,rfl⟩):P:=h
theorem zD4 {P:Prop}(h:P:=by
 rcases Qf w.heap.size with h0|h
 ·simp[World.cell?,h0]at hg
 ·exact h):P:=h
theorem zD5 {P:Prop}(h:P:=by
 cases agg with
 |true=>simp only[if_true]at h|-;cases h;simp[Array.map_extract]
 |false=>simp only[vK,if_false]at h|-;exact lW h):P:=h
theorem zD6 {P:Prop}(h:P:=by
 refine Zw _ ?_;simp only[ai,j7];exact Zw _ (mS hr.w (aA i hi) y hy)):P:=h
theorem zD7 {P:Prop}(h:P:=by
 refine ae ?_;refine kG (.inr rfl) (.tmp Zr .nil) ⟨by simp[bJ,h0,Mr],rfl⟩ ZI):P:=h
theorem zD8 {P:Prop}(h:P:=by
 obtain⟨h1,h2⟩:=Vm.1 hy;rw[vp h1,h2]):P:=h
theorem zD9 {P:Prop}(h:P:=by
 rw[<- vf];exact gU.perm (hs.append_right F)):P:=h
theorem zDA {P:Prop}(h:P:=by
 rw[show decide ((k:Int)=4)=false from Zf Zo];refine ae ?_;refine kG (Post:=[]) (.inr rfl) (.tmp Zr .nil) ⟨by simp[bJ,ew,h3,h4,h5],rfl⟩ ZI):P:=h
theorem zDB {P:Prop}(h:P:=by
 simp only[Instr.mapUpdate,Sem.run_bind,kE hu,Result.andThen_ok,hx,JN,yB hd EW,run_findKey hd EW hf];simpa[kf]using h2):P:=h
theorem zDC {P:Prop}(h:P:=by
 have h5:=hb.str s.data.toList;have e2:s.data.toList.length=s.size:=by simp
 omega):P:=h
theorem zDD {P:Prop}(h:P:=by
 obtain⟨g1,g2,g3⟩:=zC h1 hi;exact⟨g1,g3⟩):P:=h
theorem zDE {P:Prop}(h:P:=by
 rename_i i hu hi;simp only[wI,Qy]at hs;subst hs;simpa[execOp,Instr.loadAt,loadVar,dD hu,kZ hi,kf]using hr):P:=h
theorem zDF {P:Prop}(h:P:=by
 refine ae ?_;exact kG (Post:=[S]) (.inr rfl) (.tmp Zr .nil) ⟨rfl,rfl⟩ ZI):P:=h
theorem zDG {P:Prop}(h:P:=by
 split
 ·rfl
 ·split
  ·simp only;split
   ·exact hw _
   ·rfl
  ·split
   ·rfl
   ·simp only;split
    ·rfl
    ·exact hw _):P:=h
theorem zDH {P:Prop}(h:P:=by
 exact⟨a1,by simp only[PN.w,Q0];omega⟩):P:=h
theorem zDI {P:Prop}(h:P:=by
 rw[vp aO]
 congr 1
 exact(Vm.1 hy).2):P:=h
theorem zDJ {P:Prop}(h:P:=by
 refine ae ?_;exact⟨.inr rfl,_,_,.aJ (us:=[cv 0,vi 0,uv 0,.string ⟨#[]⟩,.slice none 0 0]) Zr Zr GV (.tmp Zr .nil),ZI,JB hb,rfl⟩):P:=h
theorem zDK {P:Prop}(h:P:=by
 obtain⟨t,rfl⟩:=hq;show(qs++t).getD v 0=qs.getD v 0;rw[Vb,Vb,Vd hv]):P:=h
theorem zDL {P:Prop}(h:P:=by
 rcases QC.1 hy with rfl|hy
 ·exact qV (h _ (QE ..))
 ·exact ih (fun r hr=>h r (QD _ hr)) y hy):P:=h
theorem zDM {P:Prop}(h:P:=by
 cases G3:x.kids with
 |nil=>rw[G3]at E3;cases E3
 |cons y l=>rw[G3]at E3;obtain rfl:y=r:=by simpa using E3
            rfl):P:=h
theorem zDN {P:Prop}(h:P:=by
 refine⟨h3,?_⟩;simp only[wE,vF];exact⟨iO (fun v hv=>gB (wn F G r _ env u) u v hv) _ h2,h4⟩):P:=h
theorem zDO {P:Prop}(h:P:=by
 rw[Array.toList_push,List.pairwise_append];refine⟨h.born,Zs,fun a ha b hb=>?_⟩;rw[QK.1 hb];exact h.clock a ha):P:=h
theorem zDP {P:Prop}(h:P:=by
 have:=h.nodup;simp only[Q7,QN,QH,not_exists,not_and]at this;intro e;exact this.1 x hx e.symm):P:=h
theorem zDQ {P:Prop}(h:P:=by
 exact leaf _ _ fun h=>by simp only[decide_eq_true_eq]at h;exact⟨vt h.2.2.2.2,Zo,by simp;omega⟩):P:=h
theorem zDR {P:Prop}(h:P:=by
 exact vV _ QP):P:=h
theorem zDS {P:Prop}(h:P:=by
 refine ae ?_;exact kG (Post:=[A]) (.inr rfl) (.tmp Zr .nil) ⟨r,rfl,i2,by unfold wB;omega,fun _=>by omega,rfl⟩ ZI):P:=h
theorem zDT {P:Prop}(h:P:=by
 obtain⟨⟨a,z,k5,k6⟩,k7⟩:=k3 p hp;obtain⟨z',k8,k9⟩:=dY k5;exact⟨⟨a,z',k8,k6.trans k9.symm⟩,k7⟩):P:=h
theorem zDU {P:Prop}(h:P:=by
 rename_i sk E7;obtain⟨d,hd,EW⟩:=Rw E7;simp only[wI,Qy]at hs;subst hs;exact W0 hu hd EW hr):P:=h
theorem zDV {P:Prop}(h:P:=by
 obtain⟨q1,Mq,p1,eC,rfl,rfl⟩:=hz;exact⟨[X.S,j9 q1 Mq p1],ZI,q1,Mq,p1,by rw[hP];exact eC,rfl,rfl⟩):P:=h
theorem zDW {P:Prop}(h:P:=by
 simp only[hx,Sem.run_bind,JN,Result.andThen_ok,yB hd EW,run_findKey hd EW hf];simpa[kf]using h2):P:=h
theorem zDX {P:Prop}(h:P:=by
 simp only[IntKind.wrap,IntKind.bits,IntKind.signed];simp;omega):P:=h
theorem zDY {P:Prop}(h:P:=by
 rw[Vb,Zg (by rw[hr.len];exact hi)];rfl):P:=h
theorem zDZ {P:Prop}(h:P:=by
 subst hH;exact qP (bj 15 Zd _ rfl) (Rz (bj 17 Zd _ rfl) rfl (by simp only[Ms]) (VO.nil ⟨rfl,rfl,trivial⟩))):P:=h
theorem zE0 {P:Prop}(h:P:=by
 have:=(QF.1 hi).1;simp only[QA,QC]at this|-;rcases this with h|h <;> simp[h]):P:=h
theorem zE1 {P:Prop}(h:P:=by
 simp only[aH];refine ae ?_;exact kG (Post:=[B']) (.inr rfl) .nil ⟨rfl,.inr ⟨_,B',aM,hB',rfl⟩⟩ ZI):P:=h
theorem zE2 {P:Prop}(h:P:=by
 cases e with
 |returned v=>exact⟨a.defers,v,w1,hR⟩
 |panicked c=>exact hR.elim
 |outgrown=>exact hR.elim):P:=h
theorem zE3 {P:Prop}(h:P:=by
 refine ae ?_;exact kG (Post:=[A]) (.inr rfl) (.tmp Zr .nil) ⟨_,rfl,fun hh=>(by simp at hh),rfl⟩ ZI):P:=h
theorem zE4 {P:Prop}(h:P:=by
 refine ae ?_;refine kY Zr (fun q=>?_);simp only[Value.cells];refine ae ?_;exact⟨q,trivial,ZU,ZI⟩):P:=h
theorem zE5 {P:Prop}(h:P:=by
 refine ae ?_;exact⟨(j+1,M),⟨by simp only;omega,by simp only;omega⟩,by simp only;omega,ZU,ZI⟩):P:=h
theorem zE6 {P:Prop}(h:P:=by
 cases r with
 |none=>simp[kb hi hiz,ug]
 |some p=>obtain⟨j,v⟩:=p;simp[ug]):P:=h
theorem zE7 {P:Prop}(h:P:=by
 refine ae ?_;exact kG (Post:=[A]) (.inr rfl) (.tmp Zr .nil) ⟨congrArg Value.bool xB,rfl⟩ (hA ZI)):P:=h
theorem zE8 {P:Prop}(h:P:=by
 obtain⟨_,bm,Rr,Q2,Sr,NZ,ep⟩:=q;exact go .returning .returning bm Rr Q2 Zs rfl Sr NZ ep):P:=h
theorem zE9 {P:Prop}(h:P:=by
 have ge:es[j]=e:=by rw[v7 g2']at this;exact Qx this
 simp[g2',ge]):P:=h
theorem zEA {P:Prop}(h:P:=by
 simp only[z5]at h;split at h
 case h_2=>cases h
 rename_i x y h1 h2;cases h;exact⟨a,b,rfl,h1,h2⟩):P:=h
theorem zEB {P:Prop}(h:P:=by
 simp[Instr.takeDeferred,Go.getObj,Go.setObj,Sem.run,k1]):P:=h
theorem zEC {P:Prop}(h:P:=by
 refine Dn (fun b=>⟨_,_,.inl rfl,?_,h b⟩);simp):P:=h
theorem zED {P:Prop}(h:P:=by
 rw[AX Zo]at i3;refine ae ?_;refine⟨.inr rfl,_,_,.tmp Zr .nil,ZI,?_,rfl⟩;rw[<- i3];rfl):P:=h
theorem zEE {P:Prop}(h:P:=by
 rcases vQ.1 hc with hc|hc <;> (simp only[eR,vF]at hc;exact hc.1.1.1)):P:=h
theorem zEF {P:Prop}(h:P:=by
 intro hl st env u;simp only[Nd.aw]at hl;rw[wX];exact(ih x Zo st env u).1.trans (xI Zo _ env u)):P:=h
theorem zEG {P:Prop}(h:P:=by
 cases kids with
 |nil=>exact hk
 |cons x r=>simp only[Nd.aw]at hk;simp only[List.tail_cons];omega):P:=h
theorem zEH {P:Prop}(h:P:=by
 rw[vf]at this;exact this.sub ((List.Sublist.refl _).append (List.sublist_append_right _ _))):P:=h
theorem zEI {P:Prop}(h:P:=by
 refine ae ?_;refine⟨⟨false,0,b,t,_,_⟩,⟨⟨_,_,rfl⟩,?_⟩,ZU,ZI⟩;simp[jL,sm,h1]):P:=h
theorem zEJ {P:Prop}(h:P:=by
 rcases QA.1 G7 with h1|h1
 ·exact h.w r' h1
 ·rw[QK.1 h1];exact hx.len):P:=h
theorem zEK {P:Prop}(h:P:=by
 refine ae ?_;refine kG (Post:=[]) (.inr rfl) (.tmp Zr .nil) ⟨by simp[bJ,lD,h],rfl⟩ ZI):P:=h
theorem zEL {P:Prop}(h:P:=by
 refine ae ?_;exact kG (Post:=[A]) (.inr rfl) (.tmp Zr .nil) ⟨by rw[stop _ Zs];rfl,rfl⟩ ZI):P:=h
theorem zEM {P:Prop}(h:P:=by
 rw[show decide ((y.kind:Int)=9)=false from Zf Zo];refine ae ?_;exact⟨by simp[k9],ZU,ZI⟩):P:=h
theorem zEN {P:Prop}(h:P:=by
 simp only[V9,VV,vg];exact vV _ h9.symm):P:=h
theorem zEO {P:Prop}(h:P:=by
 have:=(Vm.1 hx).1;simp only[Vu,Q0]at this;omega):P:=h
theorem zEP {P:Prop}(h:P:=by
 obtain⟨c,t,lo,hi,hb,hn⟩:=hh;exact⟨c,t,lo,hi,by rw[h.block b hl];exact hb,hn⟩):P:=h
theorem zEQ {P:Prop}(h:P:=by
 apply vC.1;rw[vD,h3,hm]):P:=h
theorem Zo {P:Prop}(h:P:=by omega):P:=h
theorem Zr {P:Prop}(h:P:=by rfl):P:=h
theorem Zd {P:Prop}(h:P:=by decide):P:=h
theorem Zs {P:Prop}(h:P:=by simp):P:=h
theorem ZI {P:Prop}(h:P:=by exact bQ):P:=h
theorem ZP {P:Prop}(h:P:=by exact SPx):P:=h
theorem ZU {P:Prop}(h:P:=by exact tX):P:=h
theorem ZK {P:Prop}(h:P:=by exact TKx):P:=h
theorem Xe {P:Prop}(h:P:=by(focus ((repeat (first|(apply D9.cells;omega;(focus (simp only[Vu,Q0,Nat.reduceAdd,Qo,Nat.reduceSub,Qn,Nat.reduceLeDiff,Qh];done));(focus (simp only[SE,Value.cells,Qo,Nat.reduceEqDiff,↓reduceIte,eq_self,Nat.reduceAdd,Nat.reduceSub,Qn,Nat.reduceLeDiff,Qh,and_self,rep,kq] <;> rfl));rfl)|apply D9.there));first|done|fail))):P:=h
theorem Zac {P:Prop}(h:P:=by(focus ((repeat (first|(apply Mo.cells;omega;(focus (simp only[Vu,Q0,Nat.reduceAdd,Qo,Nat.reduceSub,Qn,Nat.reduceLeDiff,Qh];done));(focus (simp only[SE,Value.cells,Qo,Nat.reduceEqDiff,↓reduceIte,eq_self,Nat.reduceAdd,Nat.reduceSub,Qn,Nat.reduceLeDiff,Qh,and_self,rep,kq] <;> rfl)))|apply Mo.there));first|done|fail))):P:=h
theorem Zl {P:Prop}(h:P:=by(first|exact ltM|(focus (apply ltB;(repeat' (first|exact modM|apply orC|apply SV|apply divC|omega));done))|omega)):P:=h
theorem Zz {P:Prop}(h:P:=by((try simp only[Qo,Qd,Nat.reduceAdd,Nat.reduceMul,Qc,vT,Nat.mul_one]);rfl)):P:=h
theorem Zi {P:Prop}(h:P:=by(first|with_reducible exact vT _|((try simp only[Int.reduceToNat]);rfl))):P:=h
theorem Zh {P:Prop}(h:P:=by(focus ((repeat (first|(apply Has.cells;omega;rfl)|apply Has.there));first|done|fail))):P:=h
theorem Zm {P:Prop}(h:P:=by(focus ((repeat (first|(apply Has.among;assumption)|apply Has.there));first|done|fail))):P:=h
theorem Zax {P:Prop}(h:P:=by first|exact .here|exact .there .here|exact .there (.there .here)|exact .there (.there (.there .here))|exact .there (.there (.there (.there .here)))|exact .there (.there (.there (.there (.there .here))))|exact .there (.there (.there (.there (.there (.there .here)))))):P:=h
theorem Zaw {P:Prop}(h:P:=by rw[World.frozen?_alloc_old _ _ t (by simp;omega),World.frozen?_alloc_old _ _ t (by simp;omega),World.frozen?_alloc_old _ _ t (by simp;omega),World.frozen?_alloc_old _ _ t (Nat.ne_of_lt ue)];exact hf0):P:=h
theorem Zav {P:Prop}(h:P:=by rw[World.cell?_alloc_lt _ _ t (by simp;omega),World.cell?_alloc_lt _ _ t (by simp;omega),World.cell?_alloc_lt _ _ t (by simp;omega),World.cell?_alloc_lt _ _ t ue];exact T7):P:=h
theorem Zao {P:Prop}(h:P:=by simp only[V.nQ,V.ev,bj 36 (by decide) _ rfl,bj 37 (by decide) _ rfl,bj 39 (by decide) _ rfl]):P:=h
theorem Zap {P:Prop}(h:P:=by simp only[V.nQ,V.ev,bj 76 (by decide) _ rfl,bj 80 (by decide) _ rfl,bj 82 (by decide) _ rfl]):P:=h
theorem Zaq {P:Prop}(h:P:=by simp only[V.nQ,V.ev,bj 84 (by decide) _ rfl,bj 86 (by decide) _ rfl,bj 89 (by decide) _ rfl]):P:=h
theorem Zay {P:Prop}(h:P:=by(focus ((repeat (first|with_reducible exact uH.here|apply uH.there));done))):P:=h
theorem Zau {P:Prop}(h:P:=by simp only[V.nQ,V.ev,bj 19 (by decide) _ rfl]):P:=h
theorem Zat {P:Prop}(h:P:=by simp only[V.nQ,V.ev,bj 4 (by decide) _ rfl]):P:=h
theorem Zar {P:Prop}(h:P:=by simp only[V.ev,bj 83 (by decide) _ rfl]):P:=h
theorem Zas {P:Prop}(h:P:=by simp only[V.ev,bj 90 (by decide) _ rfl]):P:=h
theorem Ji {P:Prop}(h:P:=by simp[kA]):P:=h
theorem ru {P:Prop}(h:P:=by simp;omega):P:=h
theorem Hk {P:Prop}(h:P:=by simp[zg]):P:=h
theorem Zae {P:Prop}(h:P:=by exact(VO.nil ⟨rfl,⟨mz,ao.refl _⟩,trivial⟩)):P:=h
theorem Ef {P:Prop}(h:P:=by exact(VO.nil ⟨rfl,rfl,trivial⟩)):P:=h
theorem GV {P:Prop}(h:P:=by exact(fun x hx=>by simp only[V9,QA];first|exact .inl hx|exact .inr (.inl hx))):P:=h
theorem Cv {P:Prop}(h:P:=by exact(fun z hz=>List.mem_append_left _ (cH z hz))):P:=h
theorem Zai {P:Prop}(h:P:=by exact(fun v Post hv=>absurd hv.1 (by decide))):P:=h
theorem GW {P:Prop}(h:P:=by exact(fun ch Post hz=>absurd hz.1 (by decide))):P:=h
theorem Zak {P:Prop}(h:P:=by exact(fun y hy=>by simp only[V9,QA];first|exact .inl hy|exact .inr (.inl hy)|exact .inr (.inr (.inl hy)))):P:=h
theorem Eg {P:Prop}(h:P:=by exact⟨rfl,fun a ha=>by simp only[V9,QA];exact .inl ha⟩):P:=h
theorem Zf {p:Prop}[Decidable p](h:¬p):decide p=false:=decide_eq_false h
theorem Zt {p:Prop}[Decidable p](h:p):decide p=true:=decide_eq_true h
theorem Zg {α:Type _}{l:List α}{i:Nat}(h:i < l.length):l[i]? =some l[i]:=List.getElem?_eq_getElem h
theorem Zv {α:Type _}{l:List α}{i:Nat}{a:α}(h:l[i]? =some a):a∈l:=List.mem_of_getElem? h
theorem Zw {α:Type _}{a:α}{s:List α}(t:List α)(h:a∈s):a∈s++t:=List.mem_append_left t h
end Go
namespace Go.V
open Go
inductive kC where
 |cell (b off:Nat) (v:Value)
 |obj (b:Nat) (o:Obj)
 |row (b n:Nat)
 |own (b n:Nat)
def kC.loc:kC->Nat×Option Nat
 |.cell b off _=>(b,some off)
 |.obj b _=>(b,none)
 |.row b _=>(b,none)
 |.own b n=>(b,some n)
def wm:Obj->Bool
 |.cells .. =>true
 |_=>false
def kC.holds(w:World):kC->Prop
 |.cell b off v=>∃c t lo hi,w.heap[b]? =some (Obj.cells c t (lo,hi))/\c[off]? =some v/\¬(lo<=off/\off < hi)
 |.obj b o=>w.heap[b]? =some o/\wm o=false
 |.row b n=>∃c t lo hi,w.heap[b]? =some (Obj.cells c t (lo,hi))/\c.size=n
 |.own b n=>∃c t lo hi,w.heap[b]? =some (Obj.cells c t (lo,hi))/\c.size=n/\¬(lo<=n/\n < hi)
structure Sat (w:World)(L:List kC):Prop where
 holds:∀x∈L,x.holds w
 nodup:(L.map kC.loc).Nodup
structure ku (w w':World):Prop where
 os:w'.os=w.os
 output:w'.output=w.output
 size:w.heap.size<=w'.heap.size
 cells:∀(i:Nat) c t lo hi,w.heap[i]? =some (Obj.cells c t (lo,hi))->∃c',w'.heap[i]? =some (Obj.cells c' t (lo,hi))/\c'.size=c.size/\∀j,lo<=j/\j < hi->c'[j]? =c[j]?
theorem ku.refl(w:World):ku w w:=⟨rfl,rfl,Qh _,fun _ c _ _ _ h=>⟨c,h,rfl,fun _ _=>rfl⟩⟩
theorem ku.trans {a b c:World}(h:ku a b)(k:ku b c):ku a c:=by
 refine⟨k.os.trans h.os,k.output.trans h.output,Qj h.size k.size,fun i x t lo hi hx=>?_⟩;obtain⟨y,hy,sy,fy⟩:=h.cells i x t lo hi hx;obtain⟨z,hz,sz,fz⟩:=k.cells i y t lo hi hy;exact⟨z,hz,sz.trans sy,fun j hj=>(fz j hj).trans (fy j hj)⟩
theorem ku.drawn {a b:World}(h:ku a b)(n:Nat):ku a {b with drawn:=n}:=⟨h.os,h.output,h.size,h.cells⟩
theorem Sat.drawn {w:World}{L:List kC}(h:Sat w L)(n:Nat):Sat {w with drawn:=n} L:=⟨fun x hx=>by
 have:=h.holds x hx;cases x <;> exact this,h.nodup⟩
theorem Sat.perm {w:World}{L M:List kC}(h:Sat w L)(p:L.Perm M):Sat w M:=
 ⟨fun x hx=>h.holds x (p.mem_iff.2 hx),(p.map kC.loc).nodup_iff.1 h.nodup⟩
theorem Sat.sub {w:World}{L M:List kC}(h:Sat w L)(p:M.Sublist L):Sat w M:=
 ⟨fun x hx=>h.holds x (p.subset hx),(p.map kC.loc).nodup h.nodup⟩
theorem Sat.left {w:World}{L M:List kC}(h:Sat w (L++M)):Sat w L:=h.sub (List.sublist_append_left L M)
theorem Sat.lt {w:World}{L:List kC}(h:Sat w L){x:kC}(hx:x∈L):x.loc.1 < w.heap.size:=by
 have:=h.holds x hx;cases x with
 |cell b off v=>obtain⟨c,t,lo,hi,hb,_⟩:=this;exact(v8.1 hb).1
 |obj b o=>exact(v8.1 this.1).1
 |row b n=>obtain⟨c,t,lo,hi,hb,_⟩:=this;exact(v8.1 hb).1
 |own b n=>obtain⟨c,t,lo,hi,hb,_⟩:=this;exact(v8.1 hb).1
theorem Sat.cell {w:World}{L:List kC}(h:Sat w L){b off:Nat}{v:Value}(hx:kC.cell b off v∈L):
 w.cell? ⟨b,off,none⟩=some v/\w.frozen? ⟨b,off,none⟩=false:=by
 obtain⟨c,t,lo,hi,hb,hc,hf⟩:=h.holds _ hx;refine⟨by simp[World.cell?,hb,hc],?_⟩;simp only[World.frozen?,hb];simp only[vE,decide_eq_false_iff_not];by_cases h1:lo<=off
 ·right;intro h2;exact hf ⟨h1,h2⟩
 ·left;exact h1
theorem Sat.obj {w:World}{L:List kC}(h:Sat w L){b:Nat}{o:Obj}(hx:kC.obj b o∈L):w.heap[b]? =some o/\wm o=false:=h.holds _ hx
theorem Sat.store {w:World}{L:List kC}{b off:Nat}{v u:Value}(h:Sat w (.cell b off v::L)):
 Sat (w.setCell ⟨b,off,none⟩ u) (.cell b off u::L)/\ku w (w.setCell ⟨b,off,none⟩ u):=by
 obtain⟨c,t,lo,hi,hb,hc,hf⟩:=h.holds _ (QE ..);have aO:off < c.size:=(v8.1 hc).1;have eY:∀i,(w.setCell ⟨b,off,none⟩ u).heap[i]? =if b=i then some (Obj.cells (c.setIfInBounds off u) t (lo,hi))else w.heap[i]?:=by
  intro i;simp only[World.setCell,v9];by_cases e:b=i
  ·subst e;simp[hb]
  ·simp[e]
 refine⟨⟨fun x hx=>?_,?_⟩,⟨rfl,rfl,by simp[World.setCell],fun i c' t' Bn cj Zp=>?_⟩⟩
 ·rcases QC.1 hx with rfl|hx
  ·exact⟨c.setIfInBounds off u,t,lo,hi,by rw[eY];simp,by simp[aO],hf⟩
  ·have ck:(b,some off)≠x.loc:=by
    exact zDP
   have hh:=h.holds x (QD _ hx);cases x with
   |cell b' off' v'=>
    obtain⟨c',t',Bn,cj,nR,KU,hf'⟩:=hh;by_cases e:b=b'
    ·subst e;rw[hb]at nR;obtain⟨rfl,rfl,rfl,rfl⟩:c=c'/\t=t'/\lo=Bn/\hi=cj:=by simpa using nR
     have hoff:off≠off':=fun e=>ck (by simp[kC.loc,e])
     exact⟨c.setIfInBounds off u,t,lo,hi,by rw[eY];simp,by simp[vA hoff,KU],hf'⟩
    ·exact⟨c',t',Bn,cj,by rw[eY];simp[e,nR],KU,hf'⟩
   |obj b' o=>
    obtain⟨nR,ho⟩:=hh;have e:b≠b':=fun e=>by
     subst e;rw[hb]at nR;cases nR;simp[wm]at ho
    exact⟨by rw[eY];simp[e,nR],ho⟩
   |row b' n=>
    obtain⟨c',t',Bn,cj,nR,hn⟩:=hh;by_cases e:b=b'
    ·subst e;rw[hb]at nR;obtain⟨rfl,rfl,rfl,rfl⟩:c=c'/\t=t'/\lo=Bn/\hi=cj:=by simpa using nR
     exact⟨c.setIfInBounds off u,t,lo,hi,by rw[eY];simp,by simpa using hn⟩
    ·exact⟨c',t',Bn,cj,by rw[eY];simp[e,nR],hn⟩
   |own b' n=>
    obtain⟨c',t',Bn,cj,nR,hn,hf'⟩:=hh;by_cases e:b=b'
    ·subst e;rw[hb]at nR;obtain⟨rfl,rfl,rfl,rfl⟩:c=c'/\t=t'/\lo=Bn/\hi=cj:=by simpa using nR
     exact⟨c.setIfInBounds off u,t,lo,hi,by rw[eY];simp,by simpa using hn,hf'⟩
    ·exact⟨c',t',Bn,cj,by rw[eY];simp[e,nR],hn,hf'⟩
 ·have:=h.nodup;simpa[kC.loc]using this
 ·rw[eY];by_cases e:b=i
  ·subst e;rw[hb]at Zp;obtain⟨rfl,rfl,rfl,rfl⟩:c=c'/\t=t'/\lo=Bn/\hi=cj:=by simpa using Zp
   refine⟨c.setIfInBounds off u,Zs,Zs,fun j hj=>?_⟩;have ck:off≠j:=fun e=>hf (e ▸ hj)
   simp[vA ck]
  ·simp[e,Zp]
def kA(b:Nat):Nat->List Value->List kC
 |_,[]=>[]
 |off,v::r=>.cell b off v::kA b (off+1) r
theorem kI {b:Nat}{x:kC}:∀{off:Nat} {vs:List Value},x∈kA b off vs↔∃i v,vs[i]? =some v/\x=.cell b (off+i) v:=by
 intro off vs
 induction vs generalizing off with
 |nil=>simp[kA]
 |cons u r ih=>
  simp only[kA,QC,ih];constructor
  ·rintro(rfl|⟨i,v,h,rfl⟩)
   ·exact⟨0,u,rfl,rfl⟩
   ·exact⟨i+1,v,by simpa using h,by simp;omega⟩
  ·rintro⟨i,v,h,rfl⟩
   cases i with
   |zero=>left;simp at h;simp[h]
   |succ i=>right;exact⟨i,v,by simpa using h,by simp;omega⟩
theorem de(b:Nat)(vs:List Value):∀off,((kA b off vs).map kC.loc).Nodup:=by
 induction vs with
 |nil=>intro off;simp[kA]
 |cons u r ih=>
  intro off;simp only[kA,Q7,QN,ih,and_true];simp only[QH,not_exists,not_and];intro x hx e;obtain⟨i,v,_,rfl⟩:=kI.1 hx;simp[kC.loc]at e;omega
theorem Sat.push {w:World}{L:List kC}(h:Sat w L)(o:Obj)(M:List kC)(hM:∀x∈M,x.loc.1=w.heap.size/\x.holds {w with heap:=w.heap.push o})
 (hn:(M.map kC.loc).Nodup):Sat {w with heap:=w.heap.push o} (M++L)/\ku w {w with heap:=w.heap.push o}:=by
 have hold:∀i,i < w.heap.size->(w.heap.push o)[i]? =w.heap[i]?:=fun i hi=>by
  rw[Array.getElem?_push];simp[Nat.ne_of_lt hi]
 refine⟨⟨fun x hx=>?_,?_⟩,⟨rfl,rfl,Zs,fun i c t lo hi cj=>?_⟩⟩
 ·rcases QA.1 hx with hx|hx
  ·exact(hM x hx).2
  ·have hl:=h.lt hx;have:=h.holds x hx;cases x with
   |cell b off v=>obtain⟨c,t,lo,hi,hb,r⟩:=this;exact⟨c,t,lo,hi,by simpa[hold b hl]using hb,r⟩
   |obj b o'=>exact⟨by simpa[hold b hl]using this.1,this.2⟩
   |row b n=>obtain⟨c,t,lo,hi,hb,hn⟩:=this;exact⟨c,t,lo,hi,by simpa[hold b hl]using hb,hn⟩
   |own b n=>obtain⟨c,t,lo,hi,hb,hn⟩:=this;exact⟨c,t,lo,hi,by simpa[hold b hl]using hb,hn⟩
 ·rw[Q5,QM];refine⟨hn,h.nodup,fun x hx y hy e=>?_⟩;obtain⟨m,hm,rfl⟩:=QH.1 hx;obtain⟨l,hl,rfl⟩:=QH.1 hy;have h1:=(hM m hm).1;have h2:=h.lt hl;rw[e]at h1;omega
 ·have hl:i < w.heap.size:=(v8.1 cj).1;exact⟨c,by simpa[hold i hl]using cj,rfl,fun _ _=>rfl⟩
theorem Sat.OZ {w:World}{L:List kC}(h:Sat w L)(c:Array Value)(t:TypeId):
 Sat {w with heap:=w.heap.push (.cells c t)} (kA w.heap.size 0 c.toList++L)/\ku w {w with heap:=w.heap.push (.cells c t)}:=by
 refine h.push _ _ (fun x hx=>?_) (de _ _ _);obtain⟨i,v,hi,rfl⟩:=kI.1 hx;exact⟨rfl,c,t,0,0,Zs,by simpa using hi,Zs⟩
theorem Sat.newObj {w:World}{L:List kC}(h:Sat w L)(o:Obj)(ho:wm o=false):
 Sat {w with heap:=w.heap.push o} (.obj w.heap.size o::L)/\ku w {w with heap:=w.heap.push o}:=by
 refine h.push o [.obj w.heap.size o] (fun x hx=>?_) Zs;rw[QK.1 hx];exact⟨rfl,Zs,ho⟩
theorem Sat.setObj {w:World}{L:List kC}{b:Nat}{o u:Obj}(h:Sat w (.obj b o::L))(hu:wm u=false):
 Sat {w with heap:=w.heap.setIfInBounds b u} (.obj b u::L)/\ku w {w with heap:=w.heap.setIfInBounds b u}:=by
 obtain⟨hb,ho⟩:=h.holds _ (QE ..);have aO:b < w.heap.size:=(v8.1 hb).1;have eY:∀i,(w.heap.setIfInBounds b u)[i]? =if b=i then some u else w.heap[i]?:=by
  intro i;by_cases e:b=i
  ·subst e;simp[aO]
  ·simp[vA e,e]
 refine⟨⟨fun x hx=>?_,?_⟩,⟨rfl,rfl,Zs,fun i c t lo hi cj=>?_⟩⟩
 ·rcases QC.1 hx with rfl|hx
  ·exact⟨by simp[aO],hu⟩
  ·have ck:(b,none)≠x.loc:=by
    exact zDP
   have hh:=h.holds x (QD _ hx);cases x with
   |cell b' off' v'=>
    obtain⟨c',t',Bn,cj,nR,r⟩:=hh;have e:b≠b':=fun e=>by subst e;rw[hb]at nR;cases nR;cases ho
    exact⟨c',t',Bn,cj,by simpa[eY,e]using nR,r⟩
   |obj b' o'=>
    have e:b≠b':=fun e=>ck (by simp[kC.loc,e])
    exact⟨by simpa[eY,e]using hh.1,hh.2⟩
   |row b' n=>
    have e:b≠b':=fun e=>ck (by simp[kC.loc,e])
    obtain⟨c',t',Bn,cj,nR,hn⟩:=hh;exact⟨c',t',Bn,cj,by simpa[eY,e]using nR,hn⟩
   |own b' n=>
    obtain⟨c',t',Bn,cj,nR,hn⟩:=hh;have e:b≠b':=fun e=>by subst e;rw[hb]at nR;cases nR;cases ho
    exact⟨c',t',Bn,cj,by simpa[eY,e]using nR,hn⟩
 ·have:=h.nodup;simpa[kC.loc]using this
 ·have e:b≠i:=fun e=>by subst e;rw[hb]at cj;cases cj;cases ho
  exact⟨c,by simpa[eY,e]using cj,rfl,fun _ _=>rfl⟩
def aG(P:Program){α:Type}(s:Sem α)(H:List kC)(K:α->List kC->Prop):Prop:=
 ∀F w,Sat w (H++F)->∃v w' H',s.run P w=.ok v w'/\K v H'/\Sat w' (H'++F)/\ku w w'
section
variable {P:Program} {α β:Type} {H:List kC} {K:α->List kC->Prop}
theorem aG.pure {v:α}(h:K v H):aG P (Pure.pure v) H K:=fun _ w hs=>⟨v,w,H,rfl,h,hs,.refl w⟩
theorem aG.bind {s:Sem α}{f:α->Sem β}{K:β->List kC->Prop}(h:aG P s H fun v H'=>aG P (f v) H' K):aG P (s >>=f) H K:=by
 intro F w hs;obtain⟨v,w1,H1,h1,h2,h3,h4⟩:=h F w hs;obtain⟨u,w2,H2,k1,k2,k3,k4⟩:=h2 F w1 h3;exact⟨u,w2,H2,by simp[h1,k1],k2,k3,h4.trans k4⟩
theorem aG.mono {s:Sem α}{K':α->List kC->Prop}(h:aG P s H K)(hk:∀v H',K v H'->K' v H'):aG P s H K':=fun F w hs=>
 let⟨v,w',H',a,b,c⟩:=h F w hs;⟨v,w',H',a,hk _ _ b,c⟩
theorem aG.perm {s:Sem α}{H':List kC}(p:H.Perm H')(h:aG P s H' K):aG P s H K:=fun F w hs=>
 h F w (hs.perm (p.append_right F))
theorem aG.load {b off:Nat}{v:Value}{K:Value->List kC->Prop}(hx:kC.cell b off v∈H)(h:K v H):aG P (Go.load ⟨b,off,none⟩) H K:=fun F w hs=>by
 have:=(hs.cell (Zw F hx)).1;exact⟨v,w,H,by simp[Go.load,Sem.run,this],h,hs,.refl w⟩
def jo:Value->Bool
 |.agg _|.tuple _=>false
 |_=>true
theorem aG.store {b off:Nat}{v u:Value}{K:Unit->List kC->Prop}(hu:jo u=true)(h:K () (.cell b off u::H)):
 aG P (Go.store ⟨b,off,none⟩ u) (.cell b off v::H) K:=fun F w hs=>by
 have hc:=hs.cell (Zw F (QE (a:=kC.cell b off v) (l:=H)));obtain⟨s1,s2⟩:=Sat.store (u:=u) (L:=H++F) (by simpa using hs);refine⟨(),_,_,?_,h,s1,s2⟩;cases u <;> simp_all [Go.store,Sem.run,jo]
theorem aG.Lv {c:Array Value}{t:TypeId}{K:Nat->List kC->Prop}(h:∀b,K b (kA b 0 c.toList++H)):aG P (Go.newObj (.cells c t)) H K:=fun F w hs=>by
 obtain⟨s1,s2⟩:=hs.OZ c t;exact⟨w.heap.size,_,_,by simp[Go.newObj,Sem.run],h _,by rw[vf];exact s1,s2⟩
theorem aG.UD {o:Obj}{K:Nat->List kC->Prop}(ho:wm o=false)(h:∀b,K b (.obj b o::H)):aG P (Go.newObj o) H K:=fun F w hs=>by
 obtain⟨s1,s2⟩:=hs.newObj o ho;exact⟨w.heap.size,_,_,by simp[Go.newObj,Sem.run],h _,s1,s2⟩
theorem aG.getObj {b:Nat}{o:Obj}{K:Obj->List kC->Prop}(hx:kC.obj b o∈H)(h:K o H):aG P (Go.getObj b) H K:=fun F w hs=>by
 obtain⟨h1,h2⟩:=hs.obj (Zw F hx);refine⟨o,w,H,?_,h,hs,.refl w⟩;cases o <;> simp_all [Go.getObj,Sem.run,wm]
theorem aG.setObj {b:Nat}{o u:Obj}{K:Unit->List kC->Prop}(hu:wm u=false)(h:K () (.obj b u::H)):aG P (Go.setObj b u) (.obj b o::H) K:=fun F w hs=>by
 obtain⟨h1,h2⟩:=hs.obj (Zw F (QE (a:=kC.obj b o) (l:=H)));obtain⟨s1,s2⟩:=Sat.setObj (u:=u) (L:=H++F) (by simpa using hs) hu;refine⟨(),_,_,?_,h,s1,s2⟩;cases o <;> simp_all [Go.setObj,Sem.run,wm]
theorem aG.choose {q:Question}{K:Nat->List kC->Prop}(h0:q.forced=true->K 0 H)(h:∀n,K (q.cut n) H):aG P (Go.choose q) H K:=fun F w hs=>by
 by_cases e:q.forced=true
 ·exact⟨0,w,H,by simp[Go.choose,Sem.run,e],h0 e,hs,.refl w⟩
 ·exact⟨_,_,H,by simp[Go.choose,Sem.run,e];exact⟨rfl,rfl⟩,h _,hs.drawn _,(ku.refl w).drawn _⟩
end
end Go.V

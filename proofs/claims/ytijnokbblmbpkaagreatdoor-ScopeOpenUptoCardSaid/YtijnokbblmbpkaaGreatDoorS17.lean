/-
  The names that are seen, as a map.
-/
import Derived.Test.YtijnokbblmbpkaaGreatDoorS16
import Derived.Test.YtijnokbblmbpkaaGreatDoorS7
set_option linter.all false
namespace Go.V
open Go
def ah.nameOf(st:ah)(v:Nat):ByteArray:=((st.vars[v]?).map (·.name)).getD e0
def tf(V:List ax)(v:Nat):Nat:=(V.getD v yP).q
def lB(st:ah)(V:List ax)(env:List Nat):List (ByteArray×Nat):=env.map fun v=>(st.nameOf v,tf V v)
structure z7 (st:ah)(V:List ax)(env:List Nat)(es:Array MapEntry)(c:Nat):Prop where
 is:zk yC (fun b=>kM (some b)) es c (lB st V env)
 lt:∀v∈env,v < st.vars.length
 one:(env.map st.nameOf).Nodup
theorem Nq {α:Type}(p:α->Bool):∀{l:List α} {x:α},x∈l->p x=true->(∀y∈l,p y=true->y=x)->l.reverse.find? p=some x:=fun {l x} hx hp hu=>by
 cases h:l.reverse.find? p with
 |none=>
  have:=List.find?_eq_none.1 h x (by simpa using hx);exact absurd hp this
 |some y=>
  have h1:=List.find?_some h;have h2:=List.mem_of_find?_eq_some h;rw[hu y (by simpa using h2) h1]
theorem At {α β:Type}{f:α->β}:∀{l:List α},(l.map f).Nodup->∀{x y:α},x∈l->y∈l->f x=f y->x=y:=by
 intro l
 induction l with
 |nil=>intro _ x y hx;cases hx
 |cons a l ih=>
  intro h x y hx hy e;simp only[Q7,QN]at h;rcases QC.1 hx with h1|h1
  ·rcases QC.1 hy with h2|h2
   ·exact h1.trans h2.symm
   ·exact absurd (QH.2 ⟨y,h2,by rw[<- e,h1]⟩:f a∈l.map f) h.1
  ·rcases QC.1 hy with h2|h2
   ·exact absurd (QH.2 ⟨x,h1,by rw[e,h2]⟩:f a∈l.map f) h.1
   ·exact ih h.2 h1 h2 e
theorem Lp {st:ah}{V:List ax}{nm:ByteArray}:∀{env:List Nat},ky nm (lB st V env)=((env.find? fun v=>decide (st.nameOf v=nm)).map (tf V)):=by
 intro env
 induction env with
 |nil=>rfl
 |cons v r ih=>
  show ky nm ((st.nameOf v,tf V v)::lB st V r)=_;simp only[ky,List.find?_cons];by_cases h:st.nameOf v=nm
  ·rw[if_pos h,Zt h];rfl
  ·rw[if_neg h,Zf h];exact ih
theorem z7.find {st:ah}{V:List ax}{env:List Nat}{es:Array MapEntry}{c:Nat}(h:z7 st V env es c)(nm:ByteArray):ky nm (lB st V env)=(w9 st.vars env nm).map (tf V)/\∀v,w9 st.vars env nm=some v->v∈env/\v < st.vars.length/\st.nameOf v=nm:=by
 have hp:∀v∈env,(decide ((st.vars[v]?).map (·.name)=some nm)=decide (st.nameOf v=nm)):=fun v hv=>by
  have hl:=h.lt v hv;unfold ah.nameOf;rw[Zg hl];simp
 have hf:w9 st.vars env nm=env.find? fun v=>decide (st.nameOf v=nm):=by
  unfold w9;cases e:env.find? (fun v=>decide (st.nameOf v=nm))with
  |none=>
   rw[List.find?_eq_none]at e|-;intro v hv;have E9:v∈env:=by simpa using hv
   rw[hp v E9];exact e v E9
  |some v=>
   have h1:=List.find?_some e;have h2:=List.mem_of_find?_eq_some e;refine Nq _ h2 (by rw[hp v h2];exact h1) (fun y hy h3=>?_);rw[hp y hy]at h3;simp only[decide_eq_true_eq]at h1 h3;exact At h.one hy h2 (h3.trans h1.symm)
 refine⟨by rw[Lp,hf],fun v hv=>?_⟩;rw[hf]at hv;have h2:=List.mem_of_find?_eq_some hv;exact⟨h2,h.lt v h2,by simpa using List.find?_some hv⟩
theorem x5(st:ah)(x:fF){v:Nat}(hv:v < st.vars.length):(st.aX x).nameOf v=st.nameOf v:=by
 unfold ah.nameOf ah.aX;simp only;rw[Vd hv]
theorem x6(st:ah)(x:fF):(st.aX x).nameOf st.vars.length=x.name:=by
 unfold ah.nameOf ah.aX;simp
theorem Wk {V:List ax}(y:ax){v:Nat}(hv:v < V.length):tf (V++[y]) v=tf V v:=by
 unfold tf;rw[cC hv]
theorem Wl(V:List ax)(y:ax):tf (V++[y]) V.length=y.q:=by
 unfold tf;exact zC4
theorem z7.add {st:ah}{V:List ax}{env:List Nat}{es cw:Array MapEntry}{c c':Nat}(h:z7 st V env es c)(hv:V.length=st.vars.length){x:fF}{y:ax}(hn:w9 st.vars env x.name=none)
 (he:zk yC (fun b=>kM (some b)) cw c' (jg x.name y.q (lB st V env))):z7 (st.aX x) (V++[y]) (env++[st.vars.length]) cw c':=by
 have hold:lB (st.aX x) (V++[y]) env=lB st V env:=Q6 fun v E9=>by
  have:=h.lt v E9;rw[x5 st x this,Wk y Zo]
 have hg:=(h.find x.name).1;rw[hn]at hg;refine⟨?_,fun v E9=>?_,?_⟩
 ·have e:lB (st.aX x) (V++[y]) (env++[st.vars.length])=lB st V env++[(x.name,y.q)]:=by
   show List.map _ (env++[st.vars.length])=_;rw[Q5];have:=hold;unfold lB at this;rw[this];simp only[Q7,Q9];rw[x6,<- hv,Wl];rfl
  rw[e,<- fh hg];exact he
 ·show v < (st.vars++[x]).length;rw[Vt,Q3];rcases QA.1 E9 with h1|h1
  ·have:=h.lt v h1;omega
  ·rw[QK.1 h1];omega
 ·rw[Q5];have hm:env.map (st.aX x).nameOf=env.map st.nameOf:=Q6 fun v E9=>x5 st x (h.lt v E9)
  rw[hm,List.map_singleton,x6,QM];refine⟨h.one,Zs,fun a ha b hb=>?_⟩;obtain⟨v,hv1,rfl⟩:=QH.1 ha;rw[QK.1 hb];intro e;have aC:=Lo.1 hg;exact aC (QH.2 ⟨(st.nameOf v,tf V v),QH.2 ⟨v,hv1,rfl⟩,e⟩)
theorem z7.more {st He:ah}{V V':List ax}{env:List Nat}{es:Array MapEntry}{c:Nat}(h:z7 st V env es c)(h1:st.vars <+:He.vars)(h2:V.map ax.q <+:V'.map ax.q)(hv:V.length=st.vars.length):z7 He V' env es c:=by
 have hn:∀v∈env,He.nameOf v=st.nameOf v:=fun v E9=>by
  obtain⟨r,hr⟩:=h1;unfold ah.nameOf;rw[<- hr,Vd (h.lt v E9)]
 have hq:∀v∈env,tf V' v=tf V v:=fun v E9=>by
  obtain⟨r,hr⟩:=h2;have hl:=h.lt v E9;have e:∀W:List ax,v < W.length->tf W v=((W.map ax.q)[v]?).getD 0:=fun W hW=>by
   unfold tf;rw[Vb,Vn,Zg hW];rfl
  have fE:v < V'.length:=by
   have:=congrArg List.length hr;simp only[Vt,Vz]at this;omega
  rw[e V' fE,e V Zo,<- hr,Vd (by rw[Vz];omega)]
 refine⟨?_,fun v E9=>?_,?_⟩
 ·have:lB He V' env=lB st V env:=Q6 fun v E9=>by rw[hn v E9,hq v E9]
  rw[this];exact h.is
 ·obtain⟨r,hr⟩:=h1;have:=h.lt v E9;rw[<- hr,Vt];omega
 ·rw[Q6 hn];exact h.one
structure pu (F:List ByteArray)(es:Array MapEntry)(c:Nat):Prop where
 is:∃m:List (ByteArray×Nat),zk yC (fun n:Nat=>.int .i64 n) es c m/\∀nm,ky nm m=F.findIdx? (fun s=>decide (s=nm))
structure tW (G:List ByteArray)(es:Array MapEntry)(c:Nat):Prop where
 is:∃m:List (ByteArray×Nat),zk yC (fun n:Nat=>.int .i64 n) es c m/\∀nm,decide ((ky nm m).getD 0=0)=!G.any (fun s=>decide (s=nm))
def jX(r:zj):List Value:=[.int .u8 r.kind,.int .i64 r.index,.int .i64 r.slot,.string r.name]
def rz:List Value:=[.int .u8 0,.int .i64 0,.int .i64 0,.string e0]
def sr(V:List ax)(r:zj):Value:=if r.kind=99 then .tuple #[.agg rz.toArray,kM (some (tf V r.index.toNat))]else .tuple #[.agg (jX r).toArray,.pointer none]
theorem refK_0 {s:ByteArray}(h1:s≠x8)(h2:s≠nh)(h3:s≠Fv)(h4:s≠x9)(h5:s≠qg):zY s=0:=by
 unfold zY;rw[if_neg (by rintro(h|h) <;> contradiction),if_neg h3,if_neg h4,if_neg h5]
theorem Kc {st:ah}(h:st.f=none)(e:Nat)(p:Int):(st.wrong e p).f=some (e,p):=by
 unfold ah.wrong;rw[h];rfl
section
variable {F G:List ByteArray} {st:ah} {env:List Nat} {nm:ByteArray} {u:Nat} {p:Int} {put:Bool}
theorem qq(h:zY nm≠0):wQ F G st env nm u p put=(⟨zY nm,0,0,e0⟩,st):=by unfold wQ;rw[if_pos h]
theorem Gf(h:zY nm=0){v:Nat}(hv:w9 st.vars env nm=some v)(hp:(put&&((st.vars[v]?).map (·.arg)).getD false)=false):wQ F G st env nm u p put=(dH v,st.use u v):=by
 unfold wQ;rw[if_neg Zo,hv];simp only[hp];rfl
theorem Ge(h:zY nm=0){v:Nat}(hv:w9 st.vars env nm=some v)(hp:(put&&((st.vars[v]?).map (·.arg)).getD false)=true)(hf:st.f=none):(wQ F G st env nm u p put).2.f=some (182,p):=by
 unfold wQ;rw[if_neg Zo,hv];simp only[hp,if_true,ah.wrong,hf,Option.isNone_none]
theorem yj(h:zY nm=0)(hv:w9 st.vars env nm=none){i:Nat}(hi:F.findIdx? (fun s=>decide (s=nm))=some i):wQ F G st env nm u p put=(⟨7,i,0,e0⟩,st):=by
 unfold wQ;rw[if_neg Zo,hv];simp only[hi]
theorem B7(h:zY nm=0)(hv:w9 st.vars env nm=none)(hi:F.findIdx? (fun s=>decide (s=nm))=none)(hg:G.any (fun s=>decide (s=nm))=true):wQ F G st env nm u p put=(⟨8,0,0,nm⟩,st):=by
 unfold wQ;rw[if_neg Zo,hv];simp only[hi,hg,if_true]
theorem B8(h:zY nm=0)(hv:w9 st.vars env nm=none)(hi:F.findIdx? (fun s=>decide (s=nm))=none)(hg:G.any (fun s=>decide (s=nm))=false)(hf:st.f=none):(wQ F G st env nm u p put).2.f=some (181,p):=by
 unfold wQ;rw[if_neg Zo,hv];simp only[hi,hg,vK,if_false];exact Kc hf 181 p
end
def w8(T:List kC)(v:Value)(rs:List zj):Prop:=∃a c,v=.slice a rs.length c/\∀(i:Nat) r,rs[i]? =some r->∃b o,a=some ⟨b,o,none⟩/\∀y∈kA b (o+i*4) (jX r),y∈T
def wp(T:List kC)(v:Value)(l:List Nat):Prop:=∃a c,v=.slice a l.length c/\∀(i:Nat) q,l[i]? =some q->∃b o,a=some ⟨b,o,none⟩/\kC.cell b (o+i) (kM (some q))∈T
theorem w8.more {T T':List kC}{v:Value}{rs:List zj}(h:w8 T v rs)(hs:∀x∈T,x∈T'):w8 T' v rs:=by
 obtain⟨a,c,h1,h2⟩:=h;exact⟨a,c,h1,fun i r hi=>let⟨b,o,k1,k2⟩:=h2 i r hi;⟨b,o,k1,fun y hy=>hs _ (k2 y hy)⟩⟩
theorem wp.more {T T':List kC}{v:Value}{l:List Nat}(h:wp T v l)(hs:∀x∈T,x∈T'):wp T' v l:=by
 obtain⟨a,c,h1,h2⟩:=h;exact⟨a,c,h1,fun i r hi=>let⟨b,o,k1,k2⟩:=h2 i r hi;⟨b,o,k1,hs _ k2⟩⟩
theorem w8.nil(T:List kC):w8 T Nz []:=⟨none,0,rfl,fun i r h=>by simp at h⟩
theorem wp.nil(T:List kC):wp T Nz []:=⟨none,0,rfl,fun i r h=>by simp at h⟩
def wz(rs:List zj):List zj:=rs.filter fun r=>decide (r.kind≠99)
def ed(rs:List zj):List zj:=rs.filter fun r=>decide (r.kind=99)
structure zv (qs:List Nat)(rs:List zj):Prop where
 one:(∀r∈rs,r.kind=99)∨∀r∈rs,r.kind≠99
 raw:∀r∈rs,r.kind=99->∃v,r=dH v/\v < qs.length
inductive uJ (T:List kC)(qs:List Nat):PN->List Value->Prop
 |mk {k:Nat} {nm:ByteArray} {lit:Lt} {refs:List zj} {unit:Int} {iU:Bool} {kids:List PN} {lv:List Value} {rv vv:Value} {a:Option Addr} {c bk o:Nat} {us:Nat->List Value} (hl:zw T lit lv) (hr:w8 T rv (wz refs))
   (hv:wp T vv ((ed refs).map fun r=>qs.getD r.index.toNat 0)) (ok:zv qs refs) (hz:wz refs=[]->rv=Nz) (ha:0 < kids.length->a=some ⟨bk,o,none⟩) (hm:∀i,i < kids.length->∀y∈kA bk (o+i*13) (us i),y∈T) (hs:∀i x,kids[i]? =some x->uJ T qs x (us i)):
   uJ T qs (.mk k nm lit refs unit iU kids) ([cv k,.string nm]++lv++[rv,.int .i64 unit,.bool iU,Nz,vv,.slice a kids.length c])
theorem uJ.len {T:List kC}{qs:List Nat}{x:PN}{vs:List Value}(h:uJ T qs x vs):vs.length=13:=by
 cases h with
 |mk hl=>simp[hl.len]
theorem zv.more {qs Ax:List Nat}{rs:List zj}(h:zv qs rs)(hq:qs <+:Ax):zv Ax rs:=
 ⟨h.one,fun r hr hk=>let⟨v,h1,h2⟩:=h.raw r hr hk;⟨v,h1,Qk h2 hq.length_le⟩⟩
theorem B0 {qs Ax:List Nat}{rs:List zj}(h:zv qs rs)(hq:qs <+:Ax):(ed rs).map (fun r=>Ax.getD r.index.toNat 0)=(ed rs).map fun r=>qs.getD r.index.toNat 0:=by
 refine Q6 fun r hr=>?_
 obtain⟨h1,h2⟩:=QF.1 hr;obtain⟨v,rfl,hv⟩:=h.raw r h1 (of_decide_eq_true h2);exact zDK
theorem uJ.more {T T':List kC}{qs Ax:List Nat}(hs:∀x∈T,x∈T')(hq:qs <+:Ax){x:PN}{vs:List Value}(h:uJ T qs x vs):uJ T' Ax x vs:=by
 induction h with
 |mk hl hr hv ok hz ha hm hk ih=>
  refine .mk (hl.more hs) (hr.more hs) ?_ (ok.more hq) hz ha (fun i hi y hy=>hs _ (hm i hi y hy)) ih;rw[B0 ok hq];exact hv.more hs
structure zW (T:List kC)(qs:List Nat)(l:List PN)(rows:List (List Value)):Prop where
 len:rows.length=l.length
 w:∀r∈rows,r.length=13
 rd:∀(i:Nat) x r,l[i]? =some x->rows[i]? =some r->uJ T qs x r
theorem zW.nil(T:List kC)(qs:List Nat):zW T qs [] []:=⟨rfl,Zs,fun i x r h=>by simp at h⟩
theorem zW.more {T T':List kC}{qs Ax:List Nat}{l:List PN}{rows:List (List Value)}(h:zW T qs l rows)(hs:∀x∈T,x∈T')(hq:qs <+:Ax):zW T' Ax l rows:=⟨h.len,h.w,fun i x r hx hr=>(h.rd i x r hx hr).more hs hq⟩
theorem zW.snoc {T:List kC}{qs:List Nat}{l:List PN}{rows:List (List Value)}{x:PN}{r:List Value}(h:zW T qs l rows)(hx:uJ T qs x r):zW T qs (l++[x]) (rows++[r]):=by
 refine⟨by simp[h.len],fun r' G7=>?_,fun i y s hy hs=>?_⟩
 ·exact zEJ
 ·exact zAO
theorem x4 {B:List kC}{qs:List Nat}{k:Nat}{nm:ByteArray}{lit:Lt}{refs:List zj}{unit:Int}{iU:Bool}{kids:List PN}{lv:List Value}{rv vv sv:Value}{rows:List (List Value)}{sp:List Value}(bF:jG 13 sv kids.length rows.flatten sp)(hr:zW B qs kids rows)
 (aO:zw B lit lv) (G8:w8 B rv (wz refs)) (hvv:wp B vv ((ed refs).map fun r=>qs.getD r.index.toNat 0)) (ok:zv qs refs) (hz:wz refs=[]->rv=Nz:=by intro _;rfl):
 uJ (ai sv rows.flatten sp++B) qs (.mk k nm lit refs unit iU kids) ([cv k,.string nm]++lv++[rv,.int .i64 unit,.bool iU,Nz,vv,sv]):=by
 have aA:∀i,i < kids.length->rows[i]? =some (rows.getD i []):=fun i hi=>by
  exact zDY
 have iC:∀y∈B,y∈ai sv rows.flatten sp++B:=fun y hy=>QB _ hy
 have tP:=aO.more iC;have T3:=G8.more iC;have hvv2:=hvv.more iC;clear aO G8 hvv;generalize hm:kids.length=m at bF;generalize Hb:rows.flatten=xs at bF|-;cases bF with
 |@mk bk o _ c _ _ h1 h2 h3=>
  rw[<- hm];subst Hb;refine .mk (bk:=bk) (o:=o) (us:=fun i=>rows.getD i []) tP T3 hvv2 ok hz (fun _=>rfl) (fun i hi y hy=>?_) (fun i x hx=>?_)
  ·exact zD6
  ·have hi:=(Vm.1 hx).1;exact(hr.rd i x _ hx (aA i hi)).more iC (QV _)
 |nil=>
  have h0:kids=[]:=vt hm;subst h0;exact .mk (bk:=0) (o:=0) (us:=fun _=>[]) tP T3 hvv2 ok hz (fun h=>absurd h Zs) (fun i hi=>absurd hi Zs) (fun i x hx=>by simp at hx)
def lz:List Value:=[cv 0,.int .i64 0,.int .u64 0,.string e0,Nz]
theorem oO(B:List kC):zw B fP lz:=.mk (bk:=0) (o:=0) (us:=fun _=>[]) ⟨Zd,Zd,Zd,Zd,Zd⟩ (fun h=>absurd h Zs) (fun i hi=>absurd hi Zs) (fun i x hx=>by simp at hx)
theorem zv.nil(qs:List Nat):zv qs []:=⟨.inl Zs,Zs⟩
def tx(T:List kC)(qs:List Nat)(v:Value)(l:List PN):Prop:=∃(a:Option Addr) (c bk o:Nat) (us:Nat->List Value),v=.slice a l.length c/\(0 < l.length->a=some ⟨bk,o,none⟩)/\(∀i,i < l.length->∀y∈kA bk (o+i*13) (us i),y∈T)/\∀i x,l[i]? =some x->uJ T qs x (us i)
theorem tx.nil(T:List kC)(qs:List Nat):tx T qs Nz []:=⟨none,0,0,0,fun _=>[],rfl,fun h=>absurd h Zs,fun i hi=>absurd hi Zs,fun i x h=>by simp at h⟩
theorem tx.more {T T':List kC}{qs Ax:List Nat}{v:Value}{l:List PN}(h:tx T qs v l)(hs:∀x∈T,x∈T')(hq:qs <+:Ax):tx T' Ax v l:=by
 obtain⟨a,c,bk,o,us,h1,h2,h3,h4⟩:=h;exact⟨a,c,bk,o,us,h1,h2,fun i hi y hy=>hs _ (h3 i hi y hy),fun i x hx=>(h4 i x hx).more hs hq⟩
theorem UQ {B:List kC}{qs:List Nat}{l:List PN}{sv:Value}{rows:List (List Value)}{sp:List Value}(bF:jG 13 sv l.length rows.flatten sp)(hr:zW B qs l rows):tx (ai sv rows.flatten sp++B) qs sv l:=by
 have h:=x4 (k:=0) (nm:=e0) (unit:=0) (iU:=false) bF hr (oO B) (w8.nil B) (wp.nil B) (zv.nil qs);generalize hx:PN.mk 0 e0 fP [] 0 false l=x at h;generalize hw:([cv 0,.string e0]++lz++[Nz,.int .i64 0,.bool false,Nz,Nz,sv]:List Value)=ws at h;cases h with
 |@mk k nm lit refs unit iU kids lv rv vv a c bk o us hl G7 hv ok hz ha hm hs=>
  simp only[PN.mk.injEq]at hx;obtain⟨_,_,_,_,_,_,rfl⟩:=hx;have e:sv=.slice a l.length c:=by
   have h1:=congrArg List.reverse hw;simp only[List.reverse_append,List.reverse_cons,List.reverse_nil,QL,vj,vf]at h1;exact(List.cons.inj h1).1
  exact⟨a,c,bk,o,us,e,ha,hm,hs⟩
structure gM (st:ah)(us:Value)(bz:List Value)(U:List UC)(V:List ax)(T:List kC):Prop where
 rep:cA st U V
 ok:st.f=none
 sl:jG 1 us U.length (U.map fun u=>kM (some u.q)) bz
 Xg:∀(i:Nat) u,U[i]? =some u->tx T (V.map ax.q) u.body (st.aj.getD i [])
def iy(args ab:List ByteArray)(n:Nat):Nat:=1+args.length+ab.length+n
mutual
def pE:Nd->Nat
 |.mk _ _ _ args ab kids _=>iy args ab (jN kids)
def jN:List Nd->Nat
 |[]=>0
 |x::r=>pE x+jN r
end
def Room(st:ah)(n:Nat):Prop:=st.vars.length+n < 1073741824/\st.uses.length+n < 1073741824/\st.outer.length+n < 1073741824
def zb(a b:ah)(n:Nat):Prop:=b.vars.length<=a.vars.length+n/\b.uses.length<=a.uses.length+n/\b.outer.length<=a.outer.length+n
theorem zb.trans {a b c:ah}{n m:Nat}(h:zb a b n)(k:zb b c m):zb a c (n+m):=by
 obtain⟨h1,h2,h3⟩:=h;obtain⟨k1,k2,k3⟩:=k;exact⟨Zo,Zo,Zo⟩
theorem zb.mono {a b:ah}{n m:Nat}(h:zb a b n)(hm:n<=m):zb a b m:=by
 obtain⟨h1,h2,h3⟩:=h;exact⟨Zo,Zo,Zo⟩
theorem zb.refl(a:ah):zb a a 0:=⟨Qh _,Qh _,Qh _⟩
theorem Room.less {a b:ah}{n m:Nat}(h:Room a (n+m))(k:zb a b n):Room b m:=by
 obtain⟨h1,h2,h3⟩:=h;obtain⟨k1,k2,k3⟩:=k;exact⟨Zo,Zo,Zo⟩
theorem Room.mono {a:ah}{n m:Nat}(h:Room a n)(hm:m<=n):Room a m:=by
 obtain⟨h1,h2,h3⟩:=h;exact⟨Zo,Zo,Zo⟩
theorem Ik(a:ah)(e:Nat)(p:Int):zb a (a.wrong e p) 0:=by
 unfold ah.wrong;split <;> exact⟨Qh _,Qh _,Qh _⟩
theorem wU(unit:Nat)(arg own:Bool)(p:Int):∀(l:List ByteArray) (i:Nat) (st:ah) (env:List Nat),zb st (kQ unit arg own p l i st env).1 l.length
 |[],_,st,_=>zb.refl st
 |nm::r,i,st,env=>by
  unfold kQ;have h1:zb st {(if(w9 st.vars env nm).isSome then st.wrong 180 p else st)with vars:=st.vars++[⟨nm,unit,arg,if arg&&own then i else -1⟩]} 1:=by
   refine⟨Zs,?_,?_⟩
   ·split
    ·show(st.wrong 180 p).uses.length<=_;rw[yS];omega
    ·show st.uses.length<=_;omega
   ·split
    ·show(st.wrong 180 p).outer.length<=_;rw[mP];omega
    ·show st.outer.length<=_;omega
  have h2:=h1.trans (wU unit arg own p r (i+1) _ (env++[st.vars.length]));exact h2.mono (by rw[Vu];omega)
theorem xO(F G:List ByteArray)(st:ah)(env:List Nat)(nm:ByteArray)(u:Nat)(p:Int)(put:Bool):zb st (wQ F G st env nm u p put).2 1:=by
 unfold wQ;split
 ·exact(zb.refl st).mono Zo
 ·split
  ·rename_i v _;simp only;split
   ·refine⟨?_,?_,?_⟩
    ·show(st.wrong 182 p).vars.length<=_;rw[cX];omega
    ·show(st.uses++[(u,v)]).length<=_;simp
    ·show(st.wrong 182 p).outer.length<=_;rw[mP];omega
   ·exact⟨Qi _,Zs,Qi _⟩
  ·split
   ·exact(zb.refl st).mono Zo
   ·simp only;split
    ·exact(zb.refl st).mono Zo
    ·exact(Ik st 181 p).mono Zo
theorem r8(a:ah)(o:Int)(n:Nat):zb a {a with outer:=a.outer++[o],args:=a.args++[n],aj:=a.aj++[[]]} 1:=⟨Qi _,Qi _,Zs⟩
theorem mY(F G:List ByteArray):∀(N:Nat) (x:Nd),x.size<=N->∀st env u,zb st (jH F G x st env u).2 (pE x)/\zb st (cI F G x st env u).2 (pE x):=by
 intro N
 induction N with
 |zero=>intro x hx;have:=x.size_pos;omega
 |succ N ih=>
  have au:∀l:List Nd,Nd.aw l<=N->∀st env u,zb st (kV F G l st env u).2 (jN l):=by
   intro l
   induction l with
   |nil=>intro _ st env u;rw[kV];exact zb.refl st
   |cons x r xI=>
    exact zEF
  have pM:∀(s:ByteArray) (l:List Nd),Nd.aw l<=N->∀i st env u,zb st (jA F G s l i st env u).2.2 (jN l):=by
   intro s l
   induction l with
   |nil=>intro _ i st env u;rw[jA];exact zb.refl st
   |cons x r xI=>
    exact zC0
  intro x hx st env u;cases x with
  |mk k s lit args ab kids p=>
  simp only[Nd.size]at hx;have hk:Nd.aw kids<=N:=by omega
  simp only[pE,iy];refine⟨?_,?_⟩
  ·cases h:iD k s kids with
   |true=>rw[eE _ _ _ _ _ _ _ _ _ _ _ _ h];exact(pM s kids hk 0 st env u).mono Zo
   |false=>
    by_cases h1:k=1
    ·rw[nj _ _ _ _ _ _ _ _ _ _ _ _ h h1];exact(zb.refl st).mono Zo
    by_cases h2:k=2
    ·rw[nk _ _ _ _ _ _ _ _ _ _ _ _ h h2];exact(xO F G st env s u p false).mono Zo
    by_cases h3:k=3
    ·rw[np _ _ _ _ _ _ _ _ _ _ _ _ h h3];exact((xO F G st env s u p true).trans (au kids hk _ env u)).mono Zo
    by_cases h7:k=7
    ·rw[nw _ _ _ _ _ _ _ _ _ _ _ _ h h7];simp only;rw[zc];have hA:=au kids hk (bi args ab p st env (u:Int)).1 (bi args ab p st env (u:Int)).2 st.outer.length;have hD:zb st (bi args ab p st env (u:Int)).1 (1+(args.length+ab.length)):=(r8 st (u:Int) args.length).trans ((wU _ _ _ _ _ _ _ _).trans (wU _ _ _ _ _ _ _ _));exact zb.mono (b:={(kV F G kids (bi args ab p st env (u:Int)).1 (bi args ab p st env (u:Int)).2 st.outer.length).2 with aj:=_}) (hD.trans hA) Zo
    by_cases h8:k=8
    ·rw[ny _ _ _ _ _ _ _ _ _ _ _ _ h h8];exact(au kids hk st env u).mono Zo
    by_cases h9:k=9
    ·rw[nz _ _ _ _ _ _ _ _ _ _ _ _ h h9];exact(au kids hk st env u).mono Zo
    by_cases h6:k=6
    ·rw[nu _ _ _ _ _ _ _ _ _ _ _ _ h h6];exact(au kids hk st env u).mono Zo
    by_cases h5:k=5
    ·rw[nt _ _ _ _ _ _ _ _ _ _ _ _ h h5];exact(au kids hk st env u).mono Zo
    cases hs:jW kids with
    |true=>
     rw[gY _ _ _ _ _ _ _ _ _ _ _ _ h ⟨h1,h2,h3,h5,h6,h7,h8,h9⟩ hs];cases kids with
     |nil=>cases hs
     |cons x r=>
      simp only[Nd.aw]at hk;simp only[List.tail_cons,jN];exact(au r Zo st env u).mono Zo
    |false=>rw[nq _ _ _ _ _ _ _ _ _ _ _ _ h ⟨h1,h2,h3,h5,h6,h7,h8,h9⟩ hs];exact(au kids hk st env u).mono Zo
  ·rw[iE];exact((wU _ _ _ _ _ _ _ _).trans ((wU _ _ _ _ _ _ _ _).trans (au kids hk _ _ _))).mono Zo
theorem wn(F G:List ByteArray):∀(l:List Nd) st env u,Gr st (kV F G l st env u).2:=by
 intro l
 induction l with
 |nil=>intro st env u;rw[kV];exact Gr.refl st
 |cons x r ih=>
  intro st env u;rw[wX];exact(zo F G _ x (Qh _) st env u).1.trans (ih _ env u)
theorem qd {A:List kC}{y:Nd}{vs:List Value}(h:jJ A y vs):∃(e1:Nat) (e2:Int) (e3:Nat) (e4:ByteArray) (e5:Option Addr) (e6 e7:Nat) (e8:Option Addr) (e9 tF:Nat) (tG:Option Addr) (tH tI:Nat) (GX:Option Addr) (GY GZ:Nat),
 vs=(rN y.kind y.name e1 e2 e3 e4 e5 e6 e7 e8 e9 tF tG tH tI GX GY GZ y.at_):=by
 exact zCI
theorem iK {T:List kC}{qs:List Nat}{x:PN}{ws:List Value}(h:uJ T qs x ws):∃(e1:Nat) (e2:Int) (e3:Nat) (e4:ByteArray) (e5:Option Addr) (e6 e7:Nat) (r1:Option Addr) (r2 r3:Nat) (v1:Option Addr) (v2 v3:Nat) (k1:Option Addr) (k2 k3:Nat),
 ws=[.int .u8 x.kind,.string x.name,.int .u8 e1,.int .i64 e2,.int .u64 e3,.string e4,.slice e5 e6 e7,.slice r1 r2 r3,.int .i64 x.unit,.bool x.super,Nz,.slice v1 v2 v3,.slice k1 k2 k3]:=by
 cases h with
 |mk hl hr hv ok hz ha hm hs=>
  obtain⟨_,_,rfl,_⟩:=hr;obtain⟨_,_,rfl,_⟩:=hv;cases hl with
  |mk R5 HP rV dS=>exact⟨_,_,_,_,_,_,_,_,_,_,_,_,_,_,_,_,rfl⟩
def x7(q n:Nat)(o:Option Nat)(i nb:Nat):UC:=⟨q,n,0,0,o,i,[],Nz,[],nb,#[],0,[],Nz,[],Nz⟩
def ml(U:List UC)(o:Int):Option Nat:=if o < 0 then none else(U[o.toNat]?).map UC.q
theorem cA.aN {st:ah}{U:List UC}{V:List ax}(h:cA st U V){o:Int}{n:Nat}(ho:-1<=o/\o < st.outer.length){q nb:Nat}(hq:q∉U.map UC.q):cA (st.aN o n) (U++[x7 q n (ml U o) st.outer.length nb]) V:=by
 have aA:∀{j:Nat} {w:UC},(U++[x7 q n (ml U o) st.outer.length nb])[j]? =some w->(j < st.outer.length/\U[j]? =some w)∨(j=st.outer.length/\w=x7 q n (ml U o) st.outer.length nb):=fun {j w} hj=>by
  rw[Vc]at hj;split at hj
  ·rename_i hl;exact .inl ⟨by rw[<- h.ul];exact hl,hj⟩
  ·rename_i hl;have:=(Vm.1 hj).1;simp only[Q3]at this;have N4:=h.ul;have e:j - U.length=0:=by omega
   rw[e]at hj;exact .inr ⟨Zo,by simpa using hj.symm⟩
 have hold:∀{j:Nat},j < st.outer.length->(U++[x7 q n (ml U o) st.outer.length nb])[j]? =U[j]?:=fun {j} hj=>Vd (by rw[h.ul];exact hj)
 have rX:=h.wf.aN (n:=n) ho;have hol:(st.aN o n).outer.length=st.outer.length+1:=by unfold ah.aN;simp
 refine⟨rX,by rw[Vt,hol,h.ul];rfl,h.vl,?_,fun j w hj=>?_,fun j w hj=>?_,fun j w hj=>?_,fun j w hj=>?_,fun v x y hx hy=>?_⟩
 ·rw[Q5,QM];refine⟨h.inj,Zs,fun a ha b hb=>?_⟩;rw[List.map_singleton,QK]at hb
  rintro rfl
  rw[hb]at ha;exact hq ha
 ·rcases aA hj with⟨h1,h2⟩|⟨rfl,rfl⟩
  ·have:=h.un j w h2;show w.args=(st.args++[n]).getD j 0/\_;rw[cC (by rw[h.wf.al];exact h1)];exact this
  ·refine⟨?_,rfl,rfl,rfl,rfl,rfl,rfl⟩;show n=(st.args++[n]).getD st.outer.length 0;rw[Vb,<- h.wf.al,Ve (Qh _),Qn];rfl
 ·rcases aA hj with⟨h1,h2⟩|⟨rfl,rfl⟩
  ·have e:(st.aN o n).outer.getD j (-1)=st.outer.getD j (-1):=cC h1;rw[e,h.ou j w h2];have hl:=h.wf.ff j;split
   ·rfl
   ·rw[hold Zo]
  ·have e:(st.aN o n).outer.getD st.outer.length (-1)=o:=by
    show(st.outer++[o]).getD st.outer.length (-1)=o;exact zC4
   rw[e];show ml U o=_;by_cases hn:o < 0
   ·rw[if_pos hn];unfold ml;rw[if_pos hn]
   ·rw[if_neg hn,hold Zo];unfold ml;rw[if_neg hn]
 ·have ht:(st.aN o n).ab j=st.ab j:=rfl;rw[ht];rcases aA hj with⟨h1,h2⟩|⟨rfl,rfl⟩
  ·exact h.tm j w h2
  ·have h0:st.ab st.outer.length=[]:=by
    unfold ah.ab;rw[vz];intro v hv;have hv:=QJ.1 hv;obtain⟨x,hx⟩:∃x,st.vars[v]? =some x:=⟨_,Zg hv⟩;have:=(h.wf.vu v x hx).1;have e:st.af v=x.unit:=by unfold ah.af;rw[hx];rfl
    rw[e];simp only[vF,decide_eq_true_eq,not_and];intro e2;omega
   rw[h0];exact⟨rfl,.nil⟩
 ·rcases aA hj with⟨h1,h2⟩|⟨rfl,rfl⟩
  ·obtain⟨m,k1,k2,k3,k4⟩:=h.nd j w h2;refine⟨m,k1,k2,fun p hp=>?_,fun i z a hi=>?_⟩
   ·obtain⟨⟨i,z,k5,k6⟩,k7⟩:=k3 p hp;exact⟨⟨i,z,by rw[hold (by rw[<- h.ul];exact(Vm.1 k5).1)];exact k5,k6⟩,k7⟩
   ·rw[h.wf.Bs ho];rcases aA hi with⟨k5,k6⟩|⟨rfl,rfl⟩
    ·exact k4 i z a k6
    ·have dR:st.bg j (st.outer.length,a)=false:=by
      unfold ah.bg;rw[List.any_eq_false];intro x hx;simp only[vF,decide_eq_true_eq,not_and,Qz]
      rintro⟨e1,_⟩
      have hu:=(h.wf.uu x hx).2;obtain⟨y,hy⟩:∃y,st.vars[x.2]? =some y:=⟨_,Zg hu⟩;have:=(h.wf.vu _ y hy).1;have e:st.af x.2=y.unit:=by unfold ah.af;rw[hy];rfl
      omega
     rw[dR];constructor
     ·intro hm;obtain⟨c,hc⟩:=Qt.1 hm;obtain⟨⟨i,z,k5,k6⟩,_⟩:=k3 _ (xZ hc);exact absurd (QH.2 ⟨z,Zv k5,k6.symm⟩) hq
     ·intro hf;cases hf
  ·refine⟨[],.nil,Zs,Zs,fun i z a hi=>?_⟩;rw[h.wf.Bs ho,h.wf.OY _ (Qh _)];simp[ky]
 ·obtain⟨⟨z,k1,k2⟩,k3⟩:=h.vn v x y hx hy;exact⟨⟨z,by rw[hold (by rw[<- h.ul];exact(Vm.1 k1).1)];exact k1,k2⟩,k3⟩
theorem cA.body {st:ah}{U:List UC}{V:List ax}(h:cA st U V){i:Nat}{u:UC}(hu:U[i]? =some u)(bv:Value)(bl:List PN):cA {st with aj:=st.aj.set i bl} (U.set i {u with body:=bv}) V:=by
 have G4:=zS (w':={u with body:=bv}) hu rfl;have K0:=CN G4;have aA:∀{j:Nat} {w:UC},(U.set i {u with body:=bv})[j]? =some w->∃w0,U[j]? =some w0/\w={w0 with body:=w.body}:=fun {j w} hj=>by
  rcases iR hu hj with⟨rfl,rfl⟩|⟨_,h2⟩
  ·exact⟨u,hu,rfl⟩
  ·exact⟨w,h2,rfl⟩
 have dY:∀{j:Nat} {w:UC},U[j]? =some w->∃w',(U.set i {u with body:=bv})[j]? =some w'/\w'.q=w.q:=fun {j w} hj=>by
  have:=K0 j;rw[hj]at this;cases e:(U.set i {u with body:=bv})[j]? with
  |none=>rw[e]at this;cases this
  |some w'=>rw[e]at this;exact⟨w',rfl,Qx this⟩
 have KZ:∀{j:Nat} {w:UC},(U.set i {u with body:=bv})[j]? =some w->∃w',U[j]? =some w'/\w.q=w'.q:=fun {j w} hj=>by
  obtain⟨w0,h1,h2⟩:=aA hj;exact⟨w0,h1,by rw[h2]⟩
 refine⟨⟨h.wf.al,by show(st.aj.set i bl).length=_;rw[Q1];exact h.wf.bl,h.wf.low,h.wf.vu,h.wf.uu⟩,by rw[Q1];exact h.ul,h.vl,by rw[G4];exact h.inj,fun j w hj=>?_,fun j w hj=>?_,fun j w hj=>?_,fun j w hj=>?_,fun v x y hx hy=>?_⟩
 ·obtain⟨w0,h1,h2⟩:=aA hj;rw[h2];exact h.un j w0 h1
 ·rw[K0];obtain⟨w0,h1,h2⟩:=aA hj;rw[h2];exact h.ou j w0 h1
 ·obtain⟨w0,h1,h2⟩:=aA hj;rw[h2];exact h.tm j w0 h1
 ·obtain⟨w0,h1,h2⟩:=aA hj;obtain⟨m,k1,k2,k3,k4⟩:=h.nd j w0 h1;rw[h2];refine⟨m,k1,k2,fun p hp=>?_,fun a z b ha=>?_⟩
  ·exact zDT
  ·obtain⟨z',k8,k9⟩:=KZ ha;rw[k9];exact k4 a z' b k8
 ·obtain⟨⟨z,k1,k2⟩,k3⟩:=h.vn v x y hx hy;obtain⟨z',k8,k9⟩:=dY k1;exact⟨⟨z',k8,k2.trans k9.symm⟩,k3⟩
theorem W5 {U:List UC}{V:List ax}{i:Nat}{u:UC}(h:U[i]? =some u):∃R,(WK U V).Perm (kA u.q 8 [u.body]++R)/\∀bv,(WK (U.set i {u with body:=bv}) V).Perm (kA u.q 8 [bv]++R):=by
 have hx:∀bv,({u with body:=bv}:UC).atoms.Perm (kA u.q 8 [bv]++(.own u.q 9::(kA u.q 0 [.int .i64 u.args,.int .i64 u.locals,.int .i64 u.aB,kM u.outer,.int .i64 u.num,u.tv,.map (some u.nb),u.cv]++(ai u.tv (u.ab.map fun b=>kM (some b)) u.ig++(ai u.cv (u.da.flatMap jT) u.bZ++[.obj u.nb (.map u.es u.cl)]))))):=fun bv=>by
  unfold UC.atoms UC.row;have e:kA u.q 0 [.int .i64 u.args,.int .i64 u.locals,.int .i64 u.aB,kM u.outer,.int .i64 u.num,u.tv,.map (some u.nb),u.cv,bv]=kA u.q 0 [.int .i64 u.args,.int .i64 u.locals,.int .i64 u.aB,kM u.outer,.int .i64 u.num,u.tv,.map (some u.nb),u.cv]++kA u.q 8 [bv]:=rfl;simp only;rw[e,vf,<- vj,<- vf];exact zCJ
 obtain⟨R,h1,h2⟩:=DT (V:=V) h (hx u.body);exact⟨R,h1,fun bv=>h2 _ _ (hx bv)⟩
def Kd {α:Type}(p:α->Prop):List α->Prop
 |[]=>True
 |x::r=>p x/\Kd p r
theorem Kd.mem {α:Type}{p:α->Prop}:∀{l:List α},Kd p l->∀x∈l,p x
 |x::r,h,y,hy=>by
  rcases QC.1 hy with rfl|hy
  ·exact h.1
  ·exact Kd.mem h.2 y hy
theorem VC.AV {P:Program}{n:Nat}{Γ:Env}{H:SH}{Q:Exit->Env->SH->Prop}{rj:List (List RO)}{aU:List Nat}
 (h:Kd (fun rs=>∃pre d f xs post,rs=pre++⟨d,none,.call f xs⟩::post/\Kd (fun S=>VO P n S Γ H (fun _ _ _=>False) fun ay H'=>VO P n [⟨d,none,.call f xs⟩] ay H' (fun ch _ lH=>Q (.panic ch) [] lH) (fun _ _=>False)) (Az (cO xs) d.toList [] (pre.map (fun x=>(x,false))++post.map (fun x=>(x,true))))) rj):VC P n (.draw rj aU) Γ H Q:=
 VC.Ng fun rs dw=>by
  obtain⟨pre,d,f,xs,post,h1,h2⟩:=h.mem rs dw;exact⟨pre,d,f,xs,post,h1,h2.mem⟩
theorem gZ {tv:Value}{l:List Nat}{sp:List Value}{n:Nat}(hn:n=l.length)(bF:jG 1 tv n (l.map fun b=>kM (some b)) sp):wp (ai tv (l.map fun b=>kM (some b)) sp) tv l:=by
 generalize hx:(l.map fun b=>kM (some b))=xs at bF;cases bF with
 |@mk bk o _ c _ _ h1 h2 h3=>
  subst hx;rw[hn];refine⟨_,c,rfl,fun i q hi=>⟨bk,o,rfl,?_⟩⟩;simp only[ai,j7];exact Zw _ (kI.2 ⟨i,kM (some q),by rw[Vn,hi];rfl,rfl⟩)
 |nil=>
  have h0:l=[]:=vt hn.symm;subst h0;exact wp.nil _
theorem IJ(a n:Nat):ed ((List.range' a n).map dH)=(List.range' a n).map dH:=by
 unfold ed;rw[V0];intro r hr;obtain⟨v,_,rfl⟩:=QH.1 hr;rfl
theorem Dw(a n:Nat):wz ((List.range' a n).map dH)=[]:=by
 unfold wz;rw[vz];intro r hr;obtain⟨v,_,rfl⟩:=QH.1 hr;simp[dH]
theorem IK {qs:List Nat}{a n:Nat}(h:a+n<=qs.length):zv qs ((List.range' a n).map dH):=by
 refine⟨.inl fun r hr=>?_,fun r hr _=>?_⟩
 ·obtain⟨v,_,rfl⟩:=QH.1 hr;rfl
 ·obtain⟨v,hv,rfl⟩:=QH.1 hr;have:=List.mem_range'_1.1 hv;exact⟨v,rfl,Zo⟩
theorem Ja {qs:List Nat}{a n:Nat}(h:a+n<=qs.length):((List.range' a n).map dH).map (fun r=>qs.getD r.index.toNat 0)=(qs.drop a).take n:=by
 apply vw;intro i;rw[Vn,Vn,List.getElem?_take,Vi];by_cases hi:i < n
 ·rw[List.getElem?_range' hi,if_pos hi];have:a+i < qs.length:=by omega
  rw[Zg this];show some (qs.getD ((a+1*i:Nat):Int).toNat 0)=_;rw[vT,Nat.one_mul,Vb,Zg this];rfl
 ·rw[if_neg hi,Vj (by simpa using hi)];rfl
theorem drop_take {qs Ax:List Nat}{a n:Nat}(h:qs <+:Ax)(hl:qs.length=a+n):(Ax.drop a).take n=qs.drop a:=by
 obtain⟨t,rfl⟩:=h;rw[List.drop_append_of_le_length Zo,List.take_append_of_le_length (by rw[Vv];omega),QZ (by rw[Vv];omega)]
theorem fk {A:List kC}{y:Nd}{vs:List Value}(h:jJ A y vs):∃(e1:Nat) (e2:Int) (e3:Nat) (e4:ByteArray) (e5:Option Addr) (e6 e7:Nat) (a1:Option Addr) (c1:Nat) (a2:Option Addr) (c2:Nat) (a3:Option Addr) (c3 bk o:Nat) (us:Nat->List Value),
 vs=(rN y.kind y.name e1 e2 e3 e4 e5 e6 e7 a1 y.args.length c1 a2 y.ab.length c2 a3 y.kids.length c3 y.at_)/\
 zw A y.lit [.int .u8 e1,.int .i64 e2,.int .u64 e3,.string e4,.slice e5 e6 e7]/\eg A (.slice a1 y.args.length c1) y.args/\eg A (.slice a2 y.ab.length c2) y.ab/\y.kind < 256/\
 (0 < y.kids.length->a3=some ⟨bk,o,none⟩)/\(∀i,i < y.kids.length->∀z∈kA bk (o+i*11) (us i),z∈A)/\(∀i x,y.kids[i]? =some x->jJ A x (us i))/\y.kids.length<=c3:=by
 cases h with
 |@mk k s lit args ab kids p lv av tv a c bk o us wf hl bK bG ha hm hr rU=>
  have Nx:=bK;have C4:=bG;obtain⟨a1,c1,rfl,_⟩:=bK;obtain⟨a2,c2,rfl,_⟩:=bG;have tM:=hl;cases hl with
  |mk R5 HP rV dS=>exact⟨_,_,_,_,_,_,_,a1,c1,a2,c2,a,c,bk,o,us,rfl,tM,Nx,C4,wf.kind,ha,hm,hr,rU⟩
theorem iV {s:ByteArray}:kB s=[115,117,112,101,114]↔s=⟨#[115,117,112,101,114]⟩:=by
 constructor
 ·intro h;have h2:kB s=kB ⟨#[115,117,112,101,114]⟩:=h.trans Zd;exact jS h2
 ·rintro rfl;decide
section
variable {P:Program} {n:Nat} {rs:List RO} {Γ:Env} {H:SH} {Z:List PanicEntry->Env->SH->Prop} {K:Env->SH->Prop} {d:Option Nat}
theorem RE {size len cap l h b o:Nat}{x lo hi:Operand}{kl kh:IntKind}{cl ch:Int}(hx:ev Γ x=some (.slice (some ⟨b,o,none⟩) len cap))(CW:ev Γ lo=some (.int kl cl))(hhi:ev Γ hi=some (.int kh ch))(el:cl=(l:Int))(eh:ch=(h:Int))(hr:l<=h/\h<=cap)
 (k:VO P n rs (ap d (.slice (some ⟨b,if cap=l then o else o+l*size,none⟩) (h - l) (cap - l)) Γ) H Z K):VO P n (⟨d,none,.qI size x (some lo) (some hi) none⟩::rs) Γ H Z K:=by
 subst el eh;refine VO.pure rfl (fun ρ aK=>?_) k;have h1:bound (Value.int kh (h:Int)) cap=some h:=by simp[bound];omega
 have h2:bound (Value.int kl (l:Int)) h=some l:=by simp[bound];omega
 simp[kT,aK _ _ hx,aK _ _ CW,aK _ _ hhi,za,h1,h2,wH]
end
def jB(n:Nat):Nat:=match n with|3=>0|4=>0|5=>2|_=>1
def io(n:Nat):Nat:=match n with|2=>3|4=>1|5=>3|_=>2
theorem CL {n:Nat}(hn:n=1∨n=2∨n=3∨n=4){l:List Nd}(h:ej n l=true):l.length=io n:=by
 rcases hn with rfl|rfl|rfl|rfl
 all_goals
  unfold ej at h;simp only at h;split at h
  ·rfl
  ·cases h
theorem YS {n:Nat}(hn:n=1∨n=2∨n=3∨n=4){l:List Nd}(hl:l.length=io n)(h:∀i y,jB n<=i->l[i]? =some y->jq y=true):ej n l=true:=by
 rcases hn with rfl|rfl|rfl|rfl
 ·match l,hl with
  |[a,b],_=>exact h 1 b Zd rfl
 ·match l,hl with
  |[a,b,c],_=>show(jq b&&jq c)=true;rw[h 1 b Zd rfl,h 2 c Zd rfl];rfl
 ·match l,hl with
  |[a,b],_=>show(jq a&&jq b)=true;rw[h 0 a Zd rfl,h 1 b Zd rfl];rfl
 ·match l,hl with
  |[a],_=>exact h 0 a Zd rfl
theorem CM {n:Nat}(hn:n=1∨n=2∨n=3∨n=4){l:List Nd}{i:Nat}{y:Nd}(hi:jB n<=i)(hy:l[i]? =some y)(hp:jq y=false):ej n l=false:=by
 cases e:ej n l with
 |false=>rfl
 |true=>
  exfalso;have hl:=CL hn e;have et:=(Vm.1 hy).1;rcases hn with rfl|rfl|rfl|rfl
  ·match l,hl,e,hy,et with
   |[a,b],_,e,hy,et=>
    simp only[Vu,Q0]at et;simp only[jB]at hi;obtain rfl:i=1:=by omega
    obtain rfl:b=y:=by simpa using hy
    have e2:jq b=true:=e;rw[hp]at e2;cases e2
  ·match l,hl,e,hy,et with
   |[a,b,c],_,e,hy,et=>
    have e2:(jq b&&jq c)=true:=e;simp only[Vu,Q0]at et;simp only[jB]at hi;obtain rfl|rfl:i=1∨i=2:=by omega
    ·obtain rfl:b=y:=by simpa using hy
     rw[hp]at e2;cases e2
    ·obtain rfl:c=y:=by simpa using hy
     rw[hp,Bool.and_false]at e2;cases e2
  ·match l,hl,e,hy,et with
   |[a,b],_,e,hy,et=>
    have e2:(jq a&&jq b)=true:=e;simp only[Vu,Q0]at et;obtain rfl|rfl:i=0∨i=1:=by omega
    ·obtain rfl:a=y:=by simpa using hy
     rw[hp]at e2;cases e2
    ·obtain rfl:b=y:=by simpa using hy
     rw[hp,Bool.and_false]at e2;cases e2
  ·match l,hl,e,hy,et with
   |[a],_,e,hy,et=>
    simp only[Vu,Q0]at et;obtain rfl:i=0:=by omega
    obtain rfl:a=y:=by simpa using hy
    have e2:jq a=true:=e;rw[hp]at e2;cases e2
theorem ur(s:ByteArray):jP s<=5:=by
 unfold jP
 repeat' split
 all_goals omega
theorem Nr {l:List Nd}(h:ej 5 l=true):l.length=3/\∃b,l[2]? =some b/\b.kind=7/\b.args.length=1:=by
 match l,h with
 |[_,_,b],h=>
  have e:(decide (b.kind=7)&&decide (b.args.length=1))=true:=h;rw[vF,decide_eq_true_eq,decide_eq_true_eq]at e;exact⟨rfl,b,rfl,e.1,e.2⟩
theorem xK {s:ByteArray}{kids:List Nd}(h:ej (jP s) kids=true){i:Nat}(hi:i < kids.length):dU s i=(decide (jB (jP s)<=i)&&decide (i < io (jP s))):=by
 have hle:=ur s;unfold dU;generalize jP s=n at h hle;have hn:n=0∨n=1∨n=2∨n=3∨n=4∨n=5:=by omega
 have key:∀m:Nat,m=1∨m=2∨m=3∨m=4->n=m->kids.length=io m:=fun m hm e=>by subst e;exact CL hm h
 rcases hn with rfl|rfl|rfl|rfl|rfl|rfl
 ·cases h
 ·have:=key 1 Zs rfl;simp only[io,jB]at this|-;rw[<- Bool.decide_and];exact decide_eq_decide.2 Zo
 ·have:=key 2 Zs rfl;simp only[io,jB]at this|-;rw[<- Bool.decide_and];exact decide_eq_decide.2 Zo
 ·have:=key 3 Zs rfl;simp only[io,jB]at this|-;rw[<- Bool.decide_and];exact(Zt Zo).symm
 ·have:=key 4 Zs rfl;simp only[io,jB]at this|-;rw[<- Bool.decide_and];exact(Zt Zo).symm
 ·have:=(Nr h).1;simp only[io,jB];rw[<- Bool.decide_and];exact decide_eq_decide.2 Zo
theorem yg {x:Nd}(h:jq x=true):x.kind=7/\x.args.length=0:=by
 unfold jq at h
 rwa [vF,decide_eq_true_eq,decide_eq_true_eq]at h
def okK(k:Nat)(kids:List Nd):Bool:=(!decide (k=1∨k=2)||decide (kids.length=0))&&(!decide (k=5)||decide (0 < kids.length))&&decide (1<=k/\k<=9)&&(!decide (k=4)||decide (0 < kids.length))
mutual
def O8:Nd->Bool
 |.mk k _ lit _ _ kids _=>okK k kids&&decide (lit.size<=274877906944)&&qh kids
def qh:List Nd->Bool
 |[]=>true
 |x::r=>O8 x&&qh r
end
theorem mi {x:Nd}:∀{l:List Nd},qh l=true->x∈l->O8 x=true:=by
 intro l
 induction l with
 |nil=>intro _ h;cases h
 |cons y r ih=>
  intro h hx;simp only[qh,vF]at h;rcases QC.1 hx with rfl|hx
  ·exact h.1
  ·exact ih h.2 hx
theorem jv(unit:Nat)(arg own:Bool)(p:Int):∀(l:List ByteArray) (i:Nat) (st:ah) (env:List Nat),(kQ unit arg own p l i st env).1.outer=st.outer/\(kQ unit arg own p l i st env).1.args=st.args/\(kQ unit arg own p l i st env).1.aj=st.aj/\(kQ unit arg own p l i st env).1.vars.length=st.vars.length+l.length
 |[],_,st,_=>⟨rfl,rfl,rfl,rfl⟩
 |nm::r,i,st,env=>by
  rw[kQ];obtain⟨h1,h2,h3,h4⟩:=jv unit arg own p r (i+1) {(if(w9 st.vars env nm).isSome then st.wrong 180 p else st)with vars:=st.vars++[⟨nm,unit,arg,if arg&&own then i else -1⟩]} (env++[st.vars.length]);have hw:(if(w9 st.vars env nm).isSome then st.wrong 180 p else st).outer=st.outer/\(if(w9 st.vars env nm).isSome then st.wrong 180 p else st).args=st.args/\(if(w9 st.vars env nm).isSome then st.wrong 180 p else st).aj=st.aj:=by
   split
   ·unfold ah.wrong;split <;> exact⟨rfl,rfl,rfl⟩
   ·exact⟨rfl,rfl,rfl⟩
  refine⟨h1.trans hw.1,h2.trans hw.2.1,h3.trans hw.2.2,?_⟩;rw[h4,Vu];simp only[Vt,Q3];omega
theorem eS(unit:Nat)(arg own:Bool)(p:Int):∀(l:List ByteArray) (i:Nat) (st:ah) (env:List Nat),(∀v∈env,v < st.vars.length)->∀v∈(kQ unit arg own p l i st env).2,v < (kQ unit arg own p l i st env).1.vars.length/\((v∈env/\(kQ unit arg own p l i st env).1.af v=st.af v)∨(kQ unit arg own p l i st env).1.af v=unit)
 |[],_,st,env,h=>fun v hv=>⟨h v hv,.inl ⟨hv,rfl⟩⟩
 |nm::r,i,st,env,h=>by
  intro v hv;rw[kQ]at hv|-;have hlen:({(if(w9 st.vars env nm).isSome then st.wrong 180 p else st)with vars:=st.vars++[⟨nm,unit,arg,if arg&&own then i else -1⟩]}:ah).vars.length=st.vars.length+1:=by simp
  obtain⟨h1,h2⟩:=eS unit arg own p r (i+1) {(if(w9 st.vars env nm).isSome then st.wrong 180 p else st)with vars:=st.vars++[⟨nm,unit,arg,if arg&&own then i else -1⟩]} (env++[st.vars.length]) (fun w hw=>by
   rw[hlen];rcases QA.1 hw with h'|h'
   ·have:=h w h';omega
   ·rw[QK.1 h'];omega) v hv
  refine⟨h1,?_⟩;rcases h2 with⟨h3,h4⟩|h3
  ·rcases QA.1 h3 with h5|h5
   ·refine .inl ⟨h5,h4.trans ?_⟩;unfold ah.af;simp only;rw[Vd (h v h5)]
   ·refine .inr (h4.trans ?_);rw[QK.1 h5];unfold ah.af;simp
  ·exact .inr h3
mutual
def ec(p:Nat->Bool):PN->Bool
 |.mk _ _ _ rs _ _ kids=>(rs.all fun r=>!decide (r.kind=99)||p r.index.toNat)&&wE p kids
def wE(p:Nat->Bool):List PN->Bool
 |[]=>true
 |x::r=>ec p x&&wE p r
end
mutual
theorem iO {p q:Nat->Bool}(h:∀v,p v=true->q v=true):∀x:PN,ec p x=true->ec q x=true
 |.mk k s l rs u b kids,hx=>by
  simp only[ec,vF,vZ,vP]at hx|-;exact⟨fun r hr=>(hx.1 r hr).imp_right (h _),dI h kids hx.2⟩
theorem dI {p q:Nat->Bool}(h:∀v,p v=true->q v=true):∀l:List PN,wE p l=true->wE q l=true
 |[],_=>rfl
 |x::r,hx=>by
  simp only[wE,vF]at hx|-;exact⟨iO h x hx.1,dI h r hx.2⟩
end
theorem Gc {p:Nat->Bool}:∀{l:List PN},(∀x∈l,ec p x=true)->wE p l=true
 |[],_=>rfl
 |x::r,h=>by
  simp only[wE,vF];exact⟨h x Zs,Gc fun y hy=>h y (by simp[hy])⟩
theorem pX {p:Nat->Bool}:∀{l:List PN},wE p l=true->∀x∈l,ec p x=true
 |y::r,h,x,hx=>by
  simp only[wE,vF]at h;rcases QC.1 hx with rfl|hx
  ·exact h.1
  ·exact pX h.2 x hx
def oT(st:ah)(i v:Nat):Bool:=decide (v < st.vars.length)&&(decide (st.af v=i)||decide ((i,v)∈st.uses))
theorem gB {a b:ah}(h:Gr a b)(i v:Nat)(hv:oT a i v=true):oT b i v=true:=by
 unfold oT at hv|-;simp only[vF,vP,decide_eq_true_eq]at hv|-;obtain⟨h1,h2⟩:=hv;obtain⟨t,ht⟩:=h.vars;have hu:b.af v=a.af v:=by
  unfold ah.af;rw[<- ht,Vd h1]
 refine⟨Qk h1 h.vars.length_le,?_⟩;rw[hu];exact h2.imp_right fun k=>h.uses.subset k
structure Ph (st:ah):Prop where
 wf:Wf st
 us:∀q∈st.uses,st.af q.2∈st.line q.1
 bd:∀(i:Nat) l,st.aj[i]? =some l->wE (oT st i) l=true
def lf(st:ah)(env:List Nat)(u:Nat):Prop:=∀v∈env,v < st.vars.length/\st.af v∈st.line u
theorem Ph.setF {st:ah}(h:Ph st)(f:Option (Nat×Int)):Ph {st with f:=f}:=⟨⟨h.wf.al,h.wf.bl,h.wf.low,h.wf.vu,h.wf.uu⟩,h.us,h.bd⟩
theorem Ph.wrong {st:ah}(h:Ph st)(e:Nat)(p:Int):Ph (st.wrong e p):=by
 unfold ah.wrong;split
 ·exact h.setF _
 ·exact h
theorem Ph.aX {st:ah}(h:Ph st){x:fF}(hx:x.unit < st.outer.length)(ho:-1<=x.own/\x.own < st.args.getD x.unit 0):Ph (st.aX x):=
 ⟨h.wf.aX hx ho,fun q hq=>by
   rw[cU st x (h.wf.uu q hq).2];exact h.us q hq,fun i l hl=>dI (fun v hv=>gB (CP st [x]) i v hv) l (h.bd i l hl)⟩
theorem Ph.aN {st:ah}(h:Ph st){o:Int}{n:Nat}(ho:-1<=o/\o < st.outer.length):Ph (st.aN o n):=
 ⟨h.wf.aN ho,fun q hq=>by
   rw[h.wf.pR ho _ (h.wf.uu q hq).1];exact h.us q hq,fun i l hl=>by
   have hl:(st.aj++[[]])[i]? =some l:=hl;rw[Vc]at hl;split at hl
   ·exact dI (fun v hv=>gB (Jy st o n) i v hv) l (h.bd i l hl)
   ·have:=(Vm.1 hl).1;simp only[Q3]at this;have e:i - st.aj.length=0:=by omega
    rw[e]at hl;obtain rfl:[]=l:=by simpa using hl
    rfl⟩
theorem Ph.use {st:ah}(h:Ph st){u v:Nat}(hu:u < st.outer.length)(hv:v < st.vars.length)(hl:st.af v∈st.line u):Ph (st.use u v):=
 ⟨h.wf.use hu hv,fun q hq=>by
   have hq:q∈st.uses++[(u,v)]:=hq;rcases QA.1 hq with k|k
   ·exact h.us q k
   ·rw[QK.1 k];exact hl,fun i l hl=>dI (fun w hw=>gB (CO st [(u,v)]) i w hw) l (h.bd i l hl)⟩
theorem Ph.body {st:ah}(h:Ph st)(i:Nat){l:List PN}(hl:wE (oT st i) l=true):Ph {st with aj:=st.aj.set i l}:=
 ⟨⟨h.wf.al,by show(st.aj.set i l).length=_;rw[Q1];exact h.wf.bl,h.wf.low,h.wf.vu,h.wf.uu⟩,h.us,fun j m hm0=>by
   have hm:(st.aj.set i l)[j]? =some m:=hm0;clear hm0;rw[Vp]at hm;by_cases e:i=j
   ·subst e;rw[if_pos rfl]at hm;split at hm
    ·obtain rfl:l=m:=by simpa using hm
     exact hl
    ·cases hm
   ·rw[if_neg e]at hm;exact h.bd j m hm⟩
theorem ψ {st He:ah}(h:He.outer=st.outer)(u:Nat):He.line u=st.line u:=by unfold ah.line;rw[h]
theorem u7(a:ah)(c:Bool)(x:fF)(p:Int):({(if c=true then a.wrong 180 p else a)with vars:=a.vars++[x]}:ah)=(if c=true then a.wrong 180 p else a).aX x:=by
 unfold ah.aX;split
 ·rw[cX]
 ·rfl
theorem iM(unit:Nat)(arg own:Bool)(p:Int):∀(l:List ByteArray) (i:Nat) (st:ah) (env:List Nat),Ph st->unit < st.outer.length->((arg&&own)=true->i+l.length<=st.args.getD unit 0)->lf st env unit->
 Ph (kQ unit arg own p l i st env).1/\lf (kQ unit arg own p l i st env).1 (kQ unit arg own p l i st env).2 unit
 |[],_,st,env,h,_,_,he=>⟨h,he⟩
 |nm::r,i,st,env,h,hu,ha,he=>by
  rw[kQ,u7];obtain⟨s,hs⟩:∃s,s=(if(w9 st.vars env nm).isSome=true then st.wrong 180 p else st):=⟨_,rfl⟩;have hk:Ph s/\s.outer=st.outer/\s.args=st.args/\s.vars=st.vars:=by
   rw[hs];split
   ·refine⟨h.wrong _ _,mP _ _ _,?_,cX _ _ _⟩;unfold ah.wrong;split <;> rfl
   ·exact⟨h,rfl,rfl,rfl⟩
  obtain⟨k1,k2,k3,k4⟩:=hk;rw[<- hs];rw[Vu]at ha;have l9:∀t:ah,Ph t->unit < t.outer.length->unit∈t.line unit:=fun t ht hl=>by rw[ht.wf.line Zo];exact QE ..
  have hov:(s.aX ⟨nm,unit,arg,if(arg&&own)=true then i else -1⟩).outer=st.outer:=k2;have hP:Ph (s.aX ⟨nm,unit,arg,if(arg&&own)=true then i else -1⟩):=by
   refine k1.aX (by rw[k2];exact hu) ?_;rw[k3];simp only;split
   ·rename_i c;have:=ha c;omega
   ·omega
  refine iM unit arg own p r (i+1) _ _ hP (by rw[hov];exact hu) (fun c=>?_) (fun v hv=>?_)
  ·have:=ha c;show i+1+r.length<=s.args.getD unit 0;rw[k3];omega
  ·have hl:(s.aX ⟨nm,unit,arg,if(arg&&own)=true then i else -1⟩).vars.length=st.vars.length+1:=by
    show(s.vars++[_]).length=_;rw[Vt,k4];rfl
   rcases QA.1 hv with h1|h1
   ·obtain⟨e1,e2⟩:=he v h1;refine⟨Zo,?_⟩;rw[cU s _ (by rw[k4];exact e1)];have e3:s.af v=st.af v:=by unfold ah.af;rw[k4]
    have e4:(s.aX ⟨nm,unit,arg,if(arg&&own)=true then i else -1⟩).line unit=st.line unit:=ψ hov unit;rw[e3,e4];exact e2
   ·rw[QK.1 h1];refine⟨Zo,?_⟩;have e3:(s.aX ⟨nm,unit,arg,if(arg&&own)=true then i else -1⟩).af st.vars.length=unit:=by
     rw[<- k4];unfold ah.af ah.aX;simp
    rw[e3];exact l9 _ hP (by rw[hov];exact hu)
theorem A6 {vs:List fF}{env:List Nat}{nm:ByteArray}{v:Nat}(h:w9 vs env nm=some v):v∈env:=by
 have:=List.mem_of_find?_eq_some h;simpa using this
theorem J0(s:ByteArray):zY s < 5:=by
 unfold zY
 repeat' split
 all_goals omega
theorem P9(F G:List ByteArray){st:ah}{env:List Nat}{u:Nat}(nm:ByteArray)(p:Int)(put:Bool)(h:Ph st)(hu:u < st.outer.length)(he:lf st env u):
 Ph (wQ F G st env nm u p put).2/\((wQ F G st env nm u p put).1.kind=99->oT (wQ F G st env nm u p put).2 u (wQ F G st env nm u p put).1.index.toNat=true):=by
 unfold wQ;split
 ·refine⟨h,fun k=>?_⟩;have:=J0 nm;simp only at k;omega
 ·split
  ·rename_i v hv;obtain⟨h1,h2⟩:=he v (A6 hv);have hp:Ph (st.use u v):=h.use hu h1 h2;have hk:∀s:ah,s.vars=st.vars->oT {s with uses:=st.uses++[(u,v)]} u v=true:=fun s hs=>by
    unfold oT;simp only[vF,vP,decide_eq_true_eq];exact⟨by rw[hs];exact h1,.inr Zs⟩
   refine⟨?_,fun _=>?_⟩
   ·simp only;split
    ·have e:({st.wrong 182 p with uses:=st.uses++[(u,v)]}:ah)={st.use u v with f:=(st.wrong 182 p).f}:=by
      unfold ah.wrong ah.use;split <;> rfl
     rw[e];exact hp.setF _
    ·exact hp
   ·show oT _ u ((v:Int)).toNat=true;rw[vT];simp only;split
    ·exact hk _ (cX _ _ _)
    ·exact hk _ rfl
  ·split
   ·exact⟨h,fun k=>by simp at k⟩
   ·refine⟨?_,fun k=>by simp at k⟩;simp only;split
    ·exact h
    ·exact h.wrong _ _
theorem lf.gr {a b:ah}{env:List Nat}{u:Nat}(h:lf a env u)(g:Gr a b)(ha:Wf a)(hb:Wf b)(hu:u < a.outer.length):lf b env u:=fun v hv=>by
 obtain⟨h1,h2⟩:=h v hv;refine⟨Qk h1 g.vars.length_le,?_⟩;have e1:b.af v=a.af v:=by
  obtain⟨t,ht⟩:=g.vars;unfold ah.af;rw[<- ht,Vd h1]
 have e2:∀w:Nat,w < a.outer.length->b.line w=a.line w:=by
  intro w
  induction w using Nat.strongRecOn with
  |_ w ih=>
   intro hw;have ho:b.outer.getD w (-1)=a.outer.getD w (-1):=by
    obtain⟨t,ht⟩:=g.outer;rw[<- ht,Vb,Vb,Vd hw]
   have hl:=g.outer.length_le;rw[hb.line Zo,ha.line Zo,ho]
   congr 1
   split
   ·rfl
   ·have:=ha.ff w;exact ih _ Zo Zo
 rw[e1,e2 u hu];exact h2
theorem II {p:Nat->Bool}(b:Bool){l:List PN}(h:wE p l=true):wE p (zX b l)=true:=by
 cases l with
 |nil=>rfl
 |cons x r=>
  simp only[wE,vF]at h;simp only[zX,wE,vF];refine⟨h.1,Gc fun y hy=>?_⟩;obtain⟨z,hz,rfl⟩:=QH.1 hy;have:=pX h.2 z hz;cases z;exact this
theorem LP {p:Nat->Bool}{a n:Nat}(h:∀v,a<=v->v < a+n->p v=true):((List.range' a n).map dH).all (fun r=>!decide (r.kind=99)||p r.index.toNat)=true:=by
 rw[vZ];intro r hr;obtain⟨v,hv,rfl⟩:=QH.1 hr;have:=List.mem_range'_1.1 hv;show(!decide ((99:Nat)=99)||p ((v:Int)).toNat)=true;rw[vT,h v this.1 this.2,Bool.or_true]
theorem oF(unit:Nat)(arg own:Bool)(p:Int):∀(l:List ByteArray) (i:Nat) (st:ah) (env:List Nat) (v:Nat),st.vars.length<=v->v < st.vars.length+l.length->(kQ unit arg own p l i st env).1.af v=unit
 |[],_,_,_,v,h1,h2=>by simp only[Q0]at h2;omega
 |nm::r,i,st,env,v,h1,h2=>by
  rw[kQ];rw[Vu]at h2;by_cases e:v=st.vars.length
  ·have g:=zT unit arg own p r (i+1) {(if(w9 st.vars env nm).isSome then st.wrong 180 p else st)with vars:=st.vars++[⟨nm,unit,arg,if arg&&own then i else -1⟩]} (env++[st.vars.length]);obtain⟨t,ht⟩:=g.vars;unfold ah.af;rw[<- ht,Vd (by simp[e]),e];simp
  ·exact oF unit arg own p r (i+1) _ _ v ru ru
theorem Wi(F G:List ByteArray):∀(N:Nat) (x:Nd),x.size<=N->∀st env u,Ph st->u < st.outer.length->lf st env u->
 (Ph (jH F G x st env u).2/\ec (oT (jH F G x st env u).2 u) (jH F G x st env u).1=true)/\(Ph (cI F G x st env u).2/\ec (oT (cI F G x st env u).2 u) (cI F G x st env u).1=true/\(x.args.length=1->oT (cI F G x st env u).2 u st.vars.length=true)):=by
 intro N
 induction N with
 |zero=>intro x hx;have:=x.size_pos;omega
 |succ N ih=>
  have au:∀l:List Nd,Nd.aw l<=N->∀st env u,Ph st->u < st.outer.length->lf st env u->Ph (kV F G l st env u).2/\wE (oT (kV F G l st env u).2 u) (kV F G l st env u).1=true:=by
   intro l
   induction l with
   |nil=>intro _ st env u h hu he;rw[kV];exact⟨h,rfl⟩
   |cons x r xI=>
    intro hl st env u h hu he;simp only[Nd.aw]at hl;rw[wX];have g1:=(zo F G N x Zo st env u).1;obtain⟨h1,h2⟩:=(ih x Zo st env u h hu he).1;obtain⟨h3,h4⟩:=xI Zo _ env u h1 (Qk hu g1.outer.length_le) (he.gr g1 h.wf h1.wf hu);exact zDN
  have pM:∀(s:ByteArray) (l:List Nd),Nd.aw l<=N->∀i st env u,Ph st->u < st.outer.length->lf st env u->(∀k y,l[k]? =some y->jP s=5->dU s (i+k)=true->y.args.length=1)->
   Ph (jA F G s l i st env u).2.2/\wE (oT (jA F G s l i st env u).2.2 u) (jA F G s l i st env u).1=true/\((jA F G s l i st env u).2.1.all fun r=>!decide (r.kind=99)||oT (jA F G s l i st env u).2.2 u r.index.toNat)=true/\Gr st (jA F G s l i st env u).2.2:=by
   intro s l
   induction l with
   |nil=>intro _ i st env u h hu he _;rw[jA];exact⟨h,rfl,rfl,Gr.refl _⟩
   |cons x r xI=>
    intro hl i st env u h hu he ha;simp only[Nd.aw]at hl;obtain⟨g1,g2⟩:=zo F G N x Zo st env u;obtain⟨⟨h1,h2⟩,h3,h4,h5⟩:=ih x Zo st env u h hu he;have dQ:∀k y,r[k]? =some y->jP s=5->dU s (i+1+k)=true->y.args.length=1:=fun k y hy e1 e2=>ha (k+1) y (by simpa using hy) e1 (by rw[show i+(k+1)=i+1+k from by omega];exact e2)
    cases hi:dU s i with
    |true=>
     rw[dM _ _ _ _ _ _ _ _ _ hi];obtain⟨k1,k2,k3,k4⟩:=xI Zo (i+1) _ env u h3 (Qk hu g2.outer.length_le) (he.gr g2 h.wf h3.wf hu) dQ;refine⟨k1,?_,?_,g2.trans k4⟩
     ·simp only[wE,vF];exact⟨iO (fun v hv=>gB k4 u v hv) _ h4,k2⟩
     ·simp only;split
      ·rename_i e5;simp only[vY,vF,vP];refine⟨.inr ?_,k3⟩;have:=gB k4 u _ (h5 (ha 0 x rfl e5 hi));show oT _ u ((st.vars.length:Int)).toNat=true;rw[vT];exact this
      ·exact k3
    |false=>
     rw[zy _ _ _ _ _ _ _ _ _ hi];obtain⟨k1,k2,k3,k4⟩:=xI Zo (i+1) _ env u h1 (Qk hu g1.outer.length_le) (he.gr g1 h.wf h1.wf hu) dQ;refine⟨k1,?_,k3,g1.trans k4⟩;simp only[wE,vF];exact⟨iO (fun v hv=>gB k4 u v hv) _ h2,k2⟩
  intro x hx st env u h hu he;cases x with
  |mk k s lit args ab kids p=>
  simp only[Nd.size]at hx;have hk:Nd.aw kids<=N:=by omega
  have nA:∀(kk:Nat) (nm:ByteArray) (l0:Lt) (un:Int) (b:Bool) (ks:List PN) (t:ah),wE (oT t u) ks=true->ec (oT t u) (.mk kk nm l0 [] un b ks)=true:=fun kk nm l0 un b ks t hh=>by
   simp only[ec,List.all_nil,vS];exact hh
  have JW:∀(kk:Nat) (r:zj) (ks:List PN) (t:ah),(r.kind=99->oT t u r.index.toNat=true)->wE (oT t u) ks=true->ec (oT t u) (.mk kk e0 fP [r] 0 false ks)=true:=fun kk r ks t hr hh=>by
   simp only[ec,vY,List.all_nil,Bool.and_true,vF,vP];refine⟨?_,hh⟩;by_cases e:r.kind=99
   ·exact .inr (hr e)
   ·exact .inl (by rw[Zf e];rfl)
  refine⟨?_,?_⟩
  ·cases aY:iD k s kids with
   |true=>
    rw[eE _ _ _ _ _ _ _ _ _ _ _ _ aY];have hf:ej (jP s) kids=true:=by
     unfold iD at aY;simp only[vF]at aY;exact aY.2
    obtain⟨k1,k2,k3,_⟩:=pM s kids hk 0 st env u h hu he (fun j y hy e5 hi=>by
     rw[e5]at hf;obtain⟨hl,b,hb,_,sR⟩:=Nr hf;have:j=2:=by
      unfold dU at hi;rw[e5]at hi;simp only[decide_eq_true_eq]at hi;omega
     subst this;rw[hb]at hy;obtain rfl:=Qx hy;exact sR)
    refine⟨k1,?_⟩;simp only[ec,vF];exact⟨k3,k2⟩
   |false=>
    by_cases h1:k=1
    ·rw[nj _ _ _ _ _ _ _ _ _ _ _ _ aY h1];exact⟨h,rfl⟩
    by_cases h2:k=2
    ·rw[nk _ _ _ _ _ _ _ _ _ _ _ _ aY h2];obtain⟨k1,k2⟩:=P9 F G s p false h hu he;exact⟨k1,JW _ _ _ _ k2 rfl⟩
    by_cases h3:k=3
    ·rw[np _ _ _ _ _ _ _ _ _ _ _ _ aY h3];obtain⟨k1,k2⟩:=P9 F G s p true h hu he;have g:=xl F G st env s u p true;obtain⟨k3,k4⟩:=au kids hk _ env u k1 (Qk hu g.outer.length_le) (he.gr g h.wf k1.wf hu);exact⟨k3,JW _ _ _ _ (fun e=>gB (wn F G kids _ env u) u _ (k2 e)) k4⟩
    by_cases h7:k=7
    ·rw[nw _ _ _ _ _ _ _ _ _ _ _ _ aY h7];refine⟨?_,nA _ _ _ _ _ _ _ rfl⟩;simp only;rw[zc];have hU:Ph (st.aN (u:Int) args.length):=h.aN ⟨Zo,Zo⟩;have N4:(st.aN (u:Int) args.length).outer.length=st.outer.length+1:=by unfold ah.aN;simp
     have hEnv0:lf (st.aN (u:Int) args.length) env st.outer.length:=fun v hv=>by
      obtain⟨e1,e2⟩:=he v hv;refine⟨e1,?_⟩;have e3:(st.aN (u:Int) args.length).outer.getD st.outer.length (-1)=(u:Int):=by
       show(st.outer++[(u:Int)]).getD st.outer.length (-1)=(u:Int);exact zC4
      rw[hU.wf.line Zo,e3,if_neg Zo,vT,h.wf.pR ⟨Zo,Zo⟩ u hu];exact QD _ e2
     have ha0:(st.aN (u:Int) args.length).args.getD st.outer.length 0=args.length:=by
      show(st.args++[args.length]).getD st.outer.length 0=_;rw[<- h.wf.al,Vb,Ve (Qh _),Qn];rfl
     obtain⟨d1,d2⟩:=iM st.outer.length true true p args 0 _ env hU Zo (fun _=>by rw[ha0];omega) hEnv0;obtain⟨f1,f2,f3,f4⟩:=jv st.outer.length true true p args 0 (st.aN (u:Int) args.length) env;obtain⟨d3,d4⟩:=iM st.outer.length false true p ab 0 _ _ d1 (by rw[f1];omega) (fun e=>by cases e) d2;obtain⟨f5,f6,f7,f8⟩:=jv st.outer.length false true p ab 0 (kQ st.outer.length true true p args 0 (st.aN (u:Int) args.length) env).1 (kQ st.outer.length true true p args 0 (st.aN (u:Int) args.length) env).2;obtain⟨d5,d6⟩:=au kids hk (bi args ab p st env (u:Int)).1 (bi args ab p st env (u:Int)).2 st.outer.length d3 (by
      show st.outer.length < (kQ st.outer.length false true p ab 0 (kQ st.outer.length true true p args 0 (st.aN (u:Int) args.length) env).1 (kQ st.outer.length true true p args 0 (st.aN (u:Int) args.length) env).2).1.outer.length;rw[f5,f1];omega) d4
     exact d5.body _ d6
    by_cases h8:k=8
    ·rw[ny _ _ _ _ _ _ _ _ _ _ _ _ aY h8];exact zC3
    by_cases h9:k=9
    ·rw[nz _ _ _ _ _ _ _ _ _ _ _ _ aY h9];exact zC3
    by_cases h6:k=6
    ·rw[nu _ _ _ _ _ _ _ _ _ _ _ _ aY h6];exact zC3
    by_cases h5:k=5
    ·rw[nt _ _ _ _ _ _ _ _ _ _ _ _ aY h5];obtain⟨k1,k2⟩:=au kids hk st env u h hu he;exact⟨k1,nA _ _ _ _ _ _ _ (II _ k2)⟩
    cases hs:jW kids with
    |true=>
     rw[gY _ _ _ _ _ _ _ _ _ _ _ _ aY ⟨h1,h2,h3,h5,h6,h7,h8,h9⟩ hs];have ht:Nd.aw kids.tail<=N:=by
      exact zEG
     obtain⟨k1,k2⟩:=au kids.tail ht st env u h hu he;exact⟨k1,nA _ _ _ _ _ _ _ k2⟩
    |false=>
     rw[nq _ _ _ _ _ _ _ _ _ _ _ _ aY ⟨h1,h2,h3,h5,h6,h7,h8,h9⟩ hs];exact zC3
  ·rw[iE];obtain⟨d1,d2⟩:=iM u true false p args 0 st env h hu (fun e=>by cases e) he;obtain⟨f1,f2,f3,f4⟩:=jv u true false p args 0 st env;obtain⟨d3,d4⟩:=iM u false false p ab 0 _ _ d1 (by rw[f1];exact hu) (fun e=>by cases e) d2;obtain⟨f5,f6,f7,f8⟩:=jv u false false p ab 0 (kQ u true false p args 0 st env).1 (kQ u true false p args 0 st env).2;obtain⟨d5,d6⟩:=au kids hk _ _ u d3 (by rw[f5,f1];exact hu) d4;have g:=wn F G kids (kQ u false false p ab 0 (kQ u true false p args 0 st env).1 (kQ u true false p args 0 st env).2).1 (kQ u false false p ab 0 (kQ u true false p args 0 st env).1 (kQ u true false p args 0 st env).2).2 u;have gt:=zT u false false p ab 0 (kQ u true false p args 0 st env).1 (kQ u true false p args 0 st env).2;have tL:∀(t:ah) (v:Nat),v < t.vars.length->t.af v=u->oT t u v=true:=fun t v e1 e2=>by
    unfold oT;simp only[vF,vP,decide_eq_true_eq];exact⟨e1,.inl e2⟩
   refine⟨d5,?_,fun ha=>?_⟩
   ·simp only[ec,vF];refine⟨LP fun v e1 e2=>?_,d6⟩;exact gB g u v (tL _ v (by rw[f8];exact e2) (oF u false false p ab 0 _ _ v e1 e2))
   ·have ha:args.length=1:=ha;exact gB (gt.trans g) u _ (tL _ _ (by rw[f4];omega) (oF u true false p args 0 st env _ (Qh _) Zo))
end Go.V

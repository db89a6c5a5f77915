/-
  The names that are seen, as a map.
-/
import Derived.Test.YtijnokbblmbpkaaGreatDoorM16
import Derived.Test.YtijnokbblmbpkaaGreatDoorM7
set_option linter.all false
namespace Go.V
open Go
def ah.nameOf(st:ah)(v:Nat):ByteArray:=((st.vars[v]?).map (·.name)).getD e0
def tL(V:List az)(v:Nat):Nat:=(V.getD v AA).q
def lW(st:ah)(V:List az)(env:List Nat):List (ByteArray×Nat):=env.map fun v=>(st.nameOf v,tL V v)
structure zH (st:ah)(V:List az)(env:List Nat)(es:Array MapEntry)(c:Nat):Prop where
 is:zu yK (fun b=>kM (some b)) es c (lW st V env)
 lt:∀v∈env,v < st.vars.length
 one:(env.map st.nameOf).Nodup
theorem OT {α:Type}(p:α->Bool):∀{l:List α} {x:α},x∈l->p x=true->(∀y∈l,p y=true->y=x)->l.reverse.find? p=some x:=fun {l x} hx hp hu=>by
 cases h:l.reverse.find? p with
 |none=>
  have:=List.find?_eq_none.1 h x (by simpa using hx);exact absurd hp this
 |some y=>
  have h1:=List.find?_some h;have h2:=List.mem_of_find?_eq_some h;rw[hu y (by simpa using h2) h1]
theorem Bh {α β:Type}{f:α->β}:∀{l:List α},(l.map f).Nodup->∀{x y:α},x∈l->y∈l->f x=f y->x=y:=by
 intro l
 induction l with
 |nil=>intro _ x y hx;cases hx
 |cons a l ih=>
  intro h x y hx hy e;simp only[QC,QU]at h;rcases QH.1 hx with h1|h1
  ·rcases QH.1 hy with h2|h2
   ·exact h1.trans h2.symm
   ·exact absurd (QM.2 ⟨y,h2,by rw[<- e,h1]⟩:f a∈l.map f) h.1
  ·rcases QH.1 hy with h2|h2
   ·exact absurd (QM.2 ⟨x,h1,by rw[e,h2]⟩:f a∈l.map f) h.1
   ·exact ih h.2 h1 h2 e
theorem Mw {st:ah}{V:List az}{nm:ByteArray}:∀{env:List Nat},kz nm (lW st V env)=((env.find? fun v=>decide (st.nameOf v=nm)).map (tL V)):=by
 intro env
 induction env with
 |nil=>rfl
 |cons v r ih=>
  show kz nm ((st.nameOf v,tL V v)::lW st V r)=_;simp only[kz,List.find?_cons];by_cases h:st.nameOf v=nm
  ·rw[if_pos h,Zt h];rfl
  ·rw[if_neg h,Zf h];exact ih
theorem zH.find {st:ah}{V:List az}{env:List Nat}{es:Array MapEntry}{c:Nat}(h:zH st V env es c)(nm:ByteArray):kz nm (lW st V env)=(jw st.vars env nm).map (tL V)/\∀v,jw st.vars env nm=some v->v∈env/\v < st.vars.length/\st.nameOf v=nm:=by
 have hp:∀v∈env,(decide ((st.vars[v]?).map (·.name)=some nm)=decide (st.nameOf v=nm)):=fun v hv=>by
  have hl:=h.lt v hv;unfold ah.nameOf;rw[Zg hl];simp
 have hf:jw st.vars env nm=env.find? fun v=>decide (st.nameOf v=nm):=by
  unfold jw;cases e:env.find? (fun v=>decide (st.nameOf v=nm))with
  |none=>
   rw[List.find?_eq_none]at e|-;intro v hv;have Gx:v∈env:=by simpa using hv
   rw[hp v Gx];exact e v Gx
  |some v=>
   have h1:=List.find?_some e;have h2:=List.mem_of_find?_eq_some e;refine OT _ h2 (by rw[hp v h2];exact h1) (fun y hy h3=>?_);rw[hp y hy]at h3;simp only[decide_eq_true_eq]at h1 h3;exact Bh h.one hy h2 (h3.trans h1.symm)
 refine⟨by rw[Mw,hf],fun v hv=>?_⟩;rw[hf]at hv;have h2:=List.mem_of_find?_eq_some hv;exact⟨h2,h.lt v h2,by simpa using List.find?_some hv⟩
theorem yp(st:ah)(x:fS){v:Nat}(hv:v < st.vars.length):(st.bf x).nameOf v=st.nameOf v:=by
 unfold ah.nameOf ah.bf;simp only;rw[Vj hv]
theorem yq(st:ah)(x:fS):(st.bf x).nameOf st.vars.length=x.name:=by
 unfold ah.nameOf ah.bf;simp
theorem XI {V:List az}(y:az){v:Nat}(hv:v < V.length):tL (V++[y]) v=tL V v:=by
 unfold tL;rw[cN hv]
theorem XJ(V:List az)(y:az):tL (V++[y]) V.length=y.q:=by
 unfold tL;exact zC8
theorem zH.add {st:ah}{V:List az}{env:List Nat}{es cB:Array MapEntry}{c c':Nat}(h:zH st V env es c)(hv:V.length=st.vars.length){x:fS}{y:az}(hn:jw st.vars env x.name=none)
 (he:zu yK (fun b=>kM (some b)) cB c' (jk x.name y.q (lW st V env))):zH (st.bf x) (V++[y]) (env++[st.vars.length]) cB c':=by
 have hold:lW (st.bf x) (V++[y]) env=lW st V env:=QB fun v Gx=>by
  have:=h.lt v Gx;rw[yp st x this,XI y Zo]
 have hg:=(h.find x.name).1;rw[hn]at hg;refine⟨?_,fun v Gx=>?_,?_⟩
 ·have e:lW (st.bf x) (V++[y]) (env++[st.vars.length])=lW st V env++[(x.name,y.q)]:=by
   show List.map _ (env++[st.vars.length])=_;rw[QA];have:=hold;unfold lW at this;rw[this];simp only[QC,QE];rw[yq,<- hv,XJ];rfl
  rw[e,<- fD hg];exact he
 ·show v < (st.vars++[x]).length;rw[Vy,Q8];rcases QF.1 Gx with h1|h1
  ·have:=h.lt v h1;omega
  ·rw[QR.1 h1];omega
 ·rw[QA];have hm:env.map (st.bf x).nameOf=env.map st.nameOf:=QB fun v Gx=>yp st x (h.lt v Gx)
  rw[hm,List.map_singleton,yq,QT];refine⟨h.one,Zs,fun a ha b hb=>?_⟩;obtain⟨v,hv1,rfl⟩:=QM.1 ha;rw[QR.1 hb];intro e;have aH:=Mv.1 hg;exact aH (QM.2 ⟨(st.nameOf v,tL V v),QM.2 ⟨v,hv1,rfl⟩,e⟩)
theorem zH.more {st Ih:ah}{V V':List az}{env:List Nat}{es:Array MapEntry}{c:Nat}(h:zH st V env es c)(h1:st.vars <+:Ih.vars)(h2:V.map az.q <+:V'.map az.q)(hv:V.length=st.vars.length):zH Ih V' env es c:=by
 have hn:∀v∈env,Ih.nameOf v=st.nameOf v:=fun v Gx=>by
  obtain⟨r,hr⟩:=h1;unfold ah.nameOf;rw[<- hr,Vj (h.lt v Gx)]
 have hq:∀v∈env,tL V' v=tL V v:=fun v Gx=>by
  obtain⟨r,hr⟩:=h2;have hl:=h.lt v Gx;have e:∀W:List az,v < W.length->tL W v=((W.map az.q)[v]?).getD 0:=fun W hW=>by
   unfold tL;rw[Vh,Vu,Zg hW];rfl
  have fQ:v < V'.length:=by
   have:=congrArg List.length hr;simp only[Vy,Q5]at this;omega
  rw[e V' fQ,e V Zo,<- hr,Vj (by rw[Q5];omega)]
 refine⟨?_,fun v Gx=>?_,?_⟩
 ·have:lW Ih V' env=lW st V env:=QB fun v Gx=>by rw[hn v Gx,hq v Gx]
  rw[this];exact h.is
 ·obtain⟨r,hr⟩:=h1;have:=h.lt v Gx;rw[<- hr,Vy];omega
 ·rw[QB hn];exact h.one
structure pM (F:List ByteArray)(es:Array MapEntry)(c:Nat):Prop where
 is:∃m:List (ByteArray×Nat),zu yK (fun n:Nat=>.int .i64 n) es c m/\∀nm,kz nm m=F.findIdx? (fun s=>decide (s=nm))
structure uD (G:List ByteArray)(es:Array MapEntry)(c:Nat):Prop where
 is:∃m:List (ByteArray×Nat),zu yK (fun n:Nat=>.int .i64 n) es c m/\∀nm,decide ((kz nm m).getD 0=0)=!G.any (fun s=>decide (s=nm))
def jN(r:zY):List Value:=[.int .u8 r.kind,.int .i64 r.index,.int .i64 r.slot,.string r.name]
def rz:List Value:=[.int .u8 0,.int .i64 0,.int .i64 0,.string e0]
def sT(V:List az)(r:zY):Value:=if r.kind=99 then .tuple #[.agg rz.toArray,kM (some (tL V r.index.toNat))]else .tuple #[.agg (jN r).toArray,.pointer none]
theorem refK_0 {s:ByteArray}(h1:s≠yv)(h2:s≠nP)(h3:s≠G3)(h4:s≠yw)(h5:s≠qP):wx s=0:=by
 unfold wx;rw[if_neg (by rintro(h|h) <;> contradiction),if_neg h3,if_neg h4,if_neg h5]
theorem Lb {st:ah}(h:st.f=none)(e:Nat)(p:Int):(st.wrong e p).f=some (e,p):=by
 unfold ah.wrong;rw[h];rfl
section
variable {F G:List ByteArray} {st:ah} {env:List Nat} {nm:ByteArray} {u:Nat} {p:Int} {put:Bool}
theorem qW(h:wx nm≠0):wD F G st env nm u p put=(⟨wx nm,0,0,e0⟩,st):=by unfold wD;rw[if_pos h]
theorem Hk(h:wx nm=0){v:Nat}(hv:jw st.vars env nm=some v)(hp:(put&&((st.vars[v]?).map (·.arg)).getD false)=false):wD F G st env nm u p put=(cG v,st.use u v):=by
 unfold wD;rw[if_neg Zo,hv];simp only[hp];rfl
theorem Hj(h:wx nm=0){v:Nat}(hv:jw st.vars env nm=some v)(hp:(put&&((st.vars[v]?).map (·.arg)).getD false)=true)(hf:st.f=none):(wD F G st env nm u p put).2.f=some (182,p):=by
 unfold wD;rw[if_neg Zo,hv];simp only[hp,if_true,ah.wrong,hf,Option.isNone_none]
theorem Ac(h:wx nm=0)(hv:jw st.vars env nm=none){i:Nat}(hi:F.findIdx? (fun s=>decide (s=nm))=some i):wD F G st env nm u p put=(⟨7,i,0,e0⟩,st):=by
 unfold wD;rw[if_neg Zo,hv];simp only[hi]
theorem C3(h:wx nm=0)(hv:jw st.vars env nm=none)(hi:F.findIdx? (fun s=>decide (s=nm))=none)(hg:G.any (fun s=>decide (s=nm))=true):wD F G st env nm u p put=(⟨8,0,0,nm⟩,st):=by
 unfold wD;rw[if_neg Zo,hv];simp only[hi,hg,if_true]
theorem C4(h:wx nm=0)(hv:jw st.vars env nm=none)(hi:F.findIdx? (fun s=>decide (s=nm))=none)(hg:G.any (fun s=>decide (s=nm))=false)(hf:st.f=none):(wD F G st env nm u p put).2.f=some (181,p):=by
 unfold wD;rw[if_neg Zo,hv];simp only[hi,hg,vL,if_false];exact Lb hf 181 p
end
def jy(T:List kC)(v:Value)(rs:List zY):Prop:=∃a c,v=.slice a rs.length c/\∀(i:Nat) r,rs[i]? =some r->∃b o,a=some ⟨b,o,none⟩/\∀y∈kA b (o+i*4) (jN r),y∈T
def z5(T:List kC)(v:Value)(l:List Nat):Prop:=∃a c,v=.slice a l.length c/\∀(i:Nat) q,l[i]? =some q->∃b o,a=some ⟨b,o,none⟩/\kC.cell b (o+i) (kM (some q))∈T
theorem jy.more {T T':List kC}{v:Value}{rs:List zY}(h:jy T v rs)(hs:∀x∈T,x∈T'):jy T' v rs:=by
 obtain⟨a,c,h1,h2⟩:=h;exact⟨a,c,h1,fun i r hi=>let⟨b,o,k1,k2⟩:=h2 i r hi;⟨b,o,k1,fun y hy=>hs _ (k2 y hy)⟩⟩
theorem z5.more {T T':List kC}{v:Value}{l:List Nat}(h:z5 T v l)(hs:∀x∈T,x∈T'):z5 T' v l:=by
 obtain⟨a,c,h1,h2⟩:=h;exact⟨a,c,h1,fun i r hi=>let⟨b,o,k1,k2⟩:=h2 i r hi;⟨b,o,k1,hs _ k2⟩⟩
theorem jy.nil(T:List kC):jy T Nz []:=⟨none,0,rfl,fun i r h=>by simp at h⟩
theorem z5.nil(T:List kC):z5 T Nz []:=⟨none,0,rfl,fun i r h=>by simp at h⟩
def zE(rs:List zY):List zY:=rs.filter fun r=>decide (r.kind≠99)
def eu(rs:List zY):List zY:=rs.filter fun r=>decide (r.kind=99)
structure yC (qs:List Nat)(rs:List zY):Prop where
 one:(∀r∈rs,r.kind=99)∨∀r∈rs,r.kind≠99
 raw:∀r∈rs,r.kind=99->∃v,r=cG v/\v < qs.length
inductive xd (T:List kC)(qs:List Nat):PN->List Value->Prop
 |mk {k:Nat} {nm:ByteArray} {lit:Lt} {refs:List zY} {unit:Int} {fM:Bool} {kids:List PN} {lv:List Value} {rv vv:Value} {a:Option Addr} {c bk o:Nat} {us:Nat->List Value} (hl:zk T lit lv) (hr:jy T rv (zE refs))
   (hv:z5 T vv ((eu refs).map fun r=>qs.getD r.index.toNat 0)) (ok:yC qs refs) (hz:zE refs=[]->rv=Nz) (ha:0 < kids.length->a=some ⟨bk,o,none⟩) (hm:∀i,i < kids.length->∀y∈kA bk (o+i*13) (us i),y∈T) (hs:∀i x,kids[i]? =some x->xd T qs x (us i)):
   xd T qs (.mk k nm lit refs unit fM kids) ([cv k,.string nm]++lv++[rv,.int .i64 unit,.bool fM,Nz,vv,.slice a kids.length c])
theorem xd.len {T:List kC}{qs:List Nat}{x:PN}{vs:List Value}(h:xd T qs x vs):vs.length=13:=by
 cases h with
 |mk hl=>simp[hl.len]
theorem yC.more {qs Bn:List Nat}{rs:List zY}(h:yC qs rs)(hq:qs <+:Bn):yC Bn rs:=
 ⟨h.one,fun r hr hk=>let⟨v,h1,h2⟩:=h.raw r hr hk;⟨v,h1,Qq h2 hq.length_le⟩⟩
theorem C0 {qs Bn:List Nat}{rs:List zY}(h:yC qs rs)(hq:qs <+:Bn):(eu rs).map (fun r=>Bn.getD r.index.toNat 0)=(eu rs).map fun r=>qs.getD r.index.toNat 0:=by
 refine QB fun r hr=>?_
 obtain⟨h1,h2⟩:=QK.1 hr;obtain⟨v,rfl,hv⟩:=h.raw r h1 (of_decide_eq_true h2);exact zDQ
theorem xd.more {T T':List kC}{qs Bn:List Nat}(hs:∀x∈T,x∈T')(hq:qs <+:Bn){x:PN}{vs:List Value}(h:xd T qs x vs):xd T' Bn x vs:=by
 induction h with
 |mk hl hr hv ok hz ha hm hk ih=>
  refine .mk (hl.more hs) (hr.more hs) ?_ (ok.more hq) hz ha (fun i hi y hy=>hs _ (hm i hi y hy)) ih;rw[C0 ok hq];exact hv.more hs
structure zh (T:List kC)(qs:List Nat)(l:List PN)(rows:List (List Value)):Prop where
 len:rows.length=l.length
 w:∀r∈rows,r.length=13
 rd:∀(i:Nat) x r,l[i]? =some x->rows[i]? =some r->xd T qs x r
theorem zh.nil(T:List kC)(qs:List Nat):zh T qs [] []:=⟨rfl,Zs,fun i x r h=>by simp at h⟩
theorem zh.more {T T':List kC}{qs Bn:List Nat}{l:List PN}{rows:List (List Value)}(h:zh T qs l rows)(hs:∀x∈T,x∈T')(hq:qs <+:Bn):zh T' Bn l rows:=⟨h.len,h.w,fun i x r hx hr=>(h.rd i x r hx hr).more hs hq⟩
theorem zh.snoc {T:List kC}{qs:List Nat}{l:List PN}{rows:List (List Value)}{x:PN}{r:List Value}(h:zh T qs l rows)(hx:xd T qs x r):zh T qs (l++[x]) (rows++[r]):=by
 refine⟨by simp[h.len],fun r' AK=>?_,fun i y s hy hs=>?_⟩
 ·exact zEP
 ·exact zAO
theorem yo {B:List kC}{qs:List Nat}{k:Nat}{nm:ByteArray}{lit:Lt}{refs:List zY}{unit:Int}{fM:Bool}{kids:List PN}{lv:List Value}{rv vv sv:Value}{rows:List (List Value)}{sp:List Value}(bD:jA 13 sv kids.length rows.flatten sp)(hr:zh B qs kids rows)
 (aS:zk B lit lv) (Ic:jy B rv (zE refs)) (NL:z5 B vv ((eu refs).map fun r=>qs.getD r.index.toNat 0)) (ok:yC qs refs) (hz:zE refs=[]->rv=Nz:=by intro _;rfl):
 xd (aj sv rows.flatten sp++B) qs (.mk k nm lit refs unit fM kids) ([cv k,.string nm]++lv++[rv,.int .i64 unit,.bool fM,Nz,vv,sv]):=by
 have aB:∀i,i < kids.length->rows[i]? =some (rows.getD i []):=fun i hi=>by
  exact zE5
 have iZ:∀y∈B,y∈aj sv rows.flatten sp++B:=fun y hy=>QG _ hy
 have ur:=aS.more iZ;have Ws:=Ic.more iZ;have hvv2:=NL.more iZ;clear aS Ic NL;generalize hm:kids.length=m at bD;generalize Ie:rows.flatten=xs at bD|-;cases bD with
 |@mk bk o _ c _ _ h1 h2 h3=>
  rw[<- hm];subst Ie;refine .mk (bk:=bk) (o:=o) (us:=fun i=>rows.getD i []) ur Ws hvv2 ok hz (fun _=>rfl) (fun i hi y hy=>?_) (fun i x hx=>?_)
  ·exact zDD
  ·have hi:=(Vt.1 hx).1;exact(hr.rd i x _ hx (aB i hi)).more iZ (Qc _)
 |nil=>
  have h0:kids=[]:=vz hm;subst h0;exact .mk (bk:=0) (o:=0) (us:=fun _=>[]) ur Ws hvv2 ok hz (fun h=>absurd h Zs) (fun i hi=>absurd hi Zs) (fun i x hx=>by simp at hx)
def lz:List Value:=[cv 0,.int .i64 0,.int .u64 0,.string e0,Nz]
theorem o9(B:List kC):zk B fV lz:=.mk (bk:=0) (o:=0) (us:=fun _=>[]) ⟨Zd,Zd,Zd,Zd,Zd⟩ (fun h=>absurd h Zs) (fun i hi=>absurd hi Zs) (fun i x hx=>by simp at hx)
theorem yC.nil(qs:List Nat):yC qs []:=⟨.inl Zs,Zs⟩
def tV(T:List kC)(qs:List Nat)(v:Value)(l:List PN):Prop:=∃(a:Option Addr) (c bk o:Nat) (us:Nat->List Value),v=.slice a l.length c/\(0 < l.length->a=some ⟨bk,o,none⟩)/\(∀i,i < l.length->∀y∈kA bk (o+i*13) (us i),y∈T)/\∀i x,l[i]? =some x->xd T qs x (us i)
theorem tV.nil(T:List kC)(qs:List Nat):tV T qs Nz []:=⟨none,0,0,0,fun _=>[],rfl,fun h=>absurd h Zs,fun i hi=>absurd hi Zs,fun i x h=>by simp at h⟩
theorem tV.more {T T':List kC}{qs Bn:List Nat}{v:Value}{l:List PN}(h:tV T qs v l)(hs:∀x∈T,x∈T')(hq:qs <+:Bn):tV T' Bn v l:=by
 obtain⟨a,c,bk,o,us,h1,h2,h3,h4⟩:=h;exact⟨a,c,bk,o,us,h1,h2,fun i hi y hy=>hs _ (h3 i hi y hy),fun i x hx=>(h4 i x hx).more hs hq⟩
theorem Xt {B:List kC}{qs:List Nat}{l:List PN}{sv:Value}{rows:List (List Value)}{sp:List Value}(bD:jA 13 sv l.length rows.flatten sp)(hr:zh B qs l rows):tV (aj sv rows.flatten sp++B) qs sv l:=by
 have h:=yo (k:=0) (nm:=e0) (unit:=0) (fM:=false) bD hr (o9 B) (jy.nil B) (z5.nil B) (yC.nil qs);generalize hx:PN.mk 0 e0 fV [] 0 false l=x at h;generalize hw:([cv 0,.string e0]++lz++[Nz,.int .i64 0,.bool false,Nz,Nz,sv]:List Value)=ws at h;cases h with
 |@mk k nm lit refs unit fM kids lv rv vv a c bk o us hl AK hv ok hz ha hm hs=>
  simp only[PN.mk.injEq]at hx;obtain⟨_,_,_,_,_,_,rfl⟩:=hx;have e:sv=.slice a l.length c:=by
   have h1:=congrArg List.reverse hw;simp only[List.reverse_append,List.reverse_cons,List.reverse_nil,QS,vr,vj]at h1;exact(List.cons.inj h1).1
  exact⟨a,c,bk,o,us,e,ha,hm,hs⟩
structure ii (st:ah)(us:Value)(bA:List Value)(U:List UC)(V:List az)(T:List kC):Prop where
 rep:cK st U V
 ok:st.f=none
 sl:jA 1 us U.length (U.map fun u=>kM (some u.q)) bA
 Yz:∀(i:Nat) u,U[i]? =some u->tV T (V.map az.q) u.body (st.ai.getD i [])
def iV(args ab:List ByteArray)(n:Nat):Nat:=1+args.length+ab.length+n
mutual
def pW:Nd->Nat
 |.mk _ _ _ args ab kids _=>iV args ab (jM kids)
def jM:List Nd->Nat
 |[]=>0
 |x::r=>pW x+jM r
end
def Room(st:ah)(n:Nat):Prop:=st.vars.length+n < 1073741824/\st.uses.length+n < 1073741824/\st.outer.length+n < 1073741824
def zl(a b:ah)(n:Nat):Prop:=b.vars.length<=a.vars.length+n/\b.uses.length<=a.uses.length+n/\b.outer.length<=a.outer.length+n
theorem zl.trans {a b c:ah}{n m:Nat}(h:zl a b n)(k:zl b c m):zl a c (n+m):=by
 obtain⟨h1,h2,h3⟩:=h;obtain⟨k1,k2,k3⟩:=k;exact⟨Zo,Zo,Zo⟩
theorem zl.mono {a b:ah}{n m:Nat}(h:zl a b n)(hm:n<=m):zl a b m:=by
 obtain⟨h1,h2,h3⟩:=h;exact⟨Zo,Zo,Zo⟩
theorem zl.refl(a:ah):zl a a 0:=⟨Qn _,Qn _,Qn _⟩
theorem Room.less {a b:ah}{n m:Nat}(h:Room a (n+m))(k:zl a b n):Room b m:=by
 obtain⟨h1,h2,h3⟩:=h;obtain⟨k1,k2,k3⟩:=k;exact⟨Zo,Zo,Zo⟩
theorem Room.mono {a:ah}{n m:Nat}(h:Room a n)(hm:m<=n):Room a m:=by
 obtain⟨h1,h2,h3⟩:=h;exact⟨Zo,Zo,Zo⟩
theorem Jl(a:ah)(e:Nat)(p:Int):zl a (a.wrong e p) 0:=by
 unfold ah.wrong;split <;> exact⟨Qn _,Qn _,Qn _⟩
theorem wh(unit:Nat)(arg own:Bool)(p:Int):∀(l:List ByteArray) (i:Nat) (st:ah) (env:List Nat),zl st (kP unit arg own p l i st env).1 l.length
 |[],_,st,_=>zl.refl st
 |nm::r,i,st,env=>by
  unfold kP;have h1:zl st {(if(jw st.vars env nm).isSome then st.wrong 180 p else st)with vars:=st.vars++[⟨nm,unit,arg,if arg&&own then i else -1⟩]} 1:=by
   refine⟨Zs,?_,?_⟩
   ·split
    ·show(st.wrong 180 p).uses.length<=_;rw[AE];omega
    ·show st.uses.length<=_;omega
   ·split
    ·show(st.wrong 180 p).outer.length<=_;rw[dZ];omega
    ·show st.outer.length<=_;omega
  have h2:=h1.trans (wh unit arg own p r (i+1) _ (env++[st.vars.length]));exact h2.mono (by rw[Vz];omega)
theorem yc(F G:List ByteArray)(st:ah)(env:List Nat)(nm:ByteArray)(u:Nat)(p:Int)(put:Bool):zl st (wD F G st env nm u p put).2 1:=by
 unfold wD;split
 ·exact(zl.refl st).mono Zo
 ·split
  ·rename_i v _;simp only;split
   ·refine⟨?_,?_,?_⟩
    ·show(st.wrong 182 p).vars.length<=_;rw[dh];omega
    ·show(st.uses++[(u,v)]).length<=_;simp
    ·show(st.wrong 182 p).outer.length<=_;rw[dZ];omega
   ·exact⟨Qo _,Zs,Qo _⟩
  ·split
   ·exact(zl.refl st).mono Zo
   ·simp only;split
    ·exact(zl.refl st).mono Zo
    ·exact(Jl st 181 p).mono Zo
theorem sI(a:ah)(o:Int)(n:Nat):zl a {a with outer:=a.outer++[o],args:=a.args++[n],ai:=a.ai++[[]]} 1:=⟨Qo _,Qo _,Zs⟩
theorem nM(F G:List ByteArray):∀(N:Nat) (x:Nd),x.size<=N->∀st env u,zl st (j9 F G x st env u).2 (pW x)/\zl st (zo F G x st env u).2 (pW x):=by
 intro N
 induction N with
 |zero=>intro x hx;have:=x.size_pos;omega
 |succ N ih=>
  have au:∀l:List Nd,Nd.aq l<=N->∀st env u,zl st (kT F G l st env u).2 (jM l):=by
   intro l
   induction l with
   |nil=>intro _ st env u;rw[kT];exact zl.refl st
   |cons x r oj=>
    exact zEM
  have iy:∀(s:ByteArray) (l:List Nd),Nd.aq l<=N->∀i st env u,zl st (kf F G s l i st env u).2.2 (jM l):=by
   intro s l
   induction l with
   |nil=>intro _ i st env u;rw[kf];exact zl.refl st
   |cons x r oj=>
    exact zC4
  intro x hx st env u;cases x with
  |mk k s lit args ab kids p=>
  simp only[Nd.size]at hx;have hk:Nd.aq kids<=N:=by omega
  simp only[pW,iV];refine⟨?_,?_⟩
  ·cases h:fU k s kids with
   |true=>rw[zd _ _ _ _ _ _ _ _ _ _ _ _ h];exact(iy s kids hk 0 st env u).mono Zo
   |false=>
    by_cases h1:k=1
    ·rw[eF _ _ _ _ _ _ _ _ _ _ _ _ h h1];exact(zl.refl st).mono Zo
    by_cases h2:k=2
    ·rw[eG _ _ _ _ _ _ _ _ _ _ _ _ h h2];exact(yc F G st env s u p false).mono Zo
    by_cases h3:k=3
    ·rw[eH _ _ _ _ _ _ _ _ _ _ _ _ h h3];exact((yc F G st env s u p true).trans (au kids hk _ env u)).mono Zo
    by_cases h7:k=7
    ·rw[eL _ _ _ _ _ _ _ _ _ _ _ _ h h7];simp only;rw[wC];have hA:=au kids hk (aW args ab p st env (u:Int)).1 (aW args ab p st env (u:Int)).2 st.outer.length;have hD:zl st (aW args ab p st env (u:Int)).1 (1+(args.length+ab.length)):=(sI st (u:Int) args.length).trans ((wh _ _ _ _ _ _ _ _).trans (wh _ _ _ _ _ _ _ _));exact zl.mono (b:={(kT F G kids (aW args ab p st env (u:Int)).1 (aW args ab p st env (u:Int)).2 st.outer.length).2 with ai:=_}) (hD.trans hA) Zo
    by_cases h8:k=8
    ·rw[eM _ _ _ _ _ _ _ _ _ _ _ _ h h8];exact(au kids hk st env u).mono Zo
    by_cases h9:k=9
    ·rw[eN _ _ _ _ _ _ _ _ _ _ _ _ h h9];exact(au kids hk st env u).mono Zo
    by_cases h6:k=6
    ·rw[eK _ _ _ _ _ _ _ _ _ _ _ _ h h6];exact(au kids hk st env u).mono Zo
    by_cases h5:k=5
    ·rw[eJ _ _ _ _ _ _ _ _ _ _ _ _ h h5];exact(au kids hk st env u).mono Zo
    cases hs:jS kids with
    |true=>
     rw[yJ _ _ _ _ _ _ _ _ _ _ _ _ h ⟨h1,h2,h3,h5,h6,h7,h8,h9⟩ hs];cases kids with
     |nil=>cases hs
     |cons x r=>
      simp only[Nd.aq]at hk;simp only[List.tail_cons,jM];exact(au r Zo st env u).mono Zo
    |false=>rw[eI _ _ _ _ _ _ _ _ _ _ _ _ h ⟨h1,h2,h3,h5,h6,h7,h8,h9⟩ hs];exact(au kids hk st env u).mono Zo
  ·rw[dw];exact((wh _ _ _ _ _ _ _ _).trans ((wh _ _ _ _ _ _ _ _).trans (au kids hk _ _ _))).mono Zo
theorem wV(F G:List ByteArray):∀(l:List Nd) st env u,Gr st (kT F G l st env u).2:=by
 intro l
 induction l with
 |nil=>intro st env u;rw[kT];exact Gr.refl st
 |cons x r ih=>
  intro st env u;rw[je];exact(wd F G _ x (Qn _) st env u).1.trans (ih _ env u)
theorem qO {A:List kC}{y:Nd}{vs:List Value}(h:jJ A y vs):∃(e1:Nat) (e2:Int) (e3:Nat) (e4:ByteArray) (e5:Option Addr) (e6 e7:Nat) (e8:Option Addr) (e9 uf:Nat) (ug:Option Addr) (uh ui:Nat) (H0:Option Addr) (H4 H5:Nat),
 vs=(rN y.kind y.name e1 e2 e3 e4 e5 e6 e7 e8 e9 uf ug uh ui H0 H4 H5 y.at_):=by
 exact zCM
theorem lr {T:List kC}{qs:List Nat}{x:PN}{ws:List Value}(h:xd T qs x ws):∃(e1:Nat) (e2:Int) (e3:Nat) (e4:ByteArray) (e5:Option Addr) (e6 e7:Nat) (r1:Option Addr) (r2 r3:Nat) (v1:Option Addr) (v2 v3:Nat) (k1:Option Addr) (k2 k3:Nat),
 ws=[.int .u8 x.kind,.string x.name,.int .u8 e1,.int .i64 e2,.int .u64 e3,.string e4,.slice e5 e6 e7,.slice r1 r2 r3,.int .i64 x.unit,.bool x.super,Nz,.slice v1 v2 v3,.slice k1 k2 k3]:=by
 cases h with
 |mk hl hr hv ok hz ha hm hs=>
  obtain⟨_,_,rfl,_⟩:=hr;obtain⟨_,_,rfl,_⟩:=hv;cases hl with
  |mk Tt IS p8 du=>exact⟨_,_,_,_,_,_,_,_,_,_,_,_,_,_,_,_,rfl⟩
def yu(q n:Nat)(o:Option Nat)(i nb:Nat):UC:=⟨q,n,0,0,o,i,[],Nz,[],nb,#[],0,[],Nz,[],Nz⟩
def ni(U:List UC)(o:Int):Option Nat:=if o < 0 then none else(U[o.toNat]?).map UC.q
theorem cK.aF {st:ah}{U:List UC}{V:List az}(h:cK st U V){o:Int}{n:Nat}(ho:-1<=o/\o < st.outer.length){q nb:Nat}(hq:q∉U.map UC.q):cK (st.aF o n) (U++[yu q n (ni U o) st.outer.length nb]) V:=by
 have aB:∀{j:Nat} {w:UC},(U++[yu q n (ni U o) st.outer.length nb])[j]? =some w->(j < st.outer.length/\U[j]? =some w)∨(j=st.outer.length/\w=yu q n (ni U o) st.outer.length nb):=fun {j w} hj=>by
  rw[Vi]at hj;split at hj
  ·rename_i hl;exact .inl ⟨by rw[<- h.ul];exact hl,hj⟩
  ·rename_i hl;have:=(Vt.1 hj).1;simp only[Q8]at this;have DU:=h.ul;have e:j - U.length=0:=by omega
   rw[e]at hj;exact .inr ⟨Zo,by simpa using hj.symm⟩
 have hold:∀{j:Nat},j < st.outer.length->(U++[yu q n (ni U o) st.outer.length nb])[j]? =U[j]?:=fun {j} hj=>Vj (by rw[h.ul];exact hj)
 have sF:=h.wf.aF (n:=n) ho;have hol:(st.aF o n).outer.length=st.outer.length+1:=by unfold ah.aF;simp
 refine⟨sF,by rw[Vy,hol,h.ul];rfl,h.vl,?_,fun j w hj=>?_,fun j w hj=>?_,fun j w hj=>?_,fun j w hj=>?_,fun v x y hx hy=>?_⟩
 ·rw[QA,QT];refine⟨h.inj,Zs,fun a ha b hb=>?_⟩;rw[List.map_singleton,QR]at hb
  rintro rfl
  rw[hb]at ha;exact hq ha
 ·rcases aB hj with⟨h1,h2⟩|⟨rfl,rfl⟩
  ·have:=h.un j w h2;show w.args=(st.args++[n]).getD j 0/\_;rw[cN (by rw[h.wf.al];exact h1)];exact this
  ·refine⟨?_,rfl,rfl,rfl,rfl,rfl,rfl⟩;show n=(st.args++[n]).getD st.outer.length 0;rw[Vh,<- h.wf.al,Vl (Qn _),Qt];rfl
 ·rcases aB hj with⟨h1,h2⟩|⟨rfl,rfl⟩
  ·have e:(st.aF o n).outer.getD j (-1)=st.outer.getD j (-1):=cN h1;rw[e,h.ou j w h2];have hl:=h.wf.ef j;split
   ·rfl
   ·rw[hold Zo]
  ·have e:(st.aF o n).outer.getD st.outer.length (-1)=o:=by
    show(st.outer++[o]).getD st.outer.length (-1)=o;exact zC8
   rw[e];show ni U o=_;by_cases hn:o < 0
   ·rw[if_pos hn];unfold ni;rw[if_pos hn]
   ·rw[if_neg hn,hold Zo];unfold ni;rw[if_neg hn]
 ·have ht:(st.aF o n).ab j=st.ab j:=rfl;rw[ht];rcases aB hj with⟨h1,h2⟩|⟨rfl,rfl⟩
  ·exact h.tm j w h2
  ·have h0:st.ab st.outer.length=[]:=by
    unfold ah.ab;rw[V7];intro v hv;have hv:=QO.1 hv;obtain⟨x,hx⟩:∃x,st.vars[v]? =some x:=⟨_,Zg hv⟩;have:=(h.wf.vu v x hx).1;have e:st.af v=x.unit:=by unfold ah.af;rw[hx];rfl
    rw[e];simp only[vF,decide_eq_true_eq,not_and];intro e2;omega
   rw[h0];exact⟨rfl,.nil⟩
 ·rcases aB hj with⟨h1,h2⟩|⟨rfl,rfl⟩
  ·obtain⟨m,k1,k2,k3,k4⟩:=h.nd j w h2;refine⟨m,k1,k2,fun p hp=>?_,fun i z a hi=>?_⟩
   ·obtain⟨⟨i,z,k5,k6⟩,k7⟩:=k3 p hp;exact⟨⟨i,z,by rw[hold (by rw[<- h.ul];exact(Vt.1 k5).1)];exact k5,k6⟩,k7⟩
   ·rw[h.wf.CS ho];rcases aB hi with⟨k5,k6⟩|⟨rfl,rfl⟩
    ·exact k4 i z a k6
    ·have dt:st.bg j (st.outer.length,a)=false:=by
      unfold ah.bg;rw[vg];intro x hx;simp only[vF,decide_eq_true_eq,not_and,X5]
      rintro⟨e1,_⟩
      have hu:=(h.wf.uu x hx).2;obtain⟨y,hy⟩:∃y,st.vars[x.2]? =some y:=⟨_,Zg hu⟩;have:=(h.wf.vu _ y hy).1;have e:st.af x.2=y.unit:=by unfold ah.af;rw[hy];rfl
      omega
     rw[dt];constructor
     ·intro hm;obtain⟨c,hc⟩:=Qz.1 hm;obtain⟨⟨i,z,k5,k6⟩,_⟩:=k3 _ (yn hc);exact absurd (QM.2 ⟨z,Zv k5,k6.symm⟩) hq
     ·intro hf;cases hf
  ·refine⟨[],.nil,Zs,Zs,fun i z a hi=>?_⟩;rw[h.wf.CS ho,h.wf.R4 _ (Qn _)];simp[kz]
 ·obtain⟨⟨z,k1,k2⟩,k3⟩:=h.vn v x y hx hy;exact⟨⟨z,by rw[hold (by rw[<- h.ul];exact(Vt.1 k1).1)];exact k1,k2⟩,k3⟩
theorem cK.body {st:ah}{U:List UC}{V:List az}(h:cK st U V){i:Nat}{u:UC}(hu:U[i]? =some u)(bv:Value)(bl:List PN):cK {st with ai:=st.ai.set i bl} (U.set i {u with body:=bv}) V:=by
 have Ia:=ze (w':={u with body:=bv}) hu rfl;have L5:=DA Ia;have aB:∀{j:Nat} {w:UC},(U.set i {u with body:=bv})[j]? =some w->∃w0,U[j]? =some w0/\w={w0 with body:=w.body}:=fun {j w} hj=>by
  rcases lF hu hj with⟨rfl,rfl⟩|⟨_,h2⟩
  ·exact⟨u,hu,rfl⟩
  ·exact⟨w,h2,rfl⟩
 have et:∀{j:Nat} {w:UC},U[j]? =some w->∃w',(U.set i {u with body:=bv})[j]? =some w'/\w'.q=w.q:=fun {j w} hj=>by
  have:=L5 j;rw[hj]at this;cases e:(U.set i {u with body:=bv})[j]? with
  |none=>rw[e]at this;cases this
  |some w'=>rw[e]at this;exact⟨w',rfl,X3 this⟩
 have L4:∀{j:Nat} {w:UC},(U.set i {u with body:=bv})[j]? =some w->∃w',U[j]? =some w'/\w.q=w'.q:=fun {j w} hj=>by
  obtain⟨w0,h1,h2⟩:=aB hj;exact⟨w0,h1,by rw[h2]⟩
 refine⟨⟨h.wf.al,by show(st.ai.set i bl).length=_;rw[Q7];exact h.wf.bl,h.wf.low,h.wf.vu,h.wf.uu⟩,by rw[Q7];exact h.ul,h.vl,by rw[Ia];exact h.inj,fun j w hj=>?_,fun j w hj=>?_,fun j w hj=>?_,fun j w hj=>?_,fun v x y hx hy=>?_⟩
 ·obtain⟨w0,h1,h2⟩:=aB hj;rw[h2];exact h.un j w0 h1
 ·rw[L5];obtain⟨w0,h1,h2⟩:=aB hj;rw[h2];exact h.ou j w0 h1
 ·obtain⟨w0,h1,h2⟩:=aB hj;rw[h2];exact h.tm j w0 h1
 ·obtain⟨w0,h1,h2⟩:=aB hj;obtain⟨m,k1,k2,k3,k4⟩:=h.nd j w0 h1;rw[h2];refine⟨m,k1,k2,fun p hp=>?_,fun a z b ha=>?_⟩
  ·exact zDZ
  ·obtain⟨z',k8,k9⟩:=L4 ha;rw[k9];exact k4 a z' b k8
 ·obtain⟨⟨z,k1,k2⟩,k3⟩:=h.vn v x y hx hy;obtain⟨z',k8,k9⟩:=et k1;exact⟨⟨z',k8,k2.trans k9.symm⟩,k3⟩
theorem Yn {U:List UC}{V:List az}{i:Nat}{u:UC}(h:U[i]? =some u):∃R,(WK U V).Perm (kA u.q 8 [u.body]++R)/\∀bv,(WK (U.set i {u with body:=bv}) V).Perm (kA u.q 8 [bv]++R):=by
 have hx:∀bv,({u with body:=bv}:UC).atoms.Perm (kA u.q 8 [bv]++(.own u.q 9::(kA u.q 0 [.int .i64 u.args,.int .i64 u.locals,.int .i64 u.aA,kM u.outer,.int .i64 u.num,u.tv,.map (some u.nb),u.cv]++(aj u.tv (u.ab.map fun b=>kM (some b)) u.iJ++(aj u.cv (u.dk.flatMap jV) u.cm++[.obj u.nb (.map u.es u.cl)]))))):=fun bv=>by
  unfold UC.atoms UC.row;have e:kA u.q 0 [.int .i64 u.args,.int .i64 u.locals,.int .i64 u.aA,kM u.outer,.int .i64 u.num,u.tv,.map (some u.nb),u.cv,bv]=kA u.q 0 [.int .i64 u.args,.int .i64 u.locals,.int .i64 u.aA,kM u.outer,.int .i64 u.num,u.tv,.map (some u.nb),u.cv]++kA u.q 8 [bv]:=rfl;simp only;rw[e,vj,<- vr,<- vj];exact zCN
 obtain⟨R,h1,h2⟩:=ES (V:=V) h (hx u.body);exact⟨R,h1,fun bv=>h2 _ _ (hx bv)⟩
def Lc {α:Type}(p:α->Prop):List α->Prop
 |[]=>True
 |x::r=>p x/\Lc p r
theorem Lc.mem {α:Type}{p:α->Prop}:∀{l:List α},Lc p l->∀x∈l,p x
 |x::r,h,y,hy=>by
  rcases QH.1 hy with rfl|hy
  ·exact h.1
  ·exact Lc.mem h.2 y hy
theorem VC.Ci {P:Program}{n:Nat}{Γ:Env}{H:SH}{Q:Exit->Env->SH->Prop}{rL:List (List RO)}{aV:List Nat}
 (h:Lc (fun rs=>∃pre d f xs post,rs=pre++⟨d,none,.call f xs⟩::post/\Lc (fun S=>VO P n S Γ H (fun _ _ _=>False) fun ay H'=>VO P n [⟨d,none,.call f xs⟩] ay H' (fun ch _ l9=>Q (.panic ch) [] l9) (fun _ _=>False)) (Bp (cX xs) d.toList [] (pre.map (fun x=>(x,false))++post.map (fun x=>(x,true))))) rL):VC P n (.draw rL aV) Γ H Q:=
 VC.Oz fun rs dK=>by
  obtain⟨pre,d,f,xs,post,h1,h2⟩:=h.mem rs dK;exact⟨pre,d,f,xs,post,h1,h2.mem⟩
theorem iD {tv:Value}{l:List Nat}{sp:List Value}{n:Nat}(hn:n=l.length)(bD:jA 1 tv n (l.map fun b=>kM (some b)) sp):z5 (aj tv (l.map fun b=>kM (some b)) sp) tv l:=by
 generalize hx:(l.map fun b=>kM (some b))=xs at bD;cases bD with
 |@mk bk o _ c _ _ h1 h2 h3=>
  subst hx;rw[hn];refine⟨_,c,rfl,fun i q hi=>⟨bk,o,rfl,?_⟩⟩;simp only[aj,j8];exact Zw _ (kJ.2 ⟨i,kM (some q),by rw[Vu,hi];rfl,rfl⟩)
 |nil=>
  have h0:l=[]:=vz hn.symm;subst h0;exact z5.nil _
theorem JE(a n:Nat):eu ((List.range' a n).map cG)=(List.range' a n).map cG:=by
 unfold eu;rw[V8];intro r hr;obtain⟨v,_,rfl⟩:=QM.1 hr;rfl
theorem En(a n:Nat):zE ((List.range' a n).map cG)=[]:=by
 unfold zE;rw[V7];intro r hr;obtain⟨v,_,rfl⟩:=QM.1 hr;simp[cG]
theorem JF {qs:List Nat}{a n:Nat}(h:a+n<=qs.length):yC qs ((List.range' a n).map cG):=by
 refine⟨.inl fun r hr=>?_,fun r hr _=>?_⟩
 ·obtain⟨v,_,rfl⟩:=QM.1 hr;rfl
 ·obtain⟨v,hv,rfl⟩:=QM.1 hr;have:=QP.1 hv;exact⟨v,rfl,Zo⟩
theorem J2 {qs:List Nat}{a n:Nat}(h:a+n<=qs.length):((List.range' a n).map cG).map (fun r=>qs.getD r.index.toNat 0)=(qs.drop a).take n:=by
 apply V0;intro i;rw[Vu,Vu,List.getElem?_take,Vo];by_cases hi:i < n
 ·rw[List.getElem?_range' hi,if_pos hi];have:a+i < qs.length:=by omega
  rw[Zg this];show some (qs.getD ((a+1*i:Nat):Int).toNat 0)=_;rw[vV,Nat.one_mul,Vh,Zg this];rfl
 ·rw[if_neg hi,Vp (by simpa using hi)];rfl
theorem drop_take {qs Bn:List Nat}{a n:Nat}(h:qs <+:Bn)(hl:qs.length=a+n):(Bn.drop a).take n=qs.drop a:=by
 obtain⟨t,rfl⟩:=h;rw[List.drop_append_of_le_length Zo,List.take_append_of_le_length (by rw[Q0];omega),Qg (by rw[Q0];omega)]
theorem fF {A:List kC}{y:Nd}{vs:List Value}(h:jJ A y vs):∃(e1:Nat) (e2:Int) (e3:Nat) (e4:ByteArray) (e5:Option Addr) (e6 e7:Nat) (a1:Option Addr) (c1:Nat) (a2:Option Addr) (c2:Nat) (a3:Option Addr) (c3 bk o:Nat) (us:Nat->List Value),
 vs=(rN y.kind y.name e1 e2 e3 e4 e5 e6 e7 a1 y.args.length c1 a2 y.ab.length c2 a3 y.kids.length c3 y.at_)/\
 zk A y.lit [.int .u8 e1,.int .i64 e2,.int .u64 e3,.string e4,.slice e5 e6 e7]/\dG A (.slice a1 y.args.length c1) y.args/\dG A (.slice a2 y.ab.length c2) y.ab/\y.kind < 256/\
 (0 < y.kids.length->a3=some ⟨bk,o,none⟩)/\(∀i,i < y.kids.length->∀z∈kA bk (o+i*11) (us i),z∈A)/\(∀i x,y.kids[i]? =some x->jJ A x (us i))/\y.kids.length<=c3:=by
 cases h with
 |@mk k s lit args ab kids p lv av tv a c bk o us wf hl bJ bF ha hm hr ss=>
  have O1:=bJ;have DT:=bF;obtain⟨a1,c1,rfl,_⟩:=bJ;obtain⟨a2,c2,rfl,_⟩:=bF;have rJ:=hl;cases hl with
  |mk Tt IS p8 du=>exact⟨_,_,_,_,_,_,_,a1,c1,a2,c2,a,c,bk,o,us,rfl,rJ,O1,DT,wf.kind,ha,hm,hr,ss⟩
theorem lH {s:ByteArray}:kB s=[115,117,112,101,114]↔s=⟨#[115,117,112,101,114]⟩:=by
 constructor
 ·intro h;have h2:kB s=kB ⟨#[115,117,112,101,114]⟩:=h.trans Zd;exact jU h2
 ·rintro rfl;decide
section
variable {P:Program} {n:Nat} {rs:List RO} {Γ:Env} {H:SH} {Z:List PanicEntry->Env->SH->Prop} {K:Env->SH->Prop} {d:Option Nat}
theorem S7 {size len cap l h b o:Nat}{x lo hi:Operand}{kl kh:IntKind}{cl ch:Int}(hx:ev Γ x=some (.slice (some ⟨b,o,none⟩) len cap))(DK:ev Γ lo=some (.int kl cl))(hhi:ev Γ hi=some (.int kh ch))(el:cl=(l:Int))(eh:ch=(h:Int))(hr:l<=h/\h<=cap)
 (k:VO P n rs (ap d (.slice (some ⟨b,if cap=l then o else o+l*size,none⟩) (h - l) (cap - l)) Γ) H Z K):VO P n (⟨d,none,.rj size x (some lo) (some hi) none⟩::rs) Γ H Z K:=by
 subst el eh;refine VO.pure rfl (fun ρ aO=>?_) k;have h1:bound (Value.int kh (h:Int)) cap=some h:=by simp[bound];omega
 have h2:bound (Value.int kl (l:Int)) h=some l:=by simp[bound];omega
 simp[kW,aO _ _ hx,aO _ _ DK,aO _ _ hhi,zj,h1,h2,wP]
end
def jD(n:Nat):Nat:=match n with|3=>0|4=>0|5=>2|_=>1
def iO(n:Nat):Nat:=match n with|2=>3|4=>1|5=>3|_=>2
theorem Dy {n:Nat}(hn:n=1∨n=2∨n=3∨n=4){l:List Nd}(h:eA n l=true):l.length=iO n:=by
 rcases hn with rfl|rfl|rfl|rfl
 all_goals
  unfold eA at h;simp only at h;split at h
  ·rfl
  ·cases h
theorem Ω {n:Nat}(hn:n=1∨n=2∨n=3∨n=4){l:List Nd}(hl:l.length=iO n)(h:∀i y,jD n<=i->l[i]? =some y->jt y=true):eA n l=true:=by
 rcases hn with rfl|rfl|rfl|rfl
 ·match l,hl with
  |[a,b],_=>exact h 1 b Zd rfl
 ·match l,hl with
  |[a,b,c],_=>show(jt b&&jt c)=true;rw[h 1 b Zd rfl,h 2 c Zd rfl];rfl
 ·match l,hl with
  |[a,b],_=>show(jt a&&jt b)=true;rw[h 0 a Zd rfl,h 1 b Zd rfl];rfl
 ·match l,hl with
  |[a],_=>exact h 0 a Zd rfl
theorem Dz {n:Nat}(hn:n=1∨n=2∨n=3∨n=4){l:List Nd}{i:Nat}{y:Nd}(hi:jD n<=i)(hy:l[i]? =some y)(hp:jt y=false):eA n l=false:=by
 cases e:eA n l with
 |false=>rfl
 |true=>
  exfalso;have hl:=Dy hn e;have cF:=(Vt.1 hy).1;rcases hn with rfl|rfl|rfl|rfl
  ·match l,hl,e,hy,cF with
   |[a,b],_,e,hy,cF=>
    simp only[Vz,Q6]at cF;simp only[jD]at hi;obtain rfl:i=1:=by omega
    obtain rfl:b=y:=by simpa using hy
    have e2:jt b=true:=e;rw[hp]at e2;cases e2
  ·match l,hl,e,hy,cF with
   |[a,b,c],_,e,hy,cF=>
    have e2:(jt b&&jt c)=true:=e;simp only[Vz,Q6]at cF;simp only[jD]at hi;obtain rfl|rfl:i=1∨i=2:=by omega
    ·obtain rfl:b=y:=by simpa using hy
     rw[hp]at e2;cases e2
    ·obtain rfl:c=y:=by simpa using hy
     rw[hp,Bool.and_false]at e2;cases e2
  ·match l,hl,e,hy,cF with
   |[a,b],_,e,hy,cF=>
    have e2:(jt a&&jt b)=true:=e;simp only[Vz,Q6]at cF;obtain rfl|rfl:i=0∨i=1:=by omega
    ·obtain rfl:a=y:=by simpa using hy
     rw[hp]at e2;cases e2
    ·obtain rfl:b=y:=by simpa using hy
     rw[hp,Bool.and_false]at e2;cases e2
  ·match l,hl,e,hy,cF with
   |[a],_,e,hy,cF=>
    simp only[Vz,Q6]at cF;obtain rfl:i=0:=by omega
    obtain rfl:a=y:=by simpa using hy
    have e2:jt a=true:=e;rw[hp]at e2;cases e2
theorem uN(s:ByteArray):jQ s<=5:=by
 unfold jQ
 repeat' split
 all_goals omega
theorem OU {l:List Nd}(h:eA 5 l=true):l.length=3/\∃b,l[2]? =some b/\b.kind=7/\b.args.length=1:=by
 match l,h with
 |[_,_,b],h=>
  have e:(decide (b.kind=7)&&decide (b.args.length=1))=true:=h;rw[vF,decide_eq_true_eq,decide_eq_true_eq]at e;exact⟨rfl,b,rfl,e.1,e.2⟩
theorem x8 {s:ByteArray}{kids:List Nd}(h:eA (jQ s) kids=true){i:Nat}(hi:i < kids.length):yM s i=(decide (jD (jQ s)<=i)&&decide (i < iO (jQ s))):=by
 have hle:=uN s;unfold yM;generalize jQ s=n at h hle;have hn:n=0∨n=1∨n=2∨n=3∨n=4∨n=5:=by omega
 have key:∀m:Nat,m=1∨m=2∨m=3∨m=4->n=m->kids.length=iO m:=fun m hm e=>by subst e;exact Dy hm h
 rcases hn with rfl|rfl|rfl|rfl|rfl|rfl
 ·cases h
 ·have:=key 1 Zs rfl;simp only[iO,jD]at this|-;rw[<- Bool.decide_and];exact decide_eq_decide.2 Zo
 ·have:=key 2 Zs rfl;simp only[iO,jD]at this|-;rw[<- Bool.decide_and];exact decide_eq_decide.2 Zo
 ·have:=key 3 Zs rfl;simp only[iO,jD]at this|-;rw[<- Bool.decide_and];exact(Zt Zo).symm
 ·have:=key 4 Zs rfl;simp only[iO,jD]at this|-;rw[<- Bool.decide_and];exact(Zt Zo).symm
 ·have:=(OU h).1;simp only[iO,jD];rw[<- Bool.decide_and];exact decide_eq_decide.2 Zo
theorem yY {x:Nd}(h:jt x=true):x.kind=7/\x.args.length=0:=by
 unfold jt at h
 rwa [vF,decide_eq_true_eq,decide_eq_true_eq]at h
def okK(k:Nat)(kids:List Nd):Bool:=(!decide (k=1∨k=2)||decide (kids.length=0))&&(!decide (k=5)||decide (0 < kids.length))&&decide (1<=k/\k<=9)&&(!decide (k=4)||decide (0 < kids.length))
mutual
def Se:Nd->Bool
 |.mk k _ lit _ _ kids _=>okK k kids&&decide (lit.size<=274877906944)&&qR kids
def qR:List Nd->Bool
 |[]=>true
 |x::r=>Se x&&qR r
end
theorem nh {x:Nd}:∀{l:List Nd},qR l=true->x∈l->Se x=true:=by
 intro l
 induction l with
 |nil=>intro _ h;cases h
 |cons y r ih=>
  intro h hx;simp only[qR,vF]at h;rcases QH.1 hx with rfl|hx
  ·exact h.1
  ·exact ih h.2 hx
theorem jZ(unit:Nat)(arg own:Bool)(p:Int):∀(l:List ByteArray) (i:Nat) (st:ah) (env:List Nat),(kP unit arg own p l i st env).1.outer=st.outer/\(kP unit arg own p l i st env).1.args=st.args/\(kP unit arg own p l i st env).1.ai=st.ai/\(kP unit arg own p l i st env).1.vars.length=st.vars.length+l.length
 |[],_,st,_=>⟨rfl,rfl,rfl,rfl⟩
 |nm::r,i,st,env=>by
  rw[kP];obtain⟨h1,h2,h3,h4⟩:=jZ unit arg own p r (i+1) {(if(jw st.vars env nm).isSome then st.wrong 180 p else st)with vars:=st.vars++[⟨nm,unit,arg,if arg&&own then i else -1⟩]} (env++[st.vars.length]);have hw:(if(jw st.vars env nm).isSome then st.wrong 180 p else st).outer=st.outer/\(if(jw st.vars env nm).isSome then st.wrong 180 p else st).args=st.args/\(if(jw st.vars env nm).isSome then st.wrong 180 p else st).ai=st.ai:=by
   split
   ·unfold ah.wrong;split <;> exact⟨rfl,rfl,rfl⟩
   ·exact⟨rfl,rfl,rfl⟩
  refine⟨h1.trans hw.1,h2.trans hw.2.1,h3.trans hw.2.2,?_⟩;rw[h4,Vz];simp only[Vy,Q8];omega
theorem fp(unit:Nat)(arg own:Bool)(p:Int):∀(l:List ByteArray) (i:Nat) (st:ah) (env:List Nat),(∀v∈env,v < st.vars.length)->∀v∈(kP unit arg own p l i st env).2,v < (kP unit arg own p l i st env).1.vars.length/\((v∈env/\(kP unit arg own p l i st env).1.af v=st.af v)∨(kP unit arg own p l i st env).1.af v=unit)
 |[],_,st,env,h=>fun v hv=>⟨h v hv,.inl ⟨hv,rfl⟩⟩
 |nm::r,i,st,env,h=>by
  intro v hv;rw[kP]at hv|-;have hlen:({(if(jw st.vars env nm).isSome then st.wrong 180 p else st)with vars:=st.vars++[⟨nm,unit,arg,if arg&&own then i else -1⟩]}:ah).vars.length=st.vars.length+1:=by simp
  obtain⟨h1,h2⟩:=fp unit arg own p r (i+1) {(if(jw st.vars env nm).isSome then st.wrong 180 p else st)with vars:=st.vars++[⟨nm,unit,arg,if arg&&own then i else -1⟩]} (env++[st.vars.length]) (fun w hw=>by
   rw[hlen];rcases QF.1 hw with h'|h'
   ·have:=h w h';omega
   ·rw[QR.1 h'];omega) v hv
  refine⟨h1,?_⟩;rcases h2 with⟨h3,h4⟩|h3
  ·rcases QF.1 h3 with h5|h5
   ·refine .inl ⟨h5,h4.trans ?_⟩;unfold ah.af;simp only;rw[Vj (h v h5)]
   ·refine .inr (h4.trans ?_);rw[QR.1 h5];unfold ah.af;simp
  ·exact .inr h3
mutual
def cJ(p:Nat->Bool):PN->Bool
 |.mk _ _ _ rs _ _ kids=>(rs.all fun r=>!decide (r.kind=99)||p r.index.toNat)&&w9 p kids
def w9(p:Nat->Bool):List PN->Bool
 |[]=>true
 |x::r=>cJ p x&&w9 p r
end
mutual
theorem lC {p q:Nat->Bool}(h:∀v,p v=true->q v=true):∀x:PN,cJ p x=true->cJ q x=true
 |.mk k s l rs u b kids,hx=>by
  simp only[cJ,vF,ve,vR]at hx|-;exact⟨fun r hr=>(hx.1 r hr).imp_right (h _),dS h kids hx.2⟩
theorem dS {p q:Nat->Bool}(h:∀v,p v=true->q v=true):∀l:List PN,w9 p l=true->w9 q l=true
 |[],_=>rfl
 |x::r,hx=>by
  simp only[w9,vF]at hx|-;exact⟨lC h x hx.1,dS h r hx.2⟩
end
theorem Hg {p:Nat->Bool}:∀{l:List PN},(∀x∈l,cJ p x=true)->w9 p l=true
 |[],_=>rfl
 |x::r,h=>by
  simp only[w9,vF];exact⟨h x Zs,Hg fun y hy=>h y B9⟩
theorem qH {p:Nat->Bool}:∀{l:List PN},w9 p l=true->∀x∈l,cJ p x=true
 |y::r,h,x,hx=>by
  simp only[w9,vF]at h;rcases QH.1 hx with rfl|hx
  ·exact h.1
  ·exact qH h.2 x hx
def me(st:ah)(i v:Nat):Bool:=decide (v < st.vars.length)&&(decide (st.af v=i)||decide ((i,v)∈st.uses))
theorem gY {a b:ah}(h:Gr a b)(i v:Nat)(hv:me a i v=true):me b i v=true:=by
 unfold me at hv|-;simp only[vF,vR,decide_eq_true_eq]at hv|-;obtain⟨h1,h2⟩:=hv;obtain⟨t,ht⟩:=h.vars;have hu:b.af v=a.af v:=by
  unfold ah.af;rw[<- ht,Vj h1]
 refine⟨Qq h1 h.vars.length_le,?_⟩;rw[hu];exact h2.imp_right fun k=>h.uses.subset k
structure Ph (st:ah):Prop where
 wf:Wf st
 us:∀q∈st.uses,st.af q.2∈st.line q.1
 bd:∀(i:Nat) l,st.ai[i]? =some l->w9 (me st i) l=true
def lN(st:ah)(env:List Nat)(u:Nat):Prop:=∀v∈env,v < st.vars.length/\st.af v∈st.line u
theorem Ph.setF {st:ah}(h:Ph st)(f:Option (Nat×Int)):Ph {st with f:=f}:=⟨⟨h.wf.al,h.wf.bl,h.wf.low,h.wf.vu,h.wf.uu⟩,h.us,h.bd⟩
theorem Ph.wrong {st:ah}(h:Ph st)(e:Nat)(p:Int):Ph (st.wrong e p):=by
 unfold ah.wrong;split
 ·exact h.setF _
 ·exact h
theorem Ph.bf {st:ah}(h:Ph st){x:fS}(hx:x.unit < st.outer.length)(ho:-1<=x.own/\x.own < st.args.getD x.unit 0):Ph (st.bf x):=
 ⟨h.wf.bf hx ho,fun q hq=>by
   rw[dc st x (h.wf.uu q hq).2];exact h.us q hq,fun i l hl=>dS (fun v hv=>gY (DC st [x]) i v hv) l (h.bd i l hl)⟩
theorem Ph.aF {st:ah}(h:Ph st){o:Int}{n:Nat}(ho:-1<=o/\o < st.outer.length):Ph (st.aF o n):=
 ⟨h.wf.aF ho,fun q hq=>by
   rw[h.wf.qA ho _ (h.wf.uu q hq).1];exact h.us q hq,fun i l hl=>by
   have hl:(st.ai++[[]])[i]? =some l:=hl;rw[Vi]at hl;split at hl
   ·exact dS (fun v hv=>gY (Kr st o n) i v hv) l (h.bd i l hl)
   ·have:=(Vt.1 hl).1;simp only[Q8]at this;have e:i - st.ai.length=0:=by omega
    rw[e]at hl;obtain rfl:[]=l:=by simpa using hl
    rfl⟩
theorem Ph.use {st:ah}(h:Ph st){u v:Nat}(hu:u < st.outer.length)(hv:v < st.vars.length)(hl:st.af v∈st.line u):Ph (st.use u v):=
 ⟨h.wf.use hu hv,fun q hq=>by
   have hq:q∈st.uses++[(u,v)]:=hq;rcases QF.1 hq with k|k
   ·exact h.us q k
   ·rw[QR.1 k];exact hl,fun i l hl=>dS (fun w hw=>gY (DB st [(u,v)]) i w hw) l (h.bd i l hl)⟩
theorem Ph.body {st:ah}(h:Ph st)(i:Nat){l:List PN}(hl:w9 (me st i) l=true):Ph {st with ai:=st.ai.set i l}:=
 ⟨⟨h.wf.al,by show(st.ai.set i l).length=_;rw[Q7];exact h.wf.bl,h.wf.low,h.wf.vu,h.wf.uu⟩,h.us,fun j m hm0=>by
   have hm:(st.ai.set i l)[j]? =some m:=hm0;clear hm0;rw[Vw]at hm;by_cases e:i=j
   ·subst e;rw[if_pos rfl]at hm;split at hm
    ·obtain rfl:l=m:=by simpa using hm
     exact hl
    ·cases hm
   ·rw[if_neg e]at hm;exact h.bd j m hm⟩
theorem line_f {st Ih:ah}(h:Ih.outer=st.outer)(u:Nat):Ih.line u=st.line u:=by unfold ah.line;rw[h]
theorem xA(a:ah)(c:Bool)(x:fS)(p:Int):({(if c=true then a.wrong 180 p else a)with vars:=a.vars++[x]}:ah)=(if c=true then a.wrong 180 p else a).bf x:=by
 unfold ah.bf;split
 ·rw[dh]
 ·rfl
theorem lA(unit:Nat)(arg own:Bool)(p:Int):∀(l:List ByteArray) (i:Nat) (st:ah) (env:List Nat),Ph st->unit < st.outer.length->((arg&&own)=true->i+l.length<=st.args.getD unit 0)->lN st env unit->
 Ph (kP unit arg own p l i st env).1/\lN (kP unit arg own p l i st env).1 (kP unit arg own p l i st env).2 unit
 |[],_,st,env,h,_,_,he=>⟨h,he⟩
 |nm::r,i,st,env,h,hu,ha,he=>by
  rw[kP,xA];obtain⟨s,hs⟩:∃s,s=(if(jw st.vars env nm).isSome=true then st.wrong 180 p else st):=⟨_,rfl⟩;have hk:Ph s/\s.outer=st.outer/\s.args=st.args/\s.vars=st.vars:=by
   rw[hs];split
   ·refine⟨h.wrong _ _,dZ _ _ _,?_,dh _ _ _⟩;unfold ah.wrong;split <;> rfl
   ·exact⟨h,rfl,rfl,rfl⟩
  obtain⟨k1,k2,k3,k4⟩:=hk;rw[<- hs];rw[Vz]at ha;have mV:∀t:ah,Ph t->unit < t.outer.length->unit∈t.line unit:=fun t ht hl=>by rw[ht.wf.line Zo];exact QJ ..
  have hov:(s.bf ⟨nm,unit,arg,if(arg&&own)=true then i else -1⟩).outer=st.outer:=k2;have hP:Ph (s.bf ⟨nm,unit,arg,if(arg&&own)=true then i else -1⟩):=by
   refine k1.bf (by rw[k2];exact hu) ?_;rw[k3];simp only;split
   ·rename_i c;have:=ha c;omega
   ·omega
  refine lA unit arg own p r (i+1) _ _ hP (by rw[hov];exact hu) (fun c=>?_) (fun v hv=>?_)
  ·have:=ha c;show i+1+r.length<=s.args.getD unit 0;rw[k3];omega
  ·have hl:(s.bf ⟨nm,unit,arg,if(arg&&own)=true then i else -1⟩).vars.length=st.vars.length+1:=by
    show(s.vars++[_]).length=_;rw[Vy,k4];rfl
   rcases QF.1 hv with h1|h1
   ·obtain⟨e1,e2⟩:=he v h1;refine⟨Zo,?_⟩;rw[dc s _ (by rw[k4];exact e1)];have e3:s.af v=st.af v:=by unfold ah.af;rw[k4]
    have e4:(s.bf ⟨nm,unit,arg,if(arg&&own)=true then i else -1⟩).line unit=st.line unit:=line_f hov unit;rw[e3,e4];exact e2
   ·rw[QR.1 h1];refine⟨Zo,?_⟩;have e3:(s.bf ⟨nm,unit,arg,if(arg&&own)=true then i else -1⟩).af st.vars.length=unit:=by
     rw[<- k4];unfold ah.af ah.bf;simp
    rw[e3];exact mV _ hP (by rw[hov];exact hu)
theorem Co {vs:List fS}{env:List Nat}{nm:ByteArray}{v:Nat}(h:jw vs env nm=some v):v∈env:=by
 have:=List.mem_of_find?_eq_some h;simpa using this
theorem Er(s:ByteArray):wx s < 5:=by
 unfold wx
 repeat' split
 all_goals omega
theorem Ss(F G:List ByteArray){st:ah}{env:List Nat}{u:Nat}(nm:ByteArray)(p:Int)(put:Bool)(h:Ph st)(hu:u < st.outer.length)(he:lN st env u):
 Ph (wD F G st env nm u p put).2/\((wD F G st env nm u p put).1.kind=99->me (wD F G st env nm u p put).2 u (wD F G st env nm u p put).1.index.toNat=true):=by
 unfold wD;split
 ·refine⟨h,fun k=>?_⟩;have:=Er nm;simp only at k;omega
 ·split
  ·rename_i v hv;obtain⟨h1,h2⟩:=he v (Co hv);have hp:Ph (st.use u v):=h.use hu h1 h2;have hk:∀s:ah,s.vars=st.vars->me {s with uses:=st.uses++[(u,v)]} u v=true:=fun s hs=>by
    unfold me;simp only[vF,vR,decide_eq_true_eq];exact⟨by rw[hs];exact h1,.inr Zs⟩
   refine⟨?_,fun _=>?_⟩
   ·simp only;split
    ·have e:({st.wrong 182 p with uses:=st.uses++[(u,v)]}:ah)={st.use u v with f:=(st.wrong 182 p).f}:=by
      unfold ah.wrong ah.use;split <;> rfl
     rw[e];exact hp.setF _
    ·exact hp
   ·show me _ u ((v:Int)).toNat=true;rw[vV];simp only;split
    ·exact hk _ (dh _ _ _)
    ·exact hk _ rfl
  ·split
   ·exact⟨h,fun k=>by simp at k⟩
   ·refine⟨?_,fun k=>by simp at k⟩;simp only;split
    ·exact h
    ·exact h.wrong _ _
theorem lN.gr {a b:ah}{env:List Nat}{u:Nat}(h:lN a env u)(g:Gr a b)(ha:Wf a)(hb:Wf b)(hu:u < a.outer.length):lN b env u:=fun v hv=>by
 obtain⟨h1,h2⟩:=h v hv;refine⟨Qq h1 g.vars.length_le,?_⟩;have e1:b.af v=a.af v:=by
  obtain⟨t,ht⟩:=g.vars;unfold ah.af;rw[<- ht,Vj h1]
 have e2:∀w:Nat,w < a.outer.length->b.line w=a.line w:=by
  intro w
  induction w using Nat.strongRecOn with
  |_ w ih=>
   intro hw;have ho:b.outer.getD w (-1)=a.outer.getD w (-1):=by
    obtain⟨t,ht⟩:=g.outer;rw[<- ht,Vh,Vh,Vj hw]
   have hl:=g.outer.length_le;rw[hb.line Zo,ha.line Zo,ho]
   congr 1
   split
   ·rfl
   ·have:=ha.ef w;exact ih _ Zo Zo
 rw[e1,e2 u hu];exact h2
theorem JD {p:Nat->Bool}(b:Bool){l:List PN}(h:w9 p l=true):w9 p (zD b l)=true:=by
 cases l with
 |nil=>rfl
 |cons x r=>
  simp only[w9,vF]at h;simp only[zD,w9,vF];refine⟨h.1,Hg fun y hy=>?_⟩;obtain⟨z,hz,rfl⟩:=QM.1 hy;have:=qH h.2 z hz;cases z;exact this
theorem MR {p:Nat->Bool}{a n:Nat}(h:∀v,a<=v->v < a+n->p v=true):((List.range' a n).map cG).all (fun r=>!decide (r.kind=99)||p r.index.toNat)=true:=by
 rw[ve];intro r hr;obtain⟨v,hv,rfl⟩:=QM.1 hr;have:=QP.1 hv;show(!decide ((99:Nat)=99)||p ((v:Int)).toNat)=true;rw[vV,h v this.1 this.2,Bool.or_true]
theorem oU(unit:Nat)(arg own:Bool)(p:Int):∀(l:List ByteArray) (i:Nat) (st:ah) (env:List Nat) (v:Nat),st.vars.length<=v->v < st.vars.length+l.length->(kP unit arg own p l i st env).1.af v=unit
 |[],_,_,_,v,h1,h2=>by simp only[Q6]at h2;omega
 |nm::r,i,st,env,v,h1,h2=>by
  rw[kP];rw[Vz]at h2;by_cases e:v=st.vars.length
  ·have g:=zf unit arg own p r (i+1) {(if(jw st.vars env nm).isSome then st.wrong 180 p else st)with vars:=st.vars++[⟨nm,unit,arg,if arg&&own then i else -1⟩]} (env++[st.vars.length]);obtain⟨t,ht⟩:=g.vars;unfold ah.af;rw[<- ht,Vj (by simp[e]),e];simp
  ·exact oU unit arg own p r (i+1) _ _ v pJ pJ
theorem XF(F G:List ByteArray):∀(N:Nat) (x:Nd),x.size<=N->∀st env u,Ph st->u < st.outer.length->lN st env u->
 (Ph (j9 F G x st env u).2/\cJ (me (j9 F G x st env u).2 u) (j9 F G x st env u).1=true)/\(Ph (zo F G x st env u).2/\cJ (me (zo F G x st env u).2 u) (zo F G x st env u).1=true/\(x.args.length=1->me (zo F G x st env u).2 u st.vars.length=true)):=by
 intro N
 induction N with
 |zero=>intro x hx;have:=x.size_pos;omega
 |succ N ih=>
  have au:∀l:List Nd,Nd.aq l<=N->∀st env u,Ph st->u < st.outer.length->lN st env u->Ph (kT F G l st env u).2/\w9 (me (kT F G l st env u).2 u) (kT F G l st env u).1=true:=by
   intro l
   induction l with
   |nil=>intro _ st env u h hu he;rw[kT];exact⟨h,rfl⟩
   |cons x r oj=>
    intro hl st env u h hu he;simp only[Nd.aq]at hl;rw[je];have g1:=(wd F G N x Zo st env u).1;obtain⟨h1,h2⟩:=(ih x Zo st env u h hu he).1;obtain⟨h3,h4⟩:=oj Zo _ env u h1 (Qq hu g1.outer.length_le) (he.gr g1 h.wf h1.wf hu);exact zDT
  have iy:∀(s:ByteArray) (l:List Nd),Nd.aq l<=N->∀i st env u,Ph st->u < st.outer.length->lN st env u->(∀k y,l[k]? =some y->jQ s=5->yM s (i+k)=true->y.args.length=1)->
   Ph (kf F G s l i st env u).2.2/\w9 (me (kf F G s l i st env u).2.2 u) (kf F G s l i st env u).1=true/\((kf F G s l i st env u).2.1.all fun r=>!decide (r.kind=99)||me (kf F G s l i st env u).2.2 u r.index.toNat)=true/\Gr st (kf F G s l i st env u).2.2:=by
   intro s l
   induction l with
   |nil=>intro _ i st env u h hu he _;rw[kf];exact⟨h,rfl,rfl,Gr.refl _⟩
   |cons x r oj=>
    intro hl i st env u h hu he ha;simp only[Nd.aq]at hl;obtain⟨g1,g2⟩:=wd F G N x Zo st env u;obtain⟨⟨h1,h2⟩,h3,h4,h5⟩:=ih x Zo st env u h hu he;have ec:∀k y,r[k]? =some y->jQ s=5->yM s (i+1+k)=true->y.args.length=1:=fun k y hy e1 e2=>ha (k+1) y (by simpa using hy) e1 (by rw[show i+(k+1)=i+1+k from by omega];exact e2)
    cases hi:yM s i with
    |true=>
     rw[zN _ _ _ _ _ _ _ _ _ hi];obtain⟨k1,k2,k3,k4⟩:=oj Zo (i+1) _ env u h3 (Qq hu g2.outer.length_le) (he.gr g2 h.wf h3.wf hu) ec;refine⟨k1,?_,?_,g2.trans k4⟩
     ·simp only[w9,vF];exact⟨lC (fun v hv=>gY k4 u v hv) _ h4,k2⟩
     ·simp only;split
      ·rename_i e5;simp only[vd,vF,vR];refine⟨.inr ?_,k3⟩;have:=gY k4 u _ (h5 (ha 0 x rfl e5 hi));show me _ u ((st.vars.length:Int)).toNat=true;rw[vV];exact this
      ·exact k3
    |false=>
     rw[we _ _ _ _ _ _ _ _ _ hi];obtain⟨k1,k2,k3,k4⟩:=oj Zo (i+1) _ env u h1 (Qq hu g1.outer.length_le) (he.gr g1 h.wf h1.wf hu) ec;refine⟨k1,?_,k3,g1.trans k4⟩;simp only[w9,vF];exact⟨lC (fun v hv=>gY k4 u v hv) _ h2,k2⟩
  intro x hx st env u h hu he;cases x with
  |mk k s lit args ab kids p=>
  simp only[Nd.size]at hx;have hk:Nd.aq kids<=N:=by omega
  have bR:∀(kk:Nat) (nm:ByteArray) (l0:Lt) (un:Int) (b:Bool) (ks:List PN) (t:ah),w9 (me t u) ks=true->cJ (me t u) (.mk kk nm l0 [] un b ks)=true:=fun kk nm l0 un b ks t hh=>by
   simp only[cJ,List.all_nil,vU];exact hh
  have qT:∀(kk:Nat) (r:zY) (ks:List PN) (t:ah),(r.kind=99->me t u r.index.toNat=true)->w9 (me t u) ks=true->cJ (me t u) (.mk kk e0 fV [r] 0 false ks)=true:=fun kk r ks t hr hh=>by
   simp only[cJ,vd,List.all_nil,vH,vF,vR];refine⟨?_,hh⟩;by_cases e:r.kind=99
   ·exact .inr (hr e)
   ·exact .inl (by rw[Zf e];rfl)
  refine⟨?_,?_⟩
  ·cases aL:fU k s kids with
   |true=>
    rw[zd _ _ _ _ _ _ _ _ _ _ _ _ aL];have hf:eA (jQ s) kids=true:=by
     unfold fU at aL;simp only[vF]at aL;exact aL.2
    obtain⟨k1,k2,k3,_⟩:=iy s kids hk 0 st env u h hu he (fun j y hy e5 hi=>by
     rw[e5]at hf;obtain⟨hl,b,hb,_,p7⟩:=OU hf;have:j=2:=by
      unfold yM at hi;rw[e5]at hi;simp only[decide_eq_true_eq]at hi;omega
     subst this;rw[hb]at hy;obtain rfl:=X3 hy;exact p7)
    refine⟨k1,?_⟩;simp only[cJ,vF];exact⟨k3,k2⟩
   |false=>
    by_cases h1:k=1
    ·rw[eF _ _ _ _ _ _ _ _ _ _ _ _ aL h1];exact⟨h,rfl⟩
    by_cases h2:k=2
    ·rw[eG _ _ _ _ _ _ _ _ _ _ _ _ aL h2];obtain⟨k1,k2⟩:=Ss F G s p false h hu he;exact⟨k1,qT _ _ _ _ k2 rfl⟩
    by_cases h3:k=3
    ·rw[eH _ _ _ _ _ _ _ _ _ _ _ _ aL h3];obtain⟨k1,k2⟩:=Ss F G s p true h hu he;have g:=sn F G st env s u p true;obtain⟨k3,k4⟩:=au kids hk _ env u k1 (Qq hu g.outer.length_le) (he.gr g h.wf k1.wf hu);exact⟨k3,qT _ _ _ _ (fun e=>gY (wV F G kids _ env u) u _ (k2 e)) k4⟩
    by_cases h7:k=7
    ·rw[eL _ _ _ _ _ _ _ _ _ _ _ _ aL h7];refine⟨?_,bR _ _ _ _ _ _ _ rfl⟩;simp only;rw[wC];have hU:Ph (st.aF (u:Int) args.length):=h.aF ⟨Zo,Zo⟩;have DU:(st.aF (u:Int) args.length).outer.length=st.outer.length+1:=by unfold ah.aF;simp
     have hEnv0:lN (st.aF (u:Int) args.length) env st.outer.length:=fun v hv=>by
      obtain⟨e1,e2⟩:=he v hv;refine⟨e1,?_⟩;have e3:(st.aF (u:Int) args.length).outer.getD st.outer.length (-1)=(u:Int):=by
       show(st.outer++[(u:Int)]).getD st.outer.length (-1)=(u:Int);exact zC8
      rw[hU.wf.line Zo,e3,if_neg Zo,vV,h.wf.qA ⟨Zo,Zo⟩ u hu];exact QI _ e2
     have ha0:(st.aF (u:Int) args.length).args.getD st.outer.length 0=args.length:=by
      show(st.args++[args.length]).getD st.outer.length 0=_;rw[<- h.wf.al,Vh,Vl (Qn _),Qt];rfl
     obtain⟨d1,d2⟩:=lA st.outer.length true true p args 0 _ env hU Zo (fun _=>by rw[ha0];omega) hEnv0;obtain⟨f1,f2,f3,f4⟩:=jZ st.outer.length true true p args 0 (st.aF (u:Int) args.length) env;obtain⟨d3,d4⟩:=lA st.outer.length false true p ab 0 _ _ d1 (by rw[f1];omega) (fun e=>by cases e) d2;obtain⟨f5,f6,f7,f8⟩:=jZ st.outer.length false true p ab 0 (kP st.outer.length true true p args 0 (st.aF (u:Int) args.length) env).1 (kP st.outer.length true true p args 0 (st.aF (u:Int) args.length) env).2;obtain⟨d5,d6⟩:=au kids hk (aW args ab p st env (u:Int)).1 (aW args ab p st env (u:Int)).2 st.outer.length d3 (by
      show st.outer.length < (kP st.outer.length false true p ab 0 (kP st.outer.length true true p args 0 (st.aF (u:Int) args.length) env).1 (kP st.outer.length true true p args 0 (st.aF (u:Int) args.length) env).2).1.outer.length;rw[f5,f1];omega) d4
     exact d5.body _ d6
    by_cases h8:k=8
    ·rw[eM _ _ _ _ _ _ _ _ _ _ _ _ aL h8];exact zC7
    by_cases h9:k=9
    ·rw[eN _ _ _ _ _ _ _ _ _ _ _ _ aL h9];exact zC7
    by_cases h6:k=6
    ·rw[eK _ _ _ _ _ _ _ _ _ _ _ _ aL h6];exact zC7
    by_cases h5:k=5
    ·rw[eJ _ _ _ _ _ _ _ _ _ _ _ _ aL h5];obtain⟨k1,k2⟩:=au kids hk st env u h hu he;exact⟨k1,bR _ _ _ _ _ _ _ (JD _ k2)⟩
    cases hs:jS kids with
    |true=>
     rw[yJ _ _ _ _ _ _ _ _ _ _ _ _ aL ⟨h1,h2,h3,h5,h6,h7,h8,h9⟩ hs];have ht:Nd.aq kids.tail<=N:=by
      exact zCP
     obtain⟨k1,k2⟩:=au kids.tail ht st env u h hu he;exact⟨k1,bR _ _ _ _ _ _ _ k2⟩
    |false=>
     rw[eI _ _ _ _ _ _ _ _ _ _ _ _ aL ⟨h1,h2,h3,h5,h6,h7,h8,h9⟩ hs];exact zC7
  ·rw[dw];obtain⟨d1,d2⟩:=lA u true false p args 0 st env h hu (fun e=>by cases e) he;obtain⟨f1,f2,f3,f4⟩:=jZ u true false p args 0 st env;obtain⟨d3,d4⟩:=lA u false false p ab 0 _ _ d1 (by rw[f1];exact hu) (fun e=>by cases e) d2;obtain⟨f5,f6,f7,f8⟩:=jZ u false false p ab 0 (kP u true false p args 0 st env).1 (kP u true false p args 0 st env).2;obtain⟨d5,d6⟩:=au kids hk _ _ u d3 (by rw[f5,f1];exact hu) d4;have g:=wV F G kids (kP u false false p ab 0 (kP u true false p args 0 st env).1 (kP u true false p args 0 st env).2).1 (kP u false false p ab 0 (kP u true false p args 0 st env).1 (kP u true false p args 0 st env).2).2 u;have gt:=zf u false false p ab 0 (kP u true false p args 0 st env).1 (kP u true false p args 0 st env).2;have um:∀(t:ah) (v:Nat),v < t.vars.length->t.af v=u->me t u v=true:=fun t v e1 e2=>by
    unfold me;simp only[vF,vR,decide_eq_true_eq];exact⟨e1,.inl e2⟩
   refine⟨d5,?_,fun ha=>?_⟩
   ·simp only[cJ,vF];refine⟨MR fun v e1 e2=>?_,d6⟩;exact gY g u v (um _ v (by rw[f8];exact e2) (oU u false false p ab 0 _ _ v e1 e2))
   ·have ha:args.length=1:=ha;exact gY (gt.trans g) u _ (um _ _ (by rw[f4];omega) (oU u true false p args 0 st env _ (Qn _) Zo))
end Go.V

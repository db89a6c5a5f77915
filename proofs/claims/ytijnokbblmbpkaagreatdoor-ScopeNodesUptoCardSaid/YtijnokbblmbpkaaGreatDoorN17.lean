/-
  The names that are seen, as a map.
-/
import Derived.Test.YtijnokbblmbpkaaGreatDoorN16
import Derived.Test.YtijnokbblmbpkaaGreatDoorN7
set_option linter.all false
namespace Go.V
open Go
def ah.nameOf(st:ah)(v:Nat):ByteArray:=((st.vars[v]?).map (·.name)).getD e0
def sZ(V:List au)(v:Nat):Nat:=(V.getD v yM).q
def lm(st:ah)(V:List au)(env:List Nat):List (ByteArray×Nat):=env.map fun v=>(st.nameOf v,sZ V v)
structure wn (st:ah)(V:List au)(env:List Nat)(es:Array MapEntry)(c:Nat):Prop where
 is:zW zw (fun b=>kL (some b)) es c (lm st V env)
 lt:∀v∈env,v < st.vars.length
 one:(env.map st.nameOf).Nodup
theorem Oq {α:Type}(p:α->Bool):∀{l:List α} {x:α},x∈l->p x=true->(∀y∈l,p y=true->y=x)->l.reverse.find? p=some x:=fun {l x} hx hp hu=>by
 cases h:l.reverse.find? p with
 |none=>
  have:=List.find?_eq_none.1 h x (by simpa using hx);exact absurd hp this
 |some y=>
  have h1:=List.find?_some h;have h2:=List.mem_of_find?_eq_some h;rw[hu y (by simpa using h2) h1]
theorem Aj {α β:Type}{f:α->β}:∀{l:List α},(l.map f).Nodup->∀{x y:α},x∈l->y∈l->f x=f y->x=y:=by
 intro l
 induction l with
 |nil=>intro _ x y hx;cases hx
 |cons a l ih=>
  intro h x y hx hy e;simp only[Q3,QL]at h;rcases Q9.1 hx with h1|h1
  ·rcases Q9.1 hy with h2|h2
   ·exact h1.trans h2.symm
   ·exact absurd (QE.2 ⟨y,h2,by rw[<- e,h1]⟩:f a∈l.map f) h.1
  ·rcases Q9.1 hy with h2|h2
   ·exact absurd (QE.2 ⟨x,h1,by rw[e,h2]⟩:f a∈l.map f) h.1
   ·exact ih h.2 h1 h2 e
theorem LP {st:ah}{V:List au}{nm:ByteArray}:∀{env:List Nat},ky nm (lm st V env)=((env.find? fun v=>decide (st.nameOf v=nm)).map (sZ V)):=by
 intro env
 induction env with
 |nil=>rfl
 |cons v r ih=>
  show ky nm ((st.nameOf v,sZ V v)::lm st V r)=_;simp only[ky,List.find?_cons];by_cases h:st.nameOf v=nm
  ·rw[if_pos h,Zt h];rfl
  ·rw[if_neg h,Zf h];exact ih
theorem wn.find {st:ah}{V:List au}{env:List Nat}{es:Array MapEntry}{c:Nat}(h:wn st V env es c)(nm:ByteArray):ky nm (lm st V env)=(jt st.vars env nm).map (sZ V)/\∀v,jt st.vars env nm=some v->v∈env/\v < st.vars.length/\st.nameOf v=nm:=by
 have hp:∀v∈env,(decide ((st.vars[v]?).map (·.name)=some nm)=decide (st.nameOf v=nm)):=fun v hv=>by
  have hl:=h.lt v hv;unfold ah.nameOf;rw[Zg hl];simp
 have hf:jt st.vars env nm=env.find? fun v=>decide (st.nameOf v=nm):=by
  unfold jt;cases e:env.find? (fun v=>decide (st.nameOf v=nm))with
  |none=>
   rw[List.find?_eq_none]at e|-;intro v hv;have ER:v∈env:=by simpa using hv
   rw[hp v ER];exact e v ER
  |some v=>
   have h1:=List.find?_some e;have h2:=List.mem_of_find?_eq_some e;refine Oq _ h2 (by rw[hp v h2];exact h1) (fun y hy h3=>?_);rw[hp y hy]at h3;simp only[decide_eq_true_eq]at h1 h3;exact Aj h.one hy h2 (h3.trans h1.symm)
 refine⟨by rw[LP,hf],fun v hv=>?_⟩;rw[hf]at hv;have h2:=List.mem_of_find?_eq_some hv;exact⟨h2,h.lt v h2,by simpa using List.find?_some hv⟩
theorem xX(st:ah)(x:eQ){v:Nat}(hv:v < st.vars.length):(st.aZ x).nameOf v=st.nameOf v:=by
 unfold ah.nameOf ah.aZ;simp only;rw[VV hv]
theorem xY(st:ah)(x:eQ):(st.aZ x).nameOf st.vars.length=x.name:=by
 unfold ah.nameOf ah.aZ;simp
theorem W5 {V:List au}(y:au){v:Nat}(hv:v < V.length):sZ (V++[y]) v=sZ V v:=by
 unfold sZ;rw[cB hv]
theorem W6(V:List au)(y:au):sZ (V++[y]) V.length=y.q:=by
 unfold sZ;exact zC5
theorem wn.add {st:ah}{V:List au}{env:List Nat}{es cp:Array MapEntry}{c c':Nat}(h:wn st V env es c)(hv:V.length=st.vars.length){x:eQ}{y:au}(hn:jt st.vars env x.name=none)
 (he:zW zw (fun b=>kL (some b)) cp c' (jc x.name y.q (lm st V env))):wn (st.aZ x) (V++[y]) (env++[st.vars.length]) cp c':=by
 have hold:lm (st.aZ x) (V++[y]) env=lm st V env:=Q1 fun v ER=>by
  have:=h.lt v ER;rw[xX st x this,W5 y Zo]
 have hg:=(h.find x.name).1;rw[hn]at hg;refine⟨?_,fun v ER=>?_,?_⟩
 ·have e:lm (st.aZ x) (V++[y]) (env++[st.vars.length])=lm st V env++[(x.name,y.q)]:=by
   show List.map _ (env++[st.vars.length])=_;rw[Q0];have:=hold;unfold lm at this;rw[this];simp only[Q3,Q6];rw[xY,<- hv,W6];rfl
  rw[e,<- fh hg];exact he
 ·show v < (st.vars++[x]).length;rw[Vo,Vy];rcases Q7.1 ER with h1|h1
  ·have:=h.lt v h1;omega
  ·rw[QI.1 h1];omega
 ·rw[Q0];have hm:env.map (st.aZ x).nameOf=env.map st.nameOf:=Q1 fun v ER=>xX st x (h.lt v ER)
  rw[hm,List.map_singleton,xY,QK];refine⟨h.one,Zs,fun a ha b hb=>?_⟩;obtain⟨v,hv1,rfl⟩:=QE.1 ha;rw[QI.1 hb];intro e;have aA:=LO.1 hg;exact aA (QE.2 ⟨(st.nameOf v,sZ V v),QE.2 ⟨v,hv1,rfl⟩,e⟩)
theorem wn.more {st G1:ah}{V V':List au}{env:List Nat}{es:Array MapEntry}{c:Nat}(h:wn st V env es c)(h1:st.vars <+:G1.vars)(h2:V.map au.q <+:V'.map au.q)(hv:V.length=st.vars.length):wn G1 V' env es c:=by
 have hn:∀v∈env,G1.nameOf v=st.nameOf v:=fun v ER=>by
  obtain⟨r,hr⟩:=h1;unfold ah.nameOf;rw[<- hr,VV (h.lt v ER)]
 have hq:∀v∈env,sZ V' v=sZ V v:=fun v ER=>by
  obtain⟨r,hr⟩:=h2;have hl:=h.lt v ER;have e:∀W:List au,v < W.length->sZ W v=((W.map au.q)[v]?).getD 0:=fun W hW=>by
   unfold sZ;rw[V8,Vi,Zg hW];rfl
  have dz:v < V'.length:=by
   have:=congrArg List.length hr;simp only[Vo,Vv]at this;omega
  rw[e V' dz,e V Zo,<- hr,VV (by rw[Vv];omega)]
 refine⟨?_,fun v ER=>?_,?_⟩
 ·have:lm G1 V' env=lm st V env:=Q1 fun v ER=>by rw[hn v ER,hq v ER]
  rw[this];exact h.is
 ·obtain⟨r,hr⟩:=h1;have:=h.lt v ER;rw[<- hr,Vo];omega
 ·rw[Q1 hn];exact h.one
structure pE (F:List ByteArray)(es:Array MapEntry)(c:Nat):Prop where
 is:∃m:List (ByteArray×Nat),zW zw (fun n:Nat=>.int .i64 n) es c m/\∀nm,ky nm m=F.findIdx? (fun s=>decide (s=nm))
structure tS (G:List ByteArray)(es:Array MapEntry)(c:Nat):Prop where
 is:∃m:List (ByteArray×Nat),zW zw (fun n:Nat=>.int .i64 n) es c m/\∀nm,decide ((ky nm m).getD 0=0)=!G.any (fun s=>decide (s=nm))
def jS(r:zV):List Value:=[.int .u8 r.kind,.int .i64 r.index,.int .i64 r.slot,.string r.name]
def rz:List Value:=[.int .u8 0,.int .i64 0,.int .i64 0,.string e0]
def sg(V:List au)(r:zV):Value:=if r.kind=99 then .tuple #[.agg rz.toArray,kL (some (sZ V r.index.toNat))]else .tuple #[.agg (jS r).toArray,.pointer none]
theorem R0 {s:ByteArray}(h1:s≠x5)(h2:s≠nj)(h3:s≠Fb)(h4:s≠x6)(h5:s≠qd):wS s=0:=by
 unfold wS;rw[if_neg (by rintro(h|h) <;> contradiction),if_neg h3,if_neg h4,if_neg h5]
theorem Ky {st:ah}(h:st.f=none)(e:Nat)(p:Int):(st.wrong e p).f=some (e,p):=by
 unfold ah.wrong;rw[h];rfl
section
variable {F G:List ByteArray} {st:ah} {env:List Nat} {nm:ByteArray} {u:Nat} {p:Int} {put:Bool}
theorem qq(h:wS nm≠0):wF F G st env nm u p put=(⟨wS nm,0,0,e0⟩,st):=by unfold wF;rw[if_pos h]
theorem Fz(h:wS nm=0){v:Nat}(hv:jt st.vars env nm=some v)(hp:(put&&((st.vars[v]?).map (·.arg)).getD false)=false):wF F G st env nm u p put=(dL v,st.use u v):=by
 unfold wF;rw[if_neg Zo,hv];simp only[hp];rfl
theorem Fy(h:wS nm=0){v:Nat}(hv:jt st.vars env nm=some v)(hp:(put&&((st.vars[v]?).map (·.arg)).getD false)=true)(hf:st.f=none):(wF F G st env nm u p put).2.f=some (182,p):=by
 unfold wF;rw[if_neg Zo,hv];simp only[hp,if_true,ah.wrong,hf,Option.isNone_none]
theorem ye(h:wS nm=0)(hv:jt st.vars env nm=none){i:Nat}(hi:F.findIdx? (fun s=>decide (s=nm))=some i):wF F G st env nm u p put=(⟨7,i,0,e0⟩,st):=by
 unfold wF;rw[if_neg Zo,hv];simp only[hi]
theorem Bs(h:wS nm=0)(hv:jt st.vars env nm=none)(hi:F.findIdx? (fun s=>decide (s=nm))=none)(hg:G.any (fun s=>decide (s=nm))=true):wF F G st env nm u p put=(⟨8,0,0,nm⟩,st):=by
 unfold wF;rw[if_neg Zo,hv];simp only[hi,hg,if_true]
theorem Bt(h:wS nm=0)(hv:jt st.vars env nm=none)(hi:F.findIdx? (fun s=>decide (s=nm))=none)(hg:G.any (fun s=>decide (s=nm))=false)(hf:st.f=none):(wF F G st env nm u p put).2.f=some (181,p):=by
 unfold wF;rw[if_neg Zo,hv];simp only[hi,hg,vJ,if_false];exact Ky hf 181 p
end
def js(T:List kB)(v:Value)(rs:List zV):Prop:=∃a c,v=.slice a rs.length c/\∀(i:Nat) r,rs[i]? =some r->∃b o,a=some ⟨b,o,none⟩/\∀y∈kA b (o+i*4) (jS r),y∈T
def wX(T:List kB)(v:Value)(l:List Nat):Prop:=∃a c,v=.slice a l.length c/\∀(i:Nat) q,l[i]? =some q->∃b o,a=some ⟨b,o,none⟩/\kB.cell b (o+i) (kL (some q))∈T
theorem js.more {T T':List kB}{v:Value}{rs:List zV}(h:js T v rs)(hs:∀x∈T,x∈T'):js T' v rs:=by
 obtain⟨a,c,h1,h2⟩:=h;exact⟨a,c,h1,fun i r hi=>let⟨b,o,k1,k2⟩:=h2 i r hi;⟨b,o,k1,fun y hy=>hs _ (k2 y hy)⟩⟩
theorem wX.more {T T':List kB}{v:Value}{l:List Nat}(h:wX T v l)(hs:∀x∈T,x∈T'):wX T' v l:=by
 obtain⟨a,c,h1,h2⟩:=h;exact⟨a,c,h1,fun i r hi=>let⟨b,o,k1,k2⟩:=h2 i r hi;⟨b,o,k1,hs _ k2⟩⟩
theorem js.nil(T:List kB):js T Nz []:=⟨none,0,rfl,fun i r h=>by simp at h⟩
theorem wX.nil(T:List kB):wX T Nz []:=⟨none,0,rfl,fun i r h=>by simp at h⟩
def wg(rs:List zV):List zV:=rs.filter fun r=>decide (r.kind≠99)
def et(rs:List zV):List zV:=rs.filter fun r=>decide (r.kind=99)
structure zg (qs:List Nat)(rs:List zV):Prop where
 one:(∀r∈rs,r.kind=99)∨∀r∈rs,r.kind≠99
 raw:∀r∈rs,r.kind=99->∃v,r=dL v/\v < qs.length
inductive uJ (T:List kB)(qs:List Nat):PN->List Value->Prop
 |mk {k:Nat} {nm:ByteArray} {lit:Lt} {refs:List zV} {unit:Int} {iQ:Bool} {kids:List PN} {lv:List Value} {rv vv:Value} {a:Option Addr} {c bk o:Nat} {us:Nat->List Value} (hl:zN T lit lv) (hr:js T rv (wg refs))
   (hv:wX T vv ((et refs).map fun r=>qs.getD r.index.toNat 0)) (ok:zg qs refs) (hz:wg refs=[]->rv=Nz) (ha:0 < kids.length->a=some ⟨bk,o,none⟩) (hm:∀i,i < kids.length->∀y∈kA bk (o+i*13) (us i),y∈T) (hs:∀i x,kids[i]? =some x->uJ T qs x (us i)):
   uJ T qs (.mk k nm lit refs unit iQ kids) ([cv k,.string nm]++lv++[rv,.int .i64 unit,.bool iQ,Nz,vv,.slice a kids.length c])
theorem uJ.len {T:List kB}{qs:List Nat}{x:PN}{vs:List Value}(h:uJ T qs x vs):vs.length=13:=by
 cases h with
 |mk hl=>simp[hl.len]
theorem zg.more {qs Aq:List Nat}{rs:List zV}(h:zg qs rs)(hq:qs <+:Aq):zg Aq rs:=
 ⟨h.one,fun r hr hk=>let⟨v,h1,h2⟩:=h.raw r hr hk;⟨v,h1,Qm h2 hq.length_le⟩⟩
theorem Bq {qs Aq:List Nat}{rs:List zV}(h:zg qs rs)(hq:qs <+:Aq):(et rs).map (fun r=>Aq.getD r.index.toNat 0)=(et rs).map fun r=>qs.getD r.index.toNat 0:=by
 refine Q1 fun r hr=>?_
 obtain⟨h1,h2⟩:=QC.1 hr;obtain⟨v,rfl,hv⟩:=h.raw r h1 (of_decide_eq_true h2);exact zDI
theorem uJ.more {T T':List kB}{qs Aq:List Nat}(hs:∀x∈T,x∈T')(hq:qs <+:Aq){x:PN}{vs:List Value}(h:uJ T qs x vs):uJ T' Aq x vs:=by
 induction h with
 |mk hl hr hv ok hz ha hm hk ih=>
  refine .mk (hl.more hs) (hr.more hs) ?_ (ok.more hq) hz ha (fun i hi y hy=>hs _ (hm i hi y hy)) ih;rw[Bq ok hq];exact hv.more hs
structure zJ (T:List kB)(qs:List Nat)(l:List PN)(rows:List (List Value)):Prop where
 len:rows.length=l.length
 w:∀r∈rows,r.length=13
 rd:∀(i:Nat) x r,l[i]? =some x->rows[i]? =some r->uJ T qs x r
theorem zJ.nil(T:List kB)(qs:List Nat):zJ T qs [] []:=⟨rfl,Zs,fun i x r h=>by simp at h⟩
theorem zJ.more {T T':List kB}{qs Aq:List Nat}{l:List PN}{rows:List (List Value)}(h:zJ T qs l rows)(hs:∀x∈T,x∈T')(hq:qs <+:Aq):zJ T' Aq l rows:=⟨h.len,h.w,fun i x r hx hr=>(h.rd i x r hx hr).more hs hq⟩
theorem zJ.snoc {T:List kB}{qs:List Nat}{l:List PN}{rows:List (List Value)}{x:PN}{r:List Value}(h:zJ T qs l rows)(hx:uJ T qs x r):zJ T qs (l++[x]) (rows++[r]):=by
 refine⟨by simp[h.len],fun r' sN=>?_,fun i y s hy hs=>?_⟩
 ·exact zEH
 ·exact zAR
theorem xV {B:List kB}{qs:List Nat}{k:Nat}{nm:ByteArray}{lit:Lt}{refs:List zV}{unit:Int}{iQ:Bool}{kids:List PN}{lv:List Value}{rv vv sv:Value}{rows:List (List Value)}{sp:List Value}(bh:kY 13 sv kids.length rows.flatten sp)(hr:zJ B qs kids rows)
 (aI:zN B lit lv) (GU:js B rv (wg refs)) (Tg:wX B vv ((et refs).map fun r=>qs.getD r.index.toNat 0)) (ok:zg qs refs) (hz:wg refs=[]->rv=Nz:=by intro _;rfl):
 uJ (ai sv rows.flatten sp++B) qs (.mk k nm lit refs unit iQ kids) ([cv k,.string nm]++lv++[rv,.int .i64 unit,.bool iQ,Nz,vv,sv]):=by
 have aC:∀i,i < kids.length->rows[i]? =some (rows.getD i []):=fun i hi=>by
  exact zDZ
 have eA:∀y∈B,y∈ai sv rows.flatten sp++B:=fun y hy=>Q8 _ hy
 have oN:=aI.more eA;have UN:=GU.more eA;have hvv2:=Tg.more eA;clear aI GU Tg;generalize hm:kids.length=m at bh;generalize A7:rows.flatten=xs at bh|-;cases bh with
 |@mk bk o _ c _ _ h1 h2 h3=>
  rw[<- hm];subst A7;refine .mk (bk:=bk) (o:=o) (us:=fun i=>rows.getD i []) oN UN hvv2 ok hz (fun _=>rfl) (fun i hi y hy=>?_) (fun i x hx=>?_)
  ·exact zD7
  ·have hi:=(Vh.1 hx).1;exact(hr.rd i x _ hx (aC i hi)).more eA (QT _)
 |nil=>
  have h0:kids=[]:=vj hm;subst h0;exact .mk (bk:=0) (o:=0) (us:=fun _=>[]) oN UN hvv2 ok hz (fun h=>absurd h Zs) (fun i hi=>absurd hi Zs) (fun i x hx=>by simp at hx)
def lz:List Value:=[cv 0,.int .i64 0,.int .u64 0,.string e0,Nz]
theorem oS(B:List kB):zN B ij lz:=.mk (bk:=0) (o:=0) (us:=fun _=>[]) ⟨Zd,Zd,Zd,Zd,Zd⟩ (fun h=>absurd h Zs) (fun i hi=>absurd hi Zs) (fun i x hx=>by simp at hx)
theorem zg.nil(qs:List Nat):zg qs []:=⟨.inl Zs,Zs⟩
def th(T:List kB)(qs:List Nat)(v:Value)(l:List PN):Prop:=∃(a:Option Addr) (c bk o:Nat) (us:Nat->List Value),v=.slice a l.length c/\(0 < l.length->a=some ⟨bk,o,none⟩)/\(∀i,i < l.length->∀y∈kA bk (o+i*13) (us i),y∈T)/\∀i x,l[i]? =some x->uJ T qs x (us i)
theorem th.nil(T:List kB)(qs:List Nat):th T qs Nz []:=⟨none,0,0,0,fun _=>[],rfl,fun h=>absurd h Zs,fun i hi=>absurd hi Zs,fun i x h=>by simp at h⟩
theorem th.more {T T':List kB}{qs Aq:List Nat}{v:Value}{l:List PN}(h:th T qs v l)(hs:∀x∈T,x∈T')(hq:qs <+:Aq):th T' Aq v l:=by
 obtain⟨a,c,bk,o,us,h1,h2,h3,h4⟩:=h;exact⟨a,c,bk,o,us,h1,h2,fun i hi y hy=>hs _ (h3 i hi y hy),fun i x hx=>(h4 i x hx).more hs hq⟩
theorem WI {B:List kB}{qs:List Nat}{l:List PN}{sv:Value}{rows:List (List Value)}{sp:List Value}(bh:kY 13 sv l.length rows.flatten sp)(hr:zJ B qs l rows):th (ai sv rows.flatten sp++B) qs sv l:=by
 have h:=xV (k:=0) (nm:=e0) (unit:=0) (iQ:=false) bh hr (oS B) (js.nil B) (wX.nil B) (zg.nil qs);generalize hx:PN.mk 0 e0 ij [] 0 false l=x at h;generalize hw:([cv 0,.string e0]++lz++[Nz,.int .i64 0,.bool false,Nz,Nz,sv]:List Value)=ws at h;cases h with
 |@mk k nm lit refs unit iQ kids lv rv vv a c bk o us hl sN hv ok hz ha hm hs=>
  simp only[PN.mk.injEq]at hx;obtain⟨_,_,_,_,_,_,rfl⟩:=hx;have e:sv=.slice a l.length c:=by
   have h1:=congrArg List.reverse hw;simp only[List.reverse_append,List.reverse_cons,List.reverse_nil,QJ,vf,vZ]at h1;exact(List.cons.inj h1).1
  exact⟨a,c,bk,o,us,e,ha,hm,hs⟩
structure gB (st:ah)(us:Value)(bC:List Value)(U:List UC)(V:List au)(T:List kB):Prop where
 rep:cy st U V
 ok:st.f=none
 sl:kY 1 us U.length (U.map fun u=>kL (some u.q)) bC
 XS:∀(i:Nat) u,U[i]? =some u->th T (V.map au.q) u.body (st.bodies.getD i [])
def lN(args ab:List ByteArray)(n:Nat):Nat:=1+args.length+ab.length+n
mutual
def tA:Nd->Nat
 |.mk _ _ _ args ab kids _=>lN args ab (jO kids)
def jO:List Nd->Nat
 |[]=>0
 |x::r=>tA x+jO r
end
def Room(st:ah)(n:Nat):Prop:=st.vars.length+n < 1073741824/\st.uses.length+n < 1073741824/\st.outer.length+n < 1073741824
def zO(a b:ah)(n:Nat):Prop:=b.vars.length<=a.vars.length+n/\b.uses.length<=a.uses.length+n/\b.outer.length<=a.outer.length+n
theorem zO.trans {a b c:ah}{n m:Nat}(h:zO a b n)(k:zO b c m):zO a c (n+m):=by
 obtain⟨h1,h2,h3⟩:=h;obtain⟨k1,k2,k3⟩:=k;exact⟨Zo,Zo,Zo⟩
theorem zO.mono {a b:ah}{n m:Nat}(h:zO a b n)(hm:n<=m):zO a b m:=by
 obtain⟨h1,h2,h3⟩:=h;exact⟨Zo,Zo,Zo⟩
theorem zO.refl(a:ah):zO a a 0:=⟨Qj _,Qj _,Qj _⟩
theorem Room.less {a b:ah}{n m:Nat}(h:Room a (n+m))(k:zO a b n):Room b m:=by
 obtain⟨h1,h2,h3⟩:=h;obtain⟨k1,k2,k3⟩:=k;exact⟨Zo,Zo,Zo⟩
theorem Room.mono {a:ah}{n m:Nat}(h:Room a n)(hm:m<=n):Room a m:=by
 obtain⟨h1,h2,h3⟩:=h;exact⟨Zo,Zo,Zo⟩
theorem Ia(a:ah)(e:Nat)(p:Int):zO a (a.wrong e p) 0:=by
 unfold ah.wrong;split <;> exact⟨Qj _,Qj _,Qj _⟩
theorem wJ(unit:Nat)(arg own:Bool)(p:Int):∀(l:List ByteArray) (i:Nat) (st:ah) (env:List Nat),zO st (kO unit arg own p l i st env).1 l.length
 |[],_,st,_=>zO.refl st
 |nm::r,i,st,env=>by
  unfold kO;have h1:zO st {(if(jt st.vars env nm).isSome then st.wrong 180 p else st)with vars:=st.vars++[⟨nm,unit,arg,if arg&&own then i else -1⟩]} 1:=by
   refine⟨Zs,?_,?_⟩
   ·split
    ·show(st.wrong 180 p).uses.length<=_;rw[yP];omega
    ·show st.uses.length<=_;omega
   ·split
    ·show(st.wrong 180 p).outer.length<=_;rw[mS];omega
    ·show st.outer.length<=_;omega
  have h2:=h1.trans (wJ unit arg own p r (i+1) _ (env++[st.vars.length]));exact h2.mono (by rw[Vp];omega)
theorem xI(F G:List ByteArray)(st:ah)(env:List Nat)(nm:ByteArray)(u:Nat)(p:Int)(put:Bool):zO st (wF F G st env nm u p put).2 1:=by
 unfold wF;split
 ·exact(zO.refl st).mono Zo
 ·split
  ·rename_i v _;simp only;split
   ·refine⟨?_,?_,?_⟩
    ·show(st.wrong 182 p).vars.length<=_;rw[cY];omega
    ·show(st.uses++[(u,v)]).length<=_;simp
    ·show(st.wrong 182 p).outer.length<=_;rw[mS];omega
   ·exact⟨Qk _,Zs,Qk _⟩
  ·split
   ·exact(zO.refl st).mono Zo
   ·simp only;split
    ·exact(zO.refl st).mono Zo
    ·exact(Ia st 181 p).mono Zo
theorem rV(a:ah)(o:Int)(n:Nat):zO a {a with outer:=a.outer++[o],args:=a.args++[n],bodies:=a.bodies++[[]]} 1:=⟨Qk _,Qk _,Zs⟩
theorem mY(F G:List ByteArray):∀(N:Nat) (x:Nd),x.size<=N->∀st env u,zO st (jF F G x st env u).2 (tA x)/\zO st (cH F G x st env u).2 (tA x):=by
 intro N
 induction N with
 |zero=>intro x hx;have:=x.size_pos;omega
 |succ N ih=>
  have ap:∀l:List Nd,Nd.aq l<=N->∀st env u,zO st (kT F G l st env u).2 (jO l):=by
   intro l
   induction l with
   |nil=>intro _ st env u;rw[kT];exact zO.refl st
   |cons x r xB=>
    exact zEE
  have pS:∀(s:ByteArray) (l:List Nd),Nd.aq l<=N->∀i st env u,zO st (jB F G s l i st env u).2.2 (jO l):=by
   intro s l
   induction l with
   |nil=>intro _ i st env u;rw[jB];exact zO.refl st
   |cons x r xB=>
    exact zC0
  intro x hx st env u;cases x with
  |mk k s lit args ab kids p=>
  simp only[Nd.size]at hx;have hk:Nd.aq kids<=N:=by omega
  simp only[tA,lN];refine⟨?_,?_⟩
  ·cases h:fD k s kids with
   |true=>rw[eE _ _ _ _ _ _ _ _ _ _ _ _ h];exact(pS s kids hk 0 st env u).mono Zo
   |false=>
    by_cases h1:k=1
    ·rw[nk _ _ _ _ _ _ _ _ _ _ _ _ h h1];exact(zO.refl st).mono Zo
    by_cases h2:k=2
    ·rw[np _ _ _ _ _ _ _ _ _ _ _ _ h h2];exact(xI F G st env s u p false).mono Zo
    by_cases h3:k=3
    ·rw[nq _ _ _ _ _ _ _ _ _ _ _ _ h h3];exact((xI F G st env s u p true).trans (ap kids hk _ env u)).mono Zo
    by_cases h7:k=7
    ·rw[ny _ _ _ _ _ _ _ _ _ _ _ _ h h7];simp only;rw[zP];have hA:=ap kids hk (bn args ab p st env (u:Int)).1 (bn args ab p st env (u:Int)).2 st.outer.length;have hD:zO st (bn args ab p st env (u:Int)).1 (1+(args.length+ab.length)):=(rV st (u:Int) args.length).trans ((wJ _ _ _ _ _ _ _ _).trans (wJ _ _ _ _ _ _ _ _));exact zO.mono (b:={(kT F G kids (bn args ab p st env (u:Int)).1 (bn args ab p st env (u:Int)).2 st.outer.length).2 with bodies:=_}) (hD.trans hA) Zo
    by_cases h8:k=8
    ·rw[nz _ _ _ _ _ _ _ _ _ _ _ _ h h8];exact(ap kids hk st env u).mono Zo
    by_cases h9:k=9
    ·rw[nA _ _ _ _ _ _ _ _ _ _ _ _ h h9];exact(ap kids hk st env u).mono Zo
    by_cases h6:k=6
    ·rw[nw _ _ _ _ _ _ _ _ _ _ _ _ h h6];exact(ap kids hk st env u).mono Zo
    by_cases h5:k=5
    ·rw[nu _ _ _ _ _ _ _ _ _ _ _ _ h h5];exact(ap kids hk st env u).mono Zo
    cases hs:jM kids with
    |true=>
     rw[gX _ _ _ _ _ _ _ _ _ _ _ _ h ⟨h1,h2,h3,h5,h6,h7,h8,h9⟩ hs];cases kids with
     |nil=>cases hs
     |cons x r=>
      simp only[Nd.aq]at hk;simp only[List.tail_cons,jO];exact(ap r Zo st env u).mono Zo
    |false=>rw[nt _ _ _ _ _ _ _ _ _ _ _ _ h ⟨h1,h2,h3,h5,h6,h7,h8,h9⟩ hs];exact(ap kids hk st env u).mono Zo
  ·rw[iz];exact((wJ _ _ _ _ _ _ _ _).trans ((wJ _ _ _ _ _ _ _ _).trans (ap kids hk _ _ _))).mono Zo
theorem wU(F G:List ByteArray):∀(l:List Nd) st env u,Gr st (kT F G l st env u).2:=by
 intro l
 induction l with
 |nil=>intro st env u;rw[kT];exact Gr.refl st
 |cons x r ih=>
  intro st env u;rw[wL];exact(zZ F G _ x (Qj _) st env u).1.trans (ih _ env u)
theorem mq {A:List kB}{y:Nd}{vs:List Value}(h:j7 A y vs):∃(e1:Nat) (e2:Int) (e3:Nat) (e4:ByteArray) (e5:Option Addr) (e6 e7:Nat) (e8:Option Addr) (e9 u7:Nat) (u9:Option Addr) (xd xe:Nat) (Ee:Option Addr) (Ef Eg:Nat),
 vs=(rN y.kind y.name e1 e2 e3 e4 e5 e6 e7 e8 e9 u7 u9 xd xe Ee Ef Eg y.at_):=by
 exact zCI
theorem iG {T:List kB}{qs:List Nat}{x:PN}{ws:List Value}(h:uJ T qs x ws):∃(e1:Nat) (e2:Int) (e3:Nat) (e4:ByteArray) (e5:Option Addr) (e6 e7:Nat) (r1:Option Addr) (r2 r3:Nat) (v1:Option Addr) (v2 v3:Nat) (k1:Option Addr) (k2 k3:Nat),
 ws=[.int .u8 x.kind,.string x.name,.int .u8 e1,.int .i64 e2,.int .u64 e3,.string e4,.slice e5 e6 e7,.slice r1 r2 r3,.int .i64 x.unit,.bool x.super,Nz,.slice v1 v2 v3,.slice k1 k2 k3]:=by
 cases h with
 |mk hl hr hv ok hz ha hm hs=>
  obtain⟨_,_,rfl,_⟩:=hr;obtain⟨_,_,rfl,_⟩:=hv;cases hl with
  |mk Nw GL pC ez=>exact⟨_,_,_,_,_,_,_,_,_,_,_,_,_,_,_,_,rfl⟩
def xZ(q n:Nat)(o:Option Nat)(i nb:Nat):UC:=⟨q,n,0,0,o,i,[],Nz,[],nb,#[],0,[],Nz,[],Nz⟩
def mw(U:List UC)(o:Int):Option Nat:=if o < 0 then none else(U[o.toNat]?).map UC.q
theorem cy.aM {st:ah}{U:List UC}{V:List au}(h:cy st U V){o:Int}{n:Nat}(ho:-1<=o/\o < st.outer.length){q nb:Nat}(hq:q∉U.map UC.q):cy (st.aM o n) (U++[xZ q n (mw U o) st.outer.length nb]) V:=by
 have aC:∀{j:Nat} {w:UC},(U++[xZ q n (mw U o) st.outer.length nb])[j]? =some w->(j < st.outer.length/\U[j]? =some w)∨(j=st.outer.length/\w=xZ q n (mw U o) st.outer.length nb):=fun {j w} hj=>by
  rw[V9]at hj;split at hj
  ·rename_i hl;exact .inl ⟨by rw[<- h.ul];exact hl,hj⟩
  ·rename_i hl;have:=(Vh.1 hj).1;simp only[Vy]at this;have EP:=h.ul;have e:j - U.length=0:=by omega
   rw[e]at hj;exact .inr ⟨Zo,by simpa using hj.symm⟩
 have hold:∀{j:Nat},j < st.outer.length->(U++[xZ q n (mw U o) st.outer.length nb])[j]? =U[j]?:=fun {j} hj=>VV (by rw[h.ul];exact hj)
 have rT:=h.wf.aM (n:=n) ho;have Yk:(st.aM o n).outer.length=st.outer.length+1:=by unfold ah.aM;simp
 refine⟨rT,by rw[Vo,Yk,h.ul];rfl,h.vl,?_,fun j w hj=>?_,fun j w hj=>?_,fun j w hj=>?_,fun j w hj=>?_,fun v x y hx hy=>?_⟩
 ·rw[Q0,QK];refine⟨h.inj,Zs,fun a ha b hb=>?_⟩;rw[List.map_singleton,QI]at hb
  rintro rfl
  rw[hb]at ha;exact hq ha
 ·rcases aC hj with⟨h1,h2⟩|⟨rfl,rfl⟩
  ·have:=h.un j w h2;show w.args=(st.args++[n]).getD j 0/\_;rw[cB (by rw[h.wf.al];exact h1)];exact this
  ·refine⟨?_,rfl,rfl,rfl,rfl,rfl,rfl⟩;show n=(st.args++[n]).getD st.outer.length 0;rw[V8,<- h.wf.al,Va (Qj _),Qp];rfl
 ·rcases aC hj with⟨h1,h2⟩|⟨rfl,rfl⟩
  ·have e:(st.aM o n).outer.getD j (-1)=st.outer.getD j (-1):=cB h1;rw[e,h.ou j w h2];have hl:=h.wf.eZ j;split
   ·rfl
   ·rw[hold Zo]
  ·have e:(st.aM o n).outer.getD st.outer.length (-1)=o:=by
    show(st.outer++[o]).getD st.outer.length (-1)=o;exact zC5
   rw[e];show mw U o=_;by_cases hn:o < 0
   ·rw[if_pos hn];unfold mw;rw[if_pos hn]
   ·rw[if_neg hn,hold Zo];unfold mw;rw[if_neg hn]
 ·have ht:(st.aM o n).ab j=st.ab j:=rfl;rw[ht];rcases aC hj with⟨h1,h2⟩|⟨rfl,rfl⟩
  ·exact h.tm j w h2
  ·have h0:st.ab st.outer.length=[]:=by
    unfold ah.ab;rw[vr];intro v hv;have hv:=QG.1 hv;obtain⟨x,hx⟩:∃x,st.vars[v]? =some x:=⟨_,Zg hv⟩;have:=(h.wf.vu v x hx).1;have e:st.af v=x.unit:=by unfold ah.af;rw[hx];rfl
    rw[e];simp only[vF,decide_eq_true_eq,not_and];intro e2;omega
   rw[h0];exact⟨rfl,.nil⟩
 ·rcases aC hj with⟨h1,h2⟩|⟨rfl,rfl⟩
  ·obtain⟨m,k1,k2,k3,k4⟩:=h.nd j w h2;refine⟨m,k1,k2,fun p hp=>?_,fun i z a hi=>?_⟩
   ·obtain⟨⟨i,z,k5,k6⟩,k7⟩:=k3 p hp;exact⟨⟨i,z,by rw[hold (by rw[<- h.ul];exact(Vh.1 k5).1)];exact k5,k6⟩,k7⟩
   ·rw[h.wf.Bj ho];rcases aC hi with⟨k5,k6⟩|⟨rfl,rfl⟩
    ·exact k4 i z a k6
    ·have bQ:st.bg j (st.outer.length,a)=false:=by
      unfold ah.bg;rw[List.any_eq_false];intro x hx;simp only[vF,decide_eq_true_eq,not_and,X2]
      rintro⟨e1,_⟩
      have hu:=(h.wf.uu x hx).2;obtain⟨y,hy⟩:∃y,st.vars[x.2]? =some y:=⟨_,Zg hu⟩;have:=(h.wf.vu _ y hy).1;have e:st.af x.2=y.unit:=by unfold ah.af;rw[hy];rfl
      omega
     rw[bQ];constructor
     ·intro hm;obtain⟨c,hc⟩:=Qw.1 hm;obtain⟨⟨i,z,k5,k6⟩,_⟩:=k3 _ (xU hc);exact absurd (QE.2 ⟨z,Zv k5,k6.symm⟩) hq
     ·intro hf;cases hf
  ·refine⟨[],.nil,Zs,Zs,fun i z a hi=>?_⟩;rw[h.wf.Bj ho,h.wf.P8 _ (Qj _)];simp[ky]
 ·obtain⟨⟨z,k1,k2⟩,k3⟩:=h.vn v x y hx hy;exact⟨⟨z,by rw[hold (by rw[<- h.ul];exact(Vh.1 k1).1)];exact k1,k2⟩,k3⟩
theorem cy.body {st:ah}{U:List UC}{V:List au}(h:cy st U V){i:Nat}{u:UC}(hu:U[i]? =some u)(bv:Value)(bl:List PN):cy {st with bodies:=st.bodies.set i bl} (U.set i {u with body:=bv}) V:=by
 have GP:=zD (w':={u with body:=bv}) hu rfl;have Lk:=Cr GP;have aC:∀{j:Nat} {w:UC},(U.set i {u with body:=bv})[j]? =some w->∃w0,U[j]? =some w0/\w={w0 with body:=w.body}:=fun {j w} hj=>by
  rcases iK hu hj with⟨rfl,rfl⟩|⟨_,h2⟩
  ·exact⟨u,hu,rfl⟩
  ·exact⟨w,h2,rfl⟩
 have ej:∀{j:Nat} {w:UC},U[j]? =some w->∃w',(U.set i {u with body:=bv})[j]? =some w'/\w'.q=w.q:=fun {j w} hj=>by
  have:=Lk j;rw[hj]at this;cases e:(U.set i {u with body:=bv})[j]? with
  |none=>rw[e]at this;cases this
  |some w'=>rw[e]at this;exact⟨w',rfl,X0 this⟩
 have Lj:∀{j:Nat} {w:UC},(U.set i {u with body:=bv})[j]? =some w->∃w',U[j]? =some w'/\w.q=w'.q:=fun {j w} hj=>by
  obtain⟨w0,h1,h2⟩:=aC hj;exact⟨w0,h1,by rw[h2]⟩
 refine⟨⟨h.wf.al,by show(st.bodies.set i bl).length=_;rw[Vx];exact h.wf.bl,h.wf.low,h.wf.vu,h.wf.uu⟩,by rw[Vx];exact h.ul,h.vl,by rw[GP];exact h.inj,fun j w hj=>?_,fun j w hj=>?_,fun j w hj=>?_,fun j w hj=>?_,fun v x y hx hy=>?_⟩
 ·obtain⟨w0,h1,h2⟩:=aC hj;rw[h2];exact h.un j w0 h1
 ·rw[Lk];obtain⟨w0,h1,h2⟩:=aC hj;rw[h2];exact h.ou j w0 h1
 ·obtain⟨w0,h1,h2⟩:=aC hj;rw[h2];exact h.tm j w0 h1
 ·obtain⟨w0,h1,h2⟩:=aC hj;obtain⟨m,k1,k2,k3,k4⟩:=h.nd j w0 h1;rw[h2];refine⟨m,k1,k2,fun p hp=>?_,fun a z b ha=>?_⟩
  ·exact zDS
  ·obtain⟨z',k8,k9⟩:=Lj ha;rw[k9];exact k4 a z' b k8
 ·obtain⟨⟨z,k1,k2⟩,k3⟩:=h.vn v x y hx hy;obtain⟨z',k8,k9⟩:=ej k1;exact⟨⟨z',k8,k2.trans k9.symm⟩,k3⟩
theorem XG {U:List UC}{V:List au}{i:Nat}{u:UC}(h:U[i]? =some u):∃R,(WK U V).Perm (kA u.q 8 [u.body]++R)/\∀bv,(WK (U.set i {u with body:=bv}) V).Perm (kA u.q 8 [bv]++R):=by
 have hx:∀bv,({u with body:=bv}:UC).atoms.Perm (kA u.q 8 [bv]++(.own u.q 9::(kA u.q 0 [.int .i64 u.args,.int .i64 u.locals,.int .i64 u.ay,kL u.outer,.int .i64 u.num,u.tv,.map (some u.nb),u.cv]++(ai u.tv (u.ab.map fun b=>kL (some b)) u.ic++(ai u.cv (u.de.flatMap jP) u.bZ++[.obj u.nb (.map u.es u.cl)]))))):=fun bv=>by
  unfold UC.atoms UC.row;have e:kA u.q 0 [.int .i64 u.args,.int .i64 u.locals,.int .i64 u.ay,kL u.outer,.int .i64 u.num,u.tv,.map (some u.nb),u.cv,bv]=kA u.q 0 [.int .i64 u.args,.int .i64 u.locals,.int .i64 u.ay,kL u.outer,.int .i64 u.num,u.tv,.map (some u.nb),u.cv]++kA u.q 8 [bv]:=rfl;simp only;rw[e,vZ,<- vf,<- vZ];exact zCJ
 obtain⟨R,h1,h2⟩:=Dw (V:=V) h (hx u.body);exact⟨R,h1,fun bv=>h2 _ _ (hx bv)⟩
def Kz {α:Type}(p:α->Prop):List α->Prop
 |[]=>True
 |x::r=>p x/\Kz p r
theorem Kz.mem {α:Type}{p:α->Prop}:∀{l:List α},Kz p l->∀x∈l,p x
 |x::r,h,y,hy=>by
  rcases Q9.1 hy with rfl|hy
  ·exact h.1
  ·exact Kz.mem h.2 y hy
theorem VC.AO {P:Program}{n:Nat}{Γ:Env}{H:SH}{Q:Exit->Env->SH->Prop}{ri:List (List RO)}{aP:List Nat}
 (h:Kz (fun rs=>∃pre d f xs post,rs=pre++⟨d,none,.call f xs⟩::post/\Kz (fun S=>VO P n S Γ H (fun _ _ _=>False) fun aw H'=>VO P n [⟨d,none,.call f xs⟩] aw H' (fun ch _ lD=>Q (.panic ch) [] lD) (fun _ _=>False)) (At (cN xs) d.toList [] (pre.map (fun x=>(x,false))++post.map (fun x=>(x,true))))) ri):VC P n (.draw ri aP) Γ H Q:=
 VC.Of fun rs dC=>by
  obtain⟨pre,d,f,xs,post,h1,h2⟩:=h.mem rs dC;exact⟨pre,d,f,xs,post,h1,h2.mem⟩
theorem gY {tv:Value}{l:List Nat}{sp:List Value}{n:Nat}(hn:n=l.length)(bh:kY 1 tv n (l.map fun b=>kL (some b)) sp):wX (ai tv (l.map fun b=>kL (some b)) sp) tv l:=by
 generalize hx:(l.map fun b=>kL (some b))=xs at bh;cases bh with
 |@mk bk o _ c _ _ h1 h2 h3=>
  subst hx;rw[hn];refine⟨_,c,rfl,fun i q hi=>⟨bk,o,rfl,?_⟩⟩;simp only[ai,kd];exact Zw _ (kH.2 ⟨i,kL (some q),by rw[Vi,hi];rfl,rfl⟩)
 |nil=>
  have h0:l=[]:=vj hn.symm;subst h0;exact wX.nil _
theorem IP(a n:Nat):et ((List.range' a n).map dL)=(List.range' a n).map dL:=by
 unfold et;rw[vt];intro r hr;obtain⟨v,_,rfl⟩:=QE.1 hr;rfl
theorem Dd(a n:Nat):wg ((List.range' a n).map dL)=[]:=by
 unfold wg;rw[vr];intro r hr;obtain⟨v,_,rfl⟩:=QE.1 hr;simp[dL]
theorem IQ {qs:List Nat}{a n:Nat}(h:a+n<=qs.length):zg qs ((List.range' a n).map dL):=by
 refine⟨.inl fun r hr=>?_,fun r hr _=>?_⟩
 ·obtain⟨v,_,rfl⟩:=QE.1 hr;rfl
 ·obtain⟨v,hv,rfl⟩:=QE.1 hr;have:=QH.1 hv;exact⟨v,rfl,Zo⟩
theorem Jf {qs:List Nat}{a n:Nat}(h:a+n<=qs.length):((List.range' a n).map dL).map (fun r=>qs.getD r.index.toNat 0)=(qs.drop a).take n:=by
 apply vm;intro i;rw[Vi,Vi,List.getElem?_take,Vd];by_cases hi:i < n
 ·rw[List.getElem?_range' hi,if_pos hi];have:a+i < qs.length:=by omega
  rw[Zg this];show some (qs.getD ((a+1*i:Nat):Int).toNat 0)=_;rw[vS,Nat.one_mul,V8,Zg this];rfl
 ·rw[if_neg hi,Ve (by simpa using hi)];rfl
theorem drop_take {qs Aq:List Nat}{a n:Nat}(h:qs <+:Aq)(hl:qs.length=a+n):(Aq.drop a).take n=qs.drop a:=by
 obtain⟨t,rfl⟩:=h;rw[List.drop_append_of_le_length Zo,List.take_append_of_le_length (by rw[Vr];omega),Qc (by rw[Vr];omega)]
theorem wI {A:List kB}{y:Nd}{vs:List Value}(h:j7 A y vs):∃(e1:Nat) (e2:Int) (e3:Nat) (e4:ByteArray) (e5:Option Addr) (e6 e7:Nat) (a1:Option Addr) (c1:Nat) (a2:Option Addr) (c2:Nat) (a3:Option Addr) (c3 bk o:Nat) (us:Nat->List Value),
 vs=(rN y.kind y.name e1 e2 e3 e4 e5 e6 e7 a1 y.args.length c1 a2 y.ab.length c2 a3 y.kids.length c3 y.at_)/\
 zN A y.lit [.int .u8 e1,.int .i64 e2,.int .u64 e3,.string e4,.slice e5 e6 e7]/\du A (.slice a1 y.args.length c1) y.args/\du A (.slice a2 y.ab.length c2) y.ab/\y.kind < 256/\
 (0 < y.kids.length->a3=some ⟨bk,o,none⟩)/\(∀i,i < y.kids.length->∀z∈kA bk (o+i*11) (us i),z∈A)/\(∀i x,y.kids[i]? =some x->j7 A x (us i))/\y.kids.length<=c3:=by
 cases h with
 |@mk k s lit args ab kids p lv av tv a c bk o us wf hl bB bu ha hm hr tX=>
  have Es:=bB;have tJ:=bu;obtain⟨a1,c1,rfl,_⟩:=bB;obtain⟨a2,c2,rfl,_⟩:=bu;have qZ:=hl;cases hl with
  |mk Nw GL pC ez=>exact⟨_,_,_,_,_,_,_,a1,c1,a2,c2,a,c,bk,o,us,rfl,qZ,Es,tJ,wf.kind,ha,hm,hr,tX⟩
theorem cT {s:ByteArray}:kF s=[115,117,112,101,114]↔s=⟨#[115,117,112,101,114]⟩:=by
 constructor
 ·intro h;have h2:kF s=kF ⟨#[115,117,112,101,114]⟩:=h.trans Zd;exact ja h2
 ·rintro rfl;decide
section
variable {P:Program} {n:Nat} {rs:List RO} {Γ:Env} {H:SH} {Z:List PanicEntry->Env->SH->Prop} {K:Env->SH->Prop} {d:Option Nat}
theorem Sm {size len cap l h b o:Nat}{x lo hi:Operand}{kl kh:IntKind}{cl ch:Int}(hx:ev Γ x=some (.slice (some ⟨b,o,none⟩) len cap))(GN:ev Γ lo=some (.int kl cl))(Ya:ev Γ hi=some (.int kh ch))(el:cl=(l:Int))(eh:ch=(h:Int))(hr:l<=h/\h<=cap)
 (k:VO P n rs (ak d (.slice (some ⟨b,if cap=l then o else o+l*size,none⟩) (h - l) (cap - l)) Γ) H Z K):VO P n (⟨d,none,.nW size x (some lo) (some hi) none⟩::rs) Γ H Z K:=by
 subst el eh;refine VO.pure rfl (fun ρ aG=>?_) k;have h1:bound (Value.int kh (h:Int)) cap=some h:=by simp[bound];omega
 have h2:bound (Value.int kl (l:Int)) h=some l:=by simp[bound];omega
 simp[kR,aG _ _ hx,aG _ _ GN,aG _ _ Ya,z5,h1,h2,jr]
end
def jC(n:Nat):Nat:=match n with|3=>0|4=>0|5=>2|_=>1
def ib(n:Nat):Nat:=match n with|2=>3|4=>1|5=>3|_=>2
theorem tV {n:Nat}(hn:n=1∨n=2∨n=3∨n=4){l:List Nd}(h:zl n l=true):l.length=ib n:=by
 rcases hn with rfl|rfl|rfl|rfl
 all_goals
  unfold zl at h;simp only at h;split at h
  ·rfl
  ·cases h
theorem Zq {n:Nat}(hn:n=1∨n=2∨n=3∨n=4){l:List Nd}(hl:l.length=ib n)(h:∀i y,jC n<=i->l[i]? =some y->jK y=true):zl n l=true:=by
 rcases hn with rfl|rfl|rfl|rfl
 ·match l,hl with
  |[a,b],_=>exact h 1 b Zd rfl
 ·match l,hl with
  |[a,b,c],_=>show(jK b&&jK c)=true;rw[h 1 b Zd rfl,h 2 c Zd rfl];rfl
 ·match l,hl with
  |[a,b],_=>show(jK a&&jK b)=true;rw[h 0 a Zd rfl,h 1 b Zd rfl];rfl
 ·match l,hl with
  |[a],_=>exact h 0 a Zd rfl
theorem Cq {n:Nat}(hn:n=1∨n=2∨n=3∨n=4){l:List Nd}{i:Nat}{y:Nd}(hi:jC n<=i)(hy:l[i]? =some y)(hp:jK y=false):zl n l=false:=by
 cases e:zl n l with
 |false=>rfl
 |true=>
  exfalso;have hl:=tV hn e;have cf:=(Vh.1 hy).1;rcases hn with rfl|rfl|rfl|rfl
  ·match l,hl,e,hy,cf with
   |[a,b],_,e,hy,cf=>
    simp only[Vp,Vw]at cf;simp only[jC]at hi;obtain rfl:i=1:=by omega
    obtain rfl:b=y:=by simpa using hy
    have e2:jK b=true:=e;rw[hp]at e2;cases e2
  ·match l,hl,e,hy,cf with
   |[a,b,c],_,e,hy,cf=>
    have e2:(jK b&&jK c)=true:=e;simp only[Vp,Vw]at cf;simp only[jC]at hi;obtain rfl|rfl:i=1∨i=2:=by omega
    ·obtain rfl:b=y:=by simpa using hy
     rw[hp]at e2;cases e2
    ·obtain rfl:c=y:=by simpa using hy
     rw[hp,Bool.and_false]at e2;cases e2
  ·match l,hl,e,hy,cf with
   |[a,b],_,e,hy,cf=>
    have e2:(jK a&&jK b)=true:=e;simp only[Vp,Vw]at cf;obtain rfl|rfl:i=0∨i=1:=by omega
    ·obtain rfl:a=y:=by simpa using hy
     rw[hp]at e2;cases e2
    ·obtain rfl:b=y:=by simpa using hy
     rw[hp,Bool.and_false]at e2;cases e2
  ·match l,hl,e,hy,cf with
   |[a],_,e,hy,cf=>
    simp only[Vp,Vw]at cf;obtain rfl:i=0:=by omega
    obtain rfl:a=y:=by simpa using hy
    have e2:jK a=true:=e;rw[hp]at e2;cases e2
theorem qH(s:ByteArray):kb s<=5:=by
 unfold kb
 repeat' split
 all_goals omega
theorem K4 {l:List Nd}(h:zl 5 l=true):l.length=3/\∃b,l[2]? =some b/\b.kind=7/\b.args.length=1:=by
 match l,h with
 |[_,_,b],h=>
  have e:(decide (b.kind=7)&&decide (b.args.length=1))=true:=h;rw[vF,decide_eq_true_eq,decide_eq_true_eq]at e;exact⟨rfl,b,rfl,e.1,e.2⟩
theorem xD {s:ByteArray}{kids:List Nd}(h:zl (kb s) kids=true){i:Nat}(hi:i < kids.length):dX s i=(decide (jC (kb s)<=i)&&decide (i < ib (kb s))):=by
 have hle:=qH s;unfold dX;generalize kb s=n at h hle;have hn:n=0∨n=1∨n=2∨n=3∨n=4∨n=5:=by omega
 have key:∀m:Nat,m=1∨m=2∨m=3∨m=4->n=m->kids.length=ib m:=fun m hm e=>by subst e;exact tV hm h
 rcases hn with rfl|rfl|rfl|rfl|rfl|rfl
 ·cases h
 ·have:=key 1 Zs rfl;simp only[ib,jC]at this|-;rw[<- Bool.decide_and];exact decide_eq_decide.2 Zo
 ·have:=key 2 Zs rfl;simp only[ib,jC]at this|-;rw[<- Bool.decide_and];exact decide_eq_decide.2 Zo
 ·have:=key 3 Zs rfl;simp only[ib,jC]at this|-;rw[<- Bool.decide_and];exact(Zt Zo).symm
 ·have:=key 4 Zs rfl;simp only[ib,jC]at this|-;rw[<- Bool.decide_and];exact(Zt Zo).symm
 ·have:=(K4 h).1;simp only[ib,jC];rw[<- Bool.decide_and];exact decide_eq_decide.2 Zo
theorem yb {x:Nd}(h:jK x=true):x.kind=7/\x.args.length=0:=by
 unfold jK at h
 rwa [vF,decide_eq_true_eq,decide_eq_true_eq]at h
def okK(k:Nat)(kids:List Nd):Bool:=(!decide (k=1∨k=2)||decide (kids.length=0))&&(!decide (k=5)||decide (0 < kids.length))&&decide (1<=k/\k<=9)&&(!decide (k=4)||decide (0 < kids.length))
mutual
def Rw:Nd->Bool
 |.mk k _ lit _ _ kids _=>okK k kids&&decide (lit.size<=274877906944)&&qg kids
def qg:List Nd->Bool
 |[]=>true
 |x::r=>Rw x&&qg r
end
theorem mu {x:Nd}:∀{l:List Nd},qg l=true->x∈l->Rw x=true:=by
 intro l
 induction l with
 |nil=>intro _ h;cases h
 |cons y r ih=>
  intro h hx;simp only[qg,vF]at h;rcases Q9.1 hx with rfl|hx
  ·exact h.1
  ·exact ih h.2 hx
theorem jn(unit:Nat)(arg own:Bool)(p:Int):∀(l:List ByteArray) (i:Nat) (st:ah) (env:List Nat),(kO unit arg own p l i st env).1.outer=st.outer/\(kO unit arg own p l i st env).1.args=st.args/\(kO unit arg own p l i st env).1.bodies=st.bodies/\(kO unit arg own p l i st env).1.vars.length=st.vars.length+l.length
 |[],_,st,_=>⟨rfl,rfl,rfl,rfl⟩
 |nm::r,i,st,env=>by
  rw[kO];obtain⟨h1,h2,h3,h4⟩:=jn unit arg own p r (i+1) {(if(jt st.vars env nm).isSome then st.wrong 180 p else st)with vars:=st.vars++[⟨nm,unit,arg,if arg&&own then i else -1⟩]} (env++[st.vars.length]);have hw:(if(jt st.vars env nm).isSome then st.wrong 180 p else st).outer=st.outer/\(if(jt st.vars env nm).isSome then st.wrong 180 p else st).args=st.args/\(if(jt st.vars env nm).isSome then st.wrong 180 p else st).bodies=st.bodies:=by
   split
   ·unfold ah.wrong;split <;> exact⟨rfl,rfl,rfl⟩
   ·exact⟨rfl,rfl,rfl⟩
  refine⟨h1.trans hw.1,h2.trans hw.2.1,h3.trans hw.2.2,?_⟩;rw[h4,Vp];simp only[Vo,Vy];omega
theorem eU(unit:Nat)(arg own:Bool)(p:Int):∀(l:List ByteArray) (i:Nat) (st:ah) (env:List Nat),(∀v∈env,v < st.vars.length)->∀v∈(kO unit arg own p l i st env).2,v < (kO unit arg own p l i st env).1.vars.length/\((v∈env/\(kO unit arg own p l i st env).1.af v=st.af v)∨(kO unit arg own p l i st env).1.af v=unit)
 |[],_,st,env,h=>fun v hv=>⟨h v hv,.inl ⟨hv,rfl⟩⟩
 |nm::r,i,st,env,h=>by
  intro v hv;rw[kO]at hv|-;have hlen:({(if(jt st.vars env nm).isSome then st.wrong 180 p else st)with vars:=st.vars++[⟨nm,unit,arg,if arg&&own then i else -1⟩]}:ah).vars.length=st.vars.length+1:=by simp
  obtain⟨h1,h2⟩:=eU unit arg own p r (i+1) {(if(jt st.vars env nm).isSome then st.wrong 180 p else st)with vars:=st.vars++[⟨nm,unit,arg,if arg&&own then i else -1⟩]} (env++[st.vars.length]) (fun w hw=>by
   rw[hlen];rcases Q7.1 hw with h'|h'
   ·have:=h w h';omega
   ·rw[QI.1 h'];omega) v hv
  refine⟨h1,?_⟩;rcases h2 with⟨h3,h4⟩|h3
  ·rcases Q7.1 h3 with h5|h5
   ·refine .inl ⟨h5,h4.trans ?_⟩;unfold ah.af;simp only;rw[VV (h v h5)]
   ·refine .inr (h4.trans ?_);rw[QI.1 h5];unfold ah.af;simp
  ·exact .inr h3
mutual
def ep(p:Nat->Bool):PN->Bool
 |.mk _ _ _ rs _ _ kids=>(rs.all fun r=>!decide (r.kind=99)||p r.index.toNat)&&jy p kids
def jy(p:Nat->Bool):List PN->Bool
 |[]=>true
 |x::r=>ep p x&&jy p r
end
mutual
theorem iJ {p q:Nat->Bool}(h:∀v,p v=true->q v=true):∀x:PN,ep p x=true->ep q x=true
 |.mk k s l rs u b kids,hx=>by
  simp only[ep,vF,vX,vO]at hx|-;exact⟨fun r hr=>(hx.1 r hr).imp_right (h _),dM h kids hx.2⟩
theorem dM {p q:Nat->Bool}(h:∀v,p v=true->q v=true):∀l:List PN,jy p l=true->jy q l=true
 |[],_=>rfl
 |x::r,hx=>by
  simp only[jy,vF]at hx|-;exact⟨iJ h x hx.1,dM h r hx.2⟩
end
theorem Fv {p:Nat->Bool}:∀{l:List PN},(∀x∈l,ep p x=true)->jy p l=true
 |[],_=>rfl
 |x::r,h=>by
  simp only[jy,vF];exact⟨h x Zs,Fv fun y hy=>h y (by simp[hy])⟩
theorem p7 {p:Nat->Bool}:∀{l:List PN},jy p l=true->∀x∈l,ep p x=true
 |y::r,h,x,hx=>by
  simp only[jy,vF]at h;rcases Q9.1 hx with rfl|hx
  ·exact h.1
  ·exact p7 h.2 x hx
def oX(st:ah)(i v:Nat):Bool:=decide (v < st.vars.length)&&(decide (st.af v=i)||decide ((i,v)∈st.uses))
theorem gl {a b:ah}(h:Gr a b)(i v:Nat)(hv:oX a i v=true):oX b i v=true:=by
 unfold oX at hv|-;simp only[vF,vO,decide_eq_true_eq]at hv|-;obtain⟨h1,h2⟩:=hv;obtain⟨t,ht⟩:=h.vars;have hu:b.af v=a.af v:=by
  unfold ah.af;rw[<- ht,VV h1]
 refine⟨Qm h1 h.vars.length_le,?_⟩;rw[hu];exact h2.imp_right fun k=>h.uses.subset k
structure Ph (st:ah):Prop where
 wf:Wf st
 us:∀q∈st.uses,st.af q.2∈st.line q.1
 bd:∀(i:Nat) l,st.bodies[i]? =some l->jy (oX st i) l=true
def iW(st:ah)(env:List Nat)(u:Nat):Prop:=∀v∈env,v < st.vars.length/\st.af v∈st.line u
theorem Ph.setF {st:ah}(h:Ph st)(f:Option (Nat×Int)):Ph {st with f:=f}:=⟨⟨h.wf.al,h.wf.bl,h.wf.low,h.wf.vu,h.wf.uu⟩,h.us,h.bd⟩
theorem Ph.wrong {st:ah}(h:Ph st)(e:Nat)(p:Int):Ph (st.wrong e p):=by
 unfold ah.wrong;split
 ·exact h.setF _
 ·exact h
theorem Ph.aZ {st:ah}(h:Ph st){x:eQ}(hx:x.unit < st.outer.length)(ho:-1<=x.own/\x.own < st.args.getD x.unit 0):Ph (st.aZ x):=
 ⟨h.wf.aZ hx ho,fun q hq=>by
   rw[cV st x (h.wf.uu q hq).2];exact h.us q hq,fun i l hl=>dM (fun v hv=>gl (Ct st [x]) i v hv) l (h.bd i l hl)⟩
theorem Ph.aM {st:ah}(h:Ph st){o:Int}{n:Nat}(ho:-1<=o/\o < st.outer.length):Ph (st.aM o n):=
 ⟨h.wf.aM ho,fun q hq=>by
   rw[h.wf.pX ho _ (h.wf.uu q hq).1];exact h.us q hq,fun i l hl=>by
   have hl:(st.bodies++[[]])[i]? =some l:=hl;rw[V9]at hl;split at hl
   ·exact dM (fun v hv=>gl (JH st o n) i v hv) l (h.bd i l hl)
   ·have:=(Vh.1 hl).1;simp only[Vy]at this;have e:i - st.bodies.length=0:=by omega
    rw[e]at hl;obtain rfl:[]=l:=by simpa using hl
    rfl⟩
theorem Ph.use {st:ah}(h:Ph st){u v:Nat}(hu:u < st.outer.length)(hv:v < st.vars.length)(hl:st.af v∈st.line u):Ph (st.use u v):=
 ⟨h.wf.use hu hv,fun q hq=>by
   have hq:q∈st.uses++[(u,v)]:=hq;rcases Q7.1 hq with k|k
   ·exact h.us q k
   ·rw[QI.1 k];exact hl,fun i l hl=>dM (fun w hw=>gl (Cs st [(u,v)]) i w hw) l (h.bd i l hl)⟩
theorem Ph.body {st:ah}(h:Ph st)(i:Nat){l:List PN}(hl:jy (oX st i) l=true):Ph {st with bodies:=st.bodies.set i l}:=
 ⟨⟨h.wf.al,by show(st.bodies.set i l).length=_;rw[Vx];exact h.wf.bl,h.wf.low,h.wf.vu,h.wf.uu⟩,h.us,fun j m Z7=>by
   have hm:(st.bodies.set i l)[j]? =some m:=Z7;clear Z7;rw[Vl]at hm;by_cases e:i=j
   ·subst e;rw[if_pos rfl]at hm;split at hm
    ·obtain rfl:l=m:=by simpa using hm
     exact hl
    ·cases hm
   ·rw[if_neg e]at hm;exact h.bd j m hm⟩
theorem line_f {st G1:ah}(h:G1.outer=st.outer)(u:Nat):G1.line u=st.line u:=by unfold ah.line;rw[h]
theorem uY(a:ah)(c:Bool)(x:eQ)(p:Int):({(if c=true then a.wrong 180 p else a)with vars:=a.vars++[x]}:ah)=(if c=true then a.wrong 180 p else a).aZ x:=by
 unfold ah.aZ;split
 ·rw[cY]
 ·rfl
theorem iH(unit:Nat)(arg own:Bool)(p:Int):∀(l:List ByteArray) (i:Nat) (st:ah) (env:List Nat),Ph st->unit < st.outer.length->((arg&&own)=true->i+l.length<=st.args.getD unit 0)->iW st env unit->
 Ph (kO unit arg own p l i st env).1/\iW (kO unit arg own p l i st env).1 (kO unit arg own p l i st env).2 unit
 |[],_,st,env,h,_,_,he=>⟨h,he⟩
 |nm::r,i,st,env,h,hu,ha,he=>by
  rw[kO,uY];obtain⟨s,hs⟩:∃s,s=(if(jt st.vars env nm).isSome=true then st.wrong 180 p else st):=⟨_,rfl⟩;have hk:Ph s/\s.outer=st.outer/\s.args=st.args/\s.vars=st.vars:=by
   rw[hs];split
   ·refine⟨h.wrong _ _,mS _ _ _,?_,cY _ _ _⟩;unfold ah.wrong;split <;> rfl
   ·exact⟨h,rfl,rfl,rfl⟩
  obtain⟨k1,k2,k3,k4⟩:=hk;rw[<- hs];rw[Vp]at ha;have me:∀t:ah,Ph t->unit < t.outer.length->unit∈t.line unit:=fun t ht hl=>by rw[ht.wf.line Zo];exact QB ..
  have hov:(s.aZ ⟨nm,unit,arg,if(arg&&own)=true then i else -1⟩).outer=st.outer:=k2;have hP:Ph (s.aZ ⟨nm,unit,arg,if(arg&&own)=true then i else -1⟩):=by
   refine k1.aZ (by rw[k2];exact hu) ?_;rw[k3];simp only;split
   ·rename_i c;have:=ha c;omega
   ·omega
  refine iH unit arg own p r (i+1) _ _ hP (by rw[hov];exact hu) (fun c=>?_) (fun v hv=>?_)
  ·have:=ha c;show i+1+r.length<=s.args.getD unit 0;rw[k3];omega
  ·have hl:(s.aZ ⟨nm,unit,arg,if(arg&&own)=true then i else -1⟩).vars.length=st.vars.length+1:=by
    show(s.vars++[_]).length=_;rw[Vo,k4];rfl
   rcases Q7.1 hv with h1|h1
   ·obtain⟨e1,e2⟩:=he v h1;refine⟨Zo,?_⟩;rw[cV s _ (by rw[k4];exact e1)];have e3:s.af v=st.af v:=by unfold ah.af;rw[k4]
    have e4:(s.aZ ⟨nm,unit,arg,if(arg&&own)=true then i else -1⟩).line unit=st.line unit:=line_f hov unit;rw[e3,e4];exact e2
   ·rw[QI.1 h1];refine⟨Zo,?_⟩;have e3:(s.aZ ⟨nm,unit,arg,if(arg&&own)=true then i else -1⟩).af st.vars.length=unit:=by
     rw[<- k4];unfold ah.af ah.aZ;simp
    rw[e3];exact me _ hP (by rw[hov];exact hu)
theorem AT {vs:List eQ}{env:List Nat}{nm:ByteArray}{v:Nat}(h:jt vs env nm=some v):v∈env:=by
 have:=List.mem_of_find?_eq_some h;simpa using this
theorem Ki(s:ByteArray):wS s < 5:=by
 unfold wS
 repeat' split
 all_goals omega
theorem RM(F G:List ByteArray){st:ah}{env:List Nat}{u:Nat}(nm:ByteArray)(p:Int)(put:Bool)(h:Ph st)(hu:u < st.outer.length)(he:iW st env u):
 Ph (wF F G st env nm u p put).2/\((wF F G st env nm u p put).1.kind=99->oX (wF F G st env nm u p put).2 u (wF F G st env nm u p put).1.index.toNat=true):=by
 unfold wF;split
 ·refine⟨h,fun k=>?_⟩;have:=Ki nm;simp only at k;omega
 ·split
  ·rename_i v hv;obtain⟨h1,h2⟩:=he v (AT hv);have hp:Ph (st.use u v):=h.use hu h1 h2;have hk:∀s:ah,s.vars=st.vars->oX {s with uses:=st.uses++[(u,v)]} u v=true:=fun s hs=>by
    unfold oX;simp only[vF,vO,decide_eq_true_eq];exact⟨by rw[hs];exact h1,.inr Zs⟩
   refine⟨?_,fun _=>?_⟩
   ·simp only;split
    ·have e:({st.wrong 182 p with uses:=st.uses++[(u,v)]}:ah)={st.use u v with f:=(st.wrong 182 p).f}:=by
      unfold ah.wrong ah.use;split <;> rfl
     rw[e];exact hp.setF _
    ·exact hp
   ·show oX _ u ((v:Int)).toNat=true;rw[vS];simp only;split
    ·exact hk _ (cY _ _ _)
    ·exact hk _ rfl
  ·split
   ·exact⟨h,fun k=>by simp at k⟩
   ·refine⟨?_,fun k=>by simp at k⟩;simp only;split
    ·exact h
    ·exact h.wrong _ _
theorem iW.gr {a b:ah}{env:List Nat}{u:Nat}(h:iW a env u)(g:Gr a b)(ha:Wf a)(hb:Wf b)(hu:u < a.outer.length):iW b env u:=fun v hv=>by
 obtain⟨h1,h2⟩:=h v hv;refine⟨Qm h1 g.vars.length_le,?_⟩;have e1:b.af v=a.af v:=by
  obtain⟨t,ht⟩:=g.vars;unfold ah.af;rw[<- ht,VV h1]
 have e2:∀w:Nat,w < a.outer.length->b.line w=a.line w:=by
  intro w
  induction w using Nat.strongRecOn with
  |_ w ih=>
   intro hw;have ho:b.outer.getD w (-1)=a.outer.getD w (-1):=by
    obtain⟨t,ht⟩:=g.outer;rw[<- ht,V8,V8,VV hw]
   have hl:=g.outer.length_le;rw[hb.line Zo,ha.line Zo,ho]
   congr 1
   split
   ·rfl
   ·have:=ha.eZ w;exact ih _ Zo Zo
 rw[e1,e2 u hu];exact h2
theorem IN {p:Nat->Bool}(b:Bool){l:List PN}(h:jy p l=true):jy p (zK b l)=true:=by
 cases l with
 |nil=>rfl
 |cons x r=>
  simp only[jy,vF]at h;simp only[zK,jy,vF];refine⟨h.1,Fv fun y hy=>?_⟩;obtain⟨z,hz,rfl⟩:=QE.1 hy;have:=p7 h.2 z hz;cases z;exact this
theorem MG {p:Nat->Bool}{a n:Nat}(h:∀v,a<=v->v < a+n->p v=true):((List.range' a n).map dL).all (fun r=>!decide (r.kind=99)||p r.index.toNat)=true:=by
 rw[vX];intro r hr;obtain⟨v,hv,rfl⟩:=QE.1 hr;have:=QH.1 hv;show(!decide ((99:Nat)=99)||p ((v:Int)).toNat)=true;rw[vS,h v this.1 this.2,Bool.or_true]
theorem oG(unit:Nat)(arg own:Bool)(p:Int):∀(l:List ByteArray) (i:Nat) (st:ah) (env:List Nat) (v:Nat),st.vars.length<=v->v < st.vars.length+l.length->(kO unit arg own p l i st env).1.af v=unit
 |[],_,_,_,v,h1,h2=>by simp only[Vw]at h2;omega
 |nm::r,i,st,env,v,h1,h2=>by
  rw[kO];rw[Vp]at h2;by_cases e:v=st.vars.length
  ·have g:=zE unit arg own p r (i+1) {(if(jt st.vars env nm).isSome then st.wrong 180 p else st)with vars:=st.vars++[⟨nm,unit,arg,if arg&&own then i else -1⟩]} (env++[st.vars.length]);obtain⟨t,ht⟩:=g.vars;unfold ah.af;rw[<- ht,VV (by simp[e]),e];simp
  ·exact oG unit arg own p r (i+1) _ _ v tj tj
theorem W3(F G:List ByteArray):∀(N:Nat) (x:Nd),x.size<=N->∀st env u,Ph st->u < st.outer.length->iW st env u->
 (Ph (jF F G x st env u).2/\ep (oX (jF F G x st env u).2 u) (jF F G x st env u).1=true)/\(Ph (cH F G x st env u).2/\ep (oX (cH F G x st env u).2 u) (cH F G x st env u).1=true/\(x.args.length=1->oX (cH F G x st env u).2 u st.vars.length=true)):=by
 intro N
 induction N with
 |zero=>intro x hx;have:=x.size_pos;omega
 |succ N ih=>
  have ap:∀l:List Nd,Nd.aq l<=N->∀st env u,Ph st->u < st.outer.length->iW st env u->Ph (kT F G l st env u).2/\jy (oX (kT F G l st env u).2 u) (kT F G l st env u).1=true:=by
   intro l
   induction l with
   |nil=>intro _ st env u h hu he;rw[kT];exact⟨h,rfl⟩
   |cons x r xB=>
    intro hl st env u h hu he;simp only[Nd.aq]at hl;rw[wL];have g1:=(zZ F G N x Zo st env u).1;obtain⟨h1,h2⟩:=(ih x Zo st env u h hu he).1;obtain⟨h3,h4⟩:=xB Zo _ env u h1 (Qm hu g1.outer.length_le) (he.gr g1 h.wf h1.wf hu);exact zDL
  have pS:∀(s:ByteArray) (l:List Nd),Nd.aq l<=N->∀i st env u,Ph st->u < st.outer.length->iW st env u->(∀k y,l[k]? =some y->kb s=5->dX s (i+k)=true->y.args.length=1)->
   Ph (jB F G s l i st env u).2.2/\jy (oX (jB F G s l i st env u).2.2 u) (jB F G s l i st env u).1=true/\((jB F G s l i st env u).2.1.all fun r=>!decide (r.kind=99)||oX (jB F G s l i st env u).2.2 u r.index.toNat)=true/\Gr st (jB F G s l i st env u).2.2:=by
   intro s l
   induction l with
   |nil=>intro _ i st env u h hu he _;rw[jB];exact⟨h,rfl,rfl,Gr.refl _⟩
   |cons x r xB=>
    intro hl i st env u h hu he ha;simp only[Nd.aq]at hl;obtain⟨g1,g2⟩:=zZ F G N x Zo st env u;obtain⟨⟨h1,h2⟩,h3,h4,h5⟩:=ih x Zo st env u h hu he;have iv:∀k y,r[k]? =some y->kb s=5->dX s (i+1+k)=true->y.args.length=1:=fun k y hy e1 e2=>ha (k+1) y (by simpa using hy) e1 (by rw[show i+(k+1)=i+1+k from by omega];exact e2)
    cases hi:dX s i with
    |true=>
     rw[dQ _ _ _ _ _ _ _ _ _ hi];obtain⟨k1,k2,k3,k4⟩:=xB Zo (i+1) _ env u h3 (Qm hu g2.outer.length_le) (he.gr g2 h.wf h3.wf hu) iv;refine⟨k1,?_,?_,g2.trans k4⟩
     ·simp only[jy,vF];exact⟨iJ (fun v hv=>gl k4 u v hv) _ h4,k2⟩
     ·simp only;split
      ·rename_i e5;simp only[List.all_cons,vF,vO];refine⟨.inr ?_,k3⟩;have:=gl k4 u _ (h5 (ha 0 x rfl e5 hi));show oX _ u ((st.vars.length:Int)).toNat=true;rw[vS];exact this
      ·exact k3
    |false=>
     rw[zi _ _ _ _ _ _ _ _ _ hi];obtain⟨k1,k2,k3,k4⟩:=xB Zo (i+1) _ env u h1 (Qm hu g1.outer.length_le) (he.gr g1 h.wf h1.wf hu) iv;refine⟨k1,?_,k3,g1.trans k4⟩;simp only[jy,vF];exact⟨iJ (fun v hv=>gl k4 u v hv) _ h2,k2⟩
  intro x hx st env u h hu he;cases x with
  |mk k s lit args ab kids p=>
  simp only[Nd.size]at hx;have hk:Nd.aq kids<=N:=by omega
  have nC:∀(kk:Nat) (nm:ByteArray) (l0:Lt) (un:Int) (b:Bool) (ks:List PN) (t:ah),jy (oX t u) ks=true->ep (oX t u) (.mk kk nm l0 [] un b ks)=true:=fun kk nm l0 un b ks t hh=>by
   simp only[ep,List.all_nil,vR];exact hh
  have Kf:∀(kk:Nat) (r:zV) (ks:List PN) (t:ah),(r.kind=99->oX t u r.index.toNat=true)->jy (oX t u) ks=true->ep (oX t u) (.mk kk e0 ij [r] 0 false ks)=true:=fun kk r ks t hr hh=>by
   simp only[ep,List.all_cons,List.all_nil,Bool.and_true,vF,vO];refine⟨?_,hh⟩;by_cases e:r.kind=99
   ·exact .inr (hr e)
   ·exact .inl (by rw[Zf e];rfl)
  refine⟨?_,?_⟩
  ·cases bf:fD k s kids with
   |true=>
    rw[eE _ _ _ _ _ _ _ _ _ _ _ _ bf];have hf:zl (kb s) kids=true:=by
     unfold fD at bf;simp only[vF]at bf;exact bf.2
    obtain⟨k1,k2,k3,_⟩:=pS s kids hk 0 st env u h hu he (fun j y hy e5 hi=>by
     rw[e5]at hf;obtain⟨hl,b,hb,_,sK⟩:=K4 hf;have:j=2:=by
      unfold dX at hi;rw[e5]at hi;simp only[decide_eq_true_eq]at hi;omega
     subst this;rw[hb]at hy;obtain rfl:=X0 hy;exact sK)
    refine⟨k1,?_⟩;simp only[ep,vF];exact⟨k3,k2⟩
   |false=>
    by_cases h1:k=1
    ·rw[nk _ _ _ _ _ _ _ _ _ _ _ _ bf h1];exact⟨h,rfl⟩
    by_cases h2:k=2
    ·rw[np _ _ _ _ _ _ _ _ _ _ _ _ bf h2];obtain⟨k1,k2⟩:=RM F G s p false h hu he;exact⟨k1,Kf _ _ _ _ k2 rfl⟩
    by_cases h3:k=3
    ·rw[nq _ _ _ _ _ _ _ _ _ _ _ _ bf h3];obtain⟨k1,k2⟩:=RM F G s p true h hu he;have g:=xj F G st env s u p true;obtain⟨k3,k4⟩:=ap kids hk _ env u k1 (Qm hu g.outer.length_le) (he.gr g h.wf k1.wf hu);exact⟨k3,Kf _ _ _ _ (fun e=>gl (wU F G kids _ env u) u _ (k2 e)) k4⟩
    by_cases h7:k=7
    ·rw[ny _ _ _ _ _ _ _ _ _ _ _ _ bf h7];refine⟨?_,nC _ _ _ _ _ _ _ rfl⟩;simp only;rw[zP];have hU:Ph (st.aM (u:Int) args.length):=h.aM ⟨Zo,Zo⟩;have EP:(st.aM (u:Int) args.length).outer.length=st.outer.length+1:=by unfold ah.aM;simp
     have hEnv0:iW (st.aM (u:Int) args.length) env st.outer.length:=fun v hv=>by
      obtain⟨e1,e2⟩:=he v hv;refine⟨e1,?_⟩;have e3:(st.aM (u:Int) args.length).outer.getD st.outer.length (-1)=(u:Int):=by
       show(st.outer++[(u:Int)]).getD st.outer.length (-1)=(u:Int);exact zC5
      rw[hU.wf.line Zo,e3,if_neg Zo,vS,h.wf.pX ⟨Zo,Zo⟩ u hu];exact QA _ e2
     have ha0:(st.aM (u:Int) args.length).args.getD st.outer.length 0=args.length:=by
      show(st.args++[args.length]).getD st.outer.length 0=_;rw[<- h.wf.al,V8,Va (Qj _),Qp];rfl
     obtain⟨d1,d2⟩:=iH st.outer.length true true p args 0 _ env hU Zo (fun _=>by rw[ha0];omega) hEnv0;obtain⟨f1,f2,f3,f4⟩:=jn st.outer.length true true p args 0 (st.aM (u:Int) args.length) env;obtain⟨d3,d4⟩:=iH st.outer.length false true p ab 0 _ _ d1 (by rw[f1];omega) (fun e=>by cases e) d2;obtain⟨f5,f6,f7,f8⟩:=jn st.outer.length false true p ab 0 (kO st.outer.length true true p args 0 (st.aM (u:Int) args.length) env).1 (kO st.outer.length true true p args 0 (st.aM (u:Int) args.length) env).2;obtain⟨d5,d6⟩:=ap kids hk (bn args ab p st env (u:Int)).1 (bn args ab p st env (u:Int)).2 st.outer.length d3 (by
      show st.outer.length < (kO st.outer.length false true p ab 0 (kO st.outer.length true true p args 0 (st.aM (u:Int) args.length) env).1 (kO st.outer.length true true p args 0 (st.aM (u:Int) args.length) env).2).1.outer.length;rw[f5,f1];omega) d4
     exact d5.body _ d6
    by_cases h8:k=8
    ·rw[nz _ _ _ _ _ _ _ _ _ _ _ _ bf h8];exact zC4
    by_cases h9:k=9
    ·rw[nA _ _ _ _ _ _ _ _ _ _ _ _ bf h9];exact zC4
    by_cases h6:k=6
    ·rw[nw _ _ _ _ _ _ _ _ _ _ _ _ bf h6];exact zC4
    by_cases h5:k=5
    ·rw[nu _ _ _ _ _ _ _ _ _ _ _ _ bf h5];obtain⟨k1,k2⟩:=ap kids hk st env u h hu he;exact⟨k1,nC _ _ _ _ _ _ _ (IN _ k2)⟩
    cases hs:jM kids with
    |true=>
     rw[gX _ _ _ _ _ _ _ _ _ _ _ _ bf ⟨h1,h2,h3,h5,h6,h7,h8,h9⟩ hs];have ht:Nd.aq kids.tail<=N:=by
      exact zEF
     obtain⟨k1,k2⟩:=ap kids.tail ht st env u h hu he;exact⟨k1,nC _ _ _ _ _ _ _ k2⟩
    |false=>
     rw[nt _ _ _ _ _ _ _ _ _ _ _ _ bf ⟨h1,h2,h3,h5,h6,h7,h8,h9⟩ hs];exact zC4
  ·rw[iz];obtain⟨d1,d2⟩:=iH u true false p args 0 st env h hu (fun e=>by cases e) he;obtain⟨f1,f2,f3,f4⟩:=jn u true false p args 0 st env;obtain⟨d3,d4⟩:=iH u false false p ab 0 _ _ d1 (by rw[f1];exact hu) (fun e=>by cases e) d2;obtain⟨f5,f6,f7,f8⟩:=jn u false false p ab 0 (kO u true false p args 0 st env).1 (kO u true false p args 0 st env).2;obtain⟨d5,d6⟩:=ap kids hk _ _ u d3 (by rw[f5,f1];exact hu) d4;have g:=wU F G kids (kO u false false p ab 0 (kO u true false p args 0 st env).1 (kO u true false p args 0 st env).2).1 (kO u false false p ab 0 (kO u true false p args 0 st env).1 (kO u true false p args 0 st env).2).2 u;have gt:=zE u false false p ab 0 (kO u true false p args 0 st env).1 (kO u true false p args 0 st env).2;have tD:∀(t:ah) (v:Nat),v < t.vars.length->t.af v=u->oX t u v=true:=fun t v e1 e2=>by
    unfold oX;simp only[vF,vO,decide_eq_true_eq];exact⟨e1,.inl e2⟩
   refine⟨d5,?_,fun ha=>?_⟩
   ·simp only[ep,vF];refine⟨MG fun v e1 e2=>?_,d6⟩;exact gl g u v (tD _ v (by rw[f8];exact e2) (oG u false false p ab 0 _ _ v e1 e2))
   ·have ha:args.length=1:=ha;exact gl (gt.trans g) u _ (tD _ _ (by rw[f4];omega) (oG u true false p args 0 st env _ (Qj _) Zo))
end Go.V

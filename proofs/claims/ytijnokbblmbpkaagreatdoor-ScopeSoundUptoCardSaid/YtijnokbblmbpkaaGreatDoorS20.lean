/-
  One variable more.
-/
import Derived.Test.YtijnokbblmbpkaaGreatDoorS19
import Derived.Test.YtijnokbblmbpkaaGreatDoorS7
import Derived.Test.YtijnokbblmbpkaaGreatDoorS8
set_option linter.unusedSimpArgs false
set_option linter.unusedVariables false
namespace Go.V
open Go
theorem temps_add(st:SSt)(x:SVar)(i:Nat):(st.addV x).temps i=st.temps i++(if x.unit=i/\x.own < 0 then [st.vars.length]else []):=by
 unfold SSt.temps;have hl:(st.addV x).vars.length=st.vars.length+1:=by unfold SSt.addV;simp
 rw[hl,List.range_succ,vp]
 congr 1
 ·refine List.filter_congr fun v hv=>?_
  have:=QB.1 hv;rw[unitOf_add st x this,ownOf_add st x this]
 ·have e1:(st.addV x).unitOf st.vars.length=x.unit:=by unfold SSt.unitOf SSt.addV;simp
  have e2:(st.addV x).ownOf st.vars.length=x.own:=by unfold SSt.ownOf SSt.addV;simp
  simp only[vq,List.filter_nil,e1,e2];by_cases h1:x.unit=i <;> by_cases h2:x.own < 0 <;> simp[h1,h2]
theorem temps_lt {st:SSt}{i v:Nat}(h:v∈st.temps i):v < st.vars.length:=by
 unfold SSt.temps at h;exact QB.1 (Q7.1 h).1
theorem RepG.addV {st:SSt}{U U':List UC}{V:List VCl}(h:RepS st U V){x:SVar}{y:VCl}{i:Nat}{u u':UC}(hx:x.unit=i)(hu:U[i]? =some u)(ho:-1<=x.own/\x.own < st.args.getD i 0)
 (hy:y.unit=u.q/\y.arg=x.own/\y.fixed=x.arg/\y.remote=false/\y.slot=0) (hU:U'=U.set i u') (hu':u'={u with temps:=u'.temps,tv:=u'.tv,tsp:=u'.tsp}) (ht:u'.temps=u.temps++(if x.own < 0 then [y.q]else [])) (hs:jC 1 u'.tv u'.temps.length (u'.temps.map fun b=>kK (some b)) u'.tsp):
 RepS (st.addV x) U' (V++[y]):=by
 have hq':u'.q=u.q:=by rw[hu']
 have hmq:U'.map UC.q=U.map UC.q:=by rw[hU];exact z5 hu hq'
 have hgq:=getq hmq;have hil:i < st.outer.length:=by have:=(Vd.1 hu).1;rw[h.ul]at this;exact this
 have hget:∀{j:Nat} {w:UC},U'[j]? =some w->(j≠i/\U[j]? =some w)∨(j=i/\w=u'):=fun {j w} hj=>by
  rw[hU]at hj;rcases set_get hu hj with⟨rfl,rfl⟩|⟨h1,h2⟩
  ·exact .inr ⟨rfl,rfl⟩
  ·exact .inl ⟨h1,h2⟩
 have hback:∀{j:Nat} {w:UC},U[j]? =some w->∃w',U'[j]? =some w'/\w'.q=w.q:=fun {j w} hj=>by
  have:=hgq j;rw[hj]at this;cases e:U'[j]? with
  |none=>rw[e]at this;cases this
  |some w'=>rw[e]at this;exact⟨w',rfl,Qn this⟩
 have hfwd:∀{j:Nat} {w:UC},U'[j]? =some w->∃w',U[j]? =some w'/\w.q=w'.q:=fun {j w} hj=>by
  rcases hget hj with⟨_,h'⟩|⟨rfl,rfl⟩
  ·exact⟨w,h',rfl⟩
  ·exact⟨u,hu,hq'⟩
 have hold:∀{v:Nat},v < st.vars.length->(V++[y]).getD v vcl0=V.getD v vcl0:=fun {v} hv=>getD_snoc (by rw[h.vl];exact hv)
 have hnew:(V++[y]).getD st.vars.length vcl0=y:=by
  rw[V5,V8 (by rw[h.vl];exact QW _),h.vl,Qd];rfl
 refine⟨h.wf.addV (by rw[hx];exact hil) (by rw[hx];exact ho),by rw[hU,Vt];exact h.ul,?_,by rw[hmq];exact h.inj,fun j w hj=>?_,fun j w hj=>?_,fun j w hj=>?_,fun j w hj=>?_,fun v a b ha hb=>?_⟩
 ·show(V++[y]).length=(st.vars++[x]).length;rw[Vj,Vj,h.vl];rfl
 ·rcases hget hj with⟨_,h'⟩|⟨rfl,rfl⟩
  ·exact h.un j w h'
  ·rw[hu'];exact h.un j u hu
 ·show w.outer=(if st.outer.getD j (-1) < 0 then none else(U'[(st.outer.getD j (-1)).toNat]?).map UC.q);rw[hgq];rcases hget hj with⟨_,h'⟩|⟨rfl,rfl⟩
  ·exact h.ou j w h'
  ·rw[hu'];exact h.ou j u hu
 ·rw[temps_add,Vw];have hmap:(st.temps j).map (fun v=>((V++[y]).getD v vcl0).q)=(st.temps j).map (fun v=>(V.getD v vcl0).q):=Vx fun v hv=>by rw[hold (temps_lt hv)]
  rw[hmap];rcases hget hj with⟨hne,h'⟩|⟨rfl,rfl⟩
  ·rw[if_neg (by rintro⟨e,_⟩;exact hne (e.symm.trans hx))];rw[Q0,vd];exact h.tm j w h'
  ·refine⟨?_,hs⟩;rw[ht,(h.tm j u hu).1]
   congr 1
   by_cases hn:x.own < 0
   ·rw[if_pos hn,if_pos ⟨hx,hn⟩,List.map_singleton,hnew]
   ·rw[if_neg hn,if_neg (fun e=>hn e.2)];rfl
 ·have hnd:∃m:List ((Nat×Int)×Int),ThIs w.es w.cl m/\(m.map (·.1)).Nodup/\(∀p∈m,(∃(j:Nat) (w:UC),U[j]? =some w/\p.1.1=w.q)/\0 < p.2/\p.2<=st.uses.length)/\∀(k:Nat) (w:UC) (a:Int),U[k]? =some w->((kq (w.q,a) m).isSome=true↔st.need j (k,a)=true):=by
   rcases hget hj with⟨_,h'⟩|⟨rfl,rfl⟩
   ·exact h.nd j w h'
   ·rw[hu'];exact h.nd j u hu
  obtain⟨m,h1,h2,h3,h4⟩:=hnd;refine⟨m,h1,h2,fun p hp=>?_,fun k z a hk=>?_⟩
  ·obtain⟨⟨k,z,h5,h6⟩,h7⟩:=h3 p hp;obtain⟨z',h8,h9⟩:=hback h5;exact⟨⟨k,z',h8,h6.trans h9.symm⟩,h7⟩
  ·obtain⟨z',h8,h9⟩:=hfwd hk;rw[h9,h4 k z' a h8,h.wf.need_add]
 ·have ha':(st.vars++[x])[v]? =some a:=ha;rw[V6]at ha';split at ha'
  ·rename_i hv;rw[V7 (by rw[h.vl];exact hv)]at hb;obtain⟨⟨z,h1,h2⟩,h3,h4,h5,h6⟩:=h.vn v a b ha' hb;obtain⟨z',h8,h9⟩:=hback h1;exact⟨⟨z',h8,h2.trans h9.symm⟩,h3,h4,by rw[h5,h.wf.rem_add x hv],h6⟩
  ·rename_i hv;have hlen:=(Vd.1 ha').1;simp only[Vu]at hlen;have e:v=st.vars.length:=by omega
   subst e;rw[Qd]at ha';obtain rfl:x=a:=by simpa using ha'
   rw[V8 (by rw[h.vl];exact QW _),h.vl,Qd]at hb;obtain rfl:y=b:=by simpa using hb
   obtain⟨y1,y2,y3,y4,y5⟩:=hy;obtain⟨z',h8,h9⟩:=hback hu;exact⟨⟨z',by rw[hx];exact h8,y1.trans h9.symm⟩,y2,y3,by rw[y4,h.wf.rem_new],y5⟩
theorem wk_temps {U:List UC}{V:List VCl}{i:Nat}{u:UC}(h:U[i]? =some u):∃R,(WK U V).Perm ((kA u.q 5 [u.tv]++slA u.tv (u.temps.map fun b=>kK (some b)) u.tsp)++R)/\
 ∀l tv' tsp',(WK (U.set i {u with temps:=l,tv:=tv',tsp:=tsp'}) V).Perm ((kA u.q 5 [tv']++slA tv' (l.map fun b=>kK (some b)) tsp')++R):=by
 have hx:∀l tv' tsp',({u with temps:=l,tv:=tv',tsp:=tsp'}:UC).atoms.Perm ((kA u.q 5 [tv']++slA tv' (l.map fun b=>kK (some b)) tsp')++
  (.own u.q 9::(kA u.q 0 [.int .i64 u.args,.int .i64 u.locals,.int .i64 u.vector,kK u.outer,.int .i64 u.num]++(kA u.q 6 [.map (some u.nb),u.cv,u.body]++(slA u.cv (u.cop.flatMap jN) u.csp++[.obj u.nb (.map u.es u.cl)]))))):=fun l tv' tsp'=>by
  unfold UC.atoms UC.row;simp only[kA,vf,QD,vZ];generalize slA tv' (l.map fun b=>kK (some b)) tsp'=S1;generalize slA u.cv (u.cop.flatMap jN) u.csp++[.obj u.nb (.map u.es u.cl)]=S2;have h6:∀(a b c d e f g:kC) (X Y:List kC),(a::b::c::d::e::f::g::(X++Y)).Perm (g::X++(a::b::c::d::e::f::Y)):=fun a b c d e f g X Y=>by
   have e1:(a::b::c::d::e::f::g::(X++Y))=[a,b,c,d,e,f]++((g::X)++Y):=rfl;rw[e1,<- vZ];exact zC7
  have h3:∀(a b c:kC) (X Y:List kC),(a::b::c::(X++Y)).Perm (X++(a::b::c::Y)):=fun a b c X Y=>by
   have e1:(a::b::c::(X++Y))=[a,b,c]++(X++Y):=rfl;rw[e1,<- vZ];exact zC7
  have:=h6 (.own u.q 9) (.cell u.q 0 (.int .i64 u.args)) (.cell u.q (0+1) (.int .i64 u.locals)) (.cell u.q (0+1+1) (.int .i64 u.vector)) (.cell u.q (0+1+1+1) (kK u.outer)) (.cell u.q (0+1+1+1+1) (.int .i64 u.num)) (.cell u.q 5 tv') S1 (.cell u.q 6 (.map (some u.nb)):: .cell u.q 7 u.cv:: .cell u.q 8 u.body::S2);refine List.Perm.trans ?_ this;refine List.Perm.cons _ (List.Perm.cons _ (List.Perm.cons _ (List.Perm.cons _ (List.Perm.cons _ (List.Perm.cons _ (List.Perm.cons _ ?_))))));exact h3 _ _ _ _ _
 obtain⟨R,h1,h2⟩:=wk_part (V:=V) h (hx u.temps u.tv u.tsp);exact⟨R,h1,fun l tv' tsp'=>h2 _ _ (hx l tv' tsp')⟩
end Go.V
namespace Go.V
open Go
def SSt.nameOf(st:SSt)(v:Nat):ByteArray:=((st.vars[v]?).map (·.name)).getD e0
def qOf(V:List VCl)(v:Nat):Nat:=(V.getD v vcl0).q
def seenL(st:SSt)(V:List VCl)(env:List Nat):List (ByteArray×Nat):=env.map fun v=>(st.nameOf v,qOf V v)
structure wX (st:SSt)(V:List VCl)(env:List Nat)(es:Array MapEntry)(c:Nat):Prop where
 is:zG zX (fun b=>kK (some b)) es c (seenL st V env)
 lt:∀v∈env,v < st.vars.length
 one:(env.map st.nameOf).Nodup
theorem find_rev {α:Type}(p:α->Bool):∀{l:List α} {x:α},x∈l->p x=true->(∀y∈l,p y=true->y=x)->l.reverse.find? p=some x:=fun {l x} hx hp hu=>by
 cases h:l.reverse.find? p with
 |none=>
  have:=List.find?_eq_none.1 h x (by simpa using hx);exact absurd hp this
 |some y=>
  have h1:=List.find?_some h;have h2:=List.mem_of_find?_eq_some h;rw[hu y (by simpa using h2) h1]
theorem nodup_map_inj {α β:Type}{f:α->β}:∀{l:List α},(l.map f).Nodup->∀{x y:α},x∈l->y∈l->f x=f y->x=y:=by
 intro l
 induction l with
 |nil=>intro _ x y hx;cases hx
 |cons a l ih=>
  intro h x y hx hy e;simp only[Vy,QF]at h;rcases Q4.1 hx with h1|h1
  ·rcases Q4.1 hy with h2|h2
   ·exact h1.trans h2.symm
   ·exact absurd (Q9.2 ⟨y,h2,by rw[<- e,h1]⟩:f a∈l.map f) h.1
  ·rcases Q4.1 hy with h2|h2
   ·exact absurd (Q9.2 ⟨x,h1,by rw[e,h2]⟩:f a∈l.map f) h.1
   ·exact ih h.2 h1 h2 e
theorem mget_seen {st:SSt}{V:List VCl}{nm:ByteArray}:∀{env:List Nat},kq nm (seenL st V env)=((env.find? fun v=>decide (st.nameOf v=nm)).map (qOf V)):=by
 intro env
 induction env with
 |nil=>rfl
 |cons v r ih=>
  show kq nm ((st.nameOf v,qOf V v)::seenL st V r)=_;simp only[kq,List.find?_cons];by_cases h:st.nameOf v=nm
  ·rw[if_pos h,Zt h];rfl
  ·rw[if_neg h,Zf h];exact ih
theorem wX.find {st:SSt}{V:List VCl}{env:List Nat}{es:Array MapEntry}{c:Nat}(h:wX st V env es c)(nm:ByteArray):kq nm (seenL st V env)=(wG st.vars env nm).map (qOf V)/\∀v,wG st.vars env nm=some v->v∈env/\v < st.vars.length/\st.nameOf v=nm:=by
 have hp:∀v∈env,(decide ((st.vars[v]?).map (·.name)=some nm)=decide (st.nameOf v=nm)):=fun v hv=>by
  have hl:=h.lt v hv;unfold SSt.nameOf;rw[Zg hl];simp
 have hf:wG st.vars env nm=env.find? fun v=>decide (st.nameOf v=nm):=by
  unfold wG;cases e:env.find? (fun v=>decide (st.nameOf v=nm))with
  |none=>
   rw[List.find?_eq_none]at e|-;intro v hv;have hv':v∈env:=by simpa using hv
   rw[hp v hv'];exact e v hv'
  |some v=>
   have h1:=List.find?_some e;have h2:=List.mem_of_find?_eq_some e;refine find_rev _ h2 (by rw[hp v h2];exact h1) (fun y hy h3=>?_);rw[hp y hy]at h3;simp only[decide_eq_true_eq]at h1 h3;exact nodup_map_inj h.one hy h2 (h3.trans h1.symm)
 refine⟨by rw[mget_seen,hf],fun v hv=>?_⟩;rw[hf]at hv;have h2:=List.mem_of_find?_eq_some hv;exact⟨h2,h.lt v h2,by simpa using List.find?_some hv⟩
theorem nameOf_add(st:SSt)(x:SVar){v:Nat}(hv:v < st.vars.length):(st.addV x).nameOf v=st.nameOf v:=by
 unfold SSt.nameOf SSt.addV;simp only;rw[V7 hv]
theorem nameOf_new(st:SSt)(x:SVar):(st.addV x).nameOf st.vars.length=x.name:=by
 unfold SSt.nameOf SSt.addV;simp
theorem qOf_add {V:List VCl}(y:VCl){v:Nat}(hv:v < V.length):qOf (V++[y]) v=qOf V v:=by
 unfold qOf;rw[getD_snoc hv]
theorem qOf_new(V:List VCl)(y:VCl):qOf (V++[y]) V.length=y.q:=by
 unfold qOf;exact zBV
theorem wX.add {st:SSt}{V:List VCl}{env:List Nat}{es es':Array MapEntry}{c c':Nat}(h:wX st V env es c)(hv:V.length=st.vars.length){x:SVar}{y:VCl}(hn:wG st.vars env x.name=none)
 (he:zG zX (fun b=>kK (some b)) es' c' (jZ x.name y.q (seenL st V env))):wX (st.addV x) (V++[y]) (env++[st.vars.length]) es' c':=by
 have hold:seenL (st.addV x) (V++[y]) env=seenL st V env:=Vx fun v hv'=>by
  have:=h.lt v hv';rw[nameOf_add st x this,qOf_add y Zo]
 have hg:=(h.find x.name).1;rw[hn]at hg;refine⟨?_,fun v hv'=>?_,?_⟩
 ·have e:seenL (st.addV x) (V++[y]) (env++[st.vars.length])=seenL st V env++[(x.name,y.q)]:=by
   show List.map _ (env++[st.vars.length])=_;rw[Vw];have:=hold;unfold seenL at this;rw[this];simp only[Vy,Q0];rw[nameOf_new,<- hv,qOf_new];rfl
  rw[e,<- mget_none_mset hg];exact he
 ·show v < (st.vars++[x]).length;rw[Vj,Vu];rcases Q1.1 hv' with h1|h1
  ·have:=h.lt v h1;omega
  ·rw[QC.1 h1];omega
 ·rw[Vw];have hm:env.map (st.addV x).nameOf=env.map st.nameOf:=Vx fun v hv'=>nameOf_add st x (h.lt v hv')
  rw[hm,List.map_singleton,nameOf_new,QE];refine⟨h.one,Zs,fun a ha b hb=>?_⟩;obtain⟨v,hv1,rfl⟩:=Q9.1 ha;rw[QC.1 hb];intro e;have hnone:=mget_none.1 hg;exact hnone (Q9.2 ⟨(st.nameOf v,qOf V v),Q9.2 ⟨v,hv1,rfl⟩,e⟩)
theorem wX.more {st st':SSt}{V V':List VCl}{env:List Nat}{es:Array MapEntry}{c:Nat}(h:wX st V env es c)(h1:st.vars <+:st'.vars)(h2:V.map VCl.q <+:V'.map VCl.q)(hv:V.length=st.vars.length):wX st' V' env es c:=by
 have hn:∀v∈env,st'.nameOf v=st.nameOf v:=fun v hv'=>by
  obtain⟨r,hr⟩:=h1;unfold SSt.nameOf;rw[<- hr,V7 (h.lt v hv')]
 have hq:∀v∈env,qOf V' v=qOf V v:=fun v hv'=>by
  obtain⟨r,hr⟩:=h2;have hl:=h.lt v hv';have e:∀W:List VCl,v < W.length->qOf W v=((W.map VCl.q)[v]?).getD 0:=fun W hW=>by
   unfold qOf;rw[V5,Ve,Zg hW];rfl
  have hl2:v < V'.length:=by
   have:=congrArg List.length hr;simp only[Vj,Vp]at this;omega
  rw[e V' hl2,e V Zo,<- hr,V7 (by rw[Vp];omega)]
 refine⟨?_,fun v hv'=>?_,?_⟩
 ·have:seenL st' V' env=seenL st V env:=Vx fun v hv'=>by rw[hn v hv',hq v hv']
  rw[this];exact h.is
 ·obtain⟨r,hr⟩:=h1;have:=h.lt v hv';rw[<- hr,Vj];omega
 ·rw[Vx hn];exact h.one
end Go.V
namespace Go.V
open Go
structure FieldsIs (F:List ByteArray)(es:Array MapEntry)(c:Nat):Prop where
 is:∃m:List (ByteArray×Nat),zG zX (fun n:Nat=>.int .i64 n) es c m/\∀nm,kq nm m=F.findIdx? (fun s=>decide (s=nm))
structure GlobsIs (G:List ByteArray)(es:Array MapEntry)(c:Nat):Prop where
 is:∃m:List (ByteArray×Nat),zG zX (fun n:Nat=>.int .i64 n) es c m/\∀nm,decide ((kq nm m).getD 0=0)=!G.any (fun s=>decide (s=nm))
def jG(r:z7):List Value:=[.int .u8 r.kind,.int .i64 r.index,.int .i64 r.slot,.string r.name]
def rz:List Value:=[.int .u8 0,.int .i64 0,.int .i64 0,.string e0]
def refOut(V:List VCl)(r:z7):Value:=if r.kind=99 then .tuple #[.agg rz.toArray,kK (some (qOf V r.index.toNat))]else .tuple #[.agg (jG r).toArray,.pointer none]
theorem refK_0 {s:ByteArray}(h1:s≠nmSelf)(h2:s≠nmSuper)(h3:s≠nmNil)(h4:s≠nmTrue)(h5:s≠nmFalse):zW s=0:=by
 unfold zW;rw[if_neg (by rintro(h|h) <;> contradiction),if_neg h3,if_neg h4,if_neg h5]
theorem wrong_f {st:SSt}(h:st.f=none)(e:Nat)(p:Int):(st.wrong e p).f=some (e,p):=by
 unfold SSt.wrong;rw[h];rfl
section
variable {F G:List ByteArray} {st:SSt} {env:List Nat} {nm:ByteArray} {u:Nat} {p:Int} {put:Bool}
theorem refS_kw(h:zW nm≠0):jv F G st env nm u p put=(⟨zW nm,0,0,e0⟩,st):=by unfold jv;rw[if_pos h]
theorem refS_var(h:zW nm=0){v:Nat}(hv:wG st.vars env nm=some v)(hp:(put&&((st.vars[v]?).map (·.arg)).getD false)=false):jv F G st env nm u p put=(rawR v,st.use u v):=by
 unfold jv;rw[if_neg Zo,hv];simp only[hp];rfl
theorem refS_arg(h:zW nm=0){v:Nat}(hv:wG st.vars env nm=some v)(hp:(put&&((st.vars[v]?).map (·.arg)).getD false)=true)(hf:st.f=none):(jv F G st env nm u p put).2.f=some (182,p):=by
 unfold jv;rw[if_neg Zo,hv];simp only[hp,if_true,SSt.wrong,hf,Option.isNone_none]
theorem refS_field(h:zW nm=0)(hv:wG st.vars env nm=none){i:Nat}(hi:F.findIdx? (fun s=>decide (s=nm))=some i):jv F G st env nm u p put=(⟨7,i,0,e0⟩,st):=by
 unfold jv;rw[if_neg Zo,hv];simp only[hi]
theorem refS_glob(h:zW nm=0)(hv:wG st.vars env nm=none)(hi:F.findIdx? (fun s=>decide (s=nm))=none)(hg:G.any (fun s=>decide (s=nm))=true):jv F G st env nm u p put=(⟨8,0,0,nm⟩,st):=by
 unfold jv;rw[if_neg Zo,hv];simp only[hi,hg,if_true]
theorem refS_none(h:zW nm=0)(hv:wG st.vars env nm=none)(hi:F.findIdx? (fun s=>decide (s=nm))=none)(hg:G.any (fun s=>decide (s=nm))=false)(hf:st.f=none):(jv F G st env nm u p put).2.f=some (181,p):=by
 unfold jv;rw[if_neg Zo,hv];simp only[hi,hg,vI,if_false];exact wrong_f hf 181 p
end
end Go.V
namespace Go.V
open Go
def jm(T:List kC)(v:Value)(rs:List z7):Prop:=∃a c,v=.slice a rs.length c/\∀(i:Nat) r,rs[i]? =some r->∃b o,a=some ⟨b,o,none⟩/\∀y∈kA b (o+i*4) (jG r),y∈T
def wK(T:List kC)(v:Value)(l:List Nat):Prop:=∃a c,v=.slice a l.length c/\∀(i:Nat) q,l[i]? =some q->∃b o,a=some ⟨b,o,none⟩/\kC.cell b (o+i) (kK (some q))∈T
theorem jm.more {T T':List kC}{v:Value}{rs:List z7}(h:jm T v rs)(hs:∀x∈T,x∈T'):jm T' v rs:=by
 obtain⟨a,c,h1,h2⟩:=h;exact⟨a,c,h1,fun i r hi=>let⟨b,o,k1,k2⟩:=h2 i r hi;⟨b,o,k1,fun y hy=>hs _ (k2 y hy)⟩⟩
theorem wK.more {T T':List kC}{v:Value}{l:List Nat}(h:wK T v l)(hs:∀x∈T,x∈T'):wK T' v l:=by
 obtain⟨a,c,h1,h2⟩:=h;exact⟨a,c,h1,fun i r hi=>let⟨b,o,k1,k2⟩:=h2 i r hi;⟨b,o,k1,hs _ k2⟩⟩
theorem jm.nil(T:List kC):jm T (.slice none 0 0) []:=⟨none,0,rfl,fun i r h=>by simp at h⟩
theorem wK.nil(T:List kC):wK T (.slice none 0 0) []:=⟨none,0,rfl,fun i r h=>by simp at h⟩
def wS(rs:List z7):List z7:=rs.filter fun r=>decide (r.kind≠99)
def rawsR(rs:List z7):List z7:=rs.filter fun r=>decide (r.kind=99)
structure zR (qs:List Nat)(rs:List z7):Prop where
 one:(∀r∈rs,r.kind=99)∨∀r∈rs,r.kind≠99
 raw:∀r∈rs,r.kind=99->∃v,r=rawR v/\v < qs.length
inductive NRd (T:List kC)(qs:List Nat):PN->List Value->Prop
 |mk {k:Nat} {nm:ByteArray} {lit:Lt} {refs:List z7} {unit:Int} {sup:Bool} {kids:List PN} {lv:List Value} {rv vv:Value} {a:Option Addr} {c bk o:Nat} {us:Nat->List Value} (hl:LtRd T lit lv) (hr:jm T rv (wS refs))
   (hv:wK T vv ((rawsR refs).map fun r=>qs.getD r.index.toNat 0)) (ok:zR qs refs) (hz:wS refs=[]->rv=.slice none 0 0) (ha:0 < kids.length->a=some ⟨bk,o,none⟩) (hm:∀i,i < kids.length->∀y∈kA bk (o+i*13) (us i),y∈T) (hs:∀i x,kids[i]? =some x->NRd T qs x (us i)):
   NRd T qs (.mk k nm lit refs unit sup kids) ([cv k,.string nm]++lv++[rv,.int .i64 unit,.bool sup,.slice none 0 0,vv,.slice a kids.length c])
theorem NRd.len {T:List kC}{qs:List Nat}{x:PN}{vs:List Value}(h:NRd T qs x vs):vs.length=13:=by
 cases h with
 |mk hl=>simp[hl.len]
theorem zR.more {qs qs':List Nat}{rs:List z7}(h:zR qs rs)(hq:qs <+:qs'):zR qs' rs:=
 ⟨h.one,fun r hr hk=>let⟨v,h1,h2⟩:=h.raw r hr hk;⟨v,h1,QZ h2 hq.length_le⟩⟩
theorem raws_same {qs qs':List Nat}{rs:List z7}(h:zR qs rs)(hq:qs <+:qs'):(rawsR rs).map (fun r=>qs'.getD r.index.toNat 0)=(rawsR rs).map fun r=>qs.getD r.index.toNat 0:=by
 refine Vx fun r hr=>?_
 obtain⟨h1,h2⟩:=Q7.1 hr;obtain⟨v,rfl,hv⟩:=h.raw r h1 (of_decide_eq_true h2);exact zD4
theorem NRd.more {T T':List kC}{qs qs':List Nat}(hs:∀x∈T,x∈T')(hq:qs <+:qs'){x:PN}{vs:List Value}(h:NRd T qs x vs):NRd T' qs' x vs:=by
 induction h with
 |mk hl hr hv ok hz ha hm hk ih=>
  refine .mk (hl.more hs) (hr.more hs) ?_ (ok.more hq) hz ha (fun i hi y hy=>hs _ (hm i hi y hy)) ih;rw[raws_same ok hq];exact hv.more hs
structure z9 (T:List kC)(qs:List Nat)(l:List PN)(rows:List (List Value)):Prop where
 len:rows.length=l.length
 w:∀r∈rows,r.length=13
 rd:∀(i:Nat) x r,l[i]? =some x->rows[i]? =some r->NRd T qs x r
theorem z9.nil(T:List kC)(qs:List Nat):z9 T qs [] []:=⟨rfl,Zs,fun i x r h=>by simp at h⟩
theorem z9.more {T T':List kC}{qs qs':List Nat}{l:List PN}{rows:List (List Value)}(h:z9 T qs l rows)(hs:∀x∈T,x∈T')(hq:qs <+:qs'):z9 T' qs' l rows:=⟨h.len,h.w,fun i x r hx hr=>(h.rd i x r hx hr).more hs hq⟩
theorem z9.snoc {T:List kC}{qs:List Nat}{l:List PN}{rows:List (List Value)}{x:PN}{r:List Value}(h:z9 T qs l rows)(hx:NRd T qs x r):z9 T qs (l++[x]) (rows++[r]):=by
 refine⟨by simp[h.len],fun r' hr'=>?_,fun i y s hy hs=>?_⟩
 ·exact zE0
 ·exact zAO
theorem n_made {B:List kC}{qs:List Nat}{k:Nat}{nm:ByteArray}{lit:Lt}{refs:List z7}{unit:Int}{sup:Bool}{kids:List PN}{lv:List Value}{rv vv sv:Value}{rows:List (List Value)}{sp:List Value}(hsl:jC 13 sv kids.length rows.flatten sp)(hr:z9 B qs kids rows)
 (hlt:LtRd B lit lv) (hrv:jm B rv (wS refs)) (hvv:wK B vv ((rawsR refs).map fun r=>qs.getD r.index.toNat 0)) (ok:zR qs refs) (hz:wS refs=[]->rv=.slice none 0 0:=by intro _;rfl):
 NRd (slA sv rows.flatten sp++B) qs (.mk k nm lit refs unit sup kids) ([cv k,.string nm]++lv++[rv,.int .i64 unit,.bool sup,.slice none 0 0,vv,sv]):=by
 have hget:∀i,i < kids.length->rows[i]? =some (rows.getD i []):=fun i hi=>by
  exact zDJ
 have hsub:∀y∈B,y∈slA sv rows.flatten sp++B:=fun y hy=>Q3 _ hy
 have hlt2:=hlt.more hsub;have hrv2:=hrv.more hsub;have hvv2:=hvv.more hsub;clear hlt hrv hvv;generalize hm:kids.length=m at hsl;generalize hxs:rows.flatten=xs at hsl|-;cases hsl with
 |@mk bk o _ c _ _ h1 h2 h3=>
  rw[<- hm];subst hxs;refine .mk (bk:=bk) (o:=o) (us:=fun i=>rows.getD i []) hlt2 hrv2 hvv2 ok hz (fun _=>rfl) (fun i hi y hy=>?_) (fun i x hx=>?_)
  ·exact zCS
  ·have hi:=(Vd.1 hx).1;exact(hr.rd i x _ hx (hget i hi)).more hsub (QM _)
 |nil=>
  have h0:kids=[]:=vj hm;subst h0;exact .mk (bk:=0) (o:=0) (us:=fun _=>[]) hlt2 hrv2 hvv2 ok hz (fun h=>absurd h Zs) (fun i hi=>absurd hi Zs) (fun i x hx=>by simp at hx)
def lz:List Value:=[cv 0,.int .i64 0,.int .u64 0,.string e0,.slice none 0 0]
theorem lt0_rd(B:List kC):LtRd B lt0 lz:=.mk (bk:=0) (o:=0) (us:=fun _=>[]) ⟨Zd,Zd,Zd,Zd,Zd⟩ (fun h=>absurd h Zs) (fun i hi=>absurd hi Zs) (fun i x hx=>by simp at hx)
theorem zR.nil(qs:List Nat):zR qs []:=⟨.inl Zs,Zs⟩
def NsRd(T:List kC)(qs:List Nat)(v:Value)(l:List PN):Prop:=∃(a:Option Addr) (c bk o:Nat) (us:Nat->List Value),v=.slice a l.length c/\(0 < l.length->a=some ⟨bk,o,none⟩)/\(∀i,i < l.length->∀y∈kA bk (o+i*13) (us i),y∈T)/\∀i x,l[i]? =some x->NRd T qs x (us i)
theorem NsRd.nil(T:List kC)(qs:List Nat):NsRd T qs (.slice none 0 0) []:=⟨none,0,0,0,fun _=>[],rfl,fun h=>absurd h Zs,fun i hi=>absurd hi Zs,fun i x h=>by simp at h⟩
theorem NsRd.more {T T':List kC}{qs qs':List Nat}{v:Value}{l:List PN}(h:NsRd T qs v l)(hs:∀x∈T,x∈T')(hq:qs <+:qs'):NsRd T' qs' v l:=by
 obtain⟨a,c,bk,o,us,h1,h2,h3,h4⟩:=h;exact⟨a,c,bk,o,us,h1,h2,fun i hi y hy=>hs _ (h3 i hi y hy),fun i x hx=>(h4 i x hx).more hs hq⟩
theorem ns_made {B:List kC}{qs:List Nat}{l:List PN}{sv:Value}{rows:List (List Value)}{sp:List Value}(hsl:jC 13 sv l.length rows.flatten sp)(hr:z9 B qs l rows):NsRd (slA sv rows.flatten sp++B) qs sv l:=by
 have h:=n_made (k:=0) (nm:=e0) (unit:=0) (sup:=false) hsl hr (lt0_rd B) (jm.nil B) (wK.nil B) (zR.nil qs);generalize hx:PN.mk 0 e0 lt0 [] 0 false l=x at h;generalize hw:([cv 0,.string e0]++lz++[.slice none 0 0,.int .i64 0,.bool false,.slice none 0 0,.slice none 0 0,sv]:List Value)=ws at h;cases h with
 |@mk k nm lit refs unit sup kids lv rv vv a c bk o us hl hr' hv ok hz ha hm hs=>
  simp only[PN.mk.injEq]at hx;obtain⟨_,_,_,_,_,_,rfl⟩:=hx;have e:sv=.slice a l.length c:=by
   have h1:=congrArg List.reverse hw;simp only[List.reverse_append,List.reverse_cons,List.reverse_nil,QD,vf,vZ]at h1;exact(List.cons.inj h1).1
  exact⟨a,c,bk,o,us,e,ha,hm,hs⟩
end Go.V
namespace Go.V
open Go
structure StOk (st:SSt)(us:Value)(usp:List Value)(U:List UC)(V:List VCl)(T:List kC):Prop where
 rep:RepS st U V
 ok:st.f=none
 sl:jC 1 us U.length (U.map fun u=>kK (some u.q)) usp
 bod:∀(i:Nat) u,U[i]? =some u->NsRd T (V.map VCl.q) u.body (st.bodies.getD i [])
def cntR(args temps:List ByteArray)(n:Nat):Nat:=1+args.length+temps.length+n
mutual
def cntN:Nd->Nat
 |.mk _ _ _ args temps kids _=>cntR args temps (jK kids)
def jK:List Nd->Nat
 |[]=>0
 |x::r=>cntN x+jK r
end
def Room(st:SSt)(n:Nat):Prop:=st.vars.length+n < 1073741824/\st.uses.length+n < 1073741824/\st.outer.length+n < 1073741824
def zD(a b:SSt)(n:Nat):Prop:=b.vars.length<=a.vars.length+n/\b.uses.length<=a.uses.length+n/\b.outer.length<=a.outer.length+n
theorem zD.trans {a b c:SSt}{n m:Nat}(h:zD a b n)(k:zD b c m):zD a c (n+m):=by
 obtain⟨h1,h2,h3⟩:=h;obtain⟨k1,k2,k3⟩:=k;exact⟨Zo,Zo,Zo⟩
theorem zD.mono {a b:SSt}{n m:Nat}(h:zD a b n)(hm:n<=m):zD a b m:=by
 obtain⟨h1,h2,h3⟩:=h;exact⟨Zo,Zo,Zo⟩
theorem zD.refl(a:SSt):zD a a 0:=⟨QW _,QW _,QW _⟩
theorem Room.less {a b:SSt}{n m:Nat}(h:Room a (n+m))(k:zD a b n):Room b m:=by
 obtain⟨h1,h2,h3⟩:=h;obtain⟨k1,k2,k3⟩:=k;exact⟨Zo,Zo,Zo⟩
theorem Room.mono {a:SSt}{n m:Nat}(h:Room a n)(hm:m<=n):Room a m:=by
 obtain⟨h1,h2,h3⟩:=h;exact⟨Zo,Zo,Zo⟩
theorem less_wrong(a:SSt)(e:Nat)(p:Int):zD a (a.wrong e p) 0:=by
 unfold SSt.wrong;split <;> exact⟨QW _,QW _,QW _⟩
theorem wC(unit:Nat)(arg own:Bool)(p:Int):∀(l:List ByteArray) (i:Nat) (st:SSt) (env:List Nat),zD st (kN unit arg own p l i st env).1 l.length
 |[],_,st,_=>zD.refl st
 |nm::r,i,st,env=>by
  unfold kN;have h1:zD st {(if(wG st.vars env nm).isSome then st.wrong 180 p else st)with vars:=st.vars++[⟨nm,unit,arg,if arg&&own then i else -1⟩]} 1:=by
   refine⟨Zs,?_,?_⟩
   ·split
    ·show(st.wrong 180 p).uses.length<=_;rw[wrong_uses];omega
    ·show st.uses.length<=_;omega
   ·split
    ·show(st.wrong 180 p).outer.length<=_;rw[wrong_outer];omega
    ·show st.outer.length<=_;omega
  have h2:=h1.trans (wC unit arg own p r (i+1) _ (env++[st.vars.length]));exact h2.mono (by rw[Vl];omega)
theorem less_ref(F G:List ByteArray)(st:SSt)(env:List Nat)(nm:ByteArray)(u:Nat)(p:Int)(put:Bool):zD st (jv F G st env nm u p put).2 1:=by
 unfold jv;split
 ·exact(zD.refl st).mono Zo
 ·split
  ·rename_i v _;simp only;split
   ·refine⟨?_,?_,?_⟩
    ·show(st.wrong 182 p).vars.length<=_;rw[wrong_vars];omega
    ·show(st.uses++[(u,v)]).length<=_;simp
    ·show(st.wrong 182 p).outer.length<=_;rw[wrong_outer];omega
   ·exact⟨QX _,Zs,QX _⟩
  ·split
   ·exact(zD.refl st).mono Zo
   ·simp only;split
    ·exact(zD.refl st).mono Zo
    ·exact(less_wrong st 181 p).mono Zo
theorem less_unit(a:SSt)(o:Int)(n:Nat):zD a {a with outer:=a.outer++[o],args:=a.args++[n],bodies:=a.bodies++[[]]} 1:=⟨QX _,QX _,Zs⟩
theorem less_part(F G:List ByteArray):∀(N:Nat) (x:Nd),x.size<=N->∀st env u,zD st (jD F G x st env u).2 (cntN x)/\zD st (inlS F G x st env u).2 (cntN x):=by
 intro N
 induction N with
 |zero=>intro x hx;have:=x.size_pos;omega
 |succ N ih=>
  have hall:∀l:List Nd,Nd.sizes l<=N->∀st env u,zD st (kR F G l st env u).2 (jK l):=by
   intro l
   induction l with
   |nil=>intro _ st env u;rw[kR];exact zD.refl st
   |cons x r ihl=>
    exact zDY
  have hspec:∀(s:ByteArray) (l:List Nd),Nd.sizes l<=N->∀i st env u,zD st (ky F G s l i st env u).2.2 (jK l):=by
   intro s l
   induction l with
   |nil=>intro _ i st env u;rw[ky];exact zD.refl st
   |cons x r ihl=>
    exact zBR
  intro x hx st env u;cases x with
  |mk k s lit args temps kids p=>
  simp only[Nd.size]at hx;have hk:Nd.sizes kids<=N:=by omega
  simp only[cntN,cntR];refine⟨?_,?_⟩
  ·cases h:inlP k s kids with
   |true=>rw[partS_inl _ _ _ _ _ _ _ _ _ _ _ _ h];exact(hspec s kids hk 0 st env u).mono Zo
   |false=>
    by_cases h1:k=1
    ·rw[partS_1 _ _ _ _ _ _ _ _ _ _ _ _ h h1];exact(zD.refl st).mono Zo
    by_cases h2:k=2
    ·rw[partS_2 _ _ _ _ _ _ _ _ _ _ _ _ h h2];exact(less_ref F G st env s u p false).mono Zo
    by_cases h3:k=3
    ·rw[partS_3 _ _ _ _ _ _ _ _ _ _ _ _ h h3];exact((less_ref F G st env s u p true).trans (hall kids hk _ env u)).mono Zo
    by_cases h7:k=7
    ·rw[partS_7 _ _ _ _ _ _ _ _ _ _ _ _ h h7];simp only;rw[we];have hA:=hall kids hk (inS args temps p st env (u:Int)).1 (inS args temps p st env (u:Int)).2 st.outer.length;have hD:zD st (inS args temps p st env (u:Int)).1 (1+(args.length+temps.length)):=(less_unit st (u:Int) args.length).trans ((wC _ _ _ _ _ _ _ _).trans (wC _ _ _ _ _ _ _ _));exact zD.mono (b:={(kR F G kids (inS args temps p st env (u:Int)).1 (inS args temps p st env (u:Int)).2 st.outer.length).2 with bodies:=_}) (hD.trans hA) Zo
    by_cases h8:k=8
    ·rw[partS_8 _ _ _ _ _ _ _ _ _ _ _ _ h h8];exact(hall kids hk st env u).mono Zo
    by_cases h9:k=9
    ·rw[partS_9 _ _ _ _ _ _ _ _ _ _ _ _ h h9];exact(hall kids hk st env u).mono Zo
    by_cases h6:k=6
    ·rw[partS_6 _ _ _ _ _ _ _ _ _ _ _ _ h h6];exact(hall kids hk st env u).mono Zo
    by_cases h5:k=5
    ·rw[partS_5 _ _ _ _ _ _ _ _ _ _ _ _ h h5];exact(hall kids hk st env u).mono Zo
    cases hs:jS kids with
    |true=>
     rw[partS_4s _ _ _ _ _ _ _ _ _ _ _ _ h ⟨h1,h2,h3,h5,h6,h7,h8,h9⟩ hs];cases kids with
     |nil=>cases hs
     |cons x r=>
      simp only[Nd.sizes]at hk;simp only[List.tail_cons,jK];exact(hall r Zo st env u).mono Zo
    |false=>rw[partS_4 _ _ _ _ _ _ _ _ _ _ _ _ h ⟨h1,h2,h3,h5,h6,h7,h8,h9⟩ hs];exact(hall kids hk st env u).mono Zo
  ·rw[inlS_eq];exact((wC _ _ _ _ _ _ _ _).trans ((wC _ _ _ _ _ _ _ _).trans (hall kids hk _ _ _))).mono Zo
theorem zK(F G:List ByteArray):∀(l:List Nd) st env u,Gr st (kR F G l st env u).2:=by
 intro l
 induction l with
 |nil=>intro st env u;rw[kR];exact Gr.refl st
 |cons x r ih=>
  intro st env u;rw[wE];exact(gr_part F G _ x (QW _) st env u).1.trans (ih _ env u)
theorem nd_openS {A:List kC}{y:Nd}{vs:List Value}(h:jQ A y vs):∃(e1:Nat) (e2:Int) (e3:Nat) (e4:ByteArray) (e5:Option Addr) (e6 e7:Nat) (e8:Option Addr) (e9 e10:Nat) (e11:Option Addr) (e12 e13:Nat) (e14:Option Addr) (e15 e16:Nat),
 vs=[.int .u8 y.kind,.string y.name,.int .u8 e1,.int .i64 e2,.int .u64 e3,.string e4,.slice e5 e6 e7,.slice e8 e9 e10,.slice e11 e12 e13,.slice e14 e15 e16,.int .i64 y.at_]:=by
 exact zC6
theorem n_openS {T:List kC}{qs:List Nat}{x:PN}{ws:List Value}(h:NRd T qs x ws):∃(e1:Nat) (e2:Int) (e3:Nat) (e4:ByteArray) (e5:Option Addr) (e6 e7:Nat) (r1:Option Addr) (r2 r3:Nat) (v1:Option Addr) (v2 v3:Nat) (k1:Option Addr) (k2 k3:Nat),
 ws=[.int .u8 x.kind,.string x.name,.int .u8 e1,.int .i64 e2,.int .u64 e3,.string e4,.slice e5 e6 e7,.slice r1 r2 r3,.int .i64 x.unit,.bool x.super,.slice none 0 0,.slice v1 v2 v3,.slice k1 k2 k3]:=by
 cases h with
 |mk hl hr hv ok hz ha hm hs=>
  obtain⟨_,_,rfl,_⟩:=hr;obtain⟨_,_,rfl,_⟩:=hv;cases hl with
  |mk wf2 ha2 hm2 hr2=>exact⟨_,_,_,_,_,_,_,_,_,_,_,_,_,_,_,_,rfl⟩
end Go.V
namespace Go.V
open Go
def newU(q n:Nat)(o:Option Nat)(i nb:Nat):UC:=⟨q,n,0,0,o,i,[],.slice none 0 0,[],nb,#[],0,[],.slice none 0 0,[],.slice none 0 0⟩
def outQ(U:List UC)(o:Int):Option Nat:=if o < 0 then none else(U[o.toNat]?).map UC.q
theorem RepS.addU {st:SSt}{U:List UC}{V:List VCl}(h:RepS st U V){o:Int}{n:Nat}(ho:-1<=o/\o < st.outer.length){q nb:Nat}(hq:q∉U.map UC.q):RepS (st.addU o n) (U++[newU q n (outQ U o) st.outer.length nb]) V:=by
 have hget:∀{j:Nat} {w:UC},(U++[newU q n (outQ U o) st.outer.length nb])[j]? =some w->(j < st.outer.length/\U[j]? =some w)∨(j=st.outer.length/\w=newU q n (outQ U o) st.outer.length nb):=fun {j w} hj=>by
  rw[V6]at hj;split at hj
  ·rename_i hl;exact .inl ⟨by rw[<- h.ul];exact hl,hj⟩
  ·rename_i hl;have:=(Vd.1 hj).1;simp only[Vu]at this;have hul:=h.ul;have e:j - U.length=0:=by omega
   rw[e]at hj;exact .inr ⟨Zo,by simpa using hj.symm⟩
 have hold:∀{j:Nat},j < st.outer.length->(U++[newU q n (outQ U o) st.outer.length nb])[j]? =U[j]?:=fun {j} hj=>V7 (by rw[h.ul];exact hj)
 have hw':=h.wf.addU (n:=n) ho;have hol:(st.addU o n).outer.length=st.outer.length+1:=by unfold SSt.addU;simp
 refine⟨hw',by rw[Vj,hol,h.ul];rfl,h.vl,?_,fun j w hj=>?_,fun j w hj=>?_,fun j w hj=>?_,fun j w hj=>?_,fun v x y hx hy=>?_⟩
 ·rw[Vw,QE];refine⟨h.inj,Zs,fun a ha b hb=>?_⟩;rw[List.map_singleton,QC]at hb
  rintro rfl
  rw[hb]at ha;exact hq ha
 ·rcases hget hj with⟨h1,h2⟩|⟨rfl,rfl⟩
  ·have:=h.un j w h2;show w.args=(st.args++[n]).getD j 0/\_;rw[getD_snoc (by rw[h.wf.al];exact h1)];exact this
  ·refine⟨?_,rfl,rfl,rfl,rfl,rfl,rfl⟩;show n=(st.args++[n]).getD st.outer.length 0;rw[V5,<- h.wf.al,V8 (QW _),Qd];rfl
 ·rcases hget hj with⟨h1,h2⟩|⟨rfl,rfl⟩
  ·have e:(st.addU o n).outer.getD j (-1)=st.outer.getD j (-1):=getD_snoc h1;rw[e,h.ou j w h2];have hl:=h.wf.lowD j;split
   ·rfl
   ·rw[hold Zo]
  ·have e:(st.addU o n).outer.getD st.outer.length (-1)=o:=by
    show(st.outer++[o]).getD st.outer.length (-1)=o;exact zBV
   rw[e];show outQ U o=_;by_cases hn:o < 0
   ·rw[if_pos hn];unfold outQ;rw[if_pos hn]
   ·rw[if_neg hn,hold Zo];unfold outQ;rw[if_neg hn]
 ·have ht:(st.addU o n).temps j=st.temps j:=rfl;rw[ht];rcases hget hj with⟨h1,h2⟩|⟨rfl,rfl⟩
  ·exact h.tm j w h2
  ·have h0:st.temps st.outer.length=[]:=by
    unfold SSt.temps;rw[vr];intro v hv;have hv:=QB.1 hv;obtain⟨x,hx⟩:∃x,st.vars[v]? =some x:=⟨_,Zg hv⟩;have:=(h.wf.vu v x hx).1;have e:st.unitOf v=x.unit:=by unfold SSt.unitOf;rw[hx];rfl
    rw[e];simp only[vF,decide_eq_true_eq,not_and];intro e2;omega
   rw[h0];exact⟨rfl,.nil⟩
 ·rcases hget hj with⟨h1,h2⟩|⟨rfl,rfl⟩
  ·obtain⟨m,k1,k2,k3,k4⟩:=h.nd j w h2;refine⟨m,k1,k2,fun p hp=>?_,fun i z a hi=>?_⟩
   ·obtain⟨⟨i,z,k5,k6⟩,k7⟩:=k3 p hp;exact⟨⟨i,z,by rw[hold (by rw[<- h.ul];exact(Vd.1 k5).1)];exact k5,k6⟩,k7⟩
   ·rw[h.wf.need_addU ho];rcases hget hi with⟨k5,k6⟩|⟨rfl,rfl⟩
    ·exact k4 i z a k6
    ·have hno:st.need j (st.outer.length,a)=false:=by
      unfold SSt.need;rw[List.any_eq_false];intro x hx;simp only[vF,decide_eq_true_eq,not_and,Qp]
      rintro⟨e1,_⟩
      have hu:=(h.wf.uu x hx).2;obtain⟨y,hy⟩:∃y,st.vars[x.2]? =some y:=⟨_,Zg hu⟩;have:=(h.wf.vu _ y hy).1;have e:st.unitOf x.2=y.unit:=by unfold SSt.unitOf;rw[hy];rfl
      omega
     rw[hno];constructor
     ·intro hm;obtain⟨c,hc⟩:=Qj.1 hm;obtain⟨⟨i,z,k5,k6⟩,_⟩:=k3 _ (mget_mem hc);exact absurd (Q9.2 ⟨z,Zv k5,k6.symm⟩) hq
     ·intro hf;cases hf
  ·refine⟨[],.nil,Zs,Zs,fun i z a hi=>?_⟩;rw[h.wf.need_addU ho,h.wf.need_new _ (QW _)];simp[kq]
 ·obtain⟨⟨z,k1,k2⟩,k3⟩:=h.vn v x y hx hy;exact⟨⟨z,by rw[hold (by rw[<- h.ul];exact(Vd.1 k1).1)];exact k1,k2⟩,k3⟩
theorem RepS.body {st:SSt}{U:List UC}{V:List VCl}(h:RepS st U V){i:Nat}{u:UC}(hu:U[i]? =some u)(bv:Value)(bl:List PN):RepS {st with bodies:=st.bodies.set i bl} (U.set i {u with body:=bv}) V:=by
 have hmq:=z5 (w':={u with body:=bv}) hu rfl;have hgq:=getq hmq;have hget:∀{j:Nat} {w:UC},(U.set i {u with body:=bv})[j]? =some w->∃w0,U[j]? =some w0/\w={w0 with body:=w.body}:=fun {j w} hj=>by
  rcases set_get hu hj with⟨rfl,rfl⟩|⟨_,h2⟩
  ·exact⟨u,hu,rfl⟩
  ·exact⟨w,h2,rfl⟩
 have hback:∀{j:Nat} {w:UC},U[j]? =some w->∃w',(U.set i {u with body:=bv})[j]? =some w'/\w'.q=w.q:=fun {j w} hj=>by
  have:=hgq j;rw[hj]at this;cases e:(U.set i {u with body:=bv})[j]? with
  |none=>rw[e]at this;cases this
  |some w'=>rw[e]at this;exact⟨w',rfl,Qn this⟩
 have hfwd:∀{j:Nat} {w:UC},(U.set i {u with body:=bv})[j]? =some w->∃w',U[j]? =some w'/\w.q=w'.q:=fun {j w} hj=>by
  obtain⟨w0,h1,h2⟩:=hget hj;exact⟨w0,h1,by rw[h2]⟩
 refine⟨⟨h.wf.al,by show(st.bodies.set i bl).length=_;rw[Vt];exact h.wf.bl,h.wf.low,h.wf.vu,h.wf.uu⟩,by rw[Vt];exact h.ul,h.vl,by rw[hmq];exact h.inj,fun j w hj=>?_,fun j w hj=>?_,fun j w hj=>?_,fun j w hj=>?_,fun v x y hx hy=>?_⟩
 ·obtain⟨w0,h1,h2⟩:=hget hj;rw[h2];exact h.un j w0 h1
 ·rw[hgq];obtain⟨w0,h1,h2⟩:=hget hj;rw[h2];exact h.ou j w0 h1
 ·obtain⟨w0,h1,h2⟩:=hget hj;rw[h2];exact h.tm j w0 h1
 ·obtain⟨w0,h1,h2⟩:=hget hj;obtain⟨m,k1,k2,k3,k4⟩:=h.nd j w0 h1;rw[h2];refine⟨m,k1,k2,fun p hp=>?_,fun a z b ha=>?_⟩
  ·exact zDD
  ·obtain⟨z',k8,k9⟩:=hfwd ha;rw[k9];exact k4 a z' b k8
 ·obtain⟨⟨z,k1,k2⟩,k3⟩:=h.vn v x y hx hy;obtain⟨z',k8,k9⟩:=hback k1;exact⟨⟨z',k8,k2.trans k9.symm⟩,k3⟩
theorem wk_body {U:List UC}{V:List VCl}{i:Nat}{u:UC}(h:U[i]? =some u):∃R,(WK U V).Perm (kA u.q 8 [u.body]++R)/\∀bv,(WK (U.set i {u with body:=bv}) V).Perm (kA u.q 8 [bv]++R):=by
 have hx:∀bv,({u with body:=bv}:UC).atoms.Perm (kA u.q 8 [bv]++(.own u.q 9::(kA u.q 0 [.int .i64 u.args,.int .i64 u.locals,.int .i64 u.vector,kK u.outer,.int .i64 u.num,u.tv,.map (some u.nb),u.cv]++(slA u.tv (u.temps.map fun b=>kK (some b)) u.tsp++(slA u.cv (u.cop.flatMap jN) u.csp++[.obj u.nb (.map u.es u.cl)]))))):=fun bv=>by
  unfold UC.atoms UC.row;have e:kA u.q 0 [.int .i64 u.args,.int .i64 u.locals,.int .i64 u.vector,kK u.outer,.int .i64 u.num,u.tv,.map (some u.nb),u.cv,bv]=kA u.q 0 [.int .i64 u.args,.int .i64 u.locals,.int .i64 u.vector,kK u.outer,.int .i64 u.num,u.tv,.map (some u.nb),u.cv]++kA u.q 8 [bv]:=rfl;simp only;rw[e,vZ,<- vf,<- vZ];exact zC7
 obtain⟨R,h1,h2⟩:=wk_part (V:=V) h (hx u.body);exact⟨R,h1,fun bv=>h2 _ _ (hx bv)⟩
end Go.V
namespace Go.V
open Go
def AllP {α:Type}(p:α->Prop):List α->Prop
 |[]=>True
 |x::r=>p x/\AllP p r
theorem AllP.mem {α:Type}{p:α->Prop}:∀{l:List α},AllP p l->∀x∈l,p x
 |x::r,h,y,hy=>by
  rcases Q4.1 hy with rfl|hy
  ·exact h.1
  ·exact AllP.mem h.2 y hy
theorem VC.draw_panA {P:Program}{n:Nat}{Γ:Env}{H:SH}{Q:Exit->Env->SH->Prop}{rss:List (List RO)}{keep:List Nat}
 (h:AllP (fun rs=>∃pre d f xs post,rs=pre++⟨d,none,.call f xs⟩::post/\AllP (fun S=>VO P n S Γ H (fun _ _ _=>False) fun Γ' H'=>VO P n [⟨d,none,.call f xs⟩] Γ' H' (fun ch _ H''=>Q (.panic ch) [] H'') (fun _ _=>False)) (sels (opTmps xs) d.toList [] (pre.map (fun x=>(x,false))++post.map (fun x=>(x,true))))) rss):VC P n (.draw rss keep) Γ H Q:=
 VC.draw_pan fun rs hrs=>by
  obtain⟨pre,d,f,xs,post,h1,h2⟩:=h.mem rs hrs;exact⟨pre,d,f,xs,post,h1,h2.mem⟩
end Go.V
namespace Go.V
open Go
theorem ptrs_made {tv:Value}{l:List Nat}{sp:List Value}{n:Nat}(hn:n=l.length)(hsl:jC 1 tv n (l.map fun b=>kK (some b)) sp):wK (slA tv (l.map fun b=>kK (some b)) sp) tv l:=by
 generalize hx:(l.map fun b=>kK (some b))=xs at hsl;cases hsl with
 |@mk bk o _ c _ _ h1 h2 h3=>
  subst hx;rw[hn];refine⟨_,c,rfl,fun i q hi=>⟨bk,o,rfl,?_⟩⟩;simp only[slA,ku];exact Zw _ (kI.2 ⟨i,kK (some q),by rw[Ve,hi];rfl,rfl⟩)
 |nil=>
  have h0:l=[]:=vj hn.symm;subst h0;exact wK.nil _
theorem raws_range(a n:Nat):rawsR ((List.range' a n).map rawR)=(List.range' a n).map rawR:=by
 unfold rawsR;rw[vt];intro r hr;obtain⟨v,_,rfl⟩:=Q9.1 hr;rfl
theorem plains_range(a n:Nat):wS ((List.range' a n).map rawR)=[]:=by
 unfold wS;rw[vr];intro r hr;obtain⟨v,_,rfl⟩:=Q9.1 hr;simp[rawR]
theorem refs_range {qs:List Nat}{a n:Nat}(h:a+n<=qs.length):zR qs ((List.range' a n).map rawR):=by
 refine⟨.inl fun r hr=>?_,fun r hr _=>?_⟩
 ·obtain⟨v,_,rfl⟩:=Q9.1 hr;rfl
 ·obtain⟨v,hv,rfl⟩:=Q9.1 hr;have:=List.mem_range'_1.1 hv;exact⟨v,rfl,Zo⟩
theorem vals_range {qs:List Nat}{a n:Nat}(h:a+n<=qs.length):((List.range' a n).map rawR).map (fun r=>qs.getD r.index.toNat 0)=(qs.drop a).take n:=by
 apply vm;intro i;rw[Ve,Ve,List.getElem?_take,Va];by_cases hi:i < n
 ·rw[List.getElem?_range' hi,if_pos hi];have:a+i < qs.length:=by omega
  rw[Zg this];show some (qs.getD ((a+1*i:Nat):Int).toNat 0)=_;rw[vS,Nat.one_mul,V5,Zg this];rfl
 ·rw[if_neg hi,Vb (by simpa using hi)];rfl
theorem drop_take {qs qs':List Nat}{a n:Nat}(h:qs <+:qs')(hl:qs.length=a+n):(qs'.drop a).take n=qs.drop a:=by
 obtain⟨t,rfl⟩:=h;rw[List.drop_append_of_le_length Zo,List.take_append_of_le_length (by rw[Vm];omega),QR (by rw[Vm];omega)]
theorem nd_openK {A:List kC}{y:Nd}{vs:List Value}(h:jQ A y vs):∃(e1:Nat) (e2:Int) (e3:Nat) (e4:ByteArray) (e5:Option Addr) (e6 e7:Nat) (a1:Option Addr) (c1:Nat) (a2:Option Addr) (c2:Nat) (a3:Option Addr) (c3 bk o:Nat) (us:Nat->List Value),
 vs=[.int .u8 y.kind,.string y.name,.int .u8 e1,.int .i64 e2,.int .u64 e3,.string e4,.slice e5 e6 e7,.slice a1 y.args.length c1,.slice a2 y.temps.length c2,.slice a3 y.kids.length c3,.int .i64 y.at_]/\
 LtRd A y.lit [.int .u8 e1,.int .i64 e2,.int .u64 e3,.string e4,.slice e5 e6 e7]/\RdT A (.slice a1 y.args.length c1) y.args/\RdT A (.slice a2 y.temps.length c2) y.temps/\y.kind < 256/\
 (0 < y.kids.length->a3=some ⟨bk,o,none⟩)/\(∀i,i < y.kids.length->∀z∈kA bk (o+i*11) (us i),z∈A)/\(∀i x,y.kids[i]? =some x->jQ A x (us i))/\y.kids.length<=c3:=by
 cases h with
 |@mk k s lit args temps kids p lv av tv a c bk o us wf hl hav htv ha hm hr hcp=>
  have hav':=hav;have htv':=htv;obtain⟨a1,c1,rfl,_⟩:=hav;obtain⟨a2,c2,rfl,_⟩:=htv;have hl':=hl;cases hl with
  |mk wf2 ha2 hm2 hr2=>exact⟨_,_,_,_,_,_,_,a1,c1,a2,c2,a,c,bk,o,us,rfl,hl',hav',htv',wf.kind,ha,hm,hr,hcp⟩
theorem super_name {s:ByteArray}:kF s=[115,117,112,101,114]↔s=⟨#[115,117,112,101,114]⟩:=by
 constructor
 ·intro h;have h2:kF s=kF ⟨#[115,117,112,101,114]⟩:=h.trans Zd;exact jX h2
 ·rintro rfl;decide
section
variable {P:Program} {n:Nat} {rs:List RO} {Γ:Env} {H:SH} {Z:List PanicEntry->Env->SH->Prop} {K:Env->SH->Prop} {d:Option Nat}
theorem st_slcLH {size len cap l h b o:Nat}{x lo hi:Operand}{kl kh:IntKind}{cl ch:Int}(hx:ev Γ x=some (.slice (some ⟨b,o,none⟩) len cap))(hlo:ev Γ lo=some (.int kl cl))(hhi:ev Γ hi=some (.int kh ch))(el:cl=(l:Int))(eh:ch=(h:Int))(hr:l<=h/\h<=cap)
 (k:VO P n rs (putE d (.slice (some ⟨b,if cap=l then o else o+l*size,none⟩) (h - l) (cap - l)) Γ) H Z K):VO P n (⟨d,none,.slcL size x (some lo) (some hi) none⟩::rs) Γ H Z K:=by
 subst el eh;refine VO.pure rfl (fun ρ hρ=>?_) k;have h1:bound (Value.int kh (h:Int)) cap=some h:=by simp[bound];omega
 have h2:bound (Value.int kl (l:Int)) h=some l:=by simp[bound];omega
 simp[kS,hρ _ _ hx,hρ _ _ hlo,hρ _ _ hhi,zC,h1,h2,ju]
end
def jB(n:Nat):Nat:=match n with|3=>0|4=>0|5=>2|_=>1
def toK(n:Nat):Nat:=match n with|2=>3|4=>1|5=>3|_=>2
theorem fit_len {n:Nat}(hn:n=1∨n=2∨n=3∨n=4){l:List Nd}(h:fitK n l=true):l.length=toK n:=by
 rcases hn with rfl|rfl|rfl|rfl
 all_goals
  unfold fitK at h;simp only at h;split at h
  ·rfl
  ·cases h
theorem fit_of {n:Nat}(hn:n=1∨n=2∨n=3∨n=4){l:List Nd}(hl:l.length=toK n)(h:∀i y,jB n<=i->l[i]? =some y->jg y=true):fitK n l=true:=by
 rcases hn with rfl|rfl|rfl|rfl
 ·match l,hl with
  |[a,b],_=>exact h 1 b Zd rfl
 ·match l,hl with
  |[a,b,c],_=>show(jg b&&jg c)=true;rw[h 1 b Zd rfl,h 2 c Zd rfl];rfl
 ·match l,hl with
  |[a,b],_=>show(jg a&&jg b)=true;rw[h 0 a Zd rfl,h 1 b Zd rfl];rfl
 ·match l,hl with
  |[a],_=>exact h 0 a Zd rfl
theorem fit_not {n:Nat}(hn:n=1∨n=2∨n=3∨n=4){l:List Nd}{i:Nat}{y:Nd}(hi:jB n<=i)(hy:l[i]? =some y)(hp:jg y=false):fitK n l=false:=by
 cases e:fitK n l with
 |false=>rfl
 |true=>
  exfalso;have hl:=fit_len hn e;have hil:=(Vd.1 hy).1;rcases hn with rfl|rfl|rfl|rfl
  ·match l,hl,e,hy,hil with
   |[a,b],_,e,hy,hil=>
    simp only[Vl,Vr]at hil;simp only[jB]at hi;obtain rfl:i=1:=by omega
    obtain rfl:b=y:=by simpa using hy
    have e2:jg b=true:=e;rw[hp]at e2;cases e2
  ·match l,hl,e,hy,hil with
   |[a,b,c],_,e,hy,hil=>
    have e2:(jg b&&jg c)=true:=e;simp only[Vl,Vr]at hil;simp only[jB]at hi;obtain rfl|rfl:i=1∨i=2:=by omega
    ·obtain rfl:b=y:=by simpa using hy
     rw[hp]at e2;cases e2
    ·obtain rfl:c=y:=by simpa using hy
     rw[hp,Bool.and_false]at e2;cases e2
  ·match l,hl,e,hy,hil with
   |[a,b],_,e,hy,hil=>
    have e2:(jg a&&jg b)=true:=e;simp only[Vl,Vr]at hil;obtain rfl|rfl:i=0∨i=1:=by omega
    ·obtain rfl:a=y:=by simpa using hy
     rw[hp]at e2;cases e2
    ·obtain rfl:b=y:=by simpa using hy
     rw[hp,Bool.and_false]at e2;cases e2
  ·match l,hl,e,hy,hil with
   |[a],_,e,hy,hil=>
    simp only[Vl,Vr]at hil;obtain rfl:i=0:=by omega
    obtain rfl:a=y:=by simpa using hy
    have e2:jg a=true:=e;rw[hp]at e2;cases e2
end Go.V
namespace Go.V
open Go
theorem selK_le(s:ByteArray):jM s<=5:=by
 unfold jM
 repeat' split
 all_goals omega
theorem fit5 {l:List Nd}(h:fitK 5 l=true):l.length=3/\∃b,l[2]? =some b/\b.kind=7/\b.args.length=1:=by
 match l,h with
 |[_,_,b],h=>
  have e:(decide (b.kind=7)&&decide (b.args.length=1))=true:=h;rw[vF,decide_eq_true_eq,decide_eq_true_eq]at e;exact⟨rfl,b,rfl,e.1,e.2⟩
theorem inlK_iff {s:ByteArray}{kids:List Nd}(h:fitK (jM s) kids=true){i:Nat}(hi:i < kids.length):inlK s i=(decide (jB (jM s)<=i)&&decide (i < toK (jM s))):=by
 have hle:=selK_le s;unfold inlK;generalize jM s=n at h hle;have hn:n=0∨n=1∨n=2∨n=3∨n=4∨n=5:=by omega
 have key:∀m:Nat,m=1∨m=2∨m=3∨m=4->n=m->kids.length=toK m:=fun m hm e=>by subst e;exact fit_len hm h
 rcases hn with rfl|rfl|rfl|rfl|rfl|rfl
 ·cases h
 ·have:=key 1 Zs rfl;simp only[toK,jB]at this|-;rw[<- Bool.decide_and];exact decide_eq_decide.2 Zo
 ·have:=key 2 Zs rfl;simp only[toK,jB]at this|-;rw[<- Bool.decide_and];exact decide_eq_decide.2 Zo
 ·have:=key 3 Zs rfl;simp only[toK,jB]at this|-;rw[<- Bool.decide_and];exact(Zt Zo).symm
 ·have:=key 4 Zs rfl;simp only[toK,jB]at this|-;rw[<- Bool.decide_and];exact(Zt Zo).symm
 ·have:=(fit5 h).1;simp only[toK,jB];rw[<- Bool.decide_and];exact decide_eq_decide.2 Zo
theorem plain_args {x:Nd}(h:jg x=true):x.kind=7/\x.args.length=0:=by
 unfold jg at h
 rwa [vF,decide_eq_true_eq,decide_eq_true_eq]at h
def okK(k:Nat)(kids:List Nd):Bool:=(!decide (k=1∨k=2)||decide (kids.length=0))&&(!decide (k=5)||decide (0 < kids.length))&&decide (1<=k/\k<=9)&&(!decide (k=4)||decide (0 < kids.length))
mutual
def okN:Nd->Bool
 |.mk k _ lit _ _ kids _=>okK k kids&&decide (lit.size<=274877906944)&&okNs kids
def okNs:List Nd->Bool
 |[]=>true
 |x::r=>okN x&&okNs r
end
theorem okNs_mem {x:Nd}:∀{l:List Nd},okNs l=true->x∈l->okN x=true:=by
 intro l
 induction l with
 |nil=>intro _ h;cases h
 |cons y r ih=>
  intro h hx;simp only[okNs,vF]at h;rcases Q4.1 hx with rfl|hx
  ·exact h.1
  ·exact ih h.2 hx
end Go.V

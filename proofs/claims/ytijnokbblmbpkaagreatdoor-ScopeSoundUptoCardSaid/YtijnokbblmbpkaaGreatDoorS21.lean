/-
  What a walk leaves: each use lies within its variable's unit, each unit's parts name what is used or laid there.
-/
import Derived.Test.YtijnokbblmbpkaaGreatDoorS20
set_option linter.unusedSimpArgs false
set_option linter.unusedVariables false
namespace Go.V
open Go
theorem jR(unit:Nat)(arg own:Bool)(p:Int):∀(l:List ByteArray) (i:Nat) (st:SSt) (env:List Nat),(kN unit arg own p l i st env).1.outer=st.outer/\(kN unit arg own p l i st env).1.args=st.args/\(kN unit arg own p l i st env).1.bodies=st.bodies/\(kN unit arg own p l i st env).1.vars.length=st.vars.length+l.length
 |[],_,st,_=>⟨rfl,rfl,rfl,rfl⟩
 |nm::r,i,st,env=>by
  rw[kN];obtain⟨h1,h2,h3,h4⟩:=jR unit arg own p r (i+1) {(if(wG st.vars env nm).isSome then st.wrong 180 p else st)with vars:=st.vars++[⟨nm,unit,arg,if arg&&own then i else -1⟩]} (env++[st.vars.length]);have hw:(if(wG st.vars env nm).isSome then st.wrong 180 p else st).outer=st.outer/\(if(wG st.vars env nm).isSome then st.wrong 180 p else st).args=st.args/\(if(wG st.vars env nm).isSome then st.wrong 180 p else st).bodies=st.bodies:=by
   split
   ·unfold SSt.wrong;split <;> exact⟨rfl,rfl,rfl⟩
   ·exact⟨rfl,rfl,rfl⟩
  refine⟨h1.trans hw.1,h2.trans hw.2.1,h3.trans hw.2.2,?_⟩;rw[h4,Vl];simp only[Vj,Vu];omega
theorem decl_env(unit:Nat)(arg own:Bool)(p:Int):∀(l:List ByteArray) (i:Nat) (st:SSt) (env:List Nat),(∀v∈env,v < st.vars.length)->∀v∈(kN unit arg own p l i st env).2,v < (kN unit arg own p l i st env).1.vars.length/\((v∈env/\(kN unit arg own p l i st env).1.unitOf v=st.unitOf v)∨(kN unit arg own p l i st env).1.unitOf v=unit)
 |[],_,st,env,h=>fun v hv=>⟨h v hv,.inl ⟨hv,rfl⟩⟩
 |nm::r,i,st,env,h=>by
  intro v hv;rw[kN]at hv|-;have hlen:({(if(wG st.vars env nm).isSome then st.wrong 180 p else st)with vars:=st.vars++[⟨nm,unit,arg,if arg&&own then i else -1⟩]}:SSt).vars.length=st.vars.length+1:=by simp
  obtain⟨h1,h2⟩:=decl_env unit arg own p r (i+1) {(if(wG st.vars env nm).isSome then st.wrong 180 p else st)with vars:=st.vars++[⟨nm,unit,arg,if arg&&own then i else -1⟩]} (env++[st.vars.length]) (fun w hw=>by
   rw[hlen];rcases Q1.1 hw with h'|h'
   ·have:=h w h';omega
   ·rw[QC.1 h'];omega) v hv
  refine⟨h1,?_⟩;rcases h2 with⟨h3,h4⟩|h3
  ·rcases Q1.1 h3 with h5|h5
   ·refine .inl ⟨h5,h4.trans ?_⟩;unfold SSt.unitOf;simp only;rw[V7 (h v h5)]
   ·refine .inr (h4.trans ?_);rw[QC.1 h5];unfold SSt.unitOf;simp
  ·exact .inr h3
mutual
def rawIn(p:Nat->Bool):PN->Bool
 |.mk _ _ _ rs _ _ kids=>(rs.all fun r=>!decide (r.kind=99)||p r.index.toNat)&&jf p kids
def jf(p:Nat->Bool):List PN->Bool
 |[]=>true
 |x::r=>rawIn p x&&jf p r
end
mutual
theorem rawIn_mono {p q:Nat->Bool}(h:∀v,p v=true->q v=true):∀x:PN,rawIn p x=true->rawIn q x=true
 |.mk k s l rs u b kids,hx=>by
  simp only[rawIn,vF,vX,vO]at hx|-;exact⟨fun r hr=>(hx.1 r hr).imp_right (h _),rawsIn_mono h kids hx.2⟩
theorem rawsIn_mono {p q:Nat->Bool}(h:∀v,p v=true->q v=true):∀l:List PN,jf p l=true->jf q l=true
 |[],_=>rfl
 |x::r,hx=>by
  simp only[jf,vF]at hx|-;exact⟨rawIn_mono h x hx.1,rawsIn_mono h r hx.2⟩
end
theorem raws_mem {p:Nat->Bool}:∀{l:List PN},(∀x∈l,rawIn p x=true)->jf p l=true
 |[],_=>rfl
 |x::r,h=>by
  simp only[jf,vF];exact⟨h x Zs,raws_mem fun y hy=>h y (by simp[hy])⟩
theorem mem_raws {p:Nat->Bool}:∀{l:List PN},jf p l=true->∀x∈l,rawIn p x=true
 |y::r,h,x,hx=>by
  simp only[jf,vF]at h;rcases Q4.1 hx with rfl|hx
  ·exact h.1
  ·exact mem_raws h.2 x hx
def okv(st:SSt)(i v:Nat):Bool:=decide (v < st.vars.length)&&(decide (st.unitOf v=i)||decide ((i,v)∈st.uses))
theorem okv_gr {a b:SSt}(h:Gr a b)(i v:Nat)(hv:okv a i v=true):okv b i v=true:=by
 unfold okv at hv|-;simp only[vF,vO,decide_eq_true_eq]at hv|-;obtain⟨h1,h2⟩:=hv;obtain⟨t,ht⟩:=h.vars;have hu:b.unitOf v=a.unitOf v:=by
  unfold SSt.unitOf;rw[<- ht,V7 h1]
 refine⟨QZ h1 h.vars.length_le,?_⟩;rw[hu];exact h2.imp_right fun k=>h.uses.subset k
structure Ph (st:SSt):Prop where
 wf:Wf st
 us:∀q∈st.uses,st.unitOf q.2∈st.line q.1
 bd:∀(i:Nat) l,st.bodies[i]? =some l->jf (okv st i) l=true
def EnvOk(st:SSt)(env:List Nat)(u:Nat):Prop:=∀v∈env,v < st.vars.length/\st.unitOf v∈st.line u
theorem Ph.setF {st:SSt}(h:Ph st)(f:Option (Nat×Int)):Ph {st with f:=f}:=⟨⟨h.wf.al,h.wf.bl,h.wf.low,h.wf.vu,h.wf.uu⟩,h.us,h.bd⟩
theorem Ph.wrong {st:SSt}(h:Ph st)(e:Nat)(p:Int):Ph (st.wrong e p):=by
 unfold SSt.wrong;split
 ·exact h.setF _
 ·exact h
theorem Ph.addV {st:SSt}(h:Ph st){x:SVar}(hx:x.unit < st.outer.length)(ho:-1<=x.own/\x.own < st.args.getD x.unit 0):Ph (st.addV x):=
 ⟨h.wf.addV hx ho,fun q hq=>by
   rw[unitOf_add st x (h.wf.uu q hq).2];exact h.us q hq,fun i l hl=>rawsIn_mono (fun v hv=>okv_gr (gr_vars st [x]) i v hv) l (h.bd i l hl)⟩
theorem Ph.addU {st:SSt}(h:Ph st){o:Int}{n:Nat}(ho:-1<=o/\o < st.outer.length):Ph (st.addU o n):=
 ⟨h.wf.addU ho,fun q hq=>by
   rw[h.wf.line_add ho _ (h.wf.uu q hq).1];exact h.us q hq,fun i l hl=>by
   have hl:(st.bodies++[[]])[i]? =some l:=hl;rw[V6]at hl;split at hl
   ·exact rawsIn_mono (fun v hv=>okv_gr (gr_unit st o n) i v hv) l (h.bd i l hl)
   ·have:=(Vd.1 hl).1;simp only[Vu]at this;have e:i - st.bodies.length=0:=by omega
    rw[e]at hl;obtain rfl:[]=l:=by simpa using hl
    rfl⟩
theorem Ph.use {st:SSt}(h:Ph st){u v:Nat}(hu:u < st.outer.length)(hv:v < st.vars.length)(hl:st.unitOf v∈st.line u):Ph (st.use u v):=
 ⟨h.wf.use hu hv,fun q hq=>by
   have hq:q∈st.uses++[(u,v)]:=hq;rcases Q1.1 hq with k|k
   ·exact h.us q k
   ·rw[QC.1 k];exact hl,fun i l hl=>rawsIn_mono (fun w hw=>okv_gr (gr_uses st [(u,v)]) i w hw) l (h.bd i l hl)⟩
theorem Ph.body {st:SSt}(h:Ph st)(i:Nat){l:List PN}(hl:jf (okv st i) l=true):Ph {st with bodies:=st.bodies.set i l}:=
 ⟨⟨h.wf.al,by show(st.bodies.set i l).length=_;rw[Vt];exact h.wf.bl,h.wf.low,h.wf.vu,h.wf.uu⟩,h.us,fun j m hm0=>by
   have hm:(st.bodies.set i l)[j]? =some m:=hm0;clear hm0;rw[Vh]at hm;by_cases e:i=j
   ·subst e;rw[if_pos rfl]at hm;split at hm
    ·obtain rfl:l=m:=by simpa using hm
     exact hl
    ·cases hm
   ·rw[if_neg e]at hm;exact h.bd j m hm⟩
theorem line_f {st st':SSt}(h:st'.outer=st.outer)(u:Nat):st'.line u=st.line u:=by unfold SSt.line;rw[h]
theorem decl_pre(a:SSt)(c:Bool)(x:SVar)(p:Int):({(if c=true then a.wrong 180 p else a)with vars:=a.vars++[x]}:SSt)=(if c=true then a.wrong 180 p else a).addV x:=by
 unfold SSt.addV;split
 ·rw[wrong_vars]
 ·rfl
theorem ph_decl(unit:Nat)(arg own:Bool)(p:Int):∀(l:List ByteArray) (i:Nat) (st:SSt) (env:List Nat),Ph st->unit < st.outer.length->((arg&&own)=true->i+l.length<=st.args.getD unit 0)->EnvOk st env unit->
 Ph (kN unit arg own p l i st env).1/\EnvOk (kN unit arg own p l i st env).1 (kN unit arg own p l i st env).2 unit
 |[],_,st,env,h,_,_,he=>⟨h,he⟩
 |nm::r,i,st,env,h,hu,ha,he=>by
  rw[kN,decl_pre];obtain⟨s,hs⟩:∃s,s=(if(wG st.vars env nm).isSome=true then st.wrong 180 p else st):=⟨_,rfl⟩;have hk:Ph s/\s.outer=st.outer/\s.args=st.args/\s.vars=st.vars:=by
   rw[hs];split
   ·refine⟨h.wrong _ _,wrong_outer _ _ _,?_,wrong_vars _ _ _⟩;unfold SSt.wrong;split <;> rfl
   ·exact⟨h,rfl,rfl,rfl⟩
  obtain⟨k1,k2,k3,k4⟩:=hk;rw[<- hs];rw[Vl]at ha;have hself:∀t:SSt,Ph t->unit < t.outer.length->unit∈t.line unit:=fun t ht hl=>by rw[ht.wf.line Zo];exact Q6 ..
  have hov:(s.addV ⟨nm,unit,arg,if(arg&&own)=true then i else -1⟩).outer=st.outer:=k2;have hP:Ph (s.addV ⟨nm,unit,arg,if(arg&&own)=true then i else -1⟩):=by
   refine k1.addV (by rw[k2];exact hu) ?_;rw[k3];simp only;split
   ·rename_i c;have:=ha c;omega
   ·omega
  refine ph_decl unit arg own p r (i+1) _ _ hP (by rw[hov];exact hu) (fun c=>?_) (fun v hv=>?_)
  ·have:=ha c;show i+1+r.length<=s.args.getD unit 0;rw[k3];omega
  ·have hl:(s.addV ⟨nm,unit,arg,if(arg&&own)=true then i else -1⟩).vars.length=st.vars.length+1:=by
    show(s.vars++[_]).length=_;rw[Vj,k4];rfl
   rcases Q1.1 hv with h1|h1
   ·obtain⟨e1,e2⟩:=he v h1;refine⟨Zo,?_⟩;rw[unitOf_add s _ (by rw[k4];exact e1)];have e3:s.unitOf v=st.unitOf v:=by unfold SSt.unitOf;rw[k4]
    have e4:(s.addV ⟨nm,unit,arg,if(arg&&own)=true then i else -1⟩).line unit=st.line unit:=line_f hov unit;rw[e3,e4];exact e2
   ·rw[QC.1 h1];refine⟨Zo,?_⟩;have e3:(s.addV ⟨nm,unit,arg,if(arg&&own)=true then i else -1⟩).unitOf st.vars.length=unit:=by
     rw[<- k4];unfold SSt.unitOf SSt.addV;simp
    rw[e3];exact hself _ hP (by rw[hov];exact hu)
theorem findE_mem {vs:List SVar}{env:List Nat}{nm:ByteArray}{v:Nat}(h:wG vs env nm=some v):v∈env:=by
 have:=List.mem_of_find?_eq_some h;simpa using this
theorem refK_ne(s:ByteArray):zW s < 5:=by
 unfold zW
 repeat' split
 all_goals omega
theorem ph_ref(F G:List ByteArray){st:SSt}{env:List Nat}{u:Nat}(nm:ByteArray)(p:Int)(put:Bool)(h:Ph st)(hu:u < st.outer.length)(he:EnvOk st env u):
 Ph (jv F G st env nm u p put).2/\((jv F G st env nm u p put).1.kind=99->okv (jv F G st env nm u p put).2 u (jv F G st env nm u p put).1.index.toNat=true):=by
 unfold jv;split
 ·refine⟨h,fun k=>?_⟩;have:=refK_ne nm;simp only at k;omega
 ·split
  ·rename_i v hv;obtain⟨h1,h2⟩:=he v (findE_mem hv);have hp:Ph (st.use u v):=h.use hu h1 h2;have hk:∀s:SSt,s.vars=st.vars->okv {s with uses:=st.uses++[(u,v)]} u v=true:=fun s hs=>by
    unfold okv;simp only[vF,vO,decide_eq_true_eq];exact⟨by rw[hs];exact h1,.inr Zs⟩
   refine⟨?_,fun _=>?_⟩
   ·simp only;split
    ·have e:({st.wrong 182 p with uses:=st.uses++[(u,v)]}:SSt)={st.use u v with f:=(st.wrong 182 p).f}:=by
      unfold SSt.wrong SSt.use;split <;> rfl
     rw[e];exact hp.setF _
    ·exact hp
   ·show okv _ u ((v:Int)).toNat=true;rw[vS];simp only;split
    ·exact hk _ (wrong_vars _ _ _)
    ·exact hk _ rfl
  ·split
   ·exact⟨h,fun k=>by simp at k⟩
   ·refine⟨?_,fun k=>by simp at k⟩;simp only;split
    ·exact h
    ·exact h.wrong _ _
theorem EnvOk.gr {a b:SSt}{env:List Nat}{u:Nat}(h:EnvOk a env u)(g:Gr a b)(ha:Wf a)(hb:Wf b)(hu:u < a.outer.length):EnvOk b env u:=fun v hv=>by
 obtain⟨h1,h2⟩:=h v hv;refine⟨QZ h1 g.vars.length_le,?_⟩;have e1:b.unitOf v=a.unitOf v:=by
  obtain⟨t,ht⟩:=g.vars;unfold SSt.unitOf;rw[<- ht,V7 h1]
 have e2:∀w:Nat,w < a.outer.length->b.line w=a.line w:=by
  intro w
  induction w using Nat.strongRecOn with
  |_ w ih=>
   intro hw;have ho:b.outer.getD w (-1)=a.outer.getD w (-1):=by
    obtain⟨t,ht⟩:=g.outer;rw[<- ht,V5,V5,V7 hw]
   have hl:=g.outer.length_le;rw[hb.line Zo,ha.line Zo,ho]
   congr 1
   split
   ·rfl
   ·have:=ha.lowD w;exact ih _ Zo Zo
 rw[e1,e2 u hu];exact h2
theorem raw_supers {p:Nat->Bool}(b:Bool){l:List PN}(h:jf p l=true):jf p (wR b l)=true:=by
 cases l with
 |nil=>rfl
 |cons x r=>
  simp only[jf,vF]at h;simp only[wR,jf,vF];refine⟨h.1,raws_mem fun y hy=>?_⟩;obtain⟨z,hz,rfl⟩:=Q9.1 hy;have:=mem_raws h.2 z hz;cases z;exact this
theorem raw_range {p:Nat->Bool}{a n:Nat}(h:∀v,a<=v->v < a+n->p v=true):((List.range' a n).map rawR).all (fun r=>!decide (r.kind=99)||p r.index.toNat)=true:=by
 rw[vX];intro r hr;obtain⟨v,hv,rfl⟩:=Q9.1 hr;have:=List.mem_range'_1.1 hv;show(!decide ((99:Nat)=99)||p ((v:Int)).toNat)=true;rw[vS,h v this.1 this.2,Bool.or_true]
theorem decl_units(unit:Nat)(arg own:Bool)(p:Int):∀(l:List ByteArray) (i:Nat) (st:SSt) (env:List Nat) (v:Nat),st.vars.length<=v->v < st.vars.length+l.length->(kN unit arg own p l i st env).1.unitOf v=unit
 |[],_,_,_,v,h1,h2=>by simp only[Vr]at h2;omega
 |nm::r,i,st,env,v,h1,h2=>by
  rw[kN];rw[Vl]at h2;by_cases e:v=st.vars.length
  ·have g:=zZ unit arg own p r (i+1) {(if(wG st.vars env nm).isSome then st.wrong 180 p else st)with vars:=st.vars++[⟨nm,unit,arg,if arg&&own then i else -1⟩]} (env++[st.vars.length]);obtain⟨t,ht⟩:=g.vars;unfold SSt.unitOf;rw[<- ht,V7 (by simp[e]),e];simp
  ·exact decl_units unit arg own p r (i+1) _ _ v Zam Zam
theorem ph_part(F G:List ByteArray):∀(N:Nat) (x:Nd),x.size<=N->∀st env u,Ph st->u < st.outer.length->EnvOk st env u->
 (Ph (jD F G x st env u).2/\rawIn (okv (jD F G x st env u).2 u) (jD F G x st env u).1=true)/\(Ph (inlS F G x st env u).2/\rawIn (okv (inlS F G x st env u).2 u) (inlS F G x st env u).1=true/\(x.args.length=1->okv (inlS F G x st env u).2 u st.vars.length=true)):=by
 intro N
 induction N with
 |zero=>intro x hx;have:=x.size_pos;omega
 |succ N ih=>
  have hall:∀l:List Nd,Nd.sizes l<=N->∀st env u,Ph st->u < st.outer.length->EnvOk st env u->Ph (kR F G l st env u).2/\jf (okv (kR F G l st env u).2 u) (kR F G l st env u).1=true:=by
   intro l
   induction l with
   |nil=>intro _ st env u h hu he;rw[kR];exact⟨h,rfl⟩
   |cons x r ihl=>
    intro hl st env u h hu he;simp only[Nd.sizes]at hl;rw[wE];have g1:=(gr_part F G N x Zo st env u).1;obtain⟨h1,h2⟩:=(ih x Zo st env u h hu he).1;obtain⟨h3,h4⟩:=ihl Zo _ env u h1 (QZ hu g1.outer.length_le) (he.gr g1 h.wf h1.wf hu);exact zD7
  have hspec:∀(s:ByteArray) (l:List Nd),Nd.sizes l<=N->∀i st env u,Ph st->u < st.outer.length->EnvOk st env u->(∀k y,l[k]? =some y->jM s=5->inlK s (i+k)=true->y.args.length=1)->
   Ph (ky F G s l i st env u).2.2/\jf (okv (ky F G s l i st env u).2.2 u) (ky F G s l i st env u).1=true/\((ky F G s l i st env u).2.1.all fun r=>!decide (r.kind=99)||okv (ky F G s l i st env u).2.2 u r.index.toNat)=true/\Gr st (ky F G s l i st env u).2.2:=by
   intro s l
   induction l with
   |nil=>intro _ i st env u h hu he _;rw[ky];exact⟨h,rfl,rfl,Gr.refl _⟩
   |cons x r ihl=>
    intro hl i st env u h hu he ha;simp only[Nd.sizes]at hl;obtain⟨g1,g2⟩:=gr_part F G N x Zo st env u;obtain⟨⟨h1,h2⟩,h3,h4,h5⟩:=ih x Zo st env u h hu he;have har:∀k y,r[k]? =some y->jM s=5->inlK s (i+1+k)=true->y.args.length=1:=fun k y hy e1 e2=>ha (k+1) y (by simpa using hy) e1 (by rw[show i+(k+1)=i+1+k from by omega];exact e2)
    cases hi:inlK s i with
    |true=>
     rw[specS_in _ _ _ _ _ _ _ _ _ hi];obtain⟨k1,k2,k3,k4⟩:=ihl Zo (i+1) _ env u h3 (QZ hu g2.outer.length_le) (he.gr g2 h.wf h3.wf hu) har;refine⟨k1,?_,?_,g2.trans k4⟩
     ·simp only[jf,vF];exact⟨rawIn_mono (fun v hv=>okv_gr k4 u v hv) _ h4,k2⟩
     ·simp only;split
      ·rename_i e5;simp only[List.all_cons,vF,vO];refine⟨.inr ?_,k3⟩;have:=okv_gr k4 u _ (h5 (ha 0 x rfl e5 hi));show okv _ u ((st.vars.length:Int)).toNat=true;rw[vS];exact this
      ·exact k3
    |false=>
     rw[specS_out _ _ _ _ _ _ _ _ _ hi];obtain⟨k1,k2,k3,k4⟩:=ihl Zo (i+1) _ env u h1 (QZ hu g1.outer.length_le) (he.gr g1 h.wf h1.wf hu) har;refine⟨k1,?_,k3,g1.trans k4⟩;simp only[jf,vF];exact⟨rawIn_mono (fun v hv=>okv_gr k4 u v hv) _ h2,k2⟩
  intro x hx st env u h hu he;cases x with
  |mk k s lit args temps kids p=>
  simp only[Nd.size]at hx;have hk:Nd.sizes kids<=N:=by omega
  have plainCase:∀(kk:Nat) (nm:ByteArray) (l0:Lt) (un:Int) (b:Bool) (ks:List PN) (t:SSt),jf (okv t u) ks=true->rawIn (okv t u) (.mk kk nm l0 [] un b ks)=true:=fun kk nm l0 un b ks t hh=>by
   simp only[rawIn,List.all_nil,vR];exact hh
  have oneCase:∀(kk:Nat) (r:z7) (ks:List PN) (t:SSt),(r.kind=99->okv t u r.index.toNat=true)->jf (okv t u) ks=true->rawIn (okv t u) (.mk kk e0 lt0 [r] 0 false ks)=true:=fun kk r ks t hr hh=>by
   simp only[rawIn,List.all_cons,List.all_nil,Bool.and_true,vF,vO];refine⟨?_,hh⟩;by_cases e:r.kind=99
   ·exact .inr (hr e)
   ·exact .inl (by rw[Zf e];rfl)
  refine⟨?_,?_⟩
  ·cases hin:inlP k s kids with
   |true=>
    rw[partS_inl _ _ _ _ _ _ _ _ _ _ _ _ hin];have hf:fitK (jM s) kids=true:=by
     unfold inlP at hin;simp only[vF]at hin;exact hin.2
    obtain⟨k1,k2,k3,_⟩:=hspec s kids hk 0 st env u h hu he (fun j y hy e5 hi=>by
     rw[e5]at hf;obtain⟨hl,b,hb,_,hb2⟩:=fit5 hf;have:j=2:=by
      unfold inlK at hi;rw[e5]at hi;simp only[decide_eq_true_eq]at hi;omega
     subst this;rw[hb]at hy;obtain rfl:=Qn hy;exact hb2)
    refine⟨k1,?_⟩;simp only[rawIn,vF];exact⟨k3,k2⟩
   |false=>
    by_cases h1:k=1
    ·rw[partS_1 _ _ _ _ _ _ _ _ _ _ _ _ hin h1];exact⟨h,rfl⟩
    by_cases h2:k=2
    ·rw[partS_2 _ _ _ _ _ _ _ _ _ _ _ _ hin h2];obtain⟨k1,k2⟩:=ph_ref F G s p false h hu he;exact⟨k1,oneCase _ _ _ _ k2 rfl⟩
    by_cases h3:k=3
    ·rw[partS_3 _ _ _ _ _ _ _ _ _ _ _ _ hin h3];obtain⟨k1,k2⟩:=ph_ref F G s p true h hu he;have g:=gr_ref F G st env s u p true;obtain⟨k3,k4⟩:=hall kids hk _ env u k1 (QZ hu g.outer.length_le) (he.gr g h.wf k1.wf hu);exact⟨k3,oneCase _ _ _ _ (fun e=>okv_gr (zK F G kids _ env u) u _ (k2 e)) k4⟩
    by_cases h7:k=7
    ·rw[partS_7 _ _ _ _ _ _ _ _ _ _ _ _ hin h7];refine⟨?_,plainCase _ _ _ _ _ _ _ rfl⟩;simp only;rw[we];have hU:Ph (st.addU (u:Int) args.length):=h.addU ⟨Zo,Zo⟩;have hul:(st.addU (u:Int) args.length).outer.length=st.outer.length+1:=by unfold SSt.addU;simp
     have hEnv0:EnvOk (st.addU (u:Int) args.length) env st.outer.length:=fun v hv=>by
      obtain⟨e1,e2⟩:=he v hv;refine⟨e1,?_⟩;have e3:(st.addU (u:Int) args.length).outer.getD st.outer.length (-1)=(u:Int):=by
       show(st.outer++[(u:Int)]).getD st.outer.length (-1)=(u:Int);exact zBV
      rw[hU.wf.line Zo,e3,if_neg Zo,vS,h.wf.line_add ⟨Zo,Zo⟩ u hu];exact Q5 _ e2
     have ha0:(st.addU (u:Int) args.length).args.getD st.outer.length 0=args.length:=by
      show(st.args++[args.length]).getD st.outer.length 0=_;rw[<- h.wf.al,V5,V8 (QW _),Qd];rfl
     obtain⟨d1,d2⟩:=ph_decl st.outer.length true true p args 0 _ env hU Zo (fun _=>by rw[ha0];omega) hEnv0;obtain⟨f1,f2,f3,f4⟩:=jR st.outer.length true true p args 0 (st.addU (u:Int) args.length) env;obtain⟨d3,d4⟩:=ph_decl st.outer.length false true p temps 0 _ _ d1 (by rw[f1];omega) (fun e=>by cases e) d2;obtain⟨f5,f6,f7,f8⟩:=jR st.outer.length false true p temps 0 (kN st.outer.length true true p args 0 (st.addU (u:Int) args.length) env).1 (kN st.outer.length true true p args 0 (st.addU (u:Int) args.length) env).2;obtain⟨d5,d6⟩:=hall kids hk (inS args temps p st env (u:Int)).1 (inS args temps p st env (u:Int)).2 st.outer.length d3 (by
      show st.outer.length < (kN st.outer.length false true p temps 0 (kN st.outer.length true true p args 0 (st.addU (u:Int) args.length) env).1 (kN st.outer.length true true p args 0 (st.addU (u:Int) args.length) env).2).1.outer.length;rw[f5,f1];omega) d4
     exact d5.body _ d6
    by_cases h8:k=8
    ·rw[partS_8 _ _ _ _ _ _ _ _ _ _ _ _ hin h8];exact zBU
    by_cases h9:k=9
    ·rw[partS_9 _ _ _ _ _ _ _ _ _ _ _ _ hin h9];exact zBU
    by_cases h6:k=6
    ·rw[partS_6 _ _ _ _ _ _ _ _ _ _ _ _ hin h6];exact zBU
    by_cases h5:k=5
    ·rw[partS_5 _ _ _ _ _ _ _ _ _ _ _ _ hin h5];obtain⟨k1,k2⟩:=hall kids hk st env u h hu he;exact⟨k1,plainCase _ _ _ _ _ _ _ (raw_supers _ k2)⟩
    cases hs:jS kids with
    |true=>
     rw[partS_4s _ _ _ _ _ _ _ _ _ _ _ _ hin ⟨h1,h2,h3,h5,h6,h7,h8,h9⟩ hs];have ht:Nd.sizes kids.tail<=N:=by
      exact zC9
     obtain⟨k1,k2⟩:=hall kids.tail ht st env u h hu he;exact⟨k1,plainCase _ _ _ _ _ _ _ k2⟩
    |false=>
     rw[partS_4 _ _ _ _ _ _ _ _ _ _ _ _ hin ⟨h1,h2,h3,h5,h6,h7,h8,h9⟩ hs];exact zBU
  ·rw[inlS_eq];obtain⟨d1,d2⟩:=ph_decl u true false p args 0 st env h hu (fun e=>by cases e) he;obtain⟨f1,f2,f3,f4⟩:=jR u true false p args 0 st env;obtain⟨d3,d4⟩:=ph_decl u false false p temps 0 _ _ d1 (by rw[f1];exact hu) (fun e=>by cases e) d2;obtain⟨f5,f6,f7,f8⟩:=jR u false false p temps 0 (kN u true false p args 0 st env).1 (kN u true false p args 0 st env).2;obtain⟨d5,d6⟩:=hall kids hk _ _ u d3 (by rw[f5,f1];exact hu) d4;have g:=zK F G kids (kN u false false p temps 0 (kN u true false p args 0 st env).1 (kN u true false p args 0 st env).2).1 (kN u false false p temps 0 (kN u true false p args 0 st env).1 (kN u true false p args 0 st env).2).2 u;have gt:=zZ u false false p temps 0 (kN u true false p args 0 st env).1 (kN u true false p args 0 st env).2;have hk1:∀(t:SSt) (v:Nat),v < t.vars.length->t.unitOf v=u->okv t u v=true:=fun t v e1 e2=>by
    unfold okv;simp only[vF,vO,decide_eq_true_eq];exact⟨e1,.inl e2⟩
   refine⟨d5,?_,fun ha=>?_⟩
   ·simp only[rawIn,vF];refine⟨raw_range fun v e1 e2=>?_,d6⟩;exact okv_gr g u v (hk1 _ v (by rw[f8];exact e2) (decl_units u false false p temps 0 _ _ v e1 e2))
   ·have ha:args.length=1:=ha;exact okv_gr (gt.trans g) u _ (hk1 _ _ (by rw[f4];omega) (decl_units u true false p args 0 st env _ (QW _) Zo))
end Go.V
namespace Go.V
open Go
theorem mem_things {st:SSt}{o:Nat}{t:Nat×Int}:t∈st.things o↔t.1=o/\-1<=t.2/\t.2 < st.args.getD o 0:=by
 unfold SSt.things;rw[Q9];constructor
 ·rintro⟨i,hi,rfl⟩
  have:=QB.1 hi;exact⟨rfl,by simp only;omega,by simp only;omega⟩
 ·rintro⟨h1,h2,h3⟩
  obtain⟨a,b⟩:=t;simp only at h1 h2 h3;subst h1;exact⟨(b+1).toNat,QB.2 Zo,by rw[Qp];exact⟨rfl,Zo⟩⟩
theorem mem_copied {st:SSt}{u:Nat}{t:Nat×Int}:t∈st.copied u↔t.1∈(st.line u).drop 1/\t∈st.things t.1/\st.need u t=true:=by
 unfold SSt.copied;rw[Q8];constructor
 ·rintro⟨o,h1,h2⟩
  obtain⟨h3,h4⟩:=Q7.1 h2;obtain rfl:=(mem_things.1 h3).1;exact⟨by simpa using h1,h3,h4⟩
 ·rintro⟨h1,h2,h3⟩
  exact⟨t.1,by simpa using h1,Q7.2 ⟨h2,h3⟩⟩
theorem unitOf_at {st:SSt}{v:Nat}{x:SVar}(h:st.vars[v]? =some x):st.unitOf v=x.unit:=by unfold SSt.unitOf;rw[h];rfl
theorem ownOf_at {st:SSt}{v:Nat}{x:SVar}(h:st.vars[v]? =some x):st.ownOf v=x.own:=by unfold SSt.ownOf;rw[h];rfl
theorem Wf.var {st:SSt}(h:Wf st){v:Nat}(hv:v < st.vars.length):st.unitOf v < st.outer.length/\-1<=st.ownOf v/\st.ownOf v < st.args.getD (st.unitOf v) 0:=by
 have e:st.vars[v]? =some st.vars[v]:=Zg hv;rw[unitOf_at e,ownOf_at e];exact h.vu v _ e
theorem Wf.way_out {st:SSt}(h:Wf st){u v:Nat}(ho:0<=st.outer.getD u (-1))(hn:(st.outer.getD u (-1)).toNat≠st.unitOf v):∀(w:Nat),w < st.outer.length->u∈st.way w v->(st.outer.getD u (-1)).toNat∈st.way w v:=by
 intro w
 induction w using Nat.strongRecOn with
 |_ w ih=>
  intro hw hm;by_cases e:w=st.unitOf v
  ·rw[h.way_here Zo e]at hm;cases hm
  ·have hl:=h.lowD w;rw[h.way_step Zo e]at hm|-;rcases Q4.1 hm with rfl|hm
   ·rw[if_neg Zo,h.way_step Zo hn];exact Q5 _ (Q6 ..)
   ·by_cases c:st.outer.getD w (-1) < 0
    ·rw[if_pos c]at hm;cases hm
    ·rw[if_neg c]at hm|-;exact Q5 _ (ih _ Zo Zo hm)
section
variable {st:SSt} (h:Ph st)
include h
theorem Ph.drop_line {u o:Nat}(hu:u < st.outer.length)(ho:o∈st.line u)(hn:o≠u):o∈(st.line u).drop 1:=by
 rw[h.wf.line Zo]at ho|-;rcases Q4.1 ho with k|k
 ·exact absurd k hn
 ·simpa using k
theorem Ph.use_copied {u v:Nat}(hq:(u,v)∈st.uses)(hn:st.unitOf v≠u):(st.unitOf v,st.ownOf v)∈st.copied u/\(st.ownOf v < 0->st.rem v=true):=by
 obtain⟨h1,h2⟩:=h.wf.uu _ hq;obtain⟨k1,k2,k3⟩:=h.wf.var h2;have hl:=h.us _ hq;refine⟨mem_copied.2 ⟨h.drop_line h1 hl hn,mem_things.2 ⟨rfl,k2,k3⟩,?_⟩,fun hneg=>?_⟩
 ·unfold SSt.need;rw[vY];refine⟨_,hq,?_⟩;simp only[vF,decide_eq_true_eq,true_and];rw[h.wf.way_step (by have:=h1;simp only at this;omega) (fun e=>hn e.symm)];exact Q6 ..
 ·unfold SSt.rem;rw[vY];refine⟨_,hq,?_⟩;simp only[vF,decide_eq_true_eq,true_and];exact⟨hneg,hn⟩
theorem Ph.copied_in {u:Nat}(hu:u < st.outer.length){t:Nat×Int}(ht:t∈st.copied u):0<=st.outer.getD u (-1)/\(t.1=(st.outer.getD u (-1)).toNat∨t∈st.copied (st.outer.getD u (-1)).toNat)/\t.1 < st.outer.length/\t.1≠u/\-1<=t.2/\t.2 < st.args.getD t.1 0:=by
 obtain⟨h1,h2,h3⟩:=mem_copied.1 ht;obtain⟨_,h4,h5⟩:=mem_things.1 h2;have hlow:=h.wf.lowD u;rw[h.wf.line Zo]at h1;simp only[List.drop_succ_cons,List.drop_zero]at h1;by_cases c:st.outer.getD u (-1) < 0
 ·rw[if_pos c]at h1;cases h1
 rw[if_neg c]at h1;have hle:=h.wf.line_le _ Zo _ h1;refine⟨Zo,?_,Zo,Zo,h4,h5⟩;by_cases e:t.1=(st.outer.getD u (-1)).toNat
 ·exact .inl e
 refine .inr (mem_copied.2 ⟨h.drop_line Zo h1 e,h2,?_⟩);unfold SSt.need at h3|-;rw[vY]at h3|-;obtain⟨q,hq,k⟩:=h3;refine⟨q,hq,?_⟩;simp only[vF,decide_eq_true_eq]at k|-;refine⟨k.1,h.wf.way_out Zo ?_ q.1 (h.wf.uu q hq).1 k.2⟩;have:=congrArg Prod.fst k.1;simp only at this;rw[this];exact fun e2=>e e2.symm
theorem Ph.vec_some {u:Nat}{t:Nat×Int}(ht:t∈st.copied u)(hn:t.2 < 0):0 < (st.locals t.1 true).length:=by
 obtain⟨h1,h2,h3⟩:=mem_copied.1 ht;unfold SSt.need at h3;rw[vY]at h3;obtain⟨q,hq,k⟩:=h3;simp only[vF,decide_eq_true_eq]at k;obtain⟨h5,h6⟩:=h.wf.uu q hq;have e1:st.unitOf q.2=t.1:=congrArg Prod.fst k.1;have e2:st.ownOf q.2=t.2:=congrArg Prod.snd k.1;have hne:st.unitOf q.2≠q.1:=fun e=>by
  have k2:=k.2;rw[h.wf.way_here Zo e.symm]at k2;cases k2
 have hr:st.rem q.2=true:=by
  unfold SSt.rem;rw[vY];refine⟨q,hq,?_⟩;simp only[vF,decide_eq_true_eq,true_and];exact⟨Zo,hne⟩
 apply List.length_pos_of_mem (a:=q.2);unfold SSt.locals;rw[Q7];refine⟨QB.2 h6,?_⟩;simp only[vF,decide_eq_true_eq];exact⟨⟨e1,Zo⟩,hr⟩
theorem Ph.okv {i v:Nat}(hv:okv st i v=true):v < st.vars.length/\(st.unitOf v=i∨((st.unitOf v,st.ownOf v)∈st.copied i/\(st.ownOf v < 0->st.rem v=true))):=by
 unfold V.okv at hv;simp only[vF,vO,decide_eq_true_eq]at hv;obtain⟨h1,h2⟩:=hv;refine⟨h1,?_⟩;by_cases e:st.unitOf v=i
 ·exact .inl e
 ·rcases h2 with h2|h2
  ·exact .inl h2
  ·exact .inr (h.use_copied h2 e)
end
theorem locals_temps(st:SSt)(i:Nat)(r:Bool):st.locals i r=(st.temps i).filter fun v=>decide (st.rem v=r):=by
 unfold SSt.locals SSt.temps;rw[List.filter_filter];refine List.filter_congr fun v _=>?_
 rw[Bool.and_comm]
theorem temps_nodup(st:SSt)(i:Nat):(st.temps i).Nodup:=List.Pairwise.filter _ QG
theorem findIdx_mid {α:Type}[DecidableEq α]{a b:List α}{x:α}(h:x∉a):(a++x::b).findIdx? (fun y=>decide (y=x))=some a.length:=by
 induction a with
 |nil=>simp[List.findIdx?_cons]
 |cons y a ih=>
  have h1:y≠x:=fun e=>h (by simp[e])
  rw[vf,List.findIdx?_cons,Zf h1];simp only[vI,if_false];rw[ih (fun e=>h (by simp[e]))];rfl
theorem idxI_mid {α:Type}[DecidableEq α]{a b:List α}{x:α}(h:x∉a):idxI (a++x::b) x=a.length:=by
 unfold idxI;rw[findIdx_mid h]
def SSt.slotOf(st:SSt)(v:Nat):Int:=idxI (st.locals (st.unitOf v) (st.rem v)) v
theorem slot_at {st:SSt}{i j v:Nat}(hj:(st.temps i)[j]? =some v):st.slotOf v=(((st.temps i).take j).filter fun w=>decide (st.rem w=st.rem v)).length:=by
 have hm:v∈st.temps i:=Zv hj;have hu:st.unitOf v=i:=by
  unfold SSt.temps at hm;have:=(Q7.1 hm).2;simp only[vF,decide_eq_true_eq]at this;exact this.1
 have hl:=(Vd.1 hj).1;have hs:st.temps i=(st.temps i).take j++v::(st.temps i).drop (j+1):=by
  have e:=(Vd.1 hj).2;rw[<- e,<- vh hl,QP]
 have hn:=temps_nodup st i;rw[hs,QE]at hn;unfold SSt.slotOf;rw[hu,locals_temps]
 conv=>lhs;rw[hs]
 rw[vp,vq,if_pos Zs];exact idxI_mid fun hv=>hn.2.2 v (Q7.1 hv).1 v Zs rfl
end Go.V
namespace Go.V
open Go
def qU(U:List UC)(j:Nat):Nat:=((U[j]?).map UC.q).getD 0
def wu(U:List UC)(l:List (Nat×Int)):List (Nat×Int):=l.map fun t=>(qU U t.1,t.2)
structure RepL (st:SSt)(L:Nat)(U:List UC)(V:List VCl):Prop where
 wf:Wf st
 ul:U.length=st.outer.length
 vl:V.length=st.vars.length
 inj:(U.map UC.q).Nodup
 ar:∀(i:Nat) u,U[i]? =some u->u.args=st.args.getD i 0/\u.num=i
 ou:∀(i:Nat) u,U[i]? =some u->u.outer=(if st.outer.getD i (-1) < 0 then none else(U[(st.outer.getD i (-1)).toNat]?).map UC.q)
 tm:∀(i:Nat) u,U[i]? =some u->u.temps=(st.temps i).map (fun v=>(V.getD v vcl0).q)/\jC 1 u.tv u.temps.length (u.temps.map fun b=>kK (some b)) u.tsp
 nd:∀(i:Nat) u,U[i]? =some u->∃m:List ((Nat×Int)×Int),ThIs u.es u.cl m/\(m.map (·.1)).Nodup/\(∀p∈m,(∃(j:Nat) (w:UC),U[j]? =some w/\p.1.1=w.q)/\0 < p.2/\p.2<=st.uses.length)/\
  ∀(j:Nat) (w:UC) (a:Int),U[j]? =some w->((kq (w.q,a) m).isSome=true↔st.need i (j,a)=true)
 vn:∀(v:Nat) x y,st.vars[v]? =some x->V[v]? =some y->(∃w,U[x.unit]? =some w/\y.unit=w.q)/\y.arg=x.own/\y.remote=st.rem v/\(x.own < 0->x.unit < L->(y.slot:Int)=st.slotOf v)
 nl:∀(i:Nat) u,U[i]? =some u->L<=i->u.locals=0/\u.vector=0/\u.cop=[]/\u.cv=.slice none 0 0/\u.csp=[]
 la:∀(i:Nat) u,U[i]? =some u->i < L->u.locals=(st.locals i false).length/\u.vector=(st.locals i true).length/\u.cop=wu U (st.copied i)/\jC 2 u.cv u.cop.length (u.cop.flatMap jN) u.csp
theorem RepS.laid {st:SSt}{U:List UC}{V:List VCl}(h:RepS st U V):RepL st 0 U V:=
 ⟨h.wf,h.ul,h.vl,h.inj,fun i u hu=>⟨(h.un i u hu).1,(h.un i u hu).2.2.2.1⟩,h.ou,h.tm,h.nd,fun v x y hx hy=>by
   obtain⟨h1,h2,h3,h4,h5⟩:=h.vn v x y hx hy;exact⟨h1,h2,h4,fun _ hl=>by omega⟩,fun i u hu _=>by
   obtain⟨_,h1,h2,_,h3,h4,h5⟩:=h.un i u hu;exact⟨h1,h2,h3,h4,h5⟩,fun i u hu hl=>by omega⟩
def slV(st:SSt)(V:List VCl)(l:List Nat):List VCl:=V.mapIdx fun v y=>{y with slot:=if v∈l then(st.slotOf v).toNat else y.slot}
theorem slV_get {st:SSt}{V:List VCl}{l:List Nat}{v:Nat}{y:VCl}(h:V[v]? =some y):(slV st V l)[v]? =some {y with slot:=if v∈l then(st.slotOf v).toNat else y.slot}:=by
 unfold slV;rw[List.getElem?_mapIdx,h];rfl
theorem slV_len(st:SSt)(V:List VCl)(l:List Nat):(slV st V l).length=V.length:=by unfold slV;simp
theorem slV_nil(st:SSt)(V:List VCl):slV st V []=V:=by
 apply vm;intro v;cases h:V[v]? with
 |none=>
  rw[Vc]at h|-;rw[slV_len];exact h
 |some y=>rw[slV_get h];simp
theorem slV_back {st:SSt}{V:List VCl}{l:List Nat}{v:Nat}{y:VCl}(h:(slV st V l)[v]? =some y):∃y0,V[v]? =some y0/\y={y0 with slot:=if v∈l then(st.slotOf v).toNat else y0.slot}:=by
 cases h0:V[v]? with
 |none=>
  rw[Vc]at h0;have:=(Vd.1 h).1;rw[slV_len]at this;omega
 |some y0=>
  rw[slV_get h0]at h;exact⟨y0,rfl,(Qn h).symm⟩
theorem slV_q(st:SSt)(V:List VCl)(l:List Nat):(slV st V l).map VCl.q=V.map VCl.q:=by
 apply vm;intro v;rw[Ve,Ve];cases h:V[v]? with
 |none=>
  have:(slV st V l)[v]? =none:=by
   rw[Vc]at h|-;rw[slV_len];exact h
  rw[this]
 |some y=>rw[slV_get h];rfl
theorem slV_set {st:SSt}{V:List VCl}{l:List Nat}{v:Nat}{y:VCl}(h:V[v]? =some y){y':VCl}(hy':(slV st V l)[v]? =some y'):(slV st V l).set v {y' with slot:=(st.slotOf v).toNat}=slV st V (l++[v]):=by
 have hb:=slV_back hy';obtain⟨y0,h0,h1⟩:=hb;rw[h]at h0;obtain rfl:=Qn h0;apply vm;intro w;rw[Vh];by_cases e:v=w
 ·subst e;rw[if_pos rfl,if_pos (Vd.1 hy').1,slV_get h,h1];have hm:v∈l++[v]:=by simp
  rw[if_pos hm]
 ·rw[if_neg e];cases hw:V[w]? with
  |none=>
   have h2:∀m:List Nat,(slV st V m)[w]? =none:=fun m=>by
    rw[Vc]at hw|-;rw[slV_len];exact hw
   rw[h2,h2]
  |some z=>
   rw[slV_get hw,slV_get hw];have:(w∈l++[v])↔w∈l:=by
    rw[Q1,QC];exact⟨fun k=>k.elim id fun k=>absurd k.symm e,.inl⟩
   by_cases c:w∈l
   ·rw[if_pos c,if_pos (this.2 c)]
   ·rw[if_neg c,if_neg fun k=>c (this.1 k)]
def zc(st:SSt)(l:List Nat)(r:Bool):Nat:=(l.filter fun w=>decide (st.rem w=r)).length
theorem wk_lay {U:List UC}{V:List VCl}{i v:Nat}{u:UC}{y:VCl}(hu:U[i]? =some u)(hv:V[v]? =some y):∃R,(WK U V).Perm (kA y.q 4 [.int .i64 y.slot]++(kA u.q 1 [.int .i64 u.locals,.int .i64 u.vector]++R))/\
 ∀(l' n' s':Nat),(WK (U.set i {u with locals:=l',vector:=n'}) (V.set v {y with slot:=s'})).Perm (kA y.q 4 [.int .i64 s']++(kA u.q 1 [.int .i64 l',.int .i64 n']++R)):=by
 obtain⟨RU,h1⟩:=flat_focus UC.atoms hu;obtain⟨RV,h2⟩:=flat_focus VCl.atoms hv;have hA:∀(l' n':Nat),({u with locals:=l',vector:=n'}:UC).atoms.Perm (kA u.q 1 [.int .i64 l',.int .i64 n']++(.own u.q 9::(kA u.q 0 [.int .i64 u.args]++(kA u.q 3 [kK u.outer,.int .i64 u.num,u.tv,.map (some u.nb),u.cv,u.body]++(slA u.tv (u.temps.map fun b=>kK (some b)) u.tsp++(slA u.cv (u.cop.flatMap jN) u.csp++[.obj u.nb (.map u.es u.cl)])))))):=fun l' n'=>by
  unfold UC.atoms UC.row;have e:kA u.q 0 [.int .i64 u.args,.int .i64 l',.int .i64 n',kK u.outer,.int .i64 u.num,u.tv,.map (some u.nb),u.cv,u.body]=kA u.q 0 [.int .i64 u.args]++(kA u.q 1 [.int .i64 l',.int .i64 n']++kA u.q 3 [kK u.outer,.int .i64 u.num,u.tv,.map (some u.nb),u.cv,u.body]):=rfl;simp only;rw[e,vZ,vZ];exact QI (kC.own u.q 9::kA u.q 0 [.int .i64 u.args]) _ _
 have hB:∀s':Nat,({y with slot:=s'}:VCl).atoms.Perm (kA y.q 4 [.int .i64 s']++kA y.q 0 [kK (some y.unit),.int .i64 y.arg,.bool y.fixed,.bool y.remote]):=fun s'=>by
  unfold VCl.atoms VCl.row;have e:kA y.q 0 [kK (some y.unit),.int .i64 y.arg,.bool y.fixed,.bool y.remote,.int .i64 s']=kA y.q 0 [kK (some y.unit),.int .i64 y.arg,.bool y.fixed,.bool y.remote]++kA y.q 4 [.int .i64 s']:=rfl;simp only;rw[e];exact QH
 obtain⟨XU,hXU⟩:∃X,X=(kC.own u.q 9::(kA u.q 0 [.int .i64 u.args]++(kA u.q 3 [kK u.outer,.int .i64 u.num,u.tv,.map (some u.nb),u.cv,u.body]++(slA u.tv (u.temps.map fun b=>kK (some b)) u.tsp++(slA u.cv (u.cop.flatMap jN) u.csp++[.obj u.nb (.map u.es u.cl)]))))):=⟨_,rfl⟩;obtain⟨XV,hXV⟩:∃X,X=kA y.q 0 [kK (some y.unit),.int .i64 y.arg,.bool y.fixed,.bool y.remote]:=⟨_,rfl⟩;rw[<- hXU]at hA;rw[<- hXV]at hB;have key:∀(l' n' s':Nat),(WK (U.set i {u with locals:=l',vector:=n'}) (V.set v {y with slot:=s'})).Perm (kA y.q 4 [.int .i64 s']++(kA u.q 1 [.int .i64 l',.int .i64 n']++(XU++(RU++(XV++RV))))):=fun l' n' s'=>by
  unfold WK;refine List.Perm.trans (List.Perm.append ((h1 _).trans (vV _ (hA l' n'))) ((h2 _).trans (vV _ (hB s')))) ?_;generalize kA y.q 4 [.int .i64 s']=A;generalize kA u.q 1 [.int .i64 l',.int .i64 n']=B;simp only[vZ];refine List.Perm.trans (l₂:=(B++(XU++RU))++(A++(XV++RV))) (by simp only[vZ];exact vW _) ?_;refine QI _ _ _|>.trans ?_
  refine vU _ ?_;simp only[vZ];exact vW _
 refine⟨_,?_,key⟩;have:=key u.locals u.vector y.slot;have e1:U.set i {u with locals:=u.locals,vector:=u.vector}=U:=wi hu;have e2:V.set v {y with slot:=y.slot}=V:=wi hv
 rwa [e1,e2]at this
theorem RepL.step {st:SSt}{U:List UC}{V:List VCl}{i:Nat}{u:UC}(h:RepL st i U V)(hu:U[i]? =some u){cv:Value}{csp:List Value}(hc:jC 2 cv (wu U (st.copied i)).length ((wu U (st.copied i)).flatMap jN) csp):
 RepL st (i+1) (U.set i {u with locals:=(st.locals i false).length,vector:=(st.locals i true).length,cop:=wu U (st.copied i),cv:=cv,csp:=csp}) (slV st V (st.temps i)):=by
 obtain⟨u',hu'⟩:∃u':UC,u'={u with locals:=(st.locals i false).length,vector:=(st.locals i true).length,cop:=wu U (st.copied i),cv:=cv,csp:=csp}:=⟨_,rfl⟩;rw[<- hu'];have hmq:(U.set i u').map UC.q=U.map UC.q:=z5 hu (by rw[hu']);have hgq:=getq hmq;have hqq:∀l,wu (U.set i u') l=wu U l:=fun l=>Vx fun t _=>by unfold qU;rw[hgq]
 have hget:∀{j:Nat} {w:UC},(U.set i u')[j]? =some w->(j=i/\w=u')∨(j≠i/\U[j]? =some w):=fun hj=>set_get hu hj
 have hfw:∀{j:Nat} {w:UC},(U.set i u')[j]? =some w->∃w0,U[j]? =some w0/\w.q=w0.q/\w.args=w0.args/\w.num=w0.num/\w.outer=w0.outer/\w.temps=w0.temps/\w.tv=w0.tv/\w.tsp=w0.tsp/\w.es=w0.es/\w.cl=w0.cl:=fun {j w} hj=>by
  rcases hget hj with⟨rfl,rfl⟩|⟨_,h2⟩
  ·exact⟨u,hu,by rw[hu'],by rw[hu'],by rw[hu'],by rw[hu'],by rw[hu'],by rw[hu'],by rw[hu'],by rw[hu'],by rw[hu']⟩
  ·exact⟨w,h2,rfl,rfl,rfl,rfl,rfl,rfl,rfl,rfl,rfl⟩
 have hback:∀{j:Nat} {w:UC},U[j]? =some w->∃w',(U.set i u')[j]? =some w'/\w'.q=w.q:=fun {j w} hj=>by
  have:=hgq j;rw[hj]at this;cases e:(U.set i u')[j]? with
  |none=>rw[e]at this;cases this
  |some w'=>rw[e]at this;exact⟨w',rfl,Qn this⟩
 refine⟨h.wf,by rw[Vt];exact h.ul,by rw[slV_len];exact h.vl,by rw[hmq];exact h.inj,fun j w hj=>?_,fun j w hj=>?_,fun j w hj=>?_,fun j w hj=>?_,fun v x y hx hy=>?_,fun j w hj hl=>?_,fun j w hj hl=>?_⟩
 ·obtain⟨w0,h1,_,h3,h4,_⟩:=hfw hj;rw[h3,h4];exact h.ar j w0 h1
 ·obtain⟨w0,h1,_,_,_,h5,_⟩:=hfw hj;rw[h5,hgq];exact h.ou j w0 h1
 ·obtain⟨w0,h1,_,_,_,_,h6,h7,h8,_⟩:=hfw hj;rw[h6,h7,h8];refine⟨(h.tm j w0 h1).1.trans (Vx fun v hv=>?_),(h.tm j w0 h1).2⟩;have hl:=temps_lt hv;have e:=congrArg (fun l=>l[v]?) (slV_q st V (st.temps i));simp only[Ve]at e;obtain⟨y,hy⟩:∃y,V[v]? =some y:=⟨_,Zg (by rw[h.vl];exact hl)⟩;rw[V5,V5,hy,slV_get hy];rfl
 ·obtain⟨w0,h1,_,_,_,_,_,_,_,h9,h10⟩:=hfw hj;rw[h9,h10];obtain⟨m,k1,k2,k3,k4⟩:=h.nd j w0 h1;refine⟨m,k1,k2,fun p hp=>?_,fun a z b ha=>?_⟩
  ·exact zDD
  ·obtain⟨z',k8,k9,_⟩:=hfw ha;rw[k9];exact k4 a z' b k8
 ·obtain⟨y0,k1,k2⟩:=slV_back hy;obtain⟨⟨z,h1,h2⟩,h3,h4,h5⟩:=h.vn v x y0 hx k1;obtain⟨z',k8,k9⟩:=hback h1;rw[k2];refine⟨⟨z',k8,h2.trans k9.symm⟩,h3,h4,fun ho hl=>?_⟩;simp only;have hvl:=(Vd.1 hx).1;by_cases e:x.unit=i
  ·have hm:v∈st.temps i:=by
    unfold SSt.temps;rw[Q7];refine⟨QB.2 hvl,?_⟩;simp only[vF,decide_eq_true_eq];rw[unitOf_at hx,ownOf_at hx];exact⟨e,ho⟩
   rw[if_pos hm];obtain⟨j,hj⟩:=Vg hm;have:=slot_at hj;omega
  ·have hm:v∉st.temps i:=fun hm=>e (by
    unfold SSt.temps at hm;have:=(Q7.1 hm).2;simp only[vF,decide_eq_true_eq]at this;rw[unitOf_at hx]at this;exact this.1)
   rw[if_neg hm];exact h5 ho Zo
 ·rcases hget hj with⟨rfl,_⟩|⟨_,h2⟩
  ·omega
  ·exact h.nl j w h2 Zo
 ·rw[hqq];rcases hget hj with⟨rfl,rfl⟩|⟨hne,h2⟩
  ·rw[hu'];exact⟨rfl,rfl,rfl,hc⟩
  ·exact h.la j w h2 Zo
end Go.V
namespace Go.V
open Go
inductive PRd (T:List kC):PN->List Value->Prop
 |mk {k:Nat} {nm:ByteArray} {lit:Lt} {refs:List z7} {unit:Int} {sup:Bool} {kids:List PN} {lv:List Value} {rv:Value} {a:Option Addr} {c bk o:Nat} {us:Nat->List Value} (hl:LtRd T lit lv) (hr:jm T rv refs)
   (ha:0 < kids.length->a=some ⟨bk,o,none⟩) (hm:∀i,i < kids.length->∀y∈kA bk (o+i*11) (us i),y∈T) (hs:∀i x,kids[i]? =some x->PRd T x (us i)):
   PRd T (.mk k nm lit refs unit sup kids) ([cv k,.string nm]++lv++[rv,.int .i64 unit,.bool sup,.slice a kids.length c])
theorem PRd.len {T:List kC}{x:PN}{vs:List Value}(h:PRd T x vs):vs.length=11:=by
 cases h with
 |mk hl=>simp[hl.len]
theorem PRd.more {T T':List kC}(hs:∀x∈T,x∈T'){x:PN}{vs:List Value}(h:PRd T x vs):PRd T' x vs:=by
 induction h with
 |mk hl hr ha hm hk ih=>exact .mk (hl.more hs) (hr.more hs) ha (fun i hi y hy=>hs _ (hm i hi y hy)) ih
structure PRows (T:List kC)(l:List PN)(rows:List (List Value)):Prop where
 len:rows.length=l.length
 w:∀r∈rows,r.length=11
 rd:∀(i:Nat) x r,l[i]? =some x->rows[i]? =some r->PRd T x r
theorem PRows.nil(T:List kC):PRows T [] []:=⟨rfl,Zs,fun i x r h=>by simp at h⟩
theorem PRows.more {T T':List kC}{l:List PN}{rows:List (List Value)}(h:PRows T l rows)(hs:∀x∈T,x∈T'):PRows T' l rows:=⟨h.len,h.w,fun i x r hx hr=>(h.rd i x r hx hr).more hs⟩
theorem PRows.snoc {T:List kC}{l:List PN}{rows:List (List Value)}{x:PN}{r:List Value}(h:PRows T l rows)(hx:PRd T x r):PRows T (l++[x]) (rows++[r]):=by
 refine⟨by simp[h.len],fun r' hr'=>?_,fun i y s hy hs=>?_⟩
 ·exact zE0
 ·exact zAO
def PsRd(T:List kC)(v:Value)(l:List PN):Prop:=∃(a:Option Addr) (c bk o:Nat) (us:Nat->List Value),v=.slice a l.length c/\(0 < l.length->a=some ⟨bk,o,none⟩)/\(∀i,i < l.length->∀y∈kA bk (o+i*11) (us i),y∈T)/\∀i x,l[i]? =some x->PRd T x (us i)
theorem PsRd.nil(T:List kC):PsRd T (.slice none 0 0) []:=⟨none,0,0,0,fun _=>[],rfl,fun h=>absurd h Zs,fun i hi=>absurd hi Zs,fun i x h=>by simp at h⟩
theorem PsRd.more {T T':List kC}{v:Value}{l:List PN}(h:PsRd T v l)(hs:∀x∈T,x∈T'):PsRd T' v l:=by
 obtain⟨a,c,bk,o,us,h1,h2,h3,h4⟩:=h;exact⟨a,c,bk,o,us,h1,h2,fun i hi y hy=>hs _ (h3 i hi y hy),fun i x hx=>(h4 i x hx).more hs⟩
theorem ps_made {B:List kC}{l:List PN}{sv:Value}{rows:List (List Value)}{sp:List Value}(hsl:jC 11 sv l.length rows.flatten sp)(hr:PRows B l rows):PsRd (slA sv rows.flatten sp++B) sv l:=by
 have hget:∀i,i < l.length->rows[i]? =some (rows.getD i []):=fun i hi=>by
  exact zDJ
 have hsub:∀y∈B,y∈slA sv rows.flatten sp++B:=fun y hy=>Q3 _ hy
 generalize hm:l.length=m at hsl;generalize hxs:rows.flatten=xs at hsl|-;cases hsl with
 |@mk bk o _ c _ _ h1 h2 h3=>
  rw[<- hm];subst hxs;refine⟨_,c,bk,o,fun i=>rows.getD i [],rfl,fun _=>rfl,fun i hi y hy=>?_,fun i x hx=>?_⟩
  ·exact zCS
  ·have hi:=(Vd.1 hx).1;exact(hr.rd i x _ hx (hget i hi)).more hsub
 |nil=>
  have h0:l=[]:=vj hm;subst h0;exact PsRd.nil _
theorem p_made {T:List kC}{k:Nat}{nm:ByteArray}{lit:Lt}{refs:List z7}{unit:Int}{sup:Bool}{kids:List PN}{lv:List Value}{rv sv:Value}(hlt:LtRd T lit lv)(hrv:jm T rv refs)(hk:PsRd T sv kids):
 PRd T (.mk k nm lit refs unit sup kids) ([cv k,.string nm]++lv++[rv,.int .i64 unit,.bool sup,sv]):=by
 obtain⟨a,c,bk,o,us,rfl,h2,h3,h4⟩:=hk;exact .mk (bk:=bk) (o:=o) (us:=us) hlt hrv h2 h3 h4
theorem p_open {T:List kC}{x:PN}{ws:List Value}(h:PRd T x ws):∃(e1:Nat) (e2:Int) (e3:Nat) (e4:ByteArray) (e5:Option Addr) (e7:Nat) (r1:Option Addr) (r3:Nat) (k1:Option Addr) (k3 bk o:Nat) (us:Nat->List Value),
 ws=[.int .u8 x.kind,.string x.name,.int .u8 e1,.int .i64 e2,.int .u64 e3,.string e4,.slice e5 x.lit.items.length e7,.slice r1 x.refs.length r3,.int .i64 x.unit,.bool x.super,.slice k1 x.kids.length k3]/\
 LtRd T x.lit [.int .u8 e1,.int .i64 e2,.int .u64 e3,.string e4,.slice e5 x.lit.items.length e7]/\jm T (.slice r1 x.refs.length r3) x.refs/\(0 < x.kids.length->k1=some ⟨bk,o,none⟩)/\(∀i,i < x.kids.length->∀y∈kA bk (o+i*11) (us i),y∈T)/\∀i y,x.kids[i]? =some y->PRd T y (us i):=by
 cases h with
 |@mk k nm lit refs unit sup kids lv rv a c bk o us hl hr ha hm hs=>
  have hr':=hr;obtain⟨r1,r3,rfl,_⟩:=hr;have hl':=hl;cases hl with
  |mk wf2 ha2 hm2 hr2=>exact⟨_,_,_,_,_,_,r1,r3,a,c,bk,o,us,rfl,hl',hr',ha,hm,hs⟩
theorem refs_made {B:List kC}{sv:Value}{rs:List z7}{sp:List Value}(hsl:jC 4 sv rs.length (rs.flatMap jG) sp):jm (slA sv (rs.flatMap jG) sp++B) sv rs:=by
 generalize hm:rs.length=m at hsl;generalize hxs:rs.flatMap jG=xs at hsl|-;cases hsl with
 |@mk bk o _ c _ _ h1 h2 h3=>
  rw[<- hm];subst hxs;refine⟨_,c,rfl,fun i r hi=>⟨bk,o,rfl,fun y hy=>?_⟩⟩;refine Zw _ ?_;simp only[slA,ku];refine Zw _ ?_;rw[List.flatMap_def];exact cells_row (rows:=rs.map jG) (fun r hr=>by obtain⟨z,_,rfl⟩:=Q9.1 hr;rfl) (by rw[Ve,hi];rfl) y hy
 |nil=>
  have h0:rs=[]:=vj hm;subst h0;exact jm.nil _
mutual
def PN.w:PN->Nat
 |.mk _ _ _ rs _ _ kids=>1+rs.length+PN.ws kids
def PN.ws:List PN->Nat
 |[]=>0
 |x::r=>PN.w x+PN.ws r
end
theorem PN.w_mem {x:PN}:∀{l:List PN},x∈l->PN.w x<=PN.ws l:=by
 intro l
 induction l with
 |nil=>intro h;cases h
 |cons y r ih=>
  intro h;simp only[PN.ws];exact zBX
theorem PN.w_pos(x:PN):0 < PN.w x:=by cases x;simp only[PN.w];omega
theorem PN.len_ws:∀l:List PN,l.length<=PN.ws l:=by
 intro l
 induction l with
 |nil=>exact QW _
 |cons x r ih=>have:=PN.w_pos x;simp only[PN.ws,Vl];omega
theorem ws_supers(b:Bool)(l:List PN):PN.ws (wR b l)=PN.ws l:=by
 have key:∀r:List PN,PN.ws (r.map (PN.setSuper b))=PN.ws r:=by
  intro r
  induction r with
  |nil=>rfl
  |cons x r ih=>cases x;simp only[Vy,PN.ws,ih];rfl
 cases l with
 |nil=>rfl
 |cons x r=>simp only[wR,PN.ws,key]
structure Bw (st:SSt)(M:Nat):Prop where
 bd:∀l∈st.bodies,PN.ws l<=2*M
 ar:∀a∈st.args,a<=M
theorem Bw.of {a b:SSt}{M:Nat}(h:Bw a M)(e:b.bodies=a.bodies)(e2:b.args=a.args):Bw b M:=⟨fun l hl=>h.bd l (by rw[<- e];exact hl),by rw[e2];exact h.ar⟩
theorem ref_args(F G:List ByteArray)(st:SSt)(env:List Nat)(nm:ByteArray)(u:Nat)(p:Int)(put:Bool):(jv F G st env nm u p put).2.args=st.args:=by
 have hw:∀(e:Nat),(st.wrong e p).args=st.args:=fun e=>by unfold SSt.wrong;split <;> rfl
 unfold jv;exact zD0
theorem ref_bodies(F G:List ByteArray)(st:SSt)(env:List Nat)(nm:ByteArray)(u:Nat)(p:Int)(put:Bool):(jv F G st env nm u p put).2.bodies=st.bodies:=by
 have hw:∀(e:Nat),(st.wrong e p).bodies=st.bodies:=fun e=>by unfold SSt.wrong;split <;> rfl
 unfold jv;exact zD0
theorem w_part(F G:List ByteArray)(M:Nat):∀(N:Nat) (x:Nd),x.size<=N->cntN x<=M->∀st env u,Bw st M->
 (Bw (jD F G x st env u).2 M/\PN.w (jD F G x st env u).1<=2*cntN x)/\(Bw (inlS F G x st env u).2 M/\PN.w (inlS F G x st env u).1+x.args.length<=2*cntN x):=by
 intro N
 induction N with
 |zero=>intro x hx;have:=x.size_pos;omega
 |succ N ih=>
  have hall:∀l:List Nd,Nd.sizes l<=N->jK l<=M->∀st env u,Bw st M->Bw (kR F G l st env u).2 M/\PN.ws (kR F G l st env u).1<=2*jK l:=by
   intro l
   induction l with
   |nil=>intro _ _ st env u h;rw[kR];exact⟨h,QW _⟩
   |cons x r ihl=>
    intro hl hM st env u h;simp only[Nd.sizes]at hl;simp only[jK]at hM;rw[wE];obtain⟨h1,h2⟩:=(ih x Zo Zo st env u h).1;obtain⟨h3,h4⟩:=ihl Zo Zo _ env u h1;refine⟨h3,?_⟩;simp only[PN.ws,jK];omega
  have hspec:∀(s:ByteArray) (l:List Nd),Nd.sizes l<=N->jK l<=M->∀i st env u,Bw st M->(∀k y,l[k]? =some y->jM s=5->inlK s (i+k)=true->y.args.length=1)->
   Bw (ky F G s l i st env u).2.2 M/\PN.ws (ky F G s l i st env u).1+(ky F G s l i st env u).2.1.length<=2*jK l:=by
   intro s l
   induction l with
   |nil=>intro _ _ i st env u h _;rw[ky];exact⟨h,QW _⟩
   |cons x r ihl=>
    intro hl hM i st env u h ha;simp only[Nd.sizes]at hl;simp only[jK]at hM;obtain⟨⟨h1,h2⟩,h3,h4⟩:=ih x Zo Zo st env u h;have har:∀k y,r[k]? =some y->jM s=5->inlK s (i+1+k)=true->y.args.length=1:=fun k y hy e1 e2=>ha (k+1) y (by simpa using hy) e1 (by rw[show i+(k+1)=i+1+k from by omega];exact e2)
    cases hi:inlK s i with
    |true=>
     rw[specS_in _ _ _ _ _ _ _ _ _ hi];obtain⟨k1,k2⟩:=ihl Zo Zo (i+1) _ env u h3 har;refine⟨k1,?_⟩;simp only[PN.ws,jK];split
     ·rename_i e5;have:=ha 0 x rfl e5 hi;rw[Vl];omega
     ·omega
    |false=>
     rw[specS_out _ _ _ _ _ _ _ _ _ hi];obtain⟨k1,k2⟩:=ihl Zo Zo (i+1) _ env u h1 har;refine⟨k1,?_⟩;simp only[PN.ws,jK];omega
  intro x hx hM st env u h;cases x with
  |mk k s lit args temps kids p=>
  simp only[Nd.size]at hx;simp only[cntN,cntR]at hM;have hk:Nd.sizes kids<=N:=by omega
  have hkM:jK kids<=M:=by omega
  simp only[cntN,cntR];refine⟨?_,?_⟩
  ·cases hin:inlP k s kids with
   |true=>
    rw[partS_inl _ _ _ _ _ _ _ _ _ _ _ _ hin];have hf:fitK (jM s) kids=true:=by
     unfold inlP at hin;simp only[vF]at hin;exact hin.2
    obtain⟨k1,k2⟩:=hspec s kids hk hkM 0 st env u h (fun j y hy e5 hi=>by
     rw[e5]at hf;obtain⟨hl,b,hb,_,hb2⟩:=fit5 hf;have:j=2:=by
      unfold inlK at hi;rw[e5]at hi;simp only[decide_eq_true_eq]at hi;omega
     subst this;rw[hb]at hy;obtain rfl:=Qn hy;exact hb2)
    refine⟨k1,?_⟩;simp only[PN.w];omega
   |false=>
    obtain⟨a1,a2⟩:=hall kids hk hkM st env u h;by_cases h1:k=1
    ·rw[partS_1 _ _ _ _ _ _ _ _ _ _ _ _ hin h1];exact⟨h,by simp only[PN.w,PN.ws,Vr];omega⟩
    by_cases h2:k=2
    ·rw[partS_2 _ _ _ _ _ _ _ _ _ _ _ _ hin h2];exact⟨h.of (ref_bodies _ _ _ _ _ _ _ _) (ref_args _ _ _ _ _ _ _ _),by simp only[PN.w,PN.ws,Vl,Vr];omega⟩
    by_cases h3:k=3
    ·rw[partS_3 _ _ _ _ _ _ _ _ _ _ _ _ hin h3];obtain⟨k3,k4⟩:=hall kids hk hkM (jv F G st env s u p true).2 env u (h.of (ref_bodies _ _ _ _ _ _ _ _) (ref_args _ _ _ _ _ _ _ _));exact⟨k3,by simp only[PN.w,Vl,Vr];omega⟩
    by_cases h7:k=7
    ·rw[partS_7 _ _ _ _ _ _ _ _ _ _ _ _ hin h7];refine⟨?_,by simp only[PN.w,PN.ws,Vr];omega⟩;simp only;rw[we];obtain⟨f1,f2,f3,f4⟩:=jR st.outer.length true true p args 0 (st.addU (u:Int) args.length) env;obtain⟨f5,f6,f7,f8⟩:=jR st.outer.length false true p temps 0 (kN st.outer.length true true p args 0 (st.addU (u:Int) args.length) env).1 (kN st.outer.length true true p args 0 (st.addU (u:Int) args.length) env).2;have hB:Bw (inS args temps p st env (u:Int)).1 M:=⟨fun l hl=>by
      have hl:l∈(kN st.outer.length false true p temps 0 (kN st.outer.length true true p args 0 (st.addU (u:Int) args.length) env).1 (kN st.outer.length true true p args 0 (st.addU (u:Int) args.length) env).2).1.bodies:=hl;rw[f7,f3]at hl;have hl:l∈st.bodies++[[]]:=hl;rcases Q1.1 hl with hl|hl
      ·exact h.bd l hl
      ·rw[QC.1 hl];exact Qf _,fun a ha=>by
      have ha:a∈(kN st.outer.length false true p temps 0 (kN st.outer.length true true p args 0 (st.addU (u:Int) args.length) env).1 (kN st.outer.length true true p args 0 (st.addU (u:Int) args.length) env).2).1.args:=ha;rw[f6,f2]at ha;have ha:a∈st.args++[args.length]:=ha;rcases Q1.1 ha with ha|ha
      ·exact h.ar a ha
      ·rw[QC.1 ha];omega⟩
     obtain⟨d5,d6⟩:=hall kids hk hkM (inS args temps p st env (u:Int)).1 (inS args temps p st env (u:Int)).2 st.outer.length hB;refine⟨fun l hl=>?_,d5.ar⟩;rcases List.mem_or_eq_of_mem_set hl with hl|rfl
     ·exact d5.bd l hl
     ·omega
    by_cases h8:k=8
    ·rw[partS_8 _ _ _ _ _ _ _ _ _ _ _ _ hin h8];exact zD2
    by_cases h9:k=9
    ·rw[partS_9 _ _ _ _ _ _ _ _ _ _ _ _ hin h9];exact zD2
    by_cases h6:k=6
    ·rw[partS_6 _ _ _ _ _ _ _ _ _ _ _ _ hin h6];exact zD2
    by_cases h5:k=5
    ·rw[partS_5 _ _ _ _ _ _ _ _ _ _ _ _ hin h5];exact⟨a1,by simp only[PN.w,Vr,ws_supers];omega⟩
    cases hs:jS kids with
    |true=>
     rw[partS_4s _ _ _ _ _ _ _ _ _ _ _ _ hin ⟨h1,h2,h3,h5,h6,h7,h8,h9⟩ hs];have ht:Nd.sizes kids.tail<=N/\jK kids.tail<=jK kids:=by
      cases kids with
      |nil=>exact⟨hk,QW _⟩
      |cons x r=>simp only[Nd.sizes]at hk;simp only[List.tail_cons,jK];exact⟨Zo,Zo⟩
     obtain⟨k1,k2⟩:=hall kids.tail ht.1 Zo st env u h;exact⟨k1,by simp only[PN.w,Vr];omega⟩
    |false=>
     rw[partS_4 _ _ _ _ _ _ _ _ _ _ _ _ hin ⟨h1,h2,h3,h5,h6,h7,h8,h9⟩ hs];exact zD2
  ·rw[inlS_eq];obtain⟨f1,f2,f3,f4⟩:=jR u true false p args 0 st env;obtain⟨f5,f6,f7,f8⟩:=jR u false false p temps 0 (kN u true false p args 0 st env).1 (kN u true false p args 0 st env).2;obtain⟨d5,d6⟩:=hall kids hk hkM _ (kN u false false p temps 0 (kN u true false p args 0 st env).1 (kN u true false p args 0 st env).2).2 u (h.of (f7.trans f3) (f6.trans f2));refine⟨d5,?_⟩;simp only[PN.w,Vp,List.length_range',Nd.args];omega
end Go.V

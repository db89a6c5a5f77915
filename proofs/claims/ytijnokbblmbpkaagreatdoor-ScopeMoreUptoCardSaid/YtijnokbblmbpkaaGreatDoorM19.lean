/-
  Names that a node leaves open; what more fields and globals change.
-/
import Derived.Test.YtijnokbblmbpkaaGreatDoorM18
import Derived.Test.YtijnokbblmbpkaaGreatDoorM6
import Derived.Test.YtijnokbblmbpkaaGreatDoorM12
import Derived.Test.YtijnokbblmbpkaaGreatDoorM15
import Derived.Test.YtijnokbblmbpkaaGreatDoorM16
import Derived.Test.YtijnokbblmbpkaaGreatDoorM7
import Derived.Test.YtijnokbblmbpkaaGreatDoorM11
set_option linter.all false
namespace Go.V
open Go
instance memDec (s:ByteArray)(l:List ByteArray):Decidable (s∈l):=decidable_of_iff (l.any (fun t=>decide (t=s))=true) (by
 rw[vh];exact⟨fun⟨t,h1,h2⟩=>of_decide_eq_true h2 ▸ h1,fun h=>⟨s,h,Zt rfl⟩⟩)
mutual
def lZ(seen out:List ByteArray):Nd->List ByteArray
 |.mk k s _ args ab kids _=>jz (if k=7 then seen++args++ab else seen) (if(k=2∨k=3)/\wx s=0/\s∉seen/\s∉out then out++[s]else out) kids
def jz(seen out:List ByteArray):List Nd->List ByteArray
 |[]=>out
 |x::r=>jz seen (lZ seen out x) r
end
def kn(F G:List ByteArray)(s:ByteArray):Bool:=F.any (fun t=>decide (t=s))||G.any (fun t=>decide (t=s))
structure jr (st:ah)(env:List Nat)(seen:List ByteArray):Prop where
 lt:∀v∈env,v < st.vars.length
 iff:∀nm,(jw st.vars env nm).isSome=true↔nm∈seen
theorem cM {vs:List fS}{env:List Nat}{nm:ByteArray}:(jw vs env nm).isSome=true↔∃v∈env,(vs[v]?).map (·.name)=some nm:=by
 unfold jw;rw[List.find?_isSome];constructor
 ·rintro⟨v,h1,h2⟩
  exact⟨v,by simpa using h1,of_decide_eq_true h2⟩
 ·rintro⟨v,h1,h2⟩
  exact⟨v,by simpa using h1,Zt h2⟩
theorem jr.gr {a b:ah}{env:List Nat}{seen:List ByteArray}(h:jr a env seen)(g:a.vars <+:b.vars):jr b env seen:=by
 obtain⟨t,ht⟩:=g;refine⟨fun v hv=>?_,fun nm=>?_⟩
 ·have:=h.lt v hv;rw[<- ht,Vy];omega
 ·rw[<- h.iff nm,cM,cM];constructor
  ·rintro⟨v,h1,h2⟩
   rw[<- ht,Vj (h.lt v h1)]at h2;exact⟨v,h1,h2⟩
  ·rintro⟨v,h1,h2⟩
   rw[<- ht];exact⟨v,h1,by rw[Vj (h.lt v h1)];exact h2⟩
theorem jr.decl(unit:Nat)(arg own:Bool)(p:Int):∀(l:List ByteArray) (i:Nat) (st:ah) (env:List Nat) (seen:List ByteArray),jr st env seen->jr (kP unit arg own p l i st env).1 (kP unit arg own p l i st env).2 (seen++l)
 |[],_,st,env,seen,h=>by rw[vm];exact h
 |nm::r,i,st,env,seen,h=>by
  rw[kP,xA];obtain⟨s,hs⟩:∃s,s=(if(jw st.vars env nm).isSome=true then st.wrong 180 p else st):=⟨_,rfl⟩;have hv:s.vars=st.vars:=by
   rw[hs];split
   ·exact dh _ _ _
   ·rfl
  rw[<- hs];have xY:jr (s.bf ⟨nm,unit,arg,if(arg&&own)=true then i else -1⟩) (env++[st.vars.length]) (seen++[nm]):=by
   have hl:(s.bf ⟨nm,unit,arg,if(arg&&own)=true then i else -1⟩).vars=st.vars++[⟨nm,unit,arg,if(arg&&own)=true then i else -1⟩]:=by
    show s.vars++_=_;rw[hv]
   refine⟨fun v k=>?_,fun n=>?_⟩
   ·rw[hl,Vy,Q8];rcases QF.1 k with k|k
    ·have:=h.lt v k;omega
    ·rw[QR.1 k];omega
   ·rw[cM,hl,QF,<- h.iff n,cM,QR];constructor
    ·rintro⟨v,h1,h2⟩
     rcases QF.1 h1 with k|k
     ·rw[Vj (h.lt v k)]at h2;exact .inl ⟨v,k,h2⟩
     ·rw[QR.1 k,Vl (Qn _),Qt]at h2;exact .inr (by simpa using h2.symm)
    ·rintro(⟨v,h1,h2⟩|rfl)
     ·exact⟨v,Zw _ h1,by rw[Vj (h.lt v h1)];exact h2⟩
     ·exact⟨st.vars.length,Zs,Zs⟩
  have:=jr.decl unit arg own p r (i+1) _ _ _ xY
  rwa [vj,List.singleton_append]at this
mutual
theorem UU(seen:List ByteArray):∀(x:Nd) (out:List ByteArray),∀s∈out,s∈lZ seen out x
 |.mk k s lit args ab kids p,out,t,ht=>by
  rw[lZ];refine wX _ kids _ t ?_;split
  ·exact Zw _ ht
  ·exact ht
theorem wX(seen:List ByteArray):∀(l:List Nd) (out:List ByteArray),∀s∈out,s∈jz seen out l
 |[],_,_,ht=>ht
 |x::r,out,t,ht=>by
  rw[jz];exact wX seen r _ t (UU seen x out t ht)
end
def errW(e:Nat):Prop:=e=180∨e=181∨e=182
structure jl (F G:List ByteArray)(b:ah)(out bI:List ByteArray):Prop where
 ok:b.f=none->∀s∈bI,s∈out∨kn F G s=true
 bad:∀p,b.f=some (181,p)->∃s∈bI,kn F G s=false
 err:∀e p,b.f=some (e,p)->errW e
theorem jl.refl {F G:List ByteArray}{b:ah}{out:List ByteArray}(h:b.f=none):jl F G b out out:=⟨fun _ _ hs=>.inl hs,(fun p e=>by rw[h]at e;cases e),fun _ p e=>by rw[h]at e;cases e⟩
theorem jl.comp {F G:List ByteArray}{b c:ah}{out mid bI:List ByteArray}(h:jl F G b out mid)(k:b.f=none->jl F G c mid bI)(g:Gr b c)(hs:∀s∈mid,s∈bI):jl F G c out bI:=by
 cases e:b.f with
 |none=>
  have k:=k e;refine⟨fun hc s hm=>?_,k.bad,k.err⟩;rcases k.ok hc s hm with h1|h1
  ·exact h.ok e s h1
  ·exact .inr h1
 |some x=>
  have hc:=g.f x e;refine⟨fun hn=>(by rw[hc]at hn;cases hn),fun p hp=>?_,fun y p hp=>?_⟩
  ·rw[hc]at hp;obtain⟨s,h1,h2⟩:=h.bad p (by rw[e,hp]);exact⟨s,hs s h1,h2⟩
  ·rw[hc]at hp;exact h.err y p (by rw[e,hp])
theorem jl.of {F G:List ByteArray}{b c:ah}{out bI:List ByteArray}(h:jl F G b out bI)(e:c.f=b.f):jl F G c out bI:=⟨by rw[e];exact h.ok,by rw[e];exact h.bad,by rw[e];exact h.err⟩
theorem cY {F G:List ByteArray}(unit:Nat)(arg own:Bool)(p:Int):∀(l:List ByteArray) (i:Nat) (st:ah) (env:List Nat) (out:List ByteArray),st.f=none->jl F G (kP unit arg own p l i st env).1 out out
 |[],_,_,_,_,h=>jl.refl h
 |nm::r,i,st,env,out,h=>by
  rw[kP,xA];have h1:jl F G ((if(jw st.vars env nm).isSome=true then st.wrong 180 p else st).bf ⟨nm,unit,arg,if(arg&&own)=true then i else -1⟩) out out:=by
   split
   ·have hf:((st.wrong 180 p).bf ⟨nm,unit,arg,if(arg&&own)=true then i else -1⟩).f=some (180,p):=Lb h 180 p;exact⟨(fun e=>by rw[hf]at e;cases e),(fun q e=>by rw[hf]at e;cases e),fun e q k=>by rw[hf]at k;cases k;exact .inl rfl⟩
   ·exact jl.refl h
  exact h1.comp (fun hf=>cY unit arg own p r (i+1) _ _ out hf) (zf _ _ _ _ _ _ _ _) (fun _ hs=>hs)
theorem tk {l:List ByteArray}{s:ByteArray}:(l.findIdx? fun t=>decide (t=s)).isSome=l.any fun t=>decide (t=s):=by
 induction l with
 |nil=>rfl
 |cons x r ih=>
  rw[V9,vf];cases decide (x=s)with
  |true=>rfl
  |false=>simp only[vM,vL,if_false,<- ih,Option.isSome_map]
theorem G6 {F G:List ByteArray}{st:ah}{env:List Nat}{seen out:List ByteArray}(s:ByteArray)(u:Nat)(p:Int)(put:Bool)(h:st.f=none)(hs:jr st env seen):
 jl F G (wD F G st env s u p put).2 out (if wx s=0/\s∉seen/\s∉out then out++[s]else out):=by
 by_cases hk:wx s=0;rotate_left
 ·rw[qW hk,if_neg (by simp[hk])];exact jl.refl h
 cases hv:jw st.vars env s with
 |some v=>
  have aL:s∈seen:=(hs.iff s).1 (by rw[hv];rfl);rw[if_neg (fun k=>k.2.1 aL)];cases hp:(put&&((st.vars[v]?).map (·.arg)).getD false)with
  |false=>rw[Hk hk hv hp];exact jl.refl h
  |true=>
   have hf:=Hj (F:=F) (G:=G) (u:=u) (p:=p) hk hv hp h;exact⟨(fun e=>by rw[hf]at e;cases e),(fun q e=>by rw[hf]at e;cases e),fun e q k=>by rw[hf]at k;cases k;exact .inr (.inr rfl)⟩
 |none=>
  have aL:s∉seen:=fun k=>by
   have:=(hs.iff s).2 k;rw[hv]at this;cases this
  have bO:s∈(if wx s=0/\s∉seen/\s∉out then out++[s]else out):=by
   by_cases c:s∈out
   ·rw[if_neg (fun k=>k.2.2 c)];exact c
   ·rw[if_pos ⟨hk,aL,c⟩];simp
  have aP:kn F G s=true->st.f=none->∀t∈(if wx s=0/\s∉seen/\s∉out then out++[s]else out),t∈out∨kn F G t=true:=fun Uh _ t ht=>by
   split at ht
   ·rcases QF.1 ht with ht|ht
    ·exact .inl ht
    ·rw[QR.1 ht];exact .inr Uh
   ·exact .inl ht
  cases hi:F.findIdx? (fun t=>decide (t=s))with
  |some i=>
   rw[Ac hk hv hi];have Uh:kn F G s=true:=by
    unfold kn;rw[<- tk,hi];rfl
   exact⟨fun e=>aP Uh e,(fun q e=>by rw[h]at e;cases e),fun _ q e=>by rw[h]at e;cases e⟩
  |none=>
   have Uh:kn F G s=G.any fun t=>decide (t=s):=by
    unfold kn;rw[<- tk,hi];rfl
   cases hg:G.any (fun t=>decide (t=s))with
   |true=>
    rw[C3 hk hv hi hg];exact⟨fun e=>aP (Uh.trans hg) e,(fun q e=>by rw[h]at e;cases e),fun _ q e=>by rw[h]at e;cases e⟩
   |false=>
    have hf:=C4 (u:=u) (p:=p) (put:=put) hk hv hi hg h;exact⟨fun e=>(by rw[hf]at e;cases e),fun q _=>⟨s,bO,Uh.trans hg⟩,fun e q k=>by rw[hf]at k;cases k;exact .inr (.inl rfl)⟩
theorem Cw {s:ByteArray}{kids:List Nd}(hf:eA (jQ s) kids=true){i:Nat}{y:Nd}(hy:kids[i]? =some y)(hi:yM s i=true):y.kind=7:=by
 have hl:=(Vt.1 hy).1;rw[x8 hf hl]at hi;simp only[vF,decide_eq_true_eq]at hi;have hle:=uN s;generalize jQ s=n at hf hi hle;have hn:n=0∨n=5∨(n=1∨n=2∨n=3∨n=4):=by omega
 rcases hn with rfl|rfl|hn
 ·cases hf
 ·obtain⟨h1,b,h2,h3,_⟩:=OU hf;simp only[jD,iO]at hi;obtain rfl:i=2:=by omega
  rw[hy]at h2;rw[X3 h2];exact h3
 ·cases hp:jt y with
  |true=>exact(yY hp).1
  |false=>
   have:=Dz hn hi.1 hy hp;rw[hf]at this;cases this
theorem MI(F G:List ByteArray):∀(N:Nat) (x:Nd),x.size<=N->kN x≠none->∀st env u seen out,st.f=none->jr st env seen->
 jl F G (j9 F G x st env u).2 out (lZ seen out x)/\(x.kind=7->jl F G (zo F G x st env u).2 out (lZ seen out x)):=by
 intro N
 induction N with
 |zero=>intro x hx;have:=x.size_pos;omega
 |succ N ih=>
  have au:∀l:List Nd,Nd.aq l<=N->(∀y∈l,kN y≠none)->∀st env u seen out,st.f=none->jr st env seen->jl F G (kT F G l st env u).2 out (jz seen out l):=by
   intro l
   induction l with
   |nil=>intro _ _ st env u seen out h hs;rw[kT,jz];exact jl.refl h
   |cons x r oj=>
    intro hl hd st env u seen out h hs;simp only[Nd.aq]at hl;rw[je,jz];have g:=(wd F G N x Zo st env u).1;exact(ih x Zo (hd x Zs) st env u seen out h hs).1.comp (fun hf=>oj Zo (fun y hy=>hd y B9) _ env u seen _ hf (hs.gr g.vars)) (wV F G r _ env u) (wX seen r _)
  have iy:∀(s:ByteArray) (l:List Nd),Nd.aq l<=N->(∀y∈l,kN y≠none)->∀i,(∀k y,l[k]? =some y->yM s (i+k)=true->y.kind=7)->∀st env u seen out,st.f=none->jr st env seen->
   jl F G (kf F G s l i st env u).2.2 out (jz seen out l)/\Gr st (kf F G s l i st env u).2.2:=by
   intro s l
   induction l with
   |nil=>intro _ _ i _ st env u seen out h hs;rw[kf,jz];exact⟨jl.refl h,Gr.refl _⟩
   |cons x r oj=>
    intro hl hd i hkd st env u seen out h hs;simp only[Nd.aq]at hl;obtain⟨g1,g2⟩:=wd F G N x Zo st env u;obtain⟨h1,h2⟩:=ih x Zo (hd x Zs) st env u seen out h hs;have hkr:∀k y,r[k]? =some y->yM s (i+1+k)=true->y.kind=7:=fun k y hy e2=>hkd (k+1) y (by simpa using hy) (by rw[show i+(k+1)=i+1+k from by omega];exact e2)
    have DI:∀(l:List Nd) (i:Nat) (st:ah),Nd.aq l<=N->Gr st (kf F G s l i st env u).2.2:=by
     intro l
     induction l with
     |nil=>intro i st _;rw[kf];exact Gr.refl _
     |cons y q ihq=>
      intro i st hq;simp only[Nd.aq]at hq;obtain⟨k1,k2⟩:=wd F G N y Zo st env u;cases hi:yM s i with
      |true=>rw[zN _ _ _ _ _ _ _ _ _ hi];exact k2.trans (ihq _ _ Zo)
      |false=>rw[we _ _ _ _ _ _ _ _ _ hi];exact k1.trans (ihq _ _ Zo)
    rw[jz];cases hi:yM s i with
    |true=>
     rw[zN _ _ _ _ _ _ _ _ _ hi];have hg:=DI r (i+1) (zo F G x st env u).2 Zo;exact⟨(h2 (hkd 0 x rfl hi)).comp (fun hf=>(oj Zo (fun y hy=>hd y B9) (i+1) hkr _ env u seen _ hf (hs.gr g2.vars)).1) hg (wX seen r _),g2.trans hg⟩
    |false=>
     rw[we _ _ _ _ _ _ _ _ _ hi];have hg:=DI r (i+1) (j9 F G x st env u).2 Zo;exact⟨h1.comp (fun hf=>(oj Zo (fun y hy=>hd y B9) (i+1) hkr _ env u seen _ hf (hs.gr g1.vars)).1) hg (wX seen r _),g1.trans hg⟩
  intro x hx hd st env u seen out h hs;cases x with
  |mk k s lit args ab kids p=>
  have hi:=qQ hd;simp only[Nd.size]at hx;have hk:Nd.aq kids<=N:=by omega
  rw[lZ];refine⟨?_,fun h7=>?_⟩
  ·cases aL:fU k s kids with
   |true=>
    rw[zd _ _ _ _ _ _ _ _ _ _ _ _ aL];have I0:=aL;unfold fU at I0;simp only[vF,decide_eq_true_eq]at I0;rw[if_neg Zo,if_neg Zo];exact(iy s kids hk hi.cq 0 (fun j y hy e=>Cw I0.2 hy (by rwa [Qu]at e)) st env u seen out h hs).1
   |false=>
    by_cases h1:k=1
    ·rw[eF _ _ _ _ _ _ _ _ _ _ _ _ aL h1,if_neg Zo,if_neg Zo,hi.KS (.inl h1),jz];exact jl.refl h
    by_cases h2:k=2
    ·rw[eG _ _ _ _ _ _ _ _ _ _ _ _ aL h2,if_neg Zo,hi.KS (.inr h2),jz];have:=G6 (F:=F) (G:=G) (out:=out) s u p false h hs;simp only[h2,true_or,true_and];exact this
    by_cases h3:k=3
    ·rw[eH _ _ _ _ _ _ _ _ _ _ _ _ aL h3,if_neg Zo];have h4:=G6 (F:=F) (G:=G) (out:=out) s u p true h hs;simp only[h3,or_true,true_and];have g:=sn F G st env s u p true;exact h4.comp (fun hf=>au kids hk hi.cq _ env u seen _ hf (hs.gr g.vars)) (wV F G kids _ env u) (wX seen kids _)
    have dt:¬((k=2∨k=3)/\wx s=0/\s∉seen/\s∉out):=by omega
    rw[if_neg dt];by_cases h7:k=7
    ·rw[eL _ _ _ _ _ _ _ _ _ _ _ _ aL h7,if_pos h7];simp only;rw[wC];have Ks:=cY (F:=F) (G:=G) st.outer.length true true p args 0 (st.aF (u:Int) args.length) env out h;have hE:jr (st.aF (u:Int) args.length) env seen:=hs.gr (Qc _);have IP:=jr.decl st.outer.length true true p args 0 _ env seen hE;have IQ:=jr.decl st.outer.length false true p ab 0 _ _ _ IP;have Kt:jl F G (aW args ab p st env (u:Int)).1 out out:=Ks.comp (fun hf=>cY st.outer.length false true p ab 0 _ _ out hf) (zf _ _ _ _ _ _ _ _) (fun _ k=>k);exact(Kt.comp (fun hf=>au kids hk hi.cq (aW args ab p st env (u:Int)).1 (aW args ab p st env (u:Int)).2 st.outer.length _ out hf IQ) (wV F G kids _ _ _) (wX _ kids _)).of rfl
    rw[if_neg h7];have ha:=au kids hk hi.cq st env u seen out h hs;by_cases h8:k=8
    ·rw[eM _ _ _ _ _ _ _ _ _ _ _ _ aL h8];exact ha
    by_cases h9:k=9
    ·rw[eN _ _ _ _ _ _ _ _ _ _ _ _ aL h9];exact ha
    by_cases h6:k=6
    ·rw[eK _ _ _ _ _ _ _ _ _ _ _ _ aL h6];exact ha
    by_cases h5:k=5
    ·rw[eJ _ _ _ _ _ _ _ _ _ _ _ _ aL h5];exact ha
    cases xZ:jS kids with
    |true=>
     rw[yJ _ _ _ _ _ _ _ _ _ _ _ _ aL ⟨h1,h2,h3,h5,h6,h7,h8,h9⟩ xZ];cases ir:kids with
     |nil=>rw[ir]at xZ;cases xZ
     |cons y r=>
      rw[ir]at xZ hk hi;simp only[Nd.aq]at hk;have hy:jR y=true:=xZ;have hyd:=hi.cq y Zs;rw[jz];have e:lZ seen out y=out:=by
       cases y with
       |mk k' s' lit' args' temps' kids' p'=>
       unfold jR at hy;rw[vF,decide_eq_true_eq,decide_eq_true_eq]at hy;have hy:k'=2/\kB s'=[115,117,112,101,114]:=hy;have bQ:=qQ hyd;have sB:s'=nP:=lH.1 hy.2;rw[lZ,if_neg Zo,bQ.KS (.inr hy.1),if_neg (by rw[sB];exact fun k=>by have:=k.2.1;revert this;decide),jz]
      rw[e];exact au r Zo (fun z hz=>hi.cq z (by simp[hz])) st env u seen out h hs
    |false=>
     rw[eI _ _ _ _ _ _ _ _ _ _ _ _ aL ⟨h1,h2,h3,h5,h6,h7,h8,h9⟩ xZ];exact ha
  ·have h7:k=7:=h7;rw[dw,if_pos h7,if_neg Zo];have Ks:=cY (F:=F) (G:=G) u true false p args 0 st env out h;have IP:=jr.decl u true false p args 0 _ env seen hs;have IQ:=jr.decl u false false p ab 0 _ _ _ IP;have Kt:=Ks.comp (fun hf=>cY u false false p ab 0 _ (kP u true false p args 0 st env).2 out hf) (zf _ _ _ _ _ _ _ _) (fun _ k=>k);exact Kt.comp (fun hf=>au kids hk hi.cq _ _ u _ out hf IQ) (wV F G kids _ _ _) (wX _ kids _)
theorem PY {l:List ByteArray}{m s:ByteArray}(h:m≠s):(l++[m]).findIdx? (fun t=>decide (t=s))=l.findIdx? (fun t=>decide (t=s)):=by
 rw[List.findIdx?_append,V9,List.findIdx?_nil,Zf h];simp
theorem Og {l:List ByteArray}{m s:ByteArray}(h:m≠s):(l++[m]).any (fun t=>decide (t=s))=l.any (fun t=>decide (t=s)):=by
 rw[List.any_append,vf,List.any_nil,Zf h];simp
theorem GX(F G:List ByteArray)(m:ByteArray)(st:ah)(env:List Nat)(s:ByteArray)(u:Nat)(p:Int)(put:Bool)(h:wx s=0->jw st.vars env s=none->s≠m):
 wD (F++[m]) (G++[m]) st env s u p put=wD F G st env s u p put:=by
 unfold wD;by_cases hk:wx s=0
 ·have tx:¬wx s≠0:=fun k=>k hk
  rw[if_neg tx,if_neg tx];cases hv:jw st.vars env s with
  |some v=>rfl
  |none=>
   have bZ:=h hk hv;simp only;rw[PY (Ne.symm bZ),Og (Ne.symm bZ)]
 ·rw[if_pos hk,if_pos hk]
theorem My(F G:List ByteArray)(m:ByteArray):∀(N:Nat) (x:Nd),x.size<=N->kN x≠none->∀st env u seen out,jr st env seen->m∉lZ seen out x->
 j9 (F++[m]) (G++[m]) x st env u=j9 F G x st env u/\(x.kind=7->zo (F++[m]) (G++[m]) x st env u=zo F G x st env u):=by
 intro N
 induction N with
 |zero=>intro x hx;have:=x.size_pos;omega
 |succ N ih=>
  have au:∀l:List Nd,Nd.aq l<=N->(∀y∈l,kN y≠none)->∀st env u seen out,jr st env seen->m∉jz seen out l->kT (F++[m]) (G++[m]) l st env u=kT F G l st env u:=by
   intro l
   induction l with
   |nil=>intro _ _ st env u seen out _ _;rw[kT,kT]
   |cons x r oj=>
    intro hl hd st env u seen out hs hm;simp only[Nd.aq]at hl;rw[jz]at hm;have g:=(wd F G N x Zo st env u).1;rw[je,je,(ih x Zo (hd x Zs) st env u seen out hs (fun k=>hm (wX seen r _ _ k))).1,oj Zo (fun y hy=>hd y B9) _ env u seen _ (hs.gr g.vars) hm]
  have iy:∀(s:ByteArray) (l:List Nd),Nd.aq l<=N->(∀y∈l,kN y≠none)->∀i,(∀k y,l[k]? =some y->yM s (i+k)=true->y.kind=7)->∀st env u seen out,jr st env seen->m∉jz seen out l->kf (F++[m]) (G++[m]) s l i st env u=kf F G s l i st env u:=by
   intro s l
   induction l with
   |nil=>intro _ _ i _ st env u seen out _ _;rw[kf,kf]
   |cons x r oj=>
    intro hl hd i hkd st env u seen out hs hm;simp only[Nd.aq]at hl;rw[jz]at hm;obtain⟨g1,g2⟩:=wd F G N x Zo st env u;obtain⟨h1,h2⟩:=ih x Zo (hd x Zs) st env u seen out hs (fun k=>hm (wX seen r _ _ k));have hkr:∀k y,r[k]? =some y->yM s (i+1+k)=true->y.kind=7:=fun k y hy e2=>hkd (k+1) y (by simpa using hy) (by rw[show i+(k+1)=i+1+k from by omega];exact e2)
    cases hi:yM s i with
    |true=>
     rw[zN _ _ _ _ _ _ _ _ _ hi,zN _ _ _ _ _ _ _ _ _ hi,h2 (hkd 0 x rfl hi),oj Zo (fun y hy=>hd y B9) (i+1) hkr _ env u seen _ (hs.gr g2.vars) hm]
    |false=>
     rw[we _ _ _ _ _ _ _ _ _ hi,we _ _ _ _ _ _ _ _ _ hi,h1,oj Zo (fun y hy=>hd y B9) (i+1) hkr _ env u seen _ (hs.gr g1.vars) hm]
  intro x hx hd st env u seen out hs hm;cases x with
  |mk k s lit args ab kids p=>
  have hi:=qQ hd;simp only[Nd.size]at hx;have hk:Nd.aq kids<=N:=by omega
  rw[lZ]at hm;have iu:k=2∨k=3->wx s=0->jw st.vars env s=none->s≠m:=fun hk23 hr hv e=>by
   have aL:s∉seen:=fun k=>by
    have:=(hs.iff s).2 k;rw[hv]at this;cases this
   refine hm (wX _ kids _ m ?_);by_cases c:s∈out
   ·rw[if_neg (fun k=>k.2.2.2 c),<- e];exact c
   ·rw[if_pos ⟨hk23,hr,aL,c⟩,e];simp
  refine⟨?_,fun h7=>?_⟩
  ·cases aL:fU k s kids with
   |true=>
    have I0:=aL;unfold fU at I0;simp only[vF,decide_eq_true_eq]at I0;rw[if_neg Zo,if_neg Zo]at hm;rw[zd _ _ _ _ _ _ _ _ _ _ _ _ aL,zd _ _ _ _ _ _ _ _ _ _ _ _ aL,iy s kids hk hi.cq 0 (fun j y hy e=>Cw I0.2 hy (by rwa [Qu]at e)) st env u seen out hs hm]
   |false=>
    by_cases h1:k=1
    ·rw[eF _ _ _ _ _ _ _ _ _ _ _ _ aL h1,eF _ _ _ _ _ _ _ _ _ _ _ _ aL h1]
    by_cases h2:k=2
    ·rw[eG _ _ _ _ _ _ _ _ _ _ _ _ aL h2,eG _ _ _ _ _ _ _ _ _ _ _ _ aL h2,GX F G m st env s u p false (iu (.inl h2))]
    by_cases h3:k=3
    ·rw[if_neg Zo]at hm;have g:=sn F G st env s u p true;rw[eH _ _ _ _ _ _ _ _ _ _ _ _ aL h3,eH _ _ _ _ _ _ _ _ _ _ _ _ aL h3,GX F G m st env s u p true (iu (.inr h3)),au kids hk hi.cq _ env u seen _ (hs.gr g.vars) hm]
    have dt:¬((k=2∨k=3)/\wx s=0/\s∉seen/\s∉out):=by omega
    rw[if_neg dt]at hm;by_cases h7:k=7
    ·rw[if_pos h7]at hm;rw[eL _ _ _ _ _ _ _ _ _ _ _ _ aL h7,eL _ _ _ _ _ _ _ _ _ _ _ _ aL h7,wC,wC];have hE:jr (st.aF (u:Int) args.length) env seen:=hs.gr (Qc _);have IP:=jr.decl st.outer.length true true p args 0 _ env seen hE;have IQ:jr (aW args ab p st env (u:Int)).1 (aW args ab p st env (u:Int)).2 (seen++args++ab):=jr.decl st.outer.length false true p ab 0 _ _ _ IP;rw[au kids hk hi.cq _ _ st.outer.length _ out IQ hm]
    rw[if_neg h7]at hm;have ha:=au kids hk hi.cq st env u seen out hs hm;by_cases h8:k=8
    ·rw[eM _ _ _ _ _ _ _ _ _ _ _ _ aL h8,eM _ _ _ _ _ _ _ _ _ _ _ _ aL h8,ha]
    by_cases h9:k=9
    ·rw[eN _ _ _ _ _ _ _ _ _ _ _ _ aL h9,eN _ _ _ _ _ _ _ _ _ _ _ _ aL h9,ha]
    by_cases h6:k=6
    ·rw[eK _ _ _ _ _ _ _ _ _ _ _ _ aL h6,eK _ _ _ _ _ _ _ _ _ _ _ _ aL h6,ha]
    by_cases h5:k=5
    ·rw[eJ _ _ _ _ _ _ _ _ _ _ _ _ aL h5,eJ _ _ _ _ _ _ _ _ _ _ _ _ aL h5,ha]
    have AX:k≠1/\k≠2/\k≠3/\k≠5/\k≠6/\k≠7/\k≠8/\k≠9:=⟨h1,h2,h3,h5,h6,h7,h8,h9⟩;cases xZ:jS kids with
    |true=>
     rw[yJ _ _ _ _ _ _ _ _ _ _ _ _ aL AX xZ,yJ _ _ _ _ _ _ _ _ _ _ _ _ aL AX xZ];cases ir:kids with
     |nil=>rw[ir]at xZ;cases xZ
     |cons y r=>
      rw[ir]at hk hi hm;simp only[Nd.aq]at hk;rw[jz]at hm;simp only[List.tail_cons];rw[au r Zo (fun z hz=>hi.cq z (by simp[hz])) st env u seen _ hs hm]
    |false=>
     rw[eI _ _ _ _ _ _ _ _ _ _ _ _ aL AX xZ,eI _ _ _ _ _ _ _ _ _ _ _ _ aL AX xZ,ha]
  ·have h7:k=7:=h7;rw[if_pos h7,if_neg Zo]at hm;have IP:=jr.decl u true false p args 0 _ env seen hs;have IQ:=jr.decl u false false p ab 0 _ _ _ IP;rw[dw,dw,au kids hk hi.cq _ _ u _ out IQ hm]
section
variable (st:ah)
end
theorem Cx {w n:Nat}{v:Value}{xs sp:List Value}(h:jA w v n xs sp)(hn:0 < n):∃b o c,v=.slice (some ⟨b,o,none⟩) n c/\n<=c/\∀ys zs,aj v ys zs=kA b o (ys++zs):=by
 cases h with
 |@mk b o _ c _ _ h1 h2 h3=>exact⟨b,o,c,rfl,h3,fun _ _=>rfl⟩
 |nil=>omega
def wu(b:Bool)(rows:List (List Value))(j:Nat):List (List Value):=rows.mapIdx fun i r=>if 1<=i/\i<=j then r.set 9 (.bool b)else r
theorem zP {b:Bool}{rows:List (List Value)}{j i:Nat}{r:List Value}(h:rows[i]? =some r):(wu b rows j)[i]? =some (if 1<=i/\i<=j then r.set 9 (.bool b)else r):=by
 unfold wu;rw[List.getElem?_mapIdx,h];rfl
theorem wT(b:Bool)(rows:List (List Value))(j:Nat):(wu b rows j).length=rows.length:=by unfold wu;simp
theorem M0(b:Bool)(rows:List (List Value)):wu b rows 0=rows:=by
 apply V0;intro i;cases h:rows[i]? with
 |none=>
  rw[Vr]at h|-;rw[wT];exact h
 |some r=>rw[zP h,if_neg Zo]
theorem iF {b:Bool}{rows:List (List Value)}{j w:Nat}(h:∀r∈rows,r.length=w):∀r∈wu b rows j,r.length=w:=by
 intro r hr;obtain⟨i,hi⟩:=Vv hr;cases h0:rows[i]? with
 |none=>
  rw[Vr]at h0;have:=(Vt.1 hi).1;rw[wT]at this;omega
 |some r0=>
  rw[zP h0]at hi;have:=h r0 (Zv h0);rw[<- X3 hi];split
  ·rw[Q7];exact this
  ·exact this
theorem Ew {b:Bool}{rows:List (List Value)}{j:Nat}{r:List Value}(h:rows[j+1]? =some r):(wu b rows j).set (j+1) (r.set 9 (.bool b))=wu b rows (j+1):=by
 apply V0;intro i;rw[Vw];by_cases e:j+1=i
 ·subst e;rw[if_pos rfl,if_pos (by rw[wT];exact(Vt.1 h).1),zP h,if_pos Zo]
 ·rw[if_neg e];cases h0:rows[i]? with
  |none=>
   have key:∀m,(wu b rows m)[i]? =none:=fun m=>by
    rw[Vr]at h0|-;rw[wT];exact h0
   rw[key,key]
  |some r0=>
   rw[zP h0,zP h0];by_cases c:1<=i/\i<=j
   ·rw[if_pos c,if_pos Zo]
   ·rw[if_neg c,if_neg Zo]
theorem OV {w:Nat}:∀{rows:List (List Value)},(∀r∈rows,r.length=w)->∀{j c:Nat} {r:List Value} {u:Value},rows[j]? =some r->c < w->rows.flatten.set (j*w+c) u=(rows.set j (r.set c u)).flatten:=by
 intro rows
 induction rows with
 |nil=>intro _ j c r u h;simp at h
 |cons x l ih=>
  intro hw j c r u hj hc;have hx:=hw x Zs;cases j with
  |zero=>
   obtain rfl:x=r:=by simpa using hj
   rw[Vd,Qw,Qu,List.set_append_left _ _ Zo];rfl
  |succ j=>
   have h2:=ih (fun r hr=>hw r (by simp[hr])) (j:=j) (c:=c) (r:=r) (u:=u) (by simpa using hj) hc;rw[Vd,List.set_append_right _ _ (by rw[hx,Nat.succ_mul];omega),hx];have e:(j+1)*w+c - w=j*w+c:=by rw[Nat.succ_mul];omega
   rw[e,h2];rfl
theorem pZ {w:Nat}:∀{rows:List (List Value)},(∀r∈rows,r.length=w)->rows.flatten.length=rows.length*w:=by
 intro rows
 induction rows with
 |nil=>intro _;simp
 |cons x l ih=>
  intro h;rw[Vd,Vy,ih (fun r hr=>h r (by simp[hr])),h x Zs,Vz,Nat.succ_mul];omega
theorem xd.super {T:List kC}{qs:List Nat}{x:PN}{ws:List Value}(h:xd T qs x ws)(b:Bool):xd T qs (x.Am b) (ws.set 9 (.bool b)):=by
 cases h with
 |@mk k nm lit refs unit fM kids lv rv vv a c bk o us hl hr hv ok hz ha hm hs=>
  have h5:=hl.len
  match lv,h5,hl with
  |[v1,v2,v3,v4,v5],_,hl=>exact .mk (fM:=b) hl hr hv ok hz ha hm hs
theorem Ek {T:List kC}{qs:List Nat}{l:List PN}{rows:List (List Value)}(h:zh T qs l rows)(b:Bool):zh T qs (zD b l) (wu b rows (l.length - 1)):=by
 cases l with
 |nil=>
  have:rows=[]:=vz h.len;subst this;exact zh.nil T qs
 |cons x l=>
  refine⟨?_,iF h.w,fun i y r hy hr=>?_⟩
  ·rw[wT,h.len];simp[zD]
  ·cases h0:rows[i]? with
   |none=>
    rw[Vr]at h0;have:=(Vt.1 hr).1;rw[wT]at this;omega
   |some r0=>
    rw[zP h0]at hr;have cF:=(Vt.1 h0).1;rw[h.len,Vz]at cF;cases i with
    |zero=>
     obtain rfl:x=y:=by simpa[zD]using hy
     rw[if_neg Zo]at hr;rw[<- X3 hr];exact h.rd 0 x r0 rfl h0
    |succ i=>
     rw[if_pos ⟨Zo,by rw[Vz];omega⟩]at hr;rw[<- X3 hr];simp only[zD,Vm,Vu]at hy;obtain⟨z,hz,rfl⟩:=X0.1 hy;exact(h.rd (i+1) z r0 (by simpa using hz) h0).super b
theorem N8(F G:List ByteArray):∀(l:List Nd) st env u,(kT F G l st env u).1.length=l.length:=by
 intro l
 induction l with
 |nil=>intro st env u;rw[kT];rfl
 |cons x r ih=>intro st env u;rw[je];simp only[Vz,ih]
theorem JW(b:Bool)(l:List PN):(zD b l).length=l.length:=by cases l <;> simp[zD]
theorem Wf.CJ {st:ah}(h:Wf st):∀(k u:Nat),u<=st.outer.length->∀x,(st.line u)[k]? =some x->(st.line u)[k+1]? =if st.outer.getD x (-1) < 0 then none else some (st.outer.getD x (-1)).toNat:=by
 intro k
 induction k with
 |zero=>
  intro u hu x hx;have hl:=h.ef u;rw[h.line hu]at hx|-;obtain rfl:u=x:=by simpa using hx
  rw[Vm];split
  ·rfl
  ·rw[h.line Zo];rfl
 |succ k ih=>
  intro u hu x hx;have hl:=h.ef u;rw[h.line hu]at hx|-;rw[Vm]at hx|-;split at hx
  ·simp at hx
  ·rename_i c;rw[if_neg c];exact ih _ Zo x hx
theorem Wf.WU {st:ah}(h:Wf st){u:Nat}(hu:u < st.outer.length):∀w∈st.line u,w < st.outer.length:=fun w hw=>by
 have:=h.uH u Zo w hw;omega
def ah.around(st:ah)(u:Nat):List Nat:=(st.line u).drop 1
def ue(U:List UC)(l:List Nat)(d:Nat):Value:=match l[d]? with|some x=>kF (qU U x)|none=>.pointer none
theorem oQ(st:ah)(u d:Nat):(st.around u)[d]? =(st.line u)[d+1]?:=by
 unfold ah.around;rw[Vo,Nat.add_comm]
theorem fG {U:List UC}{x:Nat}{w:UC}(h:U[x]? =some w):qU U x=w.q:=by unfold qU;rw[h];rfl
theorem fg.outerQ {st:ah}{L:Nat}{U:List UC}{V:List az}(h:fg st L U V){i:Nat}{u:UC}(hu:U[i]? =some u):kM u.outer=ue U (st.around i) 0:=by
 have cF:i < st.outer.length:=by have:=(Vt.1 hu).1;rw[h.ul]at this;exact this
 have mP:=h.wf.ef i;have h0:(st.line i)[0]? =some i:=by rw[h.wf.line Zo];rfl
 have hn:=h.wf.CJ 0 i Zo i h0;rw[h.ou i u hu];unfold ue;rw[oQ,hn];by_cases c:st.outer.getD i (-1) < 0
 ·rw[if_pos c,if_pos c];rfl
 ·rw[if_neg c,if_neg c];obtain⟨w,hw⟩:∃w,U[(st.outer.getD i (-1)).toNat]? =some w:=⟨_,Zg (by rw[h.ul];omega)⟩;rw[hw];simp only[fG hw];rfl
theorem fg.outerN {st:ah}{L:Nat}{U:List UC}{V:List az}(h:fg st L U V){i d x:Nat}{w:UC}(hi:i < st.outer.length)(hd:(st.around i)[d]? =some x)(hw:U[x]? =some w):kM w.outer=ue U (st.around i) (d+1):=by
 rw[oQ]at hd;have hn:=h.wf.CJ (d+1) i Zo x hd;have hxl:=h.wf.WU hi x (Zv hd);have mP:=h.wf.ef x;rw[h.ou x w hw];unfold ue;rw[oQ,hn];by_cases c:st.outer.getD x (-1) < 0
 ·rw[if_pos c,if_pos c];rfl
 ·rw[if_neg c,if_neg c];obtain⟨w',sF⟩:∃w',U[(st.outer.getD x (-1)).toNat]? =some w':=⟨_,Zg (by rw[h.ul];omega)⟩;rw[sF];simp only[fG sF];rfl
theorem To(o:List Int):∀n u,(Ay o n u).length<=n:=by
 intro n
 induction n with
 |zero=>intro u;simp[Ay]
 |succ n ih=>
  intro u;simp only[Ay];split
  ·simp
  ·have:=ih (o.getD u.toNat (-1));rw[Vz];omega
theorem xk(st:ah)(u:Nat):(st.around u).length<=st.outer.length:=by
 have:=To st.outer (st.outer.length+1) u;unfold ah.around ah.line;rw[Q0];omega
def ah.mo(st:ah)(u k:Nat):List (Nat×Int):=((st.around u).reverse.take k).flatMap fun o=>(st.things o).filter (st.bg u)
theorem Fy(st:ah)(u:Nat){k:Nat}(h:(st.around u).length<=k):st.mo u k=st.copied u:=by
 unfold ah.mo ah.copied ah.around;rw[Qg (by rw[List.length_reverse];exact h)]
theorem Lr(st:ah){u k o:Nat}(h:(st.around u).reverse[k]? =some o):st.mo u (k+1)=st.mo u k++(st.things o).filter (st.bg u):=by
 unfold ah.mo;have hl:=(Vt.1 h).1;rw[Qe,h];simp
theorem J0(st:ah){o m:Nat}(h:m < st.args.getD o 0+1):(st.things o)[m]? =some (o,(m:Int) - 1):=by
 unfold ah.things;rw[Vu,List.getElem?_range h];rfl
theorem pH(st:ah)(o:Nat):(st.things o).length=st.args.getD o 0+1:=by unfold ah.things;simp
theorem Cn {α:Type}{l:List α}{p:α->Bool}{m:Nat}{x:α}(h:l[m]? =some x):(l.take (m+1)).filter p=(l.take m).filter p++(if p x=true then [x]else []):=by
 rw[Qe,h,V5];simp only[Option.toList_some]
 congr 1
 by_cases c:p x=true
 ·rw[if_pos c,V6,if_pos c];rfl
 ·rw[if_neg c,V6,if_neg c];rfl
theorem Iz {st:ah}{u M:Nat}(h:∀j,st.args.getD j 0<=M):(st.copied u).length<=(st.around u).length*(M+1):=by
 have key:∀l:List Nat,(l.flatMap fun o=>(st.things o).filter (st.bg u)).length<=l.length*(M+1):=by
  exact zCE
 have:=key (st.around u).reverse;rw[List.length_reverse]at this;exact this
theorem Ou {st:ah}{u M k:Nat}(h:∀j,st.args.getD j 0<=M):(st.mo u k).length<=(st.around u).length*(M+1):=by
 have key:∀l:List Nat,(l.flatMap fun o=>(st.things o).filter (st.bg u)).length<=l.length*(M+1):=by
  exact zCE
 have h1:=key ((st.around u).reverse.take k);have h2:((st.around u).reverse.take k).length<=(st.around u).length:=by
  have:=List.length_take_le' k (st.around u).reverse;rw[List.length_reverse]at this;exact this
 exact Qp h1 (Qs _ h2)
theorem F9 {α β:Type}(f:α->List β){l:List α}{i:Nat}{x:α}(h:l[i]? =some x):∃R,(∀y,((l.set i y).flatMap f).Perm (f y++R))/\∀(k:Nat) z,k≠i->l[k]? =some z->∀a∈f z,a∈R:=by
 induction l generalizing i with
 |nil=>simp at h
 |cons a l ih=>
  cases i with
  |zero=>
   refine⟨l.flatMap f,fun y=>by simp,fun k z hk hz b hb=>?_⟩;cases k with
   |zero=>exact absurd rfl hk
   |succ k=>exact QL.2 ⟨z,Zv (by simpa using hz),hb⟩
  |succ i=>
   obtain⟨R,hR,hm⟩:=ih (i:=i) (by simpa using h);refine⟨f a++R,fun y=>?_,fun k z hk hz b hb=>?_⟩
   ·simp only[List.set_cons_succ,List.flatMap_cons];refine(vX _ (hR y)).trans ?_;exact zAT
   ·cases k with
    |zero=>
     obtain rfl:a=z:=by simpa using hz
     exact Zw _ hb
    |succ k=>exact QG _ (hm k z Zo (by simpa using hz) b hb)
theorem Yo {U:List UC}{V:List az}{i:Nat}{u:UC}(hu:U[i]? =some u):∃R,(WK U V).Perm ([.obj u.nb (.map u.es u.cl)]++(kA u.q 7 [u.cv]++(aj u.cv (u.dk.flatMap jV) u.cm++R)))/\
 (∀c' v' p',(WK (U.set i {u with dk:=c',cv:=v',cm:=p'}) V).Perm ([.obj u.nb (.map u.es u.cl)]++(kA u.q 7 [v']++(aj v' (c'.flatMap jV) p'++R))))/\
 (∀(k:Nat) z,k≠i->U[k]? =some z->∀a∈z.atoms,a∈R)/\kC.own u.q 9∈R/\∀a∈kA u.q 0 [.int .i64 u.args,.int .i64 u.locals,.int .i64 u.aA,kM u.outer,.int .i64 u.num,u.tv,.map (some u.nb)],a∈R:=by
 obtain⟨RU,h1,hm⟩:=F9 UC.atoms hu;obtain⟨X,hX⟩:∃X,X=(kC.own u.q 9::(kA u.q 0 [.int .i64 u.args,.int .i64 u.locals,.int .i64 u.aA,kM u.outer,.int .i64 u.num,u.tv,.map (some u.nb)]++(kA u.q 8 [u.body]++aj u.tv (u.ab.map fun b=>kM (some b)) u.iJ))):=⟨_,rfl⟩;have hA:∀c' v' p',({u with dk:=c',cv:=v',cm:=p'}:UC).atoms.Perm (([.obj u.nb (.map u.es u.cl)]++(kA u.q 7 [v']++aj v' (c'.flatMap jV) p'))++X):=fun c' v' p'=>by
  unfold UC.atoms UC.row;rw[hX];have e:kA u.q 0 [.int .i64 u.args,.int .i64 u.locals,.int .i64 u.aA,kM u.outer,.int .i64 u.num,u.tv,.map (some u.nb),v',u.body]=kA u.q 0 [.int .i64 u.args,.int .i64 u.locals,.int .i64 u.aA,kM u.outer,.int .i64 u.num,u.tv,.map (some u.nb)]++(kA u.q 7 [v']++kA u.q 8 [u.body]):=rfl;simp only;rw[e];generalize kA u.q 0 [.int .i64 u.args,.int .i64 u.locals,.int .i64 u.aA,kM u.outer,.int .i64 u.num,u.tv,.map (some u.nb)]=A;generalize kA u.q 7 [v']=B;generalize kA u.q 8 [u.body]=C;generalize aj u.tv (u.ab.map fun b=>kM (some b)) u.iJ=D;generalize aj v' (c'.flatMap jV) p'=E;generalize kC.obj u.nb (.map u.es u.cl)=o;generalize kC.own u.q 9=w;simp only[vj,vr];have k1:(A++(B++(C++(D++(E++[o]))))).Perm (o::(B++(E++(A++(C++D))))):=by
   refine List.Perm.trans (l₂:=(A++(B++(C++(D++E))))++[o]) (by simp only[vj];exact vZ _) ?_;refine QW.trans (List.Perm.cons o ?_);refine(QX A B _).trans (vX _ ?_);refine List.Perm.trans (l₂:=(A++(C++D))++E) (by simp only[vj];exact vZ _) ?_;exact QW
  refine(List.Perm.cons w k1).trans ?_;refine(List.Perm.swap _ _ _).trans (List.Perm.cons o ?_);refine List.Perm.trans (l₂:=[w]++(B++(E++(A++(C++D))))) (vZ _) ?_;refine(QX _ B _).trans (vX _ ?_);exact(QX _ E _)
 have key:∀c' v' p',(WK (U.set i {u with dk:=c',cv:=v',cm:=p'}) V).Perm ([.obj u.nb (.map u.es u.cl)]++(kA u.q 7 [v']++(aj v' (c'.flatMap jV) p'++(X++(RU++V.flatMap az.atoms))))):=fun c' v' p'=>by
  unfold WK;refine(vY _ ((h1 _).trans (vY _ (hA c' v' p')))).trans ?_;simp only[vj];exact vZ _
 refine⟨X++(RU++V.flatMap az.atoms),?_,key,fun k z hk hz a ha=>QG _ (Zw _ (hm k z hk hz a ha)),Zw _ (by rw[hX];exact QJ ..),fun a ha=>Zw _ (by rw[hX];exact QI _ (Zw _ ha))⟩;have:=key u.dk u.cv u.cm;have e1:U.set i {u with dk:=u.dk,cv:=u.cv,cm:=u.cm}=U:=zO hu
 rwa [e1]at this
theorem Ce(st:ah){l:List Nat}{j v:Nat}(h:l[j]? =some v)(r:Bool):yQ st (l.take (j+1)) r=yQ st (l.take j) r+(if st.rem v=r then 1 else 0):=by
 unfold yQ;rw[Cn h,Vy];by_cases c:st.rem v=r
 ·rw[if_pos (Zt c),if_pos c];rfl
 ·rw[if_neg (by simpa using c),if_neg c];rfl
section
variable {P:Program} {n:Nat} {Γ:Env} {H:SH} {Z:List PanicEntry->Env->SH->Prop} {K:Env->SH->Prop} {rs:List RO} {d:Option Nat}
theorem M8 {m:Operand}{b c:Nat}{es:Array MapEntry}{l:List ((Nat×Int)×Int)}(hm:ev Γ m=some (.map (some b)))(ho:u5 H b (.map es c))(hl:AI es.toList l)
 (h:VO P n rs (ap d (.int .i64 l.length) Γ) H Z K):VO P n (⟨d,none,.Ru m⟩::rs) Γ H Z K:=by
 refine VO.read rfl rfl (fun ρ aO=>⟨_,rfl,fun F w hs=>?_⟩) h;rw[aO _ _ hm];have hg:=ia (P:=P) ho.mem hs;have hlen:es.size=l.length:=by
  have:=congrArg List.length hl;simpa using this
 simp[wS,hg,hlen]
end
end Go.V
namespace Go.Proofs.YtijnokbblmbpkaaGreatDoor
open Go Go.V
set_option maxHeartbeats 3200000
set_option maxRecDepth 100000
noncomputable def thF0:Field:=((Tryz.prog.fieldsOf 217)[0]?).getD default
noncomputable def thF1:Field:=((Tryz.prog.fieldsOf 217)[1]?).getD default
noncomputable def i206:TypeInfo:=(Tryz.prog.info? 206).getD default
noncomputable def i3:TypeInfo:=(Tryz.prog.info? 3).getD default
theorem thP:Yw Tryz.prog 217 199 206:=
 ⟨⟨thF0,thF1,by kernel_rfl,by kernel_rfl,by kernel_rfl,by decide+kernel,by decide+kernel,by kernel_rfl,by kernel_rfl⟩,⟨i206,by kernel_rfl,by decide+kernel⟩,by kernel_rfl,by kernel_rfl,⟨3,i3,by kernel_rfl,by kernel_rfl,by kernel_rfl⟩⟩
theorem u124:Tryz.prog.underlying 124=some (.pointer 206):=by kernel_rfl
theorem DW:Tryz.prog.info? 206=some i206:=by kernel_rfl
theorem DX:i206.size≠0:=by decide+kernel
theorem Ng(st:ah)(U:List UC)(Vs:List az)(hR:cK st U Vs)(i v:Nat)(u:UC)(y:az)(hu:U[i]? =some u)(hy:Vs[v]? =some y)(hl:st.af v∈st.line i)(hb:st.uses.length < 1073741824):
 aw Tryz.prog 232 [kF u.q,kF y.q] [WK U Vs] (fun r Post=>∃U' og,(r=.tuple #[]/\cK (st.use i v) U' og/\U'.map UC.q=U.map UC.q/\U'.map UC.body=U.map UC.body/\og.map az.q=Vs.map az.q)/\Post=[WK U' og]):=by
 have hwf:=hR.wf;have cF:i < st.outer.length:=by have:=(Vt.1 hu).1;rw[hR.ul]at this;exact this
 have DV:v < st.vars.length:=by have:=(Vt.1 hy).1;rw[hR.vl]at this;exact this
 obtain⟨x,hx⟩:∃x,st.vars[v]? =some x:=⟨_,Zg DV⟩;have Y9:st.af v=x.unit:=by unfold ah.af;rw[hx];rfl
 have hoo:st.bt v=x.own:=by unfold ah.bt;rw[hx];rfl
 obtain⟨⟨w,hw,hyw⟩,hya,Zb,bK,lS⟩:=hR.vn v x y hx hy;have hown:=(hwf.vu v x hx).2;have E3:w.q=u.q->x.unit=i:=fun e=>cz.Sv hR hw hu e
 have hly:wm (WK U Vs) w.q:=gG hw;have hlu:wm (WK U Vs) u.q:=gG hu;have m0:kC.cell y.q 0 (kF w.q)∈WK U Vs:=lL hy _ (kJ.2 ⟨0,_,by unfold az.row;rw[hyw];rfl,rfl⟩);have m1:kC.cell y.q 1 (.int .i64 x.own)∈WK U Vs:=lL hy _ (kJ.2 ⟨1,_,by unfold az.row;rw[hya];rfl,rfl⟩);refine aw.intro low232 (by simp[n232]) ?_;generalize hB:WK U Vs=B at hly hlu m0 m1|-;refine ae ?_;refine st_eqp u124 DW DX Zr Zr (hlu.more Zs) (hly.more Zs) ?_;refine ae ?_;by_cases he:u.q=w.q
 ·rw[Zt he];refine ae ?_;refine kG (Post:=[B]) (.inr rfl) .nil ⟨U,Vs,⟨rfl,?_,rfl,rfl,rfl⟩,by rw[hB]⟩ ZI;have e1:i=st.af v:=by rw[Y9];exact(E3 he.symm).symm
  refine cz.congr (hR.useS cF DV) (fun j t=>?_) (fun k=>?_) (fun k=>?_)
  ·rw[G1,hwf.rE Zo e1];simp
  ·rw[KW];by_cases e:v=k
   ·subst e;simp[<- e1]
   ·simp[e]
  ·show st.uses.length<=(st.uses++[(i,v)]).length;rw[Vy];omega
 rw[Zf he];refine ae ?_;have bZ:i≠st.af v:=fun e=>he (by
  rw[Y9]at e;rw[<- e,hu]at hw;rw[X3 hw])
 have mS:∀k,(st.use i v).rem k=(st.rem k||(decide (v=k)&&decide (x.own < 0))):=fun k=>by
  rw[KW];by_cases e:v=k
  ·subst e;rw[hoo,show decide (st.af v≠i)=true from Zt (fun e=>bZ e.symm),vH]
  ·simp[e]
 by_cases ho:x.own < 0
 ·rw[show decide (x.own < 0)=true from Zt ho];obtain⟨R,hp,hr⟩:=Nn (U:=U) hy;rw[<- hB];refine VC.imp (H:=[WK U Vs]) (H':=[kA y.q 3 [.bool y.remote],R]) (ao.perm (by simpa using hp)) ?_;refine ae ?_;obtain⟨pO,xN⟩:∃pO,pO=Vs.set v {y with remote:=true}:=⟨_,rfl⟩;refine VC.imp (H':=[WK U pO]) (ao.perm (by rw[xN];simpa using(hr true).symm)) ?_;have Uo:pO[v]? =some {y with remote:=true}:=by rw[xN,Vw];simp[(Vt.1 hy).1]
  obtain⟨y2,Uo,hyq2,hyu2,hya2⟩:∃y2,pO[v]? =some y2/\y2.q=y.q/\y2.unit=y.unit/\y2.arg=y.arg:=⟨_,Uo,rfl,rfl,rfl⟩;have hvq2:pO.map az.q=Vs.map az.q:=by
   rw[xN,List.map_set];exact zO (by rw[Vu,hy];rfl)
  obtain⟨NQ,I6⟩:∃NQ:Nat->Bool,NQ=fun k=>st.rem k||decide (v=k):=⟨_,rfl⟩
  have Y6:∀k,(st.use i v).rem k=NQ k:=fun k=>by rw[mS,I6];simp[ho]
  have Kv:cz st (mr st v []) NQ (fun k=>st.uses.length+(if k∈([]:List Nat)then 1 else 0)) U pO:=by
   rw[xN,I6];exact(cz.far hR hy).congr (fun k t=>Cf st v k t) (fun k=>rfl) (fun k=>by simp)
  clear xN I6 hr;exact zA0
 ·rw[show decide (x.own < 0)=false from Zf ho];refine ae ?_;obtain⟨pO,xN⟩:∃pO,pO=Vs:=⟨_,rfl⟩;rw[<- hB];refine VC.imp (H':=[WK U pO]) (ao.perm (by rw[xN])) ?_;obtain⟨y2,Uo,hyq2,hyu2,hya2⟩:∃y2,pO[v]? =some y2/\y2.q=y.q/\y2.unit=y.unit/\y2.arg=y.arg:=⟨_,by rw[xN];exact hy,rfl,rfl,rfl⟩;have hvq2:pO.map az.q=Vs.map az.q:=by rw[xN]
  obtain⟨NQ,I6⟩:∃NQ:Nat->Bool,NQ=st.rem:=⟨_,rfl⟩;have Y6:∀k,(st.use i v).rem k=NQ k:=fun k=>by rw[mS,I6];simp[ho]
  have Kv:cz st (mr st v []) NQ (fun k=>st.uses.length+(if k∈([]:List Nat)then 1 else 0)) U pO:=by
   rw[xN,I6];exact cz.congr hR (fun k t=>Cf st v k t) (fun k=>rfl) (fun k=>by simp)
  clear xN I6;exact zA0
def nt(l:List Nat):List (Nat×Nat):=(List.range l.length).reverse.map fun i=>(i,l.getD i 0)
theorem nu(l:List Nat):(nt l).length=l.length:=by unfold nt;simp
theorem Hn {l:List Nat}{d k:Nat}(h:d+k+1=l.length):(nt l)[d]? =some (k,l.getD k 0):=by
 unfold nt;rw[Vu,List.getElem?_reverse (by rw[List.length_range];omega),List.length_range,List.getElem?_range Zo];have e:l.length - 1 - d=k:=by omega
 rw[e];rfl
theorem Ln(q:Nat)(l:List Nat)(v:Value)(L:List kC)(hL:z5 L v l)(hl:l.length < 1073741824):
 Iter Tryz.prog (.func (.func 210) #[] #[kF q]) (fun x:Nat×Nat=>[vi x.1,kF x.2]) [kA q 0 [v],L] [] (fun full=>full=nt l):=by
 intro y J SP hy A hA;obtain⟨a,c,rfl,hp⟩:=hL;refine dE.ck (first:=#[]) (cap:=#[kF q]) ?_;show aw Tryz.prog 210 [y,kF q] _ _;refine aw.intro low210 (by simp[n210]) ?_;simp only[aJ];refine ae ?_;refine VC.loop (α:=Nat×List kC) (bi:=fun s=>[(0,y),(1,kF q),(3,.int .i64 ((l.length:Int) - 1 - s.1))]) (Hf:=fun s=>[kA q 0 [.slice a l.length c],L,s.2]) (I:=fun s=>s.1<=l.length/\J ((nt l).take s.1) s.2) (μ:=fun s=>l.length - s.1) (0,A) ⟨Qv _,by simpa using hA⟩ (by simp only[Int.natCast_zero,Int.sub_zero];exact AO) ZI ?_
 rintro⟨d,A1⟩ ⟨hd,hJ⟩
 simp only at hd hJ;dsimp only;refine ae ?_;by_cases aS:d < l.length;rotate_left
 ·rw[show decide ((0:Int)<=(l.length:Int) - 1 - (d:Int))=false from Zf Zo];refine ae ?_;have xS:(nt l).take d=nt l:=Qg (by rw[nu];omega);rw[xS]at hJ;exact kG (Post:=[A1]) (.inl rfl) .nil ⟨rfl,.inl ⟨nt l,A1,rfl,hJ,rfl⟩⟩ ZI
 obtain⟨k,hk⟩:∃k,d+k+1=l.length:=⟨l.length - 1 - d,Zo⟩;have hke:(l.length:Int) - 1 - (d:Int)=(k:Int):=by omega
 rw[hke];rw[show decide ((0:Int)<=(k:Int))=true from Zt Zo];have hg:=Hn hk;obtain⟨x,hx⟩:∃x,l[k]? =some x:=⟨_,Zg Zo⟩;obtain⟨b,o,rfl,hc⟩:=hp k x hx;have hgx:l.getD k 0=x:=by rw[Vh,hx];rfl
 rw[hgx]at hg;have hcc:kC.cell b (o+k) (kF x)∈L:=hc;refine ae ?_;have aP:OkC (fun full=>full=nt l) ((nt l).take d++[(k,x)]):=⟨(nt l).drop (d+1),by
  have hdl:d < (nt l).length:=by rw[nu];exact aS
  have e:=(Vt.1 hg).2;rw[vj,List.singleton_append,<- e,<- vw hdl,Qf]⟩
 refine dX Zr (hy ((nt l).take d) (k,x) A1 aP hJ) Zr ZP (fun v Post hv=>?_);rcases hv with⟨rfl,A',OY,rfl⟩|⟨rfl,B',hB',rfl⟩
 ·simp only[aJ];refine ae ?_;have ht:(nt l).take (d+1)=(nt l).take d++[(k,x)]:=by rw[Qe,hg];rfl
  refine⟨(d+1,A'),⟨by show d+1<=l.length;omega,by simp only[ht];exact OY⟩,by simp only;omega,by simp only;rw[show(l.length:Int) - 1 - ((d+1:Nat):Int)=(k:Int) - 1 by omega];exact AO,ZI⟩
 ·exact zE8
theorem Lo(v:Value)(L:List kC)(hv:v.cells.toList=[v]):aw Tryz.prog 173 [v] [L] (fun r Post=>∃q,r=.func (.func 210) #[] #[kF q]/\Post=[kA q 0 [v],L]):=by
 refine aw.intro low173 (by simp[n173]) ?_;refine ae ?_;refine kX Zr (fun q=>?_);rw[hv];refine ae ?_;exact kG (Post:=[kA q 0 [v],L]) (.inr rfl) (.tmp Zr .nil) ⟨q,rfl,rfl⟩ ZI
end Go.Proofs.YtijnokbblmbpkaaGreatDoor

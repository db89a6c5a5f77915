/-
  A part of the proof.
-/
import Derived.Test.YtijnokbblmbpkaaGreatDoorU5
import Derived.Test.YtijnokbblmbpkaaGreatDoorU3
import Derived.Test.YtijnokbblmbpkaaGreatDoorU4
import Derived.Test.YtijnokbblmbpkaaGreatDoorU2
import Derived.KernelRfl
import Derived.Test.YtijnokbblmbpkaaGreatDoorProg
import Derived.Shelf.Strings.Search2
import Derived.Shelf.Lay
set_option linter.all false
set_option maxRecDepth 100000
set_option maxHeartbeats 3200000
namespace Go.V
open Go
instance memDec (s:ByteArray)(l:List ByteArray):Decidable (s∈l):=decidable_of_iff (l.any (λt=>decide (t=s))=true) (by
 rw[vj];exact⟨λ⟨t,h1,h2⟩=>of_decide_eq_true h2 ▸ h1,λh=>⟨s,h,Zt rfl⟩⟩)
mutual
def pw(seen out:List ByteArray):Nd->List ByteArray
 |.mk k s _ args ab kids _=>ww (if k=7 then seen++args++ab else seen) (if(k=2∨k=3)/\wV s=0/\s∉seen/\s∉out then out++[s]else out) kids
def ww(seen out:List ByteArray):List Nd->List ByteArray
 |[]=>out
 |x::r=>ww seen (pw seen out x) r
end
def kn(F G:List ByteArray)(s:ByteArray):Bool:=F.any (λt=>decide (t=s))||G.any (λt=>decide (t=s))
structure zx (st:ah)(env:List Nat)(seen:List ByteArray):Prop where
 lt:∀v∈env,v < st.vars.length
 iff:∀nm,(jk st.vars env nm).isSome=true↔nm∈seen
theorem gE {vs:List yA}{env:List Nat}{nm:ByteArray}:(jk vs env nm).isSome=true↔∃v∈env,(vs[v]?).map (·.name)=some nm:=by
 unfold jk;rw[List.find?_isSome];constructor
 .rintro⟨v,d,g⟩
  exact⟨v,by simpa using d,of_decide_eq_true g⟩
 .rintro⟨v,d,g⟩
  exact⟨v,by simpa using d,Zt g⟩
theorem zx.gr {a b:ah}{env:List Nat}{seen:List ByteArray}(h:zx a env seen)(g:a.vars <+:b.vars):zx b env seen:=by
 obtain⟨t,m⟩:=g;refine⟨λv q=>?_,λnm=>?_⟩
 .have:=h.lt v q;rw[<- m,Vy];omega
 .rw[<- h.iff nm,gE,gE];constructor
  .rintro⟨v,d,j⟩
   rw[<- m,Vj (h.lt v d)]at j;exact⟨v,d,j⟩
  .rintro⟨v,d,j⟩
   rw[<- m];exact⟨v,d,by rw[Vj (h.lt v d)];exact j⟩
theorem zx.decl(unit:Nat)(arg own:Bool)(p:Int):∀(l:List ByteArray) (i:Nat) (st:ah) (env:List Nat) (seen:List ByteArray),zx st env seen->zx (kP unit arg own p l i st env).1 (kP unit arg own p l i st env).2 (seen++l)
 |[],_,st,env,seen,h=>by rw[vp];exact h
 |nm::r,i,st,env,seen,h=>by
  rw[kP,nE];obtain⟨s,m⟩:∃s,s=(if(jk st.vars env nm).isSome=true then st.wrong 180 p else st):=⟨_,rfl⟩;have A:s.vars=st.vars:=by
   rw[m];split
   .exact dX _ _ _
   .rfl
  rw[<- m];have q:zx (s.aX ⟨nm,unit,arg,if(arg&&own)=true then i else -1⟩) (env++[st.vars.length]) (seen++[nm]):=by
   have j:(s.aX ⟨nm,unit,arg,if(arg&&own)=true then i else -1⟩).vars=st.vars++[⟨nm,unit,arg,if(arg&&own)=true then i else -1⟩]:=by
    show s.vars++_=_;rw[A]
   refine⟨λv k=>?_,λn=>?_⟩
   .rw[j,Vy,Q9];rcases QG.1 k with k|k
    .have:=h.lt v k;omega
    .rw[QU.1 k];omega
   .rw[gE,j,QG,<- h.iff n,gE,QU];constructor
    .rintro⟨v,g,d⟩
     rcases QG.1 g with k|k
     .rw[Vj (h.lt v k)]at d;exact .inl ⟨v,k,d⟩
     .rw[QU.1 k,Vl (Qt _),Qz]at d;exact .inr (by simpa using d.symm)
    .rintro(⟨v,g,d⟩|rfl)
     .exact⟨v,Zw _ g,by rw[Vj (h.lt v g)];exact d⟩
     .exact⟨st.vars.length,Zs,Zs⟩
  have:=zx.decl unit arg own p r (i+1) _ _ _ q
  rwa [vm,List.singleton_append]at this
mutual
theorem Z2(seen:List ByteArray):∀(x:Nd) (out:List ByteArray),∀s∈out,s∈pw seen out x
 |.mk k s lit args ab kids p,out,t,ht=>by
  rw[pw];refine yH _ kids _ t ?_;split
  .exact Zw _ ht
  .exact ht
theorem yH(seen:List ByteArray):∀(l:List Nd) (out:List ByteArray),∀s∈out,s∈ww seen out l
 |[],_,_,ht=>ht
 |x::r,out,t,ht=>by
  rw[ww];exact yH seen r _ t (Z2 seen x out t ht)
end
def errW(e:Nat):Prop:=e=180∨e=181∨e=182
structure jw (F G:List ByteArray)(b:ah)(out bO:List ByteArray):Prop where
 ok:b.f=none->∀s∈bO,s∈out∨kn F G s=true
 bad:∀p,b.f=some (181,p)->∃s∈bO,kn F G s=false
 err:∀e p,b.f=some (e,p)->errW e
theorem jw.refl {F G:List ByteArray}{b:ah}{out:List ByteArray}(h:b.f=none):jw F G b out out:=⟨λ_ _ d=>.inl d,(λp e=>by rw[h]at e;cases e),λ_ p e=>by rw[h]at e;cases e⟩
theorem jw.comp {F G:List ByteArray}{b c:ah}{out d q:List ByteArray}(h:jw F G b out d)(k:b.f=none->jw F G c d q)(g:Gr b c)(D:∀s∈d,s∈q):jw F G c out q:=by
 cases e:b.f with
 |none=>
  have k:=k e;refine⟨λj s C=>?_,k.bad,k.err⟩;rcases k.ok j s C with h1|h1
  .exact h.ok e s h1
  .exact .inr h1
 |some x=>
  have j:=g.f x e;refine⟨λA=>(by rw[j]at A;cases A),λp m=>?_,λy p m=>?_⟩
  .rw[j]at m;obtain⟨s,h1,B⟩:=h.bad p (by rw[e,m]);exact⟨s,D s h1,B⟩
  .rw[j]at m;exact h.err y p (by rw[e,m])
theorem jw.of {F G:List ByteArray}{b c:ah}{out d:List ByteArray}(h:jw F G b out d)(e:c.f=b.f):jw F G c out d:=⟨by rw[e];exact h.ok,by rw[e];exact h.bad,by rw[e];exact h.err⟩
theorem dO {F G:List ByteArray}(unit:Nat)(arg own:Bool)(p:Int):∀(l:List ByteArray) (i:Nat) (st:ah) (env:List Nat) (out:List ByteArray),st.f=none->jw F G (kP unit arg own p l i st env).1 out out
 |[],_,_,_,_,h=>jw.refl h
 |nm::r,i,st,env,out,h=>by
  rw[kP,nE];have g:jw F G ((if(jk st.vars env nm).isSome=true then st.wrong 180 p else st).aX ⟨nm,unit,arg,if(arg&&own)=true then i else -1⟩) out out:=by
   split
   .have d:((st.wrong 180 p).aX ⟨nm,unit,arg,if(arg&&own)=true then i else -1⟩).f=some (180,p):=NW h 180 p;exact⟨(λe=>by rw[d]at e;cases e),(λq e=>by rw[d]at e;cases e),λe q k=>by rw[d]at k;cases k;exact .inl rfl⟩
   .exact jw.refl h
  exact g.comp (λd=>dO unit arg own p r (i+1) _ _ out d) (zr _ _ _ _ _ _ _ _) (λ_ j=>j)
theorem ig {l:List ByteArray}{s:ByteArray}:(l.findIdx? λt=>decide (t=s)).isSome=l.any λt=>decide (t=s):=by
 induction l with
 |nil=>rfl
 |cons x r ih=>
  rw[V9,vh];cases decide (x=s)with
  |true=>rfl
  |false=>simp only[vN,vM,if_false,<- ih,Option.isSome_map]
theorem Jf {F G:List ByteArray}{st:ah}{env:List Nat}{seen out:List ByteArray}(s:ByteArray)(u:Nat)(p:Int)(put:Bool)(h:st.f=none)(A:zx st env seen):
 jw F G (wC F G st env s u p put).2 out (if wV s=0/\s∉seen/\s∉out then out++[s]else out):=by
 by_cases hk:wV s=0;rotate_left
 .rw[sD hk,if_neg (by simp[hk])];exact jw.refl h
 cases hv:jk st.vars env s with
 |some v=>
  have j:s∈seen:=(A.iff s).1 (by rw[hv];rfl);rw[if_neg (λk=>k.2.1 j)];cases hp:(put&&((st.vars[v]?).map (·.arg)).getD false)with
  |false=>rw[Jq hk hv hp];exact jw.refl h
  |true=>
   have g:=Jp (F:=F) (G:=G) (u:=u) (p:=p) hk hv hp h;exact⟨(λe=>by rw[g]at e;cases e),(λq e=>by rw[g]at e;cases e),λe q k=>by rw[g]at k;cases k;exact .inr (.inr rfl)⟩
 |none=>
  have j:s∉seen:=λk=>by
   have:=(A.iff s).2 k;rw[hv]at this;cases this
  have B:s∈(if wV s=0/\s∉seen/\s∉out then out++[s]else out):=by
   by_cases c:s∈out
   .rw[if_neg (λk=>k.2.2 c)];exact c
   .rw[if_pos ⟨hk,j,c⟩];simp
  have m:kn F G s=true->st.f=none->∀t∈(if wV s=0/\s∉seen/\s∉out then out++[s]else out),t∈out∨kn F G t=true:=λd _ t ht=>by
   split at ht
   .rcases QG.1 ht with ht|ht
    .exact .inl ht
    .rw[QU.1 ht];exact .inr d
   .exact .inl ht
  cases hi:F.findIdx? (λt=>decide (t=s))with
  |some i=>
   rw[Ci hk hv hi];have d:kn F G s=true:=by
    unfold kn;rw[<- ig,hi];rfl
   exact⟨λe=>m d e,(λq e=>by rw[h]at e;cases e),λ_ q e=>by rw[h]at e;cases e⟩
  |none=>
   have d:kn F G s=G.any λt=>decide (t=s):=by
    unfold kn;rw[<- ig,hi];rfl
   cases hg:G.any (λt=>decide (t=s))with
   |true=>
    rw[EL hk hv hi hg];exact⟨λe=>m (d.trans hg) e,(λq e=>by rw[h]at e;cases e),λ_ q e=>by rw[h]at e;cases e⟩
   |false=>
    have g:=EM (u:=u) (p:=p) (put:=put) hk hv hi hg h;exact⟨λe=>(by rw[g]at e;cases e),λq _=>⟨s,B,d.trans hg⟩,λe q k=>by rw[g]at k;cases k;exact .inr (.inl rfl)⟩
theorem Pe {s:ByteArray}{kids:List Nd}(d:dw (jW s) kids=true){i:Nat}{y:Nd}(j:kids[i]? =some y)(g:cY s i=true):y.kind=7:=by
 have A:=(Vt.1 j).1;rw[A7 d A]at g;simp only[vG,decide_eq_true_eq]at g;have h:=x7 s;generalize jW s=n at d g h;have hn:n=0∨n=5∨(n=1∨n=2∨n=3∨n=4):=by omega
 rcases hn with rfl|rfl|hn
 .cases d
 .obtain⟨h1,b,m,q,_⟩:=TZ d;simp only[jJ,lS]at g;obtain rfl:i=2:=by omega
  rw[j]at m;rw[XC m];exact q
 .cases hp:jf y with
  |true=>exact(Cc hp).1
  |false=>
   have:=Ff hn g.1 j hp;rw[d]at this;cases this
theorem Rt(F G:List ByteArray):∀(N:Nat) (x:Nd),x.size<=N->kM x≠none->∀st env u seen out,st.f=none->zx st env seen->
 jw F G (jD F G x st env u).2 out (pw seen out x)/\(x.kind=7->jw F G (zh F G x st env u).2 out (pw seen out x)):=by
 intro N
 induction N with
 |zero=>intro x hx;have:=x.size_pos;omega
 |succ N ih=>
  have J:∀l:List Nd,Nd.ap l<=N->(∀y∈l,kM y≠none)->∀st env u seen out,st.f=none->zx st env seen->jw F G (kT F G l st env u).2 out (ww seen out l):=by
   intro l
   induction l with
   |nil=>intro _ _ st env u seen out h d;rw[kT,ww];exact jw.refl h
   |cons x r iR=>
    intro W D st env u seen out h d;simp only[Nd.ap]at W;rw[jc,ww];have g:=(zq F G N x Zo st env u).1;exact(ih x Zo (D x Zs) st env u seen out h d).1.comp (λA=>iR Zo (λy m=>D y (by simp[m])) _ env u seen _ A (d.gr g.vars)) (wk F G r _ env u) (yH seen r _)
  have gI:∀(s:ByteArray) (l:List Nd),Nd.ap l<=N->(∀y∈l,kM y≠none)->∀i,(∀k y,l[k]? =some y->cY s (i+k)=true->y.kind=7)->∀st env u seen out,st.f=none->zx st env seen->
   jw F G (ki F G s l i st env u).2.2 out (ww seen out l)/\Gr st (ki F G s l i st env u).2.2:=by
   intro s l
   induction l with
   |nil=>intro _ _ i _ st env u seen out h d;rw[ki,ww];exact⟨jw.refl h,Gr.refl _⟩
   |cons x r iR=>
    intro W D i M st env u seen out h d;simp only[Nd.ap]at W;obtain⟨Z,g2⟩:=zq F G N x Zo st env u;obtain⟨I,E⟩:=ih x Zo (D x Zs) st env u seen out h d;have O:∀k y,r[k]? =some y->cY s (i+1+k)=true->y.kind=7:=λk y m e2=>M (k+1) y (by simpa using m) (by rw[show i+(k+1)=i+1+k from by omega];exact e2)
    have Y:∀(l:List Nd) (i:Nat) (st:ah),Nd.ap l<=N->Gr st (ki F G s l i st env u).2.2:=by
     intro l
     induction l with
     |nil=>intro i st _;rw[ki];exact Gr.refl _
     |cons y q ihq=>
      intro i st hq;simp only[Nd.ap]at hq;obtain⟨k1,k2⟩:=zq F G N y Zo st env u;cases hi:cY s i with
      |true=>rw[zJ _ _ _ _ _ _ _ _ _ hi];exact k2.trans (ihq _ _ Zo)
      |false=>rw[wd _ _ _ _ _ _ _ _ _ hi];exact k1.trans (ihq _ _ Zo)
    rw[ww];cases hi:cY s i with
    |true=>
     rw[zJ _ _ _ _ _ _ _ _ _ hi];have L:=Y r (i+1) (zh F G x st env u).2 Zo;exact⟨(E (M 0 x rfl hi)).comp (λA=>(iR Zo (λy m=>D y (by simp[m])) (i+1) O _ env u seen _ A (d.gr g2.vars)).1) L (yH seen r _),g2.trans L⟩
    |false=>
     rw[wd _ _ _ _ _ _ _ _ _ hi];have L:=Y r (i+1) (jD F G x st env u).2 Zo;exact⟨I.comp (λA=>(iR Zo (λy m=>D y (by simp[m])) (i+1) O _ env u seen _ A (d.gr Z.vars)).1) L (yH seen r _),Z.trans L⟩
  intro x hx D st env u seen out h d;cases x with
  |mk k s lit args ab kids p=>
  have hi:=oO D;simp only[Nd.size]at hx;have H:Nd.ap kids<=N:=by omega
  rw[pw];refine⟨?_,λC=>?_⟩
  .cases aR:eR k s kids with
   |true=>
    rw[zN _ _ _ _ _ _ _ _ _ _ _ _ aR];have B:=aR;unfold eR at B;simp only[vG,decide_eq_true_eq]at B;rw[if_neg Zo,if_neg Zo];exact(gI s kids H hi.fE 0 (λj y m e=>Pe B.2 m (by rwa [X2]at e)) st env u seen out h d).1
   |false=>
    by_cases I:k=1
    .rw[eo _ _ _ _ _ _ _ _ _ _ _ _ aR I,if_neg Zo,if_neg Zo,hi.Nt (.inl I),ww];exact jw.refl h
    by_cases E:k=2
    .rw[ep _ _ _ _ _ _ _ _ _ _ _ _ aR E,if_neg Zo,hi.Nt (.inr E),ww];have:=Jf (F:=F) (G:=G) (out:=out) s u p false h d;simp only[E,true_or,true_and];exact this
    by_cases h3:k=3
    .rw[et _ _ _ _ _ _ _ _ _ _ _ _ aR h3,if_neg Zo];have h4:=Jf (F:=F) (G:=G) (out:=out) s u p true h d;simp only[h3,or_true,true_and];have g:=AG F G st env s u p true;exact h4.comp (λA=>J kids H hi.fE _ env u seen _ A (d.gr g.vars)) (wk F G kids _ env u) (yH seen kids _)
    have cV:¬((k=2∨k=3)/\wV s=0/\s∉seen/\s∉out):=by omega
    rw[if_neg cV];by_cases C:k=7
    .rw[eA _ _ _ _ _ _ _ _ _ _ _ _ aR C,if_pos C];simp only;rw[w7];have Q:=dO (F:=F) (G:=G) st.outer.length true true p args 0 (st.aF (u:Int) args.length) env out h;have hE:zx (st.aF (u:Int) args.length) env seen:=d.gr (Qg _);have T:=zx.decl st.outer.length true true p args 0 _ env seen hE;have U:=zx.decl st.outer.length false true p ab 0 _ _ _ T;have S:jw F G (aS args ab p st env (u:Int)).1 out out:=Q.comp (λA=>dO st.outer.length false true p ab 0 _ _ out A) (zr _ _ _ _ _ _ _ _) (λ_ k=>k);exact(S.comp (λA=>J kids H hi.fE (aS args ab p st env (u:Int)).1 (aS args ab p st env (u:Int)).2 st.outer.length _ out A U) (wk F G kids _ _ _) (yH _ kids _)).of rfl
    rw[if_neg C];have K:=J kids H hi.fE st env u seen out h d;by_cases h8:k=8
    .rw[eB _ _ _ _ _ _ _ _ _ _ _ _ aR h8];exact K
    by_cases h9:k=9
    .rw[eC _ _ _ _ _ _ _ _ _ _ _ _ aR h9];exact K
    by_cases h6:k=6
    .rw[ez _ _ _ _ _ _ _ _ _ _ _ _ aR h6];exact K
    by_cases h5:k=5
    .rw[ew _ _ _ _ _ _ _ _ _ _ _ _ aR h5];exact K
    cases Db:jO kids with
    |true=>
     rw[yD _ _ _ _ _ _ _ _ _ _ _ _ aR ⟨I,E,h3,h5,h6,C,h8,h9⟩ Db];cases mV:kids with
     |nil=>rw[mV]at Db;cases Db
     |cons y r=>
      rw[mV]at Db H hi;simp only[Nd.ap]at H;have m:jR y=true:=Db;have X:=hi.fE y Zs;rw[ww];have e:pw seen out y=out:=by
       cases y with
       |mk k' s' lit' args' temps' kids' p'=>
       unfold jR at m;rw[vG,decide_eq_true_eq,decide_eq_true_eq]at m;have m:k'=2/\kB s'=[115,117,112,101,114]:=m;have bU:=oO X;have AX:s'=eg:=dS.1 m.2;rw[pw,if_neg Zo,bU.Nt (.inr m.1),if_neg (by rw[AX];exact λk=>by have:=k.2.1;revert this;decide),ww]
      rw[e];exact J r Zo (λz hz=>hi.fE z (by simp[hz])) st env u seen out h d
    |false=>
     rw[eu _ _ _ _ _ _ _ _ _ _ _ _ aR ⟨I,E,h3,h5,h6,C,h8,h9⟩ Db];exact K
  .have C:k=7:=C;rw[ye,if_pos C,if_neg Zo];have Q:=dO (F:=F) (G:=G) u true false p args 0 st env out h;have T:=zx.decl u true false p args 0 _ env seen d;have U:=zx.decl u false false p ab 0 _ _ _ T;have S:=Q.comp (λA=>dO u false false p ab 0 _ (kP u true false p args 0 st env).2 out A) (zr _ _ _ _ _ _ _ _) (λ_ k=>k);exact S.comp (λA=>J kids H hi.fE _ _ u _ out A U) (wk F G kids _ _ _) (yH _ kids _)
def bL(s:ByteArray):ByteArray:=⟨#[113]⟩++s
def zY(s:ByteArray):ByteArray:=if wV s≠0 then s else bL s
mutual
def jV:Nd->Nd
 |.mk k s lit args ab kids p=>.mk k (if k=2∨k=3 then zY s else s) lit (args.map bL) (ab.map bL) (kZ kids) p
def kZ:List Nd->List Nd
 |[]=>[]
 |x::r=>jV x::kZ r
end
theorem dt:∀l:List Nd,kZ l=l.map jV:=by
 intro l
 induction l with
 |nil=>rfl
 |cons x r ih=>rw[kZ,ih];rfl
theorem lB(s:ByteArray):kB (bL s)=113::kB s:=by
 unfold kB bL;rw[ByteArray.data_append];simp
theorem Gz {s t:ByteArray}:bL s=bL t↔s=t:=by
 constructor
 .intro h;have:=congrArg kB h;rw[lB,lB]at this;exact jQ (List.cons.inj this).2
 .rintro rfl;rfl
theorem uk(s t:ByteArray)(h:(kB t).head?≠some 113):bL s≠t:=by
 rintro rfl
 rw[lB]at h;exact h rfl
theorem refK_q(s:ByteArray):wV (bL s)=0:=GH (uk s _ Zd) (uk s _ Zd) (uk s _ Zd) (uk s _ Zd) (uk s _ Zd)
theorem RD(s:ByteArray):wV (zY s)=wV s:=by
 unfold zY;split
 .rfl
 .rename_i h;rw[refK_q];omega
theorem Mx(s:ByteArray):zY s=eg↔s=eg:=by
 constructor
 .intro h;unfold zY at h;split at h
  .exact h
  .exact absurd h (uk s _ Zd)
 .rintro rfl;rfl
theorem oz(x:Nd):jR (jV x)=jR x:=by
 cases x with
 |mk k s lit args ab kids p=>
 rw[jV];show(decide (k=2)&&decide (kB (if k=2∨k=3 then zY s else s)=[115,117,112,101,114]))=(decide (k=2)&&decide (kB s=[115,117,112,101,114]));by_cases h:k=2
 .rw[if_pos (.inl h)]
  congr 1
  exact decide_eq_decide.2 (by
   have d:=dS (s:=zY s);have g:=dS (s:=s);have j:=Mx s;exact d.trans (j.trans g.symm))
 .rw[Zf h];rfl
theorem oy(l:List Nd):jO (kZ l)=jO l:=by
 cases l with
 |nil=>rfl
 |cons x r=>rw[kZ];exact oz x
theorem du(x:Nd):(jV x).kind=x.kind/\(jV x).args.length=x.args.length:=by
 cases x;rw[jV];exact⟨rfl,by simp[Nd.args]⟩
theorem dP(x:Nd):jf (jV x)=jf x:=by
 unfold jf;rw[(du x).1,(du x).2]
theorem T0(n:Nat)(l:List Nd):dw n (kZ l)=dw n l:=by
 rw[dt];unfold dw;split
 .match l with
  |[]=>rfl
  |[_]=>rfl
  |[_,b]=>exact dP b
  |_::_::_::_=>rfl
 .match l with
  |[]=>rfl
  |[_]=>rfl
  |[_,_]=>rfl
  |[_,b,c]=>show(jf (jV b)&&jf (jV c))=_;rw[dP,dP]
  |_::_::_::_::_=>rfl
 .match l with
  |[]=>rfl
  |[_]=>rfl
  |[a,b]=>show(jf (jV a)&&jf (jV b))=_;rw[dP,dP]
  |_::_::_::_=>rfl
 .match l with
  |[]=>rfl
  |[a]=>exact dP a
  |_::_::_=>rfl
 .match l with
  |[]=>rfl
  |[_]=>rfl
  |[_,_]=>rfl
  |[_,_,b]=>show(decide ((jV b).kind=7)&&decide ((jV b).args.length=1))=_;rw[(du b).1,(du b).2]
  |_::_::_::_::_=>rfl
 .rfl
theorem Pf(k:Nat)(s:ByteArray)(l:List Nd):eR k (if k=2∨k=3 then zY s else s) (kZ l)=eR k s l:=by
 unfold eR;rw[oy,T0];by_cases h:k=4
 .rw[if_neg Zo]
 .rw[Zf h];rfl
def jZ.aW(r:jZ):jZ:=if r.kind=8 then {r with name:=bL r.name}else r
mutual
def PN.aW:PN->PN
 |.mk k s l rs u b kids=>.mk k s l (rs.map jZ.aW) u b (PN.bY kids)
def PN.bY:List PN->List PN
 |[]=>[]
 |x::r=>PN.aW x::PN.bY r
end
def yA.aW(x:yA):yA:={x with name:=bL x.name}
def ah.aW(st:ah):ah:={st with vars:=st.vars.map yA.aW,bodies:=st.bodies.map PN.bY}
theorem uy(st:ah)(e:Nat)(p:Int):(st.wrong e p).aW=st.aW.wrong e p:=by
 unfold ah.wrong ah.aW;simp only;split <;> rfl
theorem Ia(vs:List yA)(env:List Nat)(nm:ByteArray):jk (vs.map yA.aW) env (bL nm)=jk vs env nm:=by
 unfold jk
 congr 1
 funext v
 rw[Vu];cases h:vs[v]? with
 |none=>rfl
 |some x=>
  simp only[XB];exact decide_eq_decide.2 ⟨λe=>congrArg some (Gz.1 (XC e)),λe=>congrArg some (Gz.2 (XC e))⟩
theorem gT(unit:Nat)(arg own:Bool)(p:Int):∀(l:List ByteArray) (i:Nat) (st:ah) (env:List Nat),kP unit arg own p (l.map bL) i st.aW env=((kP unit arg own p l i st env).1.aW,(kP unit arg own p l i st env).2)
 |[],_,_,_=>rfl
 |nm::r,i,st,env=>by
  rw[QD,kP,kP,nE,nE];have h:st.aW.vars.length=st.vars.length:=Q6 _;have g:jk st.aW.vars env (bL nm)=jk st.vars env nm:=Ia _ _ _;rw[g,h];have j:(if(jk st.vars env nm).isSome=true then st.aW.wrong 180 p else st.aW).aX ⟨bL nm,unit,arg,if(arg&&own)=true then i else -1⟩=((if(jk st.vars env nm).isSome=true then st.wrong 180 p else st).aX ⟨nm,unit,arg,if(arg&&own)=true then i else -1⟩).aW:=by
   have d:∀t:ah,t.aW.aX ⟨bL nm,unit,arg,if(arg&&own)=true then i else -1⟩=(t.aX ⟨nm,unit,arg,if(arg&&own)=true then i else -1⟩).aW:=λt=>by
    unfold ah.aX ah.aW;simp only[QB,QD,QF];rfl
   split
   .rw[<- uy];exact d _
   .exact d _
  rw[j];exact gT unit arg own p r (i+1) _ _
theorem Ni(l:List ByteArray)(s:ByteArray):(l.map bL).findIdx? (λt=>decide (t=bL s))=l.findIdx? (λt=>decide (t=s)):=by
 induction l with
 |nil=>rfl
 |cons x r ih=>
  rw[QD,V9,V9,ih,decide_eq_decide.2 (Gz (s:=x) (t:=s))]
theorem ZH(l:List ByteArray)(s:ByteArray):(l.map bL).any (λt=>decide (t=bL s))=l.any (λt=>decide (t=s)):=by
 rw[<- ig,<- ig,Ni]
theorem Ny(F G:List ByteArray)(st:ah)(env:List Nat)(s:ByteArray)(u:Nat)(p:Int)(put:Bool):
 wC (F.map bL) (G.map bL) st.aW env (zY s) u p put=((wC F G st env s u p put).1.aW,(wC F G st env s u p put).2.aW):=by
 unfold wC;rw[RD];by_cases hk:wV s=0
 .have d:¬wV s≠0:=λk=>k hk
  have j:zY s=bL s:=by unfold zY;rw[if_neg d]
  rw[if_neg d,if_neg d,j];have h:jk st.aW.vars env (bL s)=jk st.vars env s:=Ia _ _ _;rw[h];cases hv:jk st.vars env s with
  |some v=>
   simp only;have g:(st.aW.vars[v]?).map (·.arg)=(st.vars[v]?).map (·.arg):=by
    show((st.vars.map yA.aW)[v]?).map (·.arg)=_;rw[Vu];cases st.vars[v]? <;> rfl
   rw[g];refine Prod.ext rfl ?_;simp only;split
   .rw[<- uy];rfl
   .rfl
  |none=>
   simp only[Ni,ZH];cases hi:F.findIdx? (λt=>decide (t=s))with
   |some i=>rfl
   |none=>
    simp only;refine Prod.ext rfl ?_;simp only;split
    .rfl
    .exact(uy _ _ _).symm
 .rw[if_pos hk,if_pos hk];refine Prod.ext ?_ rfl;have:=x5 s;show _=jZ.aW _;unfold jZ.aW;rw[if_neg (by simp only;omega)]
theorem Jv(b:Bool)(l:List PN):PN.bY (wL b l)=wL b (PN.bY l):=by
 have d:∀r:List PN,PN.bY (r.map (PN.lG b))=(PN.bY r).map (PN.lG b):=by
  intro r
  induction r with
  |nil=>rfl
  |cons x r ih=>cases x;simp only[QD,PN.bY,ih];rfl
 cases l with
 |nil=>rfl
 |cons x r=>simp only[wL,PN.bY,d]
theorem Jt(F G:List ByteArray):∀(N:Nat) (x:Nd),x.size<=N->∀st env u,
 jD (F.map bL) (G.map bL) (jV x) st.aW env u=((jD F G x st env u).1.aW,(jD F G x st env u).2.aW)/\zh (F.map bL) (G.map bL) (jV x) st.aW env u=((zh F G x st env u).1.aW,(zh F G x st env u).2.aW):=by
 intro N
 induction N with
 |zero=>intro x A;have:=x.size_pos;omega
 |succ N ih=>
  have g:∀l:List Nd,Nd.ap l<=N->∀st env u,kT (F.map bL) (G.map bL) (kZ l) st.aW env u=(PN.bY (kT F G l st env u).1,(kT F G l st env u).2.aW):=by
   intro l
   induction l with
   |nil=>intro _ st env u;rw[kZ,kT,kT];rfl
   |cons x r iR=>
    intro m st env u;simp only[Nd.ap]at m;rw[kZ,jc,jc,(ih x Zo st env u).1];simp only;rw[iR Zo];rfl
  have B:∀(s:ByteArray) (l:List Nd),Nd.ap l<=N->∀i st env u,ki (F.map bL) (G.map bL) s (kZ l) i st.aW env u=(PN.bY (ki F G s l i st env u).1,(ki F G s l i st env u).2.1.map jZ.aW,(ki F G s l i st env u).2.2.aW):=by
   intro s l
   induction l with
   |nil=>intro _ i st env u;rw[kZ,ki,ki];rfl
   |cons x r iR=>
    intro m i st env u;simp only[Nd.ap]at m;rw[kZ];cases hi:cY s i with
    |true=>
     rw[zJ _ _ _ _ _ _ _ _ _ hi,zJ _ _ _ _ _ _ _ _ _ hi,(ih x Zo st env u).2];simp only;rw[iR Zo];have m:st.aW.vars.length=st.vars.length:=Q6 _;rw[m];refine Prod.ext rfl (Prod.ext ?_ rfl);simp only;split <;> rfl
    |false=>
     rw[wd _ _ _ _ _ _ _ _ _ hi,wd _ _ _ _ _ _ _ _ _ hi,(ih x Zo st env u).1];simp only;rw[iR Zo];rfl
  intro x A st env u;cases x with
  |mk k s lit args ab kids p=>
  simp only[Nd.size]at A;have hk:Nd.ap kids<=N:=by omega
  rw[jV];refine⟨?_,?_⟩
  .have d:=Pf k s kids;cases aR:eR k s kids with
   |true=>
    rw[aR]at d;have I:(if k=2∨k=3 then zY s else s)=s:=by
     unfold eR at aR;simp only[vG,decide_eq_true_eq]at aR;rw[if_neg Zo]
    rw[I]at d|-;rw[zN _ _ _ _ _ _ _ _ _ _ _ _ d,zN _ _ _ _ _ _ _ _ _ _ _ _ aR,B s kids hk];rfl
   |false=>
    rw[aR]at d;by_cases h1:k=1
    .rw[eo _ _ _ _ _ _ _ _ _ _ _ _ d h1,eo _ _ _ _ _ _ _ _ _ _ _ _ aR h1];rfl
    by_cases h2:k=2
    .rw[ep _ _ _ _ _ _ _ _ _ _ _ _ d h2,ep _ _ _ _ _ _ _ _ _ _ _ _ aR h2,if_pos (.inl h2),Ny];rfl
    by_cases h3:k=3
    .rw[et _ _ _ _ _ _ _ _ _ _ _ _ d h3,et _ _ _ _ _ _ _ _ _ _ _ _ aR h3,if_pos (.inr h3),Ny];simp only;rw[g kids hk];rfl
    rw[if_neg Zo]at d|-;by_cases h7:k=7
    .rw[eA _ _ _ _ _ _ _ _ _ _ _ _ d h7,eA _ _ _ _ _ _ _ _ _ _ _ _ aR h7,w7,w7];have E:aS (args.map bL) (ab.map bL) p st.aW env (u:Int)=((aS args ab p st env (u:Int)).1.aW,(aS args ab p st env (u:Int)).2):=by
      unfold aS;have C:({st.aW with outer:=st.aW.outer++[(u:Int)],args:=st.aW.args++[(args.map bL).length],bodies:=st.aW.bodies++[[]]}:ah)=ah.aW {st with outer:=st.outer++[(u:Int)],args:=st.args++[args.length],bodies:=st.bodies++[[]]}:=by
       unfold ah.aW;simp only[Q6,QB,QD,QF];rfl
      rw[C];show kP st.outer.length false true p (ab.map bL) 0 (kP st.outer.length true true p (args.map bL) 0 _ env).1 (kP st.outer.length true true p (args.map bL) 0 _ env).2=_;rw[gT,gT]
     rw[E];simp only;have D:=g kids hk (aS args ab p st env (u:Int)).1 (aS args ab p st env (u:Int)).2 st.outer.length;show(_,({(kT (F.map bL) (G.map bL) (kZ kids) (aS args ab p st env (u:Int)).1.aW (aS args ab p st env (u:Int)).2 st.outer.length).2 with bodies:=(kT (F.map bL) (G.map bL) (kZ kids) (aS args ab p st env (u:Int)).1.aW (aS args ab p st env (u:Int)).2 st.outer.length).2.bodies.set st.outer.length (kT (F.map bL) (G.map bL) (kZ kids) (aS args ab p st env (u:Int)).1.aW (aS args ab p st env (u:Int)).2 st.outer.length).1}:ah))=_;rw[D];refine Prod.ext rfl ?_;simp only;unfold ah.aW;simp only[List.map_set]
    by_cases h8:k=8
    .rw[eB _ _ _ _ _ _ _ _ _ _ _ _ d h8,eB _ _ _ _ _ _ _ _ _ _ _ _ aR h8,g kids hk];rfl
    by_cases h9:k=9
    .rw[eC _ _ _ _ _ _ _ _ _ _ _ _ d h9,eC _ _ _ _ _ _ _ _ _ _ _ _ aR h9,g kids hk];rfl
    by_cases h6:k=6
    .rw[ez _ _ _ _ _ _ _ _ _ _ _ _ d h6,ez _ _ _ _ _ _ _ _ _ _ _ _ aR h6,g kids hk];rfl
    by_cases h5:k=5
    .rw[ew _ _ _ _ _ _ _ _ _ _ _ _ d h5,ew _ _ _ _ _ _ _ _ _ _ _ _ aR h5,g kids hk,oy];refine Prod.ext ?_ rfl;show PN.mk 6 e0 eV [] 0 false (wL (jO kids) (PN.bY _))=PN.mk 6 e0 eV [] 0 false (PN.bY (wL (jO kids) _));rw[Jv]
    have q:k≠1/\k≠2/\k≠3/\k≠5/\k≠6/\k≠7/\k≠8/\k≠9:=⟨h1,h2,h3,h5,h6,h7,h8,h9⟩;have j:=oy kids;cases Db:jO kids with
    |true=>
     rw[Db]at j;rw[yD _ _ _ _ _ _ _ _ _ _ _ _ d q j,yD _ _ _ _ _ _ _ _ _ _ _ _ aR q Db];have J:(kZ kids).tail=kZ kids.tail:=by cases kids <;> rfl
     have H:Nd.ap kids.tail<=N:=by
      exact zBS
     rw[J,g kids.tail H];rfl
    |false=>
     rw[Db]at j;rw[eu _ _ _ _ _ _ _ _ _ _ _ _ d q j,eu _ _ _ _ _ _ _ _ _ _ _ _ aR q Db,g kids hk];rfl
  .rw[ye,ye,gT];simp only;rw[gT];simp only;rw[g kids hk,Q6];have m:(kP u true false p args 0 st env).1.aW.vars.length=(kP u true false p args 0 st env).1.vars.length:=Q6 _;rw[m];refine Prod.ext ?_ rfl;show PN.mk 14 e0 eV _ 0 false _=PN.mk 14 e0 eV (List.map jZ.aW _) 0 false _;rw[QE];rfl
section
variable (st:ah)
theorem gY:st.aW.af=st.af:=by
 funext v
 show((((st.vars.map yA.aW)[v]?).map (·.unit)).getD 0)=((st.vars[v]?).map (·.unit)).getD 0;rw[Vu];cases st.vars[v]? <;> rfl
theorem oQ:st.aW.bt=st.bt:=by
 funext v
 show((((st.vars.map yA.aW)[v]?).map (·.own)).getD 0)=((st.vars[v]?).map (·.own)).getD 0;rw[Vu];cases st.vars[v]? <;> rfl
theorem Nw:st.aW.rem=st.rem:=by
 funext v
 unfold ah.rem;rw[gY,oQ];rfl
theorem way_ren:st.aW.way=st.way:=by
 funext u v
 unfold ah.way;rw[gY];rfl
theorem W1:st.aW.bi=st.bi:=by
 funext u t
 unfold ah.bi;rw[gY,oQ,way_ren];rfl
theorem qj:st.aW.copied=st.copied:=by
 funext u
 unfold ah.copied;rw[W1];rfl
theorem qQ:st.aW.locals=st.locals:=by
 funext u r
 unfold ah.locals;rw[gY,oQ,Nw];show(List.range (st.vars.map yA.aW).length).filter _=_;rw[Q6]
theorem Ew:st.aW.place=st.place:=by
 funext u t
 unfold ah.place;rw[qj,qQ];rfl
theorem Pn:st.aW.known=st.known:=by
 funext u v
 unfold ah.known;rw[oQ,Ew,gY,Nw,qQ,qj];rfl
theorem Lp(u v:Nat):(st.known u v).kind=5∨(st.known u v).kind=6:=by
 unfold ah.known;split
 .exact .inl rfl
 .split
  .exact .inr rfl
  .exact .inl rfl
theorem Js(r:jZ):r.aW.kind=r.kind/\r.aW.index=r.index:=by
 unfold jZ.aW;split <;> exact⟨rfl,rfl⟩
theorem Z1(u:Nat)(r:jZ):st.aW.fix u r.aW=(st.fix u r).aW:=by
 unfold ah.fix;rw[Pn,(Js r).1,(Js r).2];split
 .have:=Lp st u r.index.toNat;show _=jZ.aW _;unfold jZ.aW;rw[if_neg Zo]
 .rfl
end
mutual
theorem Tz(st:ah)(u:Nat):∀x:PN,eM st.aW u x.aW=(eM st u x).aW
 |.mk k s l rs n b kids=>by
  simp only[PN.aW,eM,QE,tJ st u kids]
  congr 1
  exact QC λr _=>Z1 st u r
theorem tJ(st:ah)(u:Nat):∀l:List PN,zv st.aW u (PN.bY l)=PN.bY (zv st u l)
 |[]=>rfl
 |x::r=>by simp only[PN.bY,zv,Tz st u x,tJ st u r]
end
def jp.aW(x:jp):jp:={x with body:=PN.bY x.body}
theorem R7(st:ah)(u:Nat):st.aW.aB u=(st.aB u).aW:=by
 unfold ah.aB jp.aW;simp only;rw[qj,Ew,qQ];have d:st.aW.bodies.getD u []=PN.bY (st.bodies.getD u []):=by
  show(st.bodies.map PN.bY).getD u []=_;rw[Vh,Vh,Vu];cases st.bodies[u]? <;> rfl
 rw[d,tJ];rfl
theorem Kz(st:ah):st.aW.answer=(st.answer.1.map jp.aW,st.answer.2):=by
 have h:(List.range st.outer.length).map st.aW.aB=((List.range st.outer.length).map st.aB).map jp.aW:=by
  rw[QE];exact QC λu _=>R7 st u
 unfold ah.answer;have g:st.aW.f=st.f:=rfl;have j:st.aW.outer=st.outer:=rfl;rw[g,j,h];cases st.f with
 |some f=>rfl
 |none=>
  simp only;have d:(((List.range st.outer.length).map st.aB).map jp.aW).any jp.Ta=((List.range st.outer.length).map st.aB).any jp.Ta:=by
   rw[List.any_map];rfl
  rw[d];split
  .rfl
  .split <;> rfl
theorem XK(F G args ab:List ByteArray)(kids:List Nd):zu (F.map bL) (G.map bL) (args.map bL) (ab.map bL) (kZ kids)=(zu F G args ab kids).aW:=by
 have h:=(Jt F G _ (.mk 7 e0 eV args ab kids 0) (Qt _) {fR with outer:=[]} [] 0).1;have d:∀(st:ah) (args ab:List ByteArray) (kids:List Nd) (F G:List ByteArray),lN F G args ab kids 0 st [] (-1)={lN F G args ab kids 0 st [] (-1)with outer:=(lN F G args ab kids 0 st [] (-1)).outer}:=λ_ _ _ _ _ _=>rfl
 clear h d;unfold zu;rw[w7,w7];have m:aS (args.map bL) (ab.map bL) 0 fR [] (-1)=((aS args ab 0 fR [] (-1)).1.aW,(aS args ab 0 fR [] (-1)).2):=by
  unfold aS;have j:({fR with outer:=fR.outer++[-1],args:=fR.args++[(args.map bL).length],bodies:=fR.bodies++[[]]}:ah)=ah.aW {fR with outer:=fR.outer++[-1],args:=fR.args++[args.length],bodies:=fR.bodies++[[]]}:=by
   unfold ah.aW;simp only[Q6,QB,QD,QF];rfl
  rw[j,gT,gT]
 rw[m];simp only;have g:∀(l:List Nd) st env u,kT (F.map bL) (G.map bL) (kZ l) st.aW env u=(PN.bY (kT F G l st env u).1,(kT F G l st env u).2.aW):=by
  intro l
  induction l with
  |nil=>intro st env u;rw[kZ,kT,kT];rfl
  |cons x r iR=>
   intro st env u;rw[kZ,jc,jc,(Jt F G _ x (Qt _) st env u).1];simp only;rw[iR];rfl
 rw[g];simp only;unfold ah.aW;simp only[List.map_set]
def jZ.gO(r:jZ):jZ:={r with name:=e0}
mutual
def PN.pH:PN->PN
 |.mk k s l rs u b kids=>.mk k s l (rs.map jZ.gO) u b (PN.dh kids)
def PN.dh:List PN->List PN
 |[]=>[]
 |x::r=>PN.pH x::PN.dh r
end
mutual
theorem HN:∀x:PN,x.aW.pH=x.pH
 |.mk k s l rs u b kids=>by
  simp only[PN.aW,PN.pH,QE,DM kids]
  congr 1
  exact QC λr _=>by
   show jZ.gO (jZ.aW r)=jZ.gO r;unfold jZ.aW;split <;> rfl
theorem DM:∀l:List PN,PN.dh (PN.bY l)=PN.dh l
 |[]=>rfl
 |x::r=>by simp only[PN.bY,PN.dh,HN x,DM r]
end
mutual
def zP:Nd->Bool
 |.mk k s _ args ab kids _=>(!decide (k=2∨k=3)||decide (s.size < 40))&&(args.all λa=>decide (a.size < 40))&&(ab.all λa=>decide (a.size < 40))&&wo kids
def wo:List Nd->Bool
 |[]=>true
 |x::r=>zP x&&wo r
end
theorem xh {x:Nd}:∀{l:List Nd},wo l=true->x∈l->zP x=true:=by
 intro l
 induction l with
 |nil=>intro _ h;cases h
 |cons y r ih=>
  intro h hx;simp only[wo,vG]at h;exact zDZ
theorem Nr {s:ByteArray}(h:wm s=true)(hs:s.size < 40):wm (bL s)=true:=by
 unfold wm at h|-;rw[lB];have d:=kV s;generalize kB s=l at h d;cases l with
 |nil=>cases h
 |cons c r=>
  unfold fF at h;simp only[vG,decide_eq_true_eq]at h;show(decide ((113::c::r).length<=40)&&Be 113&&(113::c::r).all nX)=true;rw[vf,h.2,Zt (by simp only[Vz]at d|-;omega)];decide
theorem MY {s:ByteArray}(h:jF s=true)(d:s.size < 40):jF (bL s)=true:=by
 unfold jF;rw[Nr (dz h) d,lB,vI];have:zz.contains (113::kB s)=false:=by
  simp[zz]
 rw[this];rfl
theorem Ms {s:ByteArray}:zz.contains (kB s)=true↔wV s≠0:=by
 constructor
 .intro h;have g:kB s∈zz:=vt.1 h;have d:∀t:ByteArray,kB s=kB t->wV t≠0->wV s≠0:=λt e h=>by rw[jQ e];exact h
  simp only[zz,QI,QZ,or_false]at g;rcases g with e|e|e|e|e
  .exact d qX (e.trans Zd) Zd
  .exact d eg (e.trans Zd) Zd
  .exact d Bv (e.trans Zd) Zd
  .exact d qY (e.trans Zd) Zd
  .exact d mi (e.trans Zd) Zd
 .intro h;by_cases h1:s=qX
  .subst h1;decide
  by_cases h2:s=eg
  .subst h2;decide
  by_cases h3:s=Bv
  .subst h3;decide
  by_cases h4:s=qY
  .subst h4;decide
  by_cases h5:s=mi
  .subst h5;decide
  exact absurd (GH h1 h2 h3 h4 h5) h
theorem OS {s:ByteArray}(h:jF s=true):wV s=0:=by
 unfold jF at h;rw[vG]at h;have d:=h.1;apply Classical.byContradiction;intro c;rw[Ms.2 c]at d;cases d
theorem R3 {s:ByteArray}(h:jF s=true)(d:s.size < 40):jF (zY s)=true:=by
 unfold zY;rw[if_neg (λk=>k (OS h))];exact MY h d
theorem R4 {s:ByteArray}(h:wm s=true)(d:s.size < 40):wm (zY s)=true:=by
 unfold zY;split
 .exact h
 .exact Nr h d
theorem Lw(x:Nd):wE (jV x)=wE x:=by
 cases x with
 |mk k s lit args ab kids p=>
 show(if k=3 then 1 else if k=5 then 2 else if k=4 then zw (if k=2∨k=3 then zY s else s)else 6)=(if k=3 then 1 else if k=5 then 2 else if k=4 then zw s else 6);by_cases h:k=2∨k=3
 .rw[if_pos h];by_cases h3:k=3
  .rw[if_pos h3,if_pos h3]
  .have d:k=2:=by omega
   subst d;rfl
 .rw[if_neg h]
theorem dV(x:Nd)(p:Nat)(r:Rs):jX (jV x) p r=jX x p r:=by
 unfold jX uX;rw[oz,Lw,(du x).1]
theorem Az(x:Nd)(s:ByteArray)(r:Rs):wx (jV x) s r=wx x s r:=by
 unfold wx;rw[oz,dV]
theorem oB(p:Nat):∀(l:List Nd) (rs:List Rs),yM p (kZ l) rs=yM p l rs
 |[],rs=>by cases rs <;> rfl
 |x::l,[]=>rfl
 |x::l,r::rs=>by rw[kZ];simp only[yM,dV,oB p l rs]
theorem Er:∀(l:List Nd) (rs:List Rs),lr (kZ l) rs=lr l rs
 |[],rs=>by cases rs <;> rfl
 |x::l,[]=>rfl
 |x::l,r::rs=>by rw[kZ];simp only[lr,(du x).1,Er l rs]
theorem rC:∀(l:List Nd) (rs:List Rs),wM (kZ l) rs=wM l rs
 |[],rs=>by cases rs <;> rfl
 |[x],[]=>rfl
 |[x],r::rs=>by
  show wM [jV x] (r::rs)=_;simp only[wM,(du x).1,dV]
 |x::y::l,[]=>rfl
 |x::y::l,r::rs=>by
  have:=rC (y::l) rs;rw[kZ]at this|-;rw[kZ];simp only[wM,dV,this]
theorem zG(l:List Nd):(kZ l).length=l.length:=by rw[dt,Q6]
theorem DK(s:ByteArray)(l:List Nd)(rs:List Rs):fB s (kZ l) rs=fB s l rs:=by
 unfold fB;rw[zG,oB]
theorem mh(n:Nat){l:List ByteArray}(r:Rs)(h:∀s∈l,jF s=true)(q:∀s∈l,s.size < 40):wa n (l.map bL) r=wa n l r:=by
 unfold wa;have j:l.all jF=true:=vg.2 h;have m:(l.map bL).all jF=true:=vg.2 λs g=>by
  obtain⟨t,d,rfl⟩:=QO.1 g;exact MY (h t d) (q t d)
 rw[j,m,Q6]
theorem LU:∀x,kM x≠none->zP x=true->kM (jV x)=kM x:=by
 have F:∀x,kM x≠none->kM x≠none/\(zP x=true->kM (jV x)=kM x):=λx d=>⟨d,by
  revert d
  have m:∀(N:Nat) (x:Nd),x.size<=N->kM x≠none->zP x=true->kM (jV x)=kM x:=by
   intro N
   induction N with
   |zero=>intro x d;have:=x.size_pos;omega
   |succ N ih=>
    intro x d j G;cases x with
    |mk k s lit args ab kids p=>
    have hi:=oO j;simp only[Nd.size]at d;simp only[zP,vG,vT,vO,decide_eq_true_eq,decide_eq_false_iff_not,vg]at G;obtain⟨⟨⟨J,Q⟩,S⟩,T⟩:=G;have K:wt (kZ kids)=wt kids:=by
     rw[jl,jl,dt,QE];exact QC λy D=>ih y (by have:=Nd.aD D;omega) (hi.fE y D) (xh T D)
    rw[jV,kM,kM,K];rw[kM]at j;generalize B:wt kids=rs at j;have H:∀n:Nat,((args.map bL).length=n↔args.length=n)/\((ab.map bL).length=n↔ab.length=n):=λn=>by simp
    unfold w8;simp only[zG,Q6,DK];by_cases h1:k=1
    .subst h1;rfl
    rw[if_neg h1,if_neg h1];by_cases h2:k=2
    .subst h2;have g:=hi.name (.inl rfl);have C:=R4 g (by rcases J with c|c;exact absurd (.inl rfl) c;exact c);simp only[if_true,true_or,g,C]
    rw[if_neg h2,if_neg h2];by_cases h3:k=3
    .subst h3;have g:=hi.free rfl;have C:=R3 g (by rcases J with c|c;exact absurd (.inr rfl) c;exact c);simp only[if_true,or_true,g,C]
     match kids with
     |[]=>rfl
     |[x]=>
      rw[kZ,kZ]
      match rs with
      |[]=>rfl
      |[r]=>simp only[dV]
      |_::_::_=>rfl
     |_::_::_=>rfl
    rw[if_neg h3,if_neg h3,if_neg (show ¬(k=2∨k=3) by omega)];by_cases h4:k=4
    .subst h4;simp only[if_true]
     match kids with
     |[]=>rfl
     |x::l=>
      rw[kZ]
      match rs with
      |[]=>rfl
      |r::q=>simp only[Az,DK]
    rw[if_neg h4,if_neg h4];by_cases h6:k=6
    .subst h6;rfl
    rw[if_neg h6,if_neg h6];by_cases h5:k=5
    .subst h5;simp only[if_true];unfold w8 at j;simp only[show ¬((5:Nat)=1) by decide,show ¬((5:Nat)=2) by decide,show ¬((5:Nat)=3) by decide,show ¬((5:Nat)=4) by decide,show ¬((5:Nat)=6) by decide,if_false,if_true]at j;have A:=(wR j).2
     match kids,rs,A with
     |[],_,_=>rfl
     |[_],_,_=>rfl
     |x::y::l,[],_=>rfl
     |x::y::l,r::q,A=>
      rw[kZ,kZ];simp only;have I:=(E9 (si A)).1;have g:=Er (y::l) q;rw[kZ]at g;rw[g,Az];have O:q≠[]:=λe=>by
       rw[e]at B;simp only[wt]at B;cases B
      have h:y.kind=6:=by
       cases q with
       |nil=>exact absurd rfl O
       |cons r2 q2=>
        simp only[lr]at I;have:=wR (ud I _ (QK ..));exact of_decide_eq_true this.1
      have E:(jV y).name=y.name:=by
       cases y with
       |mk k' s' lit' args' temps' kids' p'=>
       have h:k'=6:=h;subst h;rfl
      rw[E]
    rw[if_neg h5,if_neg h5];by_cases h7:k=7
    .subst h7;simp only[if_true];obtain⟨L,M⟩:=hi.T5 rfl;rw[rC,mh _ _ M S,mh _ _ L Q]
    rw[if_neg h7,if_neg h7];by_cases h8:k=8
    .subst h8;simp only[if_true,oB]
    rw[if_neg h8,if_neg h8];by_cases h9:k=9
    .subst h9;simp only[if_true]
     match kids with
     |[]=>rfl
     |[x]=>
      rw[kZ,kZ]
      match rs with
      |[]=>rfl
      |[r]=>simp only[dV]
      |_::_::_=>rfl
     |_::_::_=>rfl
    rw[if_neg h9,if_neg h9]
  exact λd=>m _ x (Qt _) d⟩
 exact λx d P=>(F x d).2 P
theorem Ef {w n:Nat}{v:Value}{xs sp:List Value}(h:ky w v n xs sp)(hn:0 < n):∃b o c,v=.slice (some ⟨b,o,none⟩) n c/\n<=c/\∀ys d,ao v ys d=kA b o (ys++d):=by
 cases h with
 |@mk b o _ c _ _ h1 h2 h3=>exact⟨b,o,c,rfl,h3,λ_ _=>rfl⟩
 |nil=>omega
def zA(b:Bool)(rows:List (List Value))(j:Nat):List (List Value):=rows.mapIdx λi r=>if 1<=i/\i<=j then r.set 9 (.bool b)else r
theorem zb {b:Bool}{rows:List (List Value)}{j i:Nat}{r:List Value}(h:rows[i]? =some r):(zA b rows j)[i]? =some (if 1<=i/\i<=j then r.set 9 (.bool b)else r):=by
 unfold zA;rw[List.getElem?_mapIdx,h];rfl
theorem wh(b:Bool)(rows:List (List Value))(j:Nat):(zA b rows j).length=rows.length:=by unfold zA;simp
theorem RL(b:Bool)(rows:List (List Value)):zA b rows 0=rows:=by
 apply V0;intro i;cases h:rows[i]? with
 |none=>
  rw[Vr]at h|-;rw[wh];exact h
 |some r=>rw[zb h,if_neg Zo]
theorem lF {b:Bool}{rows:List (List Value)}{j w:Nat}(h:∀r∈rows,r.length=w):∀r∈zA b rows j,r.length=w:=by
 intro r g;obtain⟨i,d⟩:=Vv g;cases h0:rows[i]? with
 |none=>
  rw[Vr]at h0;have:=(Vt.1 d).1;rw[wh]at this;omega
 |some r0=>
  rw[zb h0]at d;have:=h r0 (Zv h0);rw[<- XC d];split
  .rw[Q8];exact this
  .exact this
theorem GM {b:Bool}{rows:List (List Value)}{j:Nat}{r:List Value}(h:rows[j+1]? =some r):(zA b rows j).set (j+1) (r.set 9 (.bool b))=zA b rows (j+1):=by
 apply V0;intro i;rw[Vw];by_cases e:j+1=i
 .subst e;rw[if_pos rfl,if_pos (by rw[wh];exact(Vt.1 h).1),zb h,if_pos Zo]
 .rw[if_neg e];cases h0:rows[i]? with
  |none=>
   have d:∀m,(zA b rows m)[i]? =none:=λm=>by
    rw[Vr]at h0|-;rw[wh];exact h0
   rw[d,d]
  |some r0=>
   rw[zb h0,zb h0];by_cases c:1<=i/\i<=j
   .rw[if_pos c,if_pos Zo]
   .rw[if_neg c,if_neg Zo]
theorem T3 {w:Nat}:∀{rows:List (List Value)},(∀r∈rows,r.length=w)->∀{j c:Nat} {r:List Value} {u:Value},rows[j]? =some r->c < w->rows.flatten.set (j*w+c) u=(rows.set j (r.set c u)).flatten:=by
 intro rows
 induction rows with
 |nil=>intro _ j c r u h;simp at h
 |cons x l ih=>
  intro g j c r u d s;have m:=g x Zs;cases j with
  |zero=>
   obtain rfl:x=r:=by simpa using d
   rw[Vd,X4,X2,List.set_append_left _ _ Zo];rfl
  |succ j=>
   have q:=ih (λr A=>g r (by simp[A])) (j:=j) (c:=c) (r:=r) (u:=u) (by simpa using d) s;rw[Vd,List.set_append_right _ _ (by rw[m,X1];omega),m];have e:(j+1)*w+c - w=j*w+c:=by rw[X1];omega
   rw[e,q];rfl
theorem rU {w:Nat}:∀{rows:List (List Value)},(∀r∈rows,r.length=w)->rows.flatten.length=rows.length*w:=by
 intro rows
 induction rows with
 |nil=>intro _;simp
 |cons x l ih=>
  intro h;rw[Vd,Vy,ih (λr d=>h r (by simp[d])),h x Zs,Vz,X1];omega
theorem yz.super {T:List kC}{qs:List Nat}{x:PN}{ws:List Value}(h:yz T qs x ws)(b:Bool):yz T qs (x.lG b) (ws.set 9 (.bool b)):=by
 cases h with
 |@mk k nm lit refs unit cf kids lv rv vv a c bk o us hl hr hv ok hz ha hm hs=>
  have d:=hl.len
  match lv,d,hl with
  |[v1,v2,v3,v4,v5],_,hl=>exact .mk (cf:=b) hl hr hv ok hz ha hm hs
theorem Gu {T:List kC}{qs:List Nat}{l:List PN}{rows:List (List Value)}(h:zy T qs l rows)(b:Bool):zy T qs (wL b l) (zA b rows (l.length - 1)):=by
 cases l with
 |nil=>
  have:rows=[]:=vz h.len;subst this;exact zy.nil T qs
 |cons x l=>
  refine⟨?_,lF h.w,λi y r g d=>?_⟩
  .rw[wh,h.len];simp[wL]
  .cases h0:rows[i]? with
   |none=>
    rw[Vr]at h0;have:=(Vt.1 d).1;rw[wh]at this;omega
   |some r0=>
    rw[zb h0]at d;have j:=(Vt.1 h0).1;rw[h.len,Vz]at j;cases i with
    |zero=>
     obtain rfl:x=y:=by simpa[wL]using g
     rw[if_neg Zo]at d;rw[<- XC d];exact h.rd 0 x r0 rfl h0
    |succ i=>
     rw[if_pos ⟨Zo,by rw[Vz];omega⟩]at d;rw[<- XC d];simp only[wL,Vm,Vu]at g;obtain⟨z,m,rfl⟩:=X9.1 g;exact(h.rd (i+1) z r0 (by simpa using m) h0).super b
theorem S0(F G:List ByteArray):∀(l:List Nd) st env u,(kT F G l st env u).1.length=l.length:=by
 intro l
 induction l with
 |nil=>intro st env u;rw[kT];rfl
 |cons x r ih=>intro st env u;rw[jc];simp only[Vz,ih]
theorem Mq(b:Bool)(l:List PN):(wL b l).length=l.length:=by cases l <;> simp[wL]
theorem Wf.Ej {st:ah}(h:Wf st):∀(k u:Nat),u<=st.outer.length->∀x,(st.line u)[k]? =some x->(st.line u)[k+1]? =if st.outer.getD x (-1) < 0 then none else some (st.outer.getD x (-1)).toNat:=by
 intro k
 induction k with
 |zero=>
  intro u g x d;have j:=h.fu u;rw[h.line g]at d|-;obtain rfl:u=x:=by simpa using d
  rw[Vm];split
  .rfl
  .rw[h.line Zo];rfl
 |succ k ih=>
  intro u g x d;have j:=h.fu u;rw[h.line g]at d|-;rw[Vm]at d|-;split at d
  .simp at d
  .rename_i c;rw[if_neg c];exact ih _ Zo x d
theorem Wf.line_lt {st:ah}(h:Wf st){u:Nat}(hu:u < st.outer.length):∀w∈st.line u,w < st.outer.length:=λw d=>by
 have:=h.xW u Zo w d;omega
def ah.around(st:ah)(u:Nat):List Nat:=(st.line u).drop 1
def xC(U:List UC)(l:List Nat)(d:Nat):Value:=match l[d]? with|some x=>kE (qU U x)|none=>.pointer none
theorem p8(st:ah)(u d:Nat):(st.around u)[d]? =(st.line u)[d+1]?:=by
 unfold ah.around;rw[Vo,Nat.add_comm]
theorem gP {U:List UC}{x:Nat}{w:UC}(h:U[x]? =some w):qU U x=w.q:=by unfold qU;rw[h];rfl
theorem gk.outerQ {st:ah}{L:Nat}{U:List UC}{V:List ax}(h:gk st L U V){i:Nat}{u:UC}(d:U[i]? =some u):kO u.outer=xC U (st.around i) 0:=by
 have cL:i < st.outer.length:=by have:=(Vt.1 d).1;rw[h.ul]at this;exact this
 have nN:=h.wf.fu i;have j:(st.line i)[0]? =some i:=by rw[h.wf.line Zo];rfl
 have m:=h.wf.Ej 0 i Zo i j;rw[h.ou i u d];unfold xC;rw[p8,m];by_cases c:st.outer.getD i (-1) < 0
 .rw[if_pos c,if_pos c];rfl
 .rw[if_neg c,if_neg c];obtain⟨w,g⟩:∃w,U[(st.outer.getD i (-1)).toNat]? =some w:=⟨_,Zg (by rw[h.ul];omega)⟩;rw[g];simp only[gP g];rfl
theorem gk.outerN {st:ah}{L:Nat}{U:List UC}{V:List ax}(h:gk st L U V){i d x:Nat}{w:UC}(m:i < st.outer.length)(g:(st.around i)[d]? =some x)(s:U[x]? =some w):kO w.outer=xC U (st.around i) (d+1):=by
 rw[p8]at g;have q:=h.wf.Ej (d+1) i Zo x g;have A:=h.wf.line_lt m x (Zv g);have nN:=h.wf.fu x;rw[h.ou x w s];unfold xC;rw[p8,q];by_cases c:st.outer.getD x (-1) < 0
 .rw[if_pos c,if_pos c];rfl
 .rw[if_neg c,if_neg c];obtain⟨w',j⟩:∃w',U[(st.outer.getD x (-1)).toNat]? =some w':=⟨_,Zg (by rw[h.ul];omega)⟩;rw[j];simp only[gP j];rfl
theorem Yr(o:List Int):∀n u,(Cx o n u).length<=n:=by
 intro n
 induction n with
 |zero=>intro u;simp[Cx]
 |succ n ih=>
  intro u;simp only[Cx];split
  .simp
  .have:=ih (o.getD u.toNat (-1));rw[Vz];omega
theorem Ah(st:ah)(u:Nat):(st.around u).length<=st.outer.length:=by
 have:=Yr st.outer (st.outer.length+1) u;unfold ah.around ah.line;rw[Q0];omega
def ah.nC(st:ah)(u k:Nat):List (Nat×Int):=((st.around u).reverse.take k).flatMap λo=>(st.things o).filter (st.bi u)
theorem H0(st:ah)(u:Nat){k:Nat}(h:(st.around u).length<=k):st.nC u k=st.copied u:=by
 unfold ah.nC ah.copied ah.around;rw[Ql (by rw[List.length_reverse];exact h)]
theorem Oh(st:ah){u k o:Nat}(h:(st.around u).reverse[k]? =some o):st.nC u (k+1)=st.nC u k++(st.things o).filter (st.bi u):=by
 unfold ah.nC;have hl:=(Vt.1 h).1;rw[Qi,h];simp
theorem Mw(st:ah){o m:Nat}(h:m < st.args.getD o 0+1):(st.things o)[m]? =some (o,(m:Int) - 1):=by
 unfold ah.things;rw[Vu,List.getElem?_range h];rfl
theorem rE(st:ah)(o:Nat):(st.things o).length=st.args.getD o 0+1:=by unfold ah.things;simp
theorem D3 {α:Type}{l:List α}{p:α->Bool}{m:Nat}{x:α}(h:l[m]? =some x):(l.take (m+1)).filter p=(l.take m).filter p++(if p x=true then [x]else []):=by
 rw[Qi,h,V5];simp only[Option.toList_some]
 congr 1
 by_cases c:p x=true
 .rw[if_pos c,V6,if_pos c];rfl
 .rw[if_neg c,V6,if_neg c];rfl
theorem KK {st:ah}{u M:Nat}(h:∀j,st.args.getD j 0<=M):(st.copied u).length<=(st.around u).length*(M+1):=by
 have d:∀l:List Nat,(l.flatMap λo=>(st.things o).filter (st.bi u)).length<=l.length*(M+1):=by
  exact zCE
 have:=d (st.around u).reverse;rw[List.length_reverse]at this;exact this
theorem Tj {st:ah}{u M k:Nat}(h:∀j,st.args.getD j 0<=M):(st.nC u k).length<=(st.around u).length*(M+1):=by
 have d:∀l:List Nat,(l.flatMap λo=>(st.things o).filter (st.bi u)).length<=l.length*(M+1):=by
  exact zCE
 have h1:=d ((st.around u).reverse.take k);have g:((st.around u).reverse.take k).length<=(st.around u).length:=by
  have:=List.length_take_le' k (st.around u).reverse;rw[List.length_reverse]at this;exact this
 exact Qv h1 (Qy _ g)
theorem Ie {α s:Type}(f:α->List s){l:List α}{i:Nat}{x:α}(h:l[i]? =some x):∃R,(∀y,((l.set i y).flatMap f).Perm (f y++R))/\∀(k:Nat) z,k≠i->l[k]? =some z->∀a∈f z,a∈R:=by
 induction l generalizing i with
 |nil=>simp at h
 |cons a l ih=>
  cases i with
  |zero=>
   refine⟨l.flatMap f,λy=>by simp,λk z j g b d=>?_⟩;cases k with
   |zero=>exact absurd rfl j
   |succ k=>exact QM.2 ⟨z,Zv (by simpa using g),d⟩
  |succ i=>
   obtain⟨R,m,q⟩:=ih (i:=i) (by simpa using h);refine⟨f a++R,λy=>?_,λk z j g b d=>?_⟩
   .simp only[List.set_cons_succ,List.flatMap_cons];refine(vZ _ (m y)).trans ?_;exact zAU
   .cases k with
    |zero=>
     obtain rfl:a=z:=by simpa using g
     exact Zw _ d
    |succ k=>exact QH _ (q k z Zo (by simpa using g) b d)
theorem wk_cop2 {U:List UC}{V:List ax}{i:Nat}{u:UC}(G:U[i]? =some u):∃R,(WK U V).Perm ([.obj u.nb (.map u.es u.cl)]++(kA u.q 7 [u.cv]++(ao u.cv (u.dZ.flatMap ja) u.cC++R)))/\
 (∀g d h,(WK (U.set i {u with dZ:=g,cv:=d,cC:=h}) V).Perm ([.obj u.nb (.map u.es u.cl)]++(kA u.q 7 [d]++(ao d (g.flatMap ja) h++R))))/\
 (∀(k:Nat) z,k≠i->U[k]? =some z->∀a∈z.atoms,a∈R)/\kC.own u.q 9∈R/\∀a∈kA u.q 0 [.int .i64 u.args,.int .i64 u.locals,.int .i64 u.ay,kO u.outer,.int .i64 u.num,u.tv,.map (some u.nb)],a∈R:=by
 obtain⟨F,I,L⟩:=Ie UC.atoms G;obtain⟨X,m⟩:∃X,X=(kC.own u.q 9::(kA u.q 0 [.int .i64 u.args,.int .i64 u.locals,.int .i64 u.ay,kO u.outer,.int .i64 u.num,u.tv,.map (some u.nb)]++(kA u.q 8 [u.body]++ao u.tv (u.ab.map λb=>kO (some b)) u.lM))):=⟨_,rfl⟩;have J:∀g d h,({u with dZ:=g,cv:=d,cC:=h}:UC).atoms.Perm (([.obj u.nb (.map u.es u.cl)]++(kA u.q 7 [d]++ao d (g.flatMap ja) h))++X):=λg d h=>by
  unfold UC.atoms UC.row;rw[m];have e:kA u.q 0 [.int .i64 u.args,.int .i64 u.locals,.int .i64 u.ay,kO u.outer,.int .i64 u.num,u.tv,.map (some u.nb),d,u.body]=kA u.q 0 [.int .i64 u.args,.int .i64 u.locals,.int .i64 u.ay,kO u.outer,.int .i64 u.num,u.tv,.map (some u.nb)]++(kA u.q 7 [d]++kA u.q 8 [u.body]):=rfl;simp only;rw[e];generalize kA u.q 0 [.int .i64 u.args,.int .i64 u.locals,.int .i64 u.ay,kO u.outer,.int .i64 u.num,u.tv,.map (some u.nb)]=A;generalize kA u.q 7 [d]=B;generalize kA u.q 8 [u.body]=C;generalize ao u.tv (u.ab.map λb=>kO (some b)) u.lM=D;generalize ao d (g.flatMap ja) h=E;generalize kC.obj u.nb (.map u.es u.cl)=o;generalize kC.own u.q 9=w;simp only[vm,vr];have N:(A++(B++(C++(D++(E++[o]))))).Perm (o::(B++(E++(A++(C++D))))):=by
   refine List.Perm.trans (l₂:=(A++(B++(C++(D++E))))++[o]) (by simp only[vm];exact ve _) ?_;refine Qa.trans (List.Perm.cons o ?_);refine(Qc A B _).trans (vZ _ ?_);refine List.Perm.trans (l₂:=(A++(C++D))++E) (by simp only[vm];exact ve _) ?_;exact Qa
  refine(List.Perm.cons w N).trans ?_;refine(List.Perm.swap _ _ _).trans (List.Perm.cons o ?_);refine List.Perm.trans (l₂:=[w]++(B++(E++(A++(C++D))))) (ve _) ?_;refine(Qc _ B _).trans (vZ _ ?_);exact(Qc _ E _)
 have j:∀g d h,(WK (U.set i {u with dZ:=g,cv:=d,cC:=h}) V).Perm ([.obj u.nb (.map u.es u.cl)]++(kA u.q 7 [d]++(ao d (g.flatMap ja) h++(X++(F++V.flatMap ax.atoms))))):=λg d h=>by
  unfold WK;refine(vd _ ((I _).trans (vd _ (J g d h)))).trans ?_;simp only[vm];exact ve _
 refine⟨X++(F++V.flatMap ax.atoms),?_,j,λk z K M a s=>QH _ (Zw _ (L k z K M a s)),Zw _ (by rw[m];exact QK ..),λa s=>Zw _ (by rw[m];exact QJ _ (Zw _ s))⟩;have:=j u.dZ u.cv u.cC;have H:U.set i {u with dZ:=u.dZ,cv:=u.cv,cC:=u.cC}=U:=za G
 rwa [H]at this
theorem DQ(st:ah){l:List Nat}{j v:Nat}(h:l[j]? =some v)(r:Bool):yi st (l.take (j+1)) r=yi st (l.take j) r+(if st.rem v=r then 1 else 0):=by
 unfold yi;rw[D3 h,Vy];by_cases c:st.rem v=r
 .rw[if_pos (Zt c),if_pos c];rfl
 .rw[if_neg (by simpa using c),if_neg c];rfl
section
variable {P:Program} {n:Nat} {Γ:Env} {H:SH} {Z:List PanicEntry->Env->SH->Prop} {K:Env->SH->Prop} {rs:List RO} {d:Option Nat}
theorem RW {m:Operand}{b c:Nat}{es:Array MapEntry}{l:List ((Nat×Int)×Int)}(A:ev Γ m=some (.map (some b)))(B:yx H b (.map es c))(s:CR es.toList l)
 (h:VO P n rs (aq d (.int .i64 l.length) Γ) H Z K):VO P n (⟨d,none,.Wz m⟩::rs) Γ H Z K:=by
 refine VO.read rfl rfl (λρ j=>⟨_,rfl,λF w C=>?_⟩) h;rw[j _ _ A];have q:=iO (P:=P) B.mem C;have g:es.size=l.length:=by
  have:=congrArg List.length s;simpa using this
 simp[wg,q,g]
end
theorem idx_map {α d:Type}[DecidableEq α][DecidableEq d]{f:α->d}{x:α}:∀{l:List α},(∀y∈l,f y=f x->y=x)->(l.map f).findIdx? (λy=>decide (y=f x))=l.findIdx? λy=>decide (y=x):=by
 intro l
 induction l with
 |nil=>intro _;rfl
 |cons y l ih=>
  intro h;rw[QD,V9,V9,ih (λz g=>h z (by simp[g]))];have e:decide (f y=f x)=decide (y=x):=decide_eq_decide.2 ⟨h y Zs,λe=>by rw[e]⟩;rw[e]
theorem gk.Xr {st:ah}{L:Nat}{U:List UC}{V:List ax}(h:gk st L U V){i j:Nat}(E:i < st.outer.length)(F:j < st.outer.length)(e:qU U i=qU U j):i=j:=by
 obtain⟨u,C⟩:∃u,U[i]? =some u:=⟨_,Zg (by rw[h.ul];exact E)⟩;obtain⟨w,D⟩:∃w,U[j]? =some w:=⟨_,Zg (by rw[h.ul];exact F)⟩;rw[gP C,gP D]at e;have s:(U.map UC.q)[i]? =some u.q:=by rw[Vu,C];rfl
 have d:(U.map UC.q)[j]? =some w.q:=by rw[Vu,D];rfl
 rw[<- e]at d;have g:=(Vt.1 s).1;have m:=(Vt.1 d).1;have A:(U.map UC.q)[i]=(U.map UC.q)[j]:=by
  rw[Zg g]at s;rw[Zg m]at d;rw[XC s,XC d]
 have B:=List.pairwise_iff_getElem.1 h.inj;rcases Nat.lt_trichotomy i j with c|c|c
 .exact absurd A (B i j g m c)
 .exact c
 .exact absurd A.symm (B j i m g c)
theorem gk.idx {st:ah}{L:Nat}{U:List UC}{V:List ax}(h:gk st L U V)(j:Ph st){i:Nat}(g:i < st.outer.length){t:Nat×Int}(m:t.1 < st.outer.length):
 (zi U (st.copied i)).findIdx? (λy=>decide (y=(qU U t.1,t.2)))=(st.copied i).findIdx? λy=>decide (y=t):=by
 unfold zi;exact idx_map (f:=λt:Nat×Int=>(qU U t.1,t.2)) (x:=t) λy q e=>by
  have d:=(j.oF g q).2.2.1;simp only[XE]at e;exact Prod.ext (h.Xr d m e.1) e.2
theorem gk.cells {st:ah}{U:List UC}{V:List ax}(h:gk st st.outer.length U V){i:Nat}{u:UC}(s:U[i]? =some u):∃g j,u.cv=.slice g (st.copied i).length j/\u.args=st.args.getD i 0/\u.locals=(st.locals i false).length/\u.ay=(st.locals i true).length/\
 ∀(k:Nat) t,(zi U (st.copied i))[k]? =some t->∃b o,g=some ⟨b,o,none⟩/\∀y∈kA b (o+k*2) [kE t.1,.int .i64 t.2],y∈u.atoms:=by
 have B:=(Vt.1 s).1;rw[h.ul]at B;obtain⟨F,G,m,C⟩:=h.la i u s B;have d:(zi U (st.copied i)).length=(st.copied i).length:=Q6 _;obtain⟨g,j,A⟩:=C.form;rw[m,d]at A;refine⟨g,j,A,(h.ar i u s).1,F,G,λk t D=>?_⟩;have Fq:=(Vt.1 D).1;obtain⟨b,o,c,E,_,q⟩:=Ef C (by rw[m];omega);rw[A,Value.slice.injEq]at E;refine⟨b,o,E.1,λy I=>?_⟩;unfold UC.atoms;refine QJ _ (QH _ (QH _ (Zw _ ?_)));rw[q,ku];refine Zw _ ?_;rw[m,Va];exact iW (rows:=(zi U (st.copied i)).map ja) (λr H=>by obtain⟨z,_,rfl⟩:=QO.1 H;rfl) (by rw[Vu,D];rfl) y I
def Ab {α:Type}(w:Nat)(Rd:α->List Value->Prop)(T:List kC)(v:Value)(l:List α):Prop:=∃(a:Option Addr) (c bk o:Nat) (us:Nat->List Value),v=.slice a l.length c/\(0 < l.length->a=some ⟨bk,o,none⟩)/\(∀i,i < l.length->∀y∈kA bk (o+i*w) (us i),y∈T)/\∀(i:Nat) x,l[i]? =some x->Rd x (us i)
structure iT {α:Type}(w:Nat)(Rd:α->List Value->Prop)(l:List α)(rows:List (List Value)):Prop where
 len:rows.length=l.length
 w:∀r∈rows,r.length=w
 rd:∀(i:Nat) x r,l[i]? =some x->rows[i]? =some r->Rd x r
section
variable {α:Type} {w:Nat} {Rd Rd':α->List Value->Prop}
theorem iT.nil:iT w Rd [] []:=⟨rfl,Zs,λi x r h=>by simp at h⟩
theorem iT.imp {l:List α}{rows:List (List Value)}(h:iT w Rd l rows)(g:∀x r,Rd x r->Rd' x r):iT w Rd' l rows:=⟨h.len,h.w,λi x r j d=>g _ _ (h.rd i x r j d)⟩
theorem iT.snoc {l:List α}{rows:List (List Value)}{x:α}{r:List Value}(h:iT w Rd l rows)(d:r.length=w)(hx:Rd x r):iT w Rd (l++[x]) (rows++[r]):=by
 refine⟨by simp[h.len],λg j=>?_,λi y s hy hs=>?_⟩
 .rcases QG.1 j with h1|h1
  .exact h.w g h1
  .rw[QU.1 h1];exact d
 .exact zAO
theorem Ab.nil(T:List kC):Ab w Rd T Nz []:=⟨none,0,0,0,λ_=>[],rfl,λh=>absurd h Zs,λi d=>absurd d Zs,λi x h=>by simp at h⟩
theorem Ab.imp {T d:List kC}{v:Value}{l:List α}(h:Ab w Rd T v l)(B:∀x∈T,x∈d)(A:∀x r,Rd x r->Rd' x r):Ab w Rd' d v l:=by
 obtain⟨a,c,bk,o,us,g,j,m,q⟩:=h;exact⟨a,c,bk,o,us,g,j,λi s y D=>B _ (m i s y D),λi x C=>A _ _ (q i x C)⟩
theorem sl_made {B:List kC}{l:List α}{sv:Value}{rows:List (List Value)}{sp:List Value}(d:ky w sv l.length rows.flatten sp)(hr:iT w Rd l rows):Ab w Rd (ao sv rows.flatten sp++B) sv l:=by
 have aC:∀i,i < l.length->rows[i]? =some (rows.getD i []):=λi hi=>by
  exact zE6
 generalize g:l.length=m at d;generalize q:rows.flatten=xs at d|-;cases d with
 |@mk bk o _ c _ _ h1 h2 h3=>
  rw[<- g];subst q;refine⟨_,c,bk,o,λi=>rows.getD i [],rfl,λ_=>rfl,λi hi y hy=>?_,λi x j=>?_⟩
  .exact zDA
  .have hi:=(Vt.1 j).1;exact hr.rd i x _ j (aC i hi)
 |nil=>
  have s:l=[]:=vz g;subst s;exact Ab.nil _
end
def NT(x:jp)(cv bv:Value):List Value:=[.int .i64 x.outer,.int .i64 x.args,cv,.int .i64 x.locals,.int .i64 x.ay,bv]
def YU(T:List kC)(x:jp)(vs:List Value):Prop:=∃cv bv,vs=NT x cv bv/\wA T cv x.copied/\Aa T bv x.body
theorem YU.more {T d:List kC}(g:∀x∈T,x∈d){x:jp}{vs:List Value}(h:YU T x vs):YU d x vs:=by
 obtain⟨cv,j,m,q,s⟩:=h;exact⟨cv,j,m,q.more g,s.more g⟩
theorem YU.len {T:List kC}{x:jp}{vs:List Value}(h:YU T x vs):vs.length=6:=by
 obtain⟨cv,bv,rfl,_⟩:=h;rfl
def th(T:List kC)(v:Value)(l:List jp):Prop:=Ab 6 (YU T) T v l
theorem th.more {T d:List kC}{v:Value}{l:List jp}(h:th T v l)(g:∀x∈T,x∈d):th d v l:=Ab.imp h g λ_ _ k=>k.more g
theorem th.nil(T:List kC):th T Nz []:=Ab.nil T
section
variable {P:Program} {n:Nat} {Γ:Env} {H:SH} {Q:Exit->Env->SH->Prop}
end
abbrev NV:=Nd×List Value
theorem WX {A:List kC}{x:Nd}{vs:List Value}(h:jN A x vs):∃(d:Nat) (g:Int) (j:Nat) (m:ByteArray) (q:Option Addr) (s B:Nat) (C:Option Addr) (D E:Nat) (F:Option Addr) (G H:Nat) (a:Option Addr) (c bk o:Nat) (us:Nat->List Value),
 vs=(rA x.kind x.name d g j m q s B C D E F G H a x.kids.length c x.at_)/\x.kids.length<=140737488355328/\(0 < x.kids.length->a=some ⟨bk,o,none⟩)/\
 (∀i,i < x.kids.length->∀y∈kA bk (o+i*11) (us i),y∈A)/\∀i y,x.kids[i]? =some y->jN A y (us i):=by
 cases h with
 |mk wf hl bD bB ha hm hr rV=>
  obtain⟨_,_,rfl,_⟩:=bD;obtain⟨_,_,rfl,_⟩:=bB;cases hl with
  |mk Se Im qK cP=>exact⟨_,_,_,_,_,_,_,_,_,_,_,_,_,_,_,_,_,_,rfl,wf.many,ha,hm,hr⟩
inductive yY:Lt->List Value->List kC->Prop
 |mk {k:Nat} {n:Int} {b:Nat} {t:ByteArray} {items:List Lt} {sv:Value} {rows:List (List Value)} {sp:List Value} {Ls:Nat->List kC} {L:List kC} (bn:ky 5 sv items.length rows.flatten sp) (hl:rows.length=items.length) (h5:∀r∈rows,r.length=5)
   (hr:∀(i:Nat) x r,items[i]? =some x->rows[i]? =some r->yY x r (Ls i)) (wf:N2 k n b t items.length) (hL:L.Perm (ao sv rows.flatten sp++(List.range items.length).flatMap Ls)):yY (.mk k n b t items) [cv k,vi n,uv b,.string t,sv] L
def gl(v:Value)(l:List ByteArray)(L:List kC):Prop:=∃sp,ky 1 v l.length (l.map Value.string) sp/\L=ao v (l.map Value.string) sp/\l.length<=1099511627776/\∀t∈l,t.size<=140737488355328
inductive eI:Nd->List Value->List kC->Prop
 |mk {k:Nat} {s:ByteArray} {lit:Lt} {args ab:List ByteArray} {kids:List Nd} {p:Int} {lv:List Value} {av tv sv:Value} {rows:List (List Value)} {sp:List Value} {Ls:Nat->List kC} {LL LA LT L:List kC} (bn:ky 11 sv kids.length rows.flatten sp) (hl:rows.length=kids.length) (Ik:∀r∈rows,r.length=11)
   (hr:∀(i:Nat) x r,kids[i]? =some x->rows[i]? =some r->eI x r (Ls i)) (wf:Kv k s kids.length p) (aJ:yY lit lv LL) (bD:gl av args LA) (bB:gl tv ab LT)
   (hL:L.Perm (LL++(LA++(LT++(ao sv rows.flatten sp++(List.range kids.length).flatMap Ls))))):eI (.mk k s lit args ab kids p) ([cv k,.string s]++lv++[av,tv,sv,vi p]) L
theorem yY.rd {x:Lt}{vs:List Value}{L:List kC}(h:yY x vs L):zl L x vs:=by
 induction h with
 |@mk k n b t items sv rows sp Ls L bn hl h5 hr wf hL ih=>
  have:=lt_made (B:=(List.range items.length).flatMap Ls) (k:=k) (n:=n) (b:=b) (t:=t) bn hl h5 (λi x r g j=>(ih i x r g j).more λz d=>QM.2 ⟨i,QS.2 (Vt.1 g).1,d⟩) wf;exact this.more λz d=>hL.symm.subset d
theorem gl.rd {v:Value}{l:List ByteArray}{L:List kC}(h:gl v l L):cO L v l:=by
 obtain⟨sp,d,rfl,g,j⟩:=h;exact Mu rfl d g j
theorem eI.rd {x:Nd}{vs:List Value}{L:List kC}(h:eI x vs L):jN L x vs:=by
 induction h with
 |@mk k s lit args ab kids p lv av tv sv rows sp Ls LL LA LT L bn hl Ik hr wf aJ bD bB hL ih=>
  have:=nd_made (B:=LL++(LA++(LT++(List.range kids.length).flatMap Ls))) bn hl Ik (λi x r g j=>(ih i x r g j).more λz d=>by
   simp only[QG];exact .inr (.inr (.inr (QM.2 ⟨i,QS.2 (Vt.1 g).1,d⟩)))) wf (aJ.rd.more λz d=>by simp[d]) (bD.rd.more λz d=>by simp[d]) (bB.rd.more λz d=>by simp[d])
  refine this.more λz d=>hL.symm.subset ?_
  simp only[QG]at d|-;rcases d with h|h|h|h|h
  .exact .inr (.inr (.inr (.inl h)))
  .exact .inl h
  .exact .inr (.inl h)
  .exact .inr (.inr (.inl h))
  .exact .inr (.inr (.inr (.inr h)))
theorem rq {P:Program}{n:Nat}{rs:List RO}{Γ:Env}{H:SH}{Z:List PanicEntry->Env->SH->Prop}{K:Env->SH->Prop}{d:Option Nat}{t:TypeId}{size bytes:Nat}{zero:List Value}{s x:Operand}{a:Option Addr}{j:Nat}
 (m:ev Γ s=some Nz) (q:ev Γ x=some (.slice a 0 j)) (h:VO P n rs (aq d Nz Γ) H Z K):VO P n (⟨d,none,.append t size bytes zero s x⟩::rs) Γ H Z K:=by
 refine VO.act' rfl rfl (λρ g=>⟨_,rfl,?_⟩);rw[g _ _ m,g _ _ q];simp only[fA];rw[if_pos (show 0+0<=0 by omega)];cases a with
 |none=>
  refine aL.bind (aL.pure ?_);exact aL.pure ⟨_,H,[],.inl rfl,Zs,h⟩
 |some ad=>
  have e0:(Builtin.firstCells size 0 (.slice (some ad) 0 j):Sem (Array Value))=pure #[]:=by
   simp only[Builtin.firstCells,X4];rfl
  rw[e0];refine aL.bind (aL.pure ?_);exact aL.pure ⟨_,H,[],.inl rfl,Zs,h⟩
theorem ON(h:Nat->List kC)(g:List kC)(j:Nat):∃d:Nat->List kC,(∀i,i < j->d i=h i)/\d j=g/\(List.range (j+1)).flatMap d=(List.range j).flatMap h++g:=by
 refine⟨λi=>if i < j then h i else g,λi m=>if_pos m,if_neg (Nat.lt_irrefl _),?_⟩;rw[List.range_succ,VV];simp only[List.flatMap_cons,List.flatMap_nil,vp,Nat.lt_irrefl,if_false]
 congr 1
 rw[Va,Va]
 congr 1
 exact QC λi m=>if_pos (QS.1 m)
def gf(l:List Lt)(rows:List (List Value))(K:List kC):Prop:=rows.length=l.length/\(∀r∈rows,r.length=5)/\∃Ls,K=(List.range l.length).flatMap Ls/\∀(i:Nat) x r,l[i]? =some x->rows[i]? =some r->yY x r (Ls i)
def gg(l:List Nd)(rows:List (List Value))(K:List kC):Prop:=rows.length=l.length/\(∀r∈rows,r.length=11)/\∃Ls,K=(List.range l.length).flatMap Ls/\∀(i:Nat) x r,l[i]? =some x->rows[i]? =some r->eI x r (Ls i)
theorem gf.nil:gf [] [] []:=⟨rfl,λr d=>(by cases d),λ_=>[],rfl,λi x r h=>(by simp at h)⟩
theorem gg.nil:gg [] [] []:=⟨rfl,λr d=>(by cases d),λ_=>[],rfl,λi x r h=>(by simp at h)⟩
theorem GN {α:Type}{l:List α}{z x:α}{i:Nat}(h:(l++[z])[i]? =some x):(i < l.length/\l[i]? =some x)∨(i=l.length/\x=z):=by
 have d:=(Vt.1 h).1;rw[Vy,Q9]at d;by_cases e:i < l.length
 .rw[Vj e]at h;exact .inl ⟨e,h⟩
 .have:i=l.length:=by omega
  subst this;rw[Vl (Qt _),Qz]at h;simp only[Vn,XD]at h;exact .inr ⟨rfl,h.symm⟩
theorem gf.snoc {l:List Lt}{rows:List (List Value)}{K:List kC}(h:gf l rows K){x:Lt}{r:List Value}{L:List kC}(hx:yY x r L):gf (l++[x]) (rows++[r]) (K++L):=by
 exact zAS
theorem gg.snoc {l:List Nd}{rows:List (List Value)}{K:List kC}(h:gg l rows K){x:Nd}{r:List Value}{L:List kC}(hx:eI x r L):gg (l++[x]) (rows++[r]) (K++L):=by
 exact zAS
theorem yY.of {k:Nat}{n:Int}{b:Nat}{t:ByteArray}{items:List Lt}{sv:Value}{rows:List (List Value)}{sp:List Value}{K:List kC}(d:ky 5 sv items.length rows.flatten sp)(h:gf items rows K)(q:N2 k n b t items.length):
 yY (.mk k n b t items) [cv k,vi n,uv b,.string t,sv] (ao sv rows.flatten sp++K):=by
 obtain⟨g,j,Ls,rfl,m⟩:=h;exact .mk d g j m q (ve _)
theorem yY.parts {x:Lt}{vs:List Value}{L:List kC}(h:yY x vs L):∃sv rows sp K,vs=[cv x.kind,vi x.n,uv x.bits,.string x.text,sv]/\ky 5 sv x.items.length rows.flatten sp/\gf x.items rows K/\N2 x.kind x.n x.bits x.text x.items.length/\L.Perm (ao sv rows.flatten sp++K):=by
 cases h with
 |mk bn hl h5 hr wf hL=>exact⟨_,_,_,_,rfl,bn,⟨hl,h5,_,rfl,hr⟩,wf,hL⟩
theorem eI.of {k:Nat}{s:ByteArray}{lit:Lt}{args ab:List ByteArray}{kids:List Nd}{p:Int}{lv:List Value}{j m sv:Value}{rows:List (List Value)}{sp:List Value}{g d LT K:List kC}(C:ky 11 sv kids.length rows.flatten sp)(h:gg kids rows K)(G:Kv k s kids.length p)(q:yY lit lv g)(B:gl j args d)(A:gl m ab LT):
 eI (.mk k s lit args ab kids p) ([cv k,.string s]++lv++[j,m,sv,vi p]) (g++(d++(LT++(ao sv rows.flatten sp++K)))):=by
 obtain⟨D,E,Ls,rfl,F⟩:=h;exact .mk C D E F G q B A (ve _)
theorem eI.parts {x:Nd}{vs:List Value}{L:List kC}(h:eI x vs L):∃lv j m sv rows sp g d LT K,vs=[cv x.kind,.string x.name]++lv++[j,m,sv,vi x.at_]/\ky 11 sv x.kids.length rows.flatten sp/\gg x.kids rows K/\Kv x.kind x.name x.kids.length x.at_/\
 yY x.lit lv g/\gl j x.args d/\gl m x.ab LT/\L.Perm (g++(d++(LT++(ao sv rows.flatten sp++K)))):=by
 cases h with
 |mk bn hl Ik hr wf aJ bD bB hL=>exact⟨_,_,_,_,_,_,_,_,_,_,rfl,bn,⟨hl,Ik,_,rfl,hr⟩,wf,aJ,bD,bB,hL⟩
structure Foc (p9:Nat)(x0:Nd)(M:List kC)(b o:Nat)(x:Nd)(vs:List Value)(L R:List kC):Prop where
 own:eI x vs L
 here:M.Perm (kA b o vs++(L++R))
 w:x.w<=x0.w
 back:∀y ws L',eI y ws L'->WW x y=false->WW y x=false->∃z us Lz,WW x0 z=false/\WW z x0=false/\eI z us Lz/\(kA b o ws++(L'++R)).Perm (kA p9 0 us++Lz)
theorem NN {P:Program}{n:Nat}{rs:List RO}{Γ:Env}{H:SH}{Z:List PanicEntry->Env->SH->Prop}{K:Env->SH->Prop}{d:Option Nat}{x y:Operand}{a b:ByteArray}(m:ev Γ x=some (.string a))(q:ev Γ y=some (.string b))(j:a.size+b.size<=9223372036854775807)(h:VO P n rs (aq d (.string (a++b)) Γ) H Z K):
 VO P n (⟨d,none,.bin .add x y⟩::rs) Γ H Z K:=
 VO.pure rfl (λρ g=>by simp only[kW,g _ _ m,g _ _ q,y9,RZ,j,if_true]) h
section
variable {H:Type} {enc:TypeId×Value->H} {P:Program} {bulk:DataW H->Nat}
open Go.ChangeShapes Go.WideShapes Go.Deep
end
structure DH (F:List ByteArray)(j:Nat)(es:Array MapEntry)(c:Nat):Prop where
 is:∃m:List (ByteArray×Nat),yK yc (λn:Nat=>.int .i64 n) es c m/\∀nm,jE nm m=(F.take j).findIdx? (λs=>decide (s=nm))
structure DI (G:List ByteArray)(j:Nat)(es:Array MapEntry)(c:Nat):Prop where
 is:∃m:List (ByteArray×Nat),yK yc (λn:Nat=>.int .i64 n) es c m/\(∀nm,decide ((jE nm m).getD 0=0)=!(G.take j).any (λs=>decide (s=nm)))/\∀nm,(jE nm m).getD 0<=j
theorem DH.nil(F:List ByteArray):DH F 0 #[] 0:=⟨[],.nil,λ_=>by rw[Qm];rfl⟩
theorem DI.nil(G:List ByteArray):DI G 0 #[] 0:=⟨[],.nil,λ_=>by rw[Qm];rfl,λ_=>X3 _⟩
theorem DH.all {F:List ByteArray}{j:Nat}{es:Array MapEntry}{c:Nat}(h:DH F j es c)(q:F.length<=j):rJ F es c:=by
 obtain⟨m,g,d⟩:=h.is;rw[Ql q]at d;exact⟨m,g,d⟩
theorem DI.all {G:List ByteArray}{j:Nat}{es:Array MapEntry}{c:Nat}(h:DI G j es c)(q:G.length<=j):xR G es c:=by
 obtain⟨m,g,d,_⟩:=h.is;rw[Ql q]at d;exact⟨m,g,d⟩
theorem Ig {F:List ByteArray}{j:Nat}{s:ByteArray}(d:F[j]? =some s)(nm:ByteArray):(F.take (j+1)).findIdx? (λt=>decide (t=nm))=((F.take j).findIdx? (λt=>decide (t=nm))).or (if s=nm then some j else none):=by
 have hl:=(Vt.1 d).1;have e:F.take (j+1)=F.take j++[s]:=by rw[Qi,d];rfl
 rw[e,List.findIdx?_append,QA,Nat.min_eq_left Zo]
 congr 1
 rw[V9,List.findIdx?_nil];by_cases c:s=nm
 .rw[Zt c,if_pos c];simp
 .rw[Zf c,if_neg c];simp
theorem T6 {G:List ByteArray}{j:Nat}{s:ByteArray}(d:G[j]? =some s)(nm:ByteArray):(G.take (j+1)).any (λt=>decide (t=nm))=((G.take j).any (λt=>decide (t=nm))||decide (s=nm)):=by
 have e:G.take (j+1)=G.take j++[s]:=by rw[Qi,d];rfl
 rw[e,List.any_append,vh,List.any_nil,vV]
theorem EQ(F G args ab:List ByteArray)(kids:List Nd)(E:∀y∈kids,kM y≠none):jw F G (zu F G args ab kids) [] (ww ([]++args++ab) [] kids):=by
 unfold zu;rw[w7];have q:=dO (F:=F) (G:=G) 0 true true 0 args 0 (fR.aF (-1) args.length) [] [] rfl;have D:zx (fR.aF (-1) args.length) [] []:=⟨(λv h=>by cases h),λnm=>by rw[gE];simp⟩;have A:=zx.decl 0 true true 0 args 0 _ [] [] D;have B:zx (aS args ab 0 fR [] (-1)).1 (aS args ab 0 fR [] (-1)).2 ([]++args++ab):=zx.decl 0 false true 0 ab 0 _ _ _ A;have s:jw F G (aS args ab 0 fR [] (-1)).1 [] []:=q.comp (λd=>dO 0 false true 0 ab 0 _ _ [] d) (zr _ _ _ _ _ _ _ _) (λ_ k=>k);have C:∀(l:List Nd),(∀y∈l,kM y≠none)->∀st env u seen out,st.f=none->zx st env seen->jw F G (kT F G l st env u).2 out (ww seen out l):=by
  intro l
  induction l with
  |nil=>intro _ st env u seen out h j;rw[kT,ww];exact jw.refl h
  |cons x r iR=>
   intro m st env u seen out h j;rw[jc,ww];have g:=(zq F G _ x (Qt _) st env u).1;exact(Rt F G _ x (Qt _) (m x Zs) st env u seen out h j).1.comp (λd=>iR (λy H=>m y (by simp[H])) _ env u seen _ d (j.gr g.vars)) (wk F G r _ env u) (yH seen r _)
 exact(s.comp (λd=>C kids E (aS args ab 0 fR [] (-1)).1 (aS args ab 0 fR [] (-1)).2 0 _ [] d B) (wk F G kids _ _ _) (yH _ kids _)).of rfl
theorem HI {st:ah}{e:Nat}{p:Int}(h:st.f=some (e,p)):st.answer=([],e,p):=by
 unfold ah.answer;rw[h]
structure yy (out:List ByteArray)(es:Array MapEntry)(c:Nat):Prop where
 is:∃m,yK yc (λn:Nat=>.int .i64 n) es c m/\∀s,((jE s m).getD 0=0↔wV s=0/\s∉out)
structure td (seen:List ByteArray)(es:Array MapEntry)(c:Nat):Prop where
 is:∃m,yK yc (λn:Nat=>.int .i64 n) es c m/\(∀s,((jE s m).getD 0=0↔s∉seen))/\∀s,(jE s m).getD 0<=seen.length
theorem td.nil:td [] #[] 0:=⟨⟨[],.nil,λs=>by simp[jE],λs=>by simp[jE]⟩⟩
theorem Nn {m:List (ByteArray×Nat)}{s:ByteArray}:ob false (.int .i64 0) ((jE s m).map λn:Nat=>.int .i64 n)=.int .i64 ((jE s m).getD 0:Nat):=by cases jE s m <;> rfl
theorem met_put {out:List ByteArray}{m:List (ByteArray×Nat)}{k:Nat}{s:ByteArray}(h:∀s,((jE s m).getD 0=0↔wV s=0/\s∉out)):∀t,((jE t (jv s (k+1) m)).getD 0=0↔wV t=0/\t∉out++[s]):=by
 intro t;rw[wT,QG,QU];by_cases e:s=t
 .rw[if_pos e];exact⟨λh=>absurd h Zs,λh=>absurd (.inr e.symm) h.2⟩
 .rw[if_neg e,h t];exact⟨λg=>⟨g.1,λc=>c.elim g.2 (λc=>e c.symm)⟩,λg=>⟨g.1,λc=>g.2 (.inl c)⟩⟩
theorem Ul {seen:List ByteArray}{m:List (ByteArray×Nat)}{s:ByteArray}(h:∀s,((jE s m).getD 0=0↔s∉seen))(d:∀s,(jE s m).getD 0<=seen.length):
 (∀t,((jE t (jv s ((jE s m).getD 0+1) m)).getD 0=0↔t∉seen++[s]))/\∀t,(jE t (jv s ((jE s m).getD 0+1) m)).getD 0<=(seen++[s]).length:=by
 refine⟨λt=>?_,λt=>?_⟩
 .rw[wT,QG,QU];by_cases e:s=t
  .rw[if_pos e];exact⟨λh=>absurd h Zs,λh=>absurd (.inr e.symm) h⟩
  .rw[if_neg e,h t];exact⟨λg c=>c.elim g (λc=>e c.symm),λg c=>g (.inl c)⟩
 .rw[wT,Vy,Q9];have:=d s;have:=d t;by_cases e:s=t
  .rw[if_pos e];show(jE s m).getD 0+1<=_;omega
  .rw[if_neg e];omega
theorem Ww:∀s,((jE s (jv mi 1 (jv qY 1 (jv Bv 1 (jv eg 1 (jv qX 1 ([]:List (ByteArray×Nat)))))))).getD 0=0↔wV s=0/\s∉([]:List ByteArray)):=by
 intro s;rw[wT,wT,wT,wT,wT];by_cases a:mi=s
 .rw[if_pos a];subst a;exact⟨λh=>absurd h Zs,λh=>absurd h.1 Zd⟩
 rw[if_neg a];by_cases b:qY=s
 .rw[if_pos b];subst b;exact⟨λh=>absurd h Zs,λh=>absurd h.1 Zd⟩
 rw[if_neg b];by_cases c:Bv=s
 .rw[if_pos c];subst c;exact⟨λh=>absurd h Zs,λh=>absurd h.1 Zd⟩
 rw[if_neg c];by_cases d:eg=s
 .rw[if_pos d];subst d;exact⟨λh=>absurd h Zs,λh=>absurd h.1 Zd⟩
 rw[if_neg d];by_cases e:qX=s
 .rw[if_pos e];subst e;exact⟨λh=>absurd h Zs,λh=>absurd h.1 Zd⟩
 rw[if_neg e];have g:wV s=0:=by
  unfold wV;rw[if_neg (λk=>k.elim (λk=>e k.symm) (λk=>d k.symm)),if_neg (λk=>c k.symm),if_neg (λk=>b k.symm),if_neg (λk=>a k.symm)]
 exact⟨λ_=>⟨g,Zs⟩,λ_=>rfl⟩
mutual
theorem MX(seen:List ByteArray):∀(x:Nd) (out:List ByteArray),(pw seen out x).length<=out.length+x.w
 |.mk k s lit args ab kids p,out=>by
  rw[pw];have:=AD (if k=7 then seen++args++ab else seen) kids (if(k=2∨k=3)/\wV s=0/\s∉seen/\s∉out then out++[s]else out);have h2:(if(k=2∨k=3)/\wV s=0/\s∉seen/\s∉out then out++[s]else out).length<=out.length+1:=by
   split
   .rw[Vy,Q9];exact Qt _
   .omega
  simp only[Nd.w];omega
theorem AD(seen:List ByteArray):∀(l:List Nd) (out:List ByteArray),(ww seen out l).length<=out.length+Nd.ws l
 |[],out=>by rw[ww];simp only[Nd.ws];omega
 |x::r,out=>by
  rw[ww];have h1:=MX seen x out;have h2:=AD seen r (pw seen out x);simp only[Nd.ws];omega
end
mutual
theorem Ii(seen:List ByteArray)(B:Nat):∀(x:Nd) (out:List ByteArray),x.w<=B->(∀t∈out,t.size<=B)->∀t∈pw seen out x,t.size<=B
 |.mk k s lit args ab kids p,out,hw,ho=>by
  rw[pw];simp only[Nd.w]at hw;refine D5 _ B kids _ Zo ?_;split
  .intro t d;rcases QG.1 d with h|h
   .exact ho t h
   .rw[QU.1 h];omega
  .exact ho
theorem D5(seen:List ByteArray)(B:Nat):∀(l:List Nd) (out:List ByteArray),Nd.ws l<=B->(∀t∈out,t.size<=B)->∀t∈ww seen out l,t.size<=B
 |[],out,hw,ho=>by rw[ww];exact ho
 |x::r,out,hw,ho=>by
  rw[ww];simp only[Nd.ws]at hw;exact D5 seen B r _ Zo (Ii seen B x out Zo ho)
end
theorem Gv(b:List Nd):∀(a:List Nd),Nd.ws (a++b)=Nd.ws a+Nd.ws b
 |[]=>by rw[QV,Nd.ws,X2]
 |x::r=>by rw[vr,Nd.ws,Nd.ws,Gv b r,Qn]
theorem D6(seen:List ByteArray)(z:Nd):∀(l:List Nd) (out:List ByteArray),ww seen out (l++[z])=pw seen (ww seen out l) z
 |[],out=>by rw[QV,ww,ww,ww]
 |x::r,out=>by rw[vr,ww,ww,D6 seen z r]
structure FrOk (seen out:List ByteArray)(Dm:Array MapEntry)(mc:Nat)(nk:Array MapEntry)(hc:Nat)(sv:Value)(sp:List Value):Prop where
 met:yy out Dm mc
 held:td seen nk hc
 sl:ky 1 sv out.length (out.map Value.string) sp
theorem RQ {A:List kC}{a:Option Addr}{c:Nat}{l:List ByteArray}(h:cO A (.slice a l.length c) l)(g:0 < l.length):Src A 1 l.length (l.map Value.string) (.slice a l.length c):=by
 obtain⟨a',c',e,_,hr⟩:=h;cases e;obtain⟨t,j⟩:∃t,l[0]? =some t:=⟨_,Zg g⟩;obtain⟨b,o,d,_⟩:=hr 0 t j;cases d;exact zB5
theorem Bj(b:List Lt):∀(a:List Lt),Lt.ap (a++b)=Lt.ap a+Lt.ap b
 |[]=>by rw[QV,Lt.ap,X2]
 |x::r=>by rw[vr,Lt.ap,Lt.ap,Bj b r,Qn]
theorem lt_take {l:List Lt}{j:Nat}{y:Lt}(h:l[j]? =some y):Lt.ap (l.take (j+1))=Lt.ap (l.take j)+y.size:=by
 rw[Qi,h,Bj];simp only[Option.toList,Lt.ap];omega
theorem Ns {l:List Nd}{j:Nat}{y:Nd}(h:l[j]? =some y):Nd.ws (l.take (j+1))=Nd.ws (l.take j)+y.w:=by
 rw[Qi,h,Gv];simp only[Option.toList,Nd.ws];omega
mutual
theorem size_w:∀(x:Nd),x.size<=x.w
 |.mk k s lit args ab kids p=>by
  have:=Cq kids;simp only[Nd.size,Nd.w];omega
theorem Cq:∀(l:List Nd),Nd.ap l<=Nd.ws l
 |[]=>Qt _
 |x::r=>by
  have h1:=size_w x;have h2:=Cq r;simp only[Nd.ap,Nd.ws];omega
end
mutual
theorem cntN_w:∀(x:Nd),nj x<=x.w
 |.mk k s lit args ab kids p=>by
  have:=Ap kids;simp only[nj,gu,Nd.w];omega
theorem Ap:∀(l:List Nd),jM l<=Nd.ws l
 |[]=>Qt _
 |x::r=>by
  have h1:=cntN_w x;have h2:=Ap r;simp only[jM,Nd.ws];omega
end
mutual
theorem finS_w(st:ah)(u:Nat):∀(x:PN),PN.w (eM st u x)=PN.w x
 |.mk k s l rs n b kids=>by
  rw[eM];simp only[PN.w,Q6];rw[Ay st u kids]
theorem Ay(st:ah)(u:Nat):∀(l:List PN),PN.ws (zv st u l)=PN.ws l
 |[]=>by rw[zv]
 |x::r=>by
  rw[zv];simp only[PN.ws];rw[finS_w st u x,Ay st u r]
end
structure SU (l:List jp)(n c:Nat):Prop where
 pos:0 < l.length
 many:l.length<=255
 first:∃y,l[0]? =some y/\y.outer=-1/\y.copied=[]/\y.args=(n:Int)
 unit:∀i x,l[i]? =some x->SY l i x/\x.frame<=63/\x.ay<=63/\PN.ws x.body<=2*c
theorem L6(F G args ab:List ByteArray)(kids:List Nd)(H:∀y∈kids,kM y≠none){l:List jp}(B:(zu F G args ab kids).f=none)(h:(zu F G args ab kids).answer=(l,0,0)):SU l args.length (iX args ab kids):=by
 have hr:=x6 F G args ab kids;have C:=root_pp F G args ab kids H;generalize zu F G args ab kids=st at B h hr C;unfold ah.answer at h;rw[B]at h;simp only at h;split at h
 .cases h
 rename_i tM;split at h
 .cases h
 rename_i q;have g:(List.range st.outer.length).map st.aB=l:=congrArg Prod.fst h;have A:=hr.first.1
 have E:0 < st.outer.length:=(Vt.1 A).1;have O4:l.length=st.outer.length:=by rw[<- g];simp
 have m:∀i,i < st.outer.length->l[i]? =some (st.aB i):=λi d=>by rw[<- g];simp[d]
 refine⟨Zo,Zo,⟨st.aB 0,m 0 E,?_,?_,?_⟩,λi x D=>?_⟩
 .show st.outer.getD 0 (-1)=-1;rw[Vh,A];rfl
 .show(st.copied 0).map _=[];rw[hr.ZT,QF]
 .show((st.args.getD 0 0:Nat):Int)=args.length;rw[Vh,hr.first.2];rfl
 .have d:i < st.outer.length:=by
   have:=(Vt.1 D).1;omega
  have e:=m i d;rw[D]at e;obtain rfl:=XC e;have j:(st.aB i).Ta=false:=by
   rw[Bool.not_eq_true]at q;rw[List.any_eq_false]at q;have:=q (st.aB i) (Zv (by rw[g];exact m i d));simpa using this
  unfold jp.Ta at j;rw[vS]at j;have b1:=of_decide_eq_false j.1;have b2:=of_decide_eq_false j.2;refine⟨by rw[<- g];exact hr.ph.unit C d,Zo,Zo,?_⟩;show PN.ws (zv st i (st.bodies.getD i []))<=_;rw[Ay];refine hr.bw.bd _ ?_;have s:i < st.bodies.length:=by rw[hr.ph.wf.bl];exact d
  rw[Vh,Zg s];exact List.getElem_mem s
def varRow(x:yA):List Value:=[.string x.name,.int .i64 (x.unit:Int),.bool x.arg,.int .i64 x.own]
def useRow(x:Nat×Nat):List Value:=[.int .i64 (x.1:Int),.int .i64 (x.2:Int)]
structure DW where
 vv:Value
 MA:List Value
 ov:Value
 osp:List Value
 av:Value
 asp:List Value
 wv:Value
 wsp:List Value
 bv:Value
 bs:List Value
 bsp:List Value
structure DX where
 q:Nat
 fv:Value
 gv:Value
 F:List ByteArray
 G:List ByteArray
structure DOk (X:DX)(st:ah)(w:DW)(R:List kC):Prop where
 v:ky 4 w.vv st.vars.length (st.vars.flatMap varRow) w.MA
 o:ky 1 w.ov st.outer.length (st.outer.map λn=>Value.int .i64 n) w.osp
 a:ky 1 w.av st.args.length (st.args.map λn:Nat=>Value.int .i64 (n:Int)) w.asp
 u:ky 2 w.wv st.uses.length (st.uses.flatMap useRow) w.wsp
 b:ky 1 w.bv st.bodies.length w.bs w.bsp
 bd:∀(i:Nat) l,st.bodies[i]? =some l->∃v,w.bs[i]? =some v/\Aa R v l
 ef:∀e p,st.f=some (e,p)->e≠0
 F:cO R X.fv X.F
 G:cO R X.gv X.G
 bl:st.bodies.length=st.outer.length
theorem Ml {P:Program}{n:Nat}{rs:List RO}{Γ:Env}{H R:SH}{Z:List PanicEntry->Env->SH->Prop}{K:Env->SH->Prop}{d:Option Nat}{t:TypeId}{size bytes:Nat}{zero:List Value}{s x:Operand}{sv:Value}{k m:Nat}{xs sp ys:List Value}{a:Option Addr}{c:Nat}
 (B:ev Γ s=some sv) (C:ev Γ x=some (.slice a m c)) (D:ky size sv k xs sp) (E:Tk H (ao sv xs sp) R) (M:0 < m->Src R.flatten size m ys (.slice a m c)) (q:ys.length=m*size) (N:ys.all jo=true) (L:zero.length=size) (J:bytes≠0) (F:(2*(k+m)+192)*bytes<=2 ^ 48)
 (h:∀j A,ky size j (k+m) (xs++ys) A->VO P n rs (aq d j Γ) (ao j (xs++ys) A::R) Z K):VO P n (⟨d,none,.append t size bytes zero s x⟩::rs) Γ H Z K:=by
 by_cases hl:0 < m
 .exact kw (m:=m) (ys:=ys) B C D E Zr (M hl) q N L J F h
 .obtain rfl:m=0:=by omega
  obtain rfl:ys=[]:=vz Zo;have G:=h sv sp (by simpa using D);simp only[vp]at G;have I:VO P n rs (aq d sv Γ) H Z K:=VO.imp (ai.perm (by simpa using E.perm)) G;cases D with
  |mk h1 h2' h3=>
   cases a with
   |none=>exact kw (m:=0) (ys:=[]) B C (.mk h1 h2' h3) E Zr Zr Zs Zr L J (by simpa using F) (λj A g=>by simpa using h j A (by simpa using g))
   |some ad=>exact rp B C h3 I
  |nil=>exact rq B C I
section
variable {P:Program} {n:Nat}
def Holds(dst:Nat->Option Nat)(vv:Nat->Value×List kC)(done:List Nat)(Γ:Env):Prop:=∀i∈done,∀t,dst i=some t->look Γ t=some (vv i).1
def Hx(Sl:Env)(ds:List Nat)(Γ:Env):Prop:=∀t v,look Sl t=some v->t∉ds->look Γ t=some v
theorem XM {X:Nat->RO×Oper}{G:Nat->Value->List kC->Prop}{base:SH}{Sl:Env}{ds:List Nat}{an:Nat->List Nat}(li:List Nat)(hn:li.Nodup)(nN:∀i∈li,tf P n [(X i).1] [X i])
 (U:∀i∈li,∀t,(X i).1.dst=some t->t∈ds) (K1:∀i∈li,∀j∈li,∀t,(X i).1.dst=some t->(X j).1.dst=some t->i=j)
 (D:∀d i m,li=d++i::m->∀j∈an i,j∈d)
 (step:∀i∈li,∀(vv:Nat->Value×List kC),(∀j∈an i,G j (vv j).1 (vv j).2)->∀Γ,Holds (λj=>(X j).1.dst) vv (an i) Γ->Hx Sl ds Γ->
   VO P n [(X i).1] Γ base (λ_ _ _=>False) (λA H'=>∃v B,A=aq (X i).1.dst v Γ/\G i v B/\ai H' (B::base)))
 {F:List kC} {J:Exit->Act->World->Prop} {Q:Act->World->Prop} {rest:List (RO×Oper)} {a0:Act} {w0:World}
 (hq:∀(vv:Nat->Value×List kC) C w' A,(∀i∈li,G i (vv i).1 (vv i).2)->Holds (λj=>(X j).1.dst) vv li A->Hx Sl ds A->wH n A C->C.defers=a0.defers->Sat w' ((li.flatMap λi=>(vv i).2)++(base.flatten++F))->kz w0 w'->cH P J Q rest C w'):
 ∀(m d:List Nat),li=d++m->∀(vv:Nat->Value×List kC) Γ a w,(∀i∈d,G i (vv i).1 (vv i).2)->Holds (λj=>(X j).1.dst) vv d Γ->Hx Sl ds Γ->wH n Γ a->a.defers=a0.defers->Sat w ((d.flatMap λi=>(vv i).2)++(base.flatten++F))->kz w0 w->cH P J Q (m.map X++rest) a w:=by
 intro m
 induction m with
 |nil=>
  intro d q vv Γ a w K E H S T Y M;rw[vp]at q;subst q;exact hq vv a w Γ K E H S T Y M
 |cons i m ih=>
  intro d q vv Γ a w K E H S T Y M;have L:i∈li:=by rw[q];simp
  have hb:=D d i m q;have st:=step i L vv (λj g=>K j (hb j g)) Γ (λj g=>E j (hb j g)) H;have AX:Sat w (base.flatten++((d.flatMap λi=>(vv i).2)++F)):=Y.perm (by
   rw[<- vm,<- vm];exact Qa.append_right F)
  have Z:i∉d:=by
   rw[q]at hn;intro h;exact(QW.1 hn).2.2 i h i Zs rfl
  refine st [X i] (nN i L) a w ((d.flatMap λi=>(vv i).2)++F) J (cH P J Q (m.map X++rest)) S AX (λC w' A H' ⟨v,B,k1,k2,k3⟩ g1 g2 g3 g4=>?_) (λ_ _ _ _ _ k=>k.elim);subst k1;have O:∀j∈d,(if j=i then(v,B)else vv j)=vv j:=λj g=>if_neg (λe:j=i=>Z (e ▸ g))
  refine ih (d++[i]) (by rw[q];simp) (λj=>if j=i then(v,B)else vv j) _ C w' (λj g=>?_) (λj g t I=>?_) (λt u hu N=>?_) g1 (g2.trans T) ?_ (M.trans g4)
  .rcases QG.1 g with h|h
   .simp only[O j h];exact K j h
   .rw[QU.1 h];simp only[if_true];exact k2
  .rcases QG.1 g with h|h
   .have Sr:j≠i:=λe=>Z (e ▸ h)
    have W:j∈li:=by rw[q];simp[h]
    simp only[O j h];cases C7:(X i).1.dst with
    |none=>exact E j h t I
    |some s=>
     have:s≠t:=λe=>Sr (K1 j W i L t I (by rw[C7,e]))
     simp only[aq,look,if_neg this];exact E j h t I
   .rw[QU.1 h]at I|-;simp only[if_true];simp only[I,aq,look,if_true]
  .cases C7:(X i).1.dst with
   |none=>exact H t u hu N
   |some s=>
    have:s≠t:=λe=>N (e ▸ U i L s C7)
    simp only[aq,look,if_neg this];exact H t u hu N
  .have g5:=g3.imp k3;have e:((d++[i]).flatMap λj=>(if j=i then(v,B)else vv j).2)=(d.flatMap λi=>(vv i).2)++B:=by
    rw[VV]
    congr 1
    .rw[Va,Va]
     congr 1
     exact QC λj g=>by rw[O j g]
    .simp
   rw[e];refine g5.perm ?_;simp only[Vd,vm];have p1:(B++(base.flatten++((d.flatMap λi=>(vv i).2)++F))).Perm (B++((d.flatMap λi=>(vv i).2)++(base.flatten++F))):=by
    refine vZ _ ?_;rw[<- vm,<- vm];exact Qa.append_right F
   refine p1.trans ?_;rw[<- vm,<- vm (d.flatMap _)];exact Qa.append_right _
def tailB(an:List (List Nat))(k n:Nat):Bool:=(List.range n).all λi=>decide (i < k)||(List.range i).all λj=>(an.getD i []).contains j
def Tq(rs:List RO)(k:Nat):Bool:=Gt ((rs.take k).filterMap λr=>r.dst)
 where Gt:List Nat->Bool
  |[]=>true
  |x::r=>!r.contains x&&Gt r
theorem Jd:∀{l:List Nat},Tq.Gt l=true->l.Nodup:=by
 intro l
 induction l with
 |nil=>intro _;exact .nil
 |cons x r ih=>
  intro h;simp only[Tq.Gt,vG,vO,List.contains_eq_mem,decide_eq_false_iff_not]at h;exact QX.2 ⟨h.1,ih h.2⟩
theorem ZW:∀{rs:List RO} {k:Nat},((rs.take k).filterMap λr=>r.dst).Nodup->∀{i j t:Nat},i < k->j < k->i < rs.length->j < rs.length->(rs.getD i default).dst=some t->(rs.getD j default).dst=some t->i=j:=by
 intro rs
 induction rs with
 |nil=>intro k _ i j t _ _ D;simp at D
 |cons r rs ih=>
  intro k h i j t D hj B s g q;cases k with
  |zero=>omega
  |succ k=>
   simp only[List.take_succ_cons,List.filterMap_cons]at h;have C:∀{m:Nat},m < k->m < rs.length->(rs.getD m default).dst=some t->t∈(rs.take k).filterMap λr=>r.dst:=λ{m} hm A F=>by
    refine List.mem_filterMap.2 ⟨rs.getD m default,?_,F⟩;rw[Vh,Zg A,X7];exact List.mem_take_iff_getElem.2 ⟨m,Zo,rfl⟩
   have E:((rs.take k).filterMap λr=>r.dst).Nodup:=by
    cases hr:r.dst with
    |none=>rw[hr]at h;exact h
    |some d=>rw[hr]at h;exact(QX.1 h).2
   cases i with
   |zero=>
    cases j with
    |zero=>rfl
    |succ j=>
     simp only[List.getD_cons_zero,List.getD_cons_succ]at g q;rw[g]at h;exact absurd (C Zo (by simpa using s) q) (QX.1 h).1
   |succ i=>
    cases j with
    |zero=>
     simp only[List.getD_cons_zero,List.getD_cons_succ]at g q;rw[q]at h;exact absurd (C Zo (by simpa using B) g) (QX.1 h).1
    |succ j=>
     simp only[List.getD_cons_succ]at g q;rw[ih E Zo Zo (by simpa using B) (by simpa using s) g q]
theorem VC.free {Γ:Env}{base:SH}{Q:Exit->Env->SH->Prop}{rs:List RO}{an:List (List Nat)}{aV:List Nat}(k:Nat)(G:Nat->Value->List kC->Prop)(hk:k<=rs.length)(J:tailB an k rs.length=true)(O:Tq rs k=true)
 (step:∀i,i < k->∀(vv:Nat->Value×List kC),(∀j∈an.getD i [],G j (vv j).1 (vv j).2)->∀d,Holds (λj=>(rs.getD j default).dst) vv (an.getD i []) d->Hx Γ ((rs.take k).filterMap λr=>r.dst) d->
   VO P n [rs.getD i default] d base (λ_ _ _=>False) (λN H'=>∃v B,N=aq (rs.getD i default).dst v d/\G i v B/\ai H' (B::base)))
 (fin:∀(vv:Nat->Value×List kC),(∀i,i < k->G i (vv i).1 (vv i).2)->∀d,Holds (λj=>(rs.getD j default).dst) vv (List.range k) d->Hx Γ ((rs.take k).filterMap λr=>r.dst) d->
   VO P n (rs.drop k) d (((List.range k).map λi=>(vv i).2)++base) (λch _ H'=>Q (.panic ch) [] H') (λN H'=>Q .normal (aT aV N) H')):VC P n (.free rs an aV) Γ base Q:=by
 intro ρ kp od code hl a w F QQ hr ha hs hh;obtain⟨id,ops,rfl,E,hm,hb,rfl,rfl⟩:=jn hl;have S:=(wD E).1;refine wpIn_region_draw (λt=>?_);have qM:Region.schedule (P.follows .mixedOrders) ops t=jq ops ops.size t (Array.replicate ops.size false):=by simp[Region.schedule,hm,Region.linearise,jq]
 rw[qM];have hu:pR ops (Array.replicate ops.size false)=List.range ops.size:=by
  exact zAV
 obtain⟨Z,s2,_⟩:=yR hb ops.size t (Array.replicate ops.size false) Zs (by rw[hu];simp);have M6:∀{x y:Nat},y < ops.size->x∈(iV ops).getD y []->MG (jq ops ops.size t (Array.replicate ops.size false)) x y:=λK m=>xS hb (Qt _) (lT m) K
 generalize hl:jq ops ops.size t (Array.replicate ops.size false)=l at*;have bV:∀i,i∈l↔i < ops.size:=λi=>by rw[s2,hu];simp
 have H:∀i,i < ops.size->ops[i]? =some ((rs.zip ops.toList).getD i default).2/\((rs.zip ops.toList).getD i default).1=rs.getD i default/\eU P n ops ((rs.zip ops.toList).getD i default).2=some ((rs.zip ops.toList).getD i default).1:=λi hi=>zI E hi
 have hro:rs.length=ops.size:=by simpa using S
 have rZ:∀i,k<=i->i < rs.length->∀j,j < i->j∈(iV ops).getD i []:=λi hki hi j q=>by
  have:=vg.1 J i (QS.2 hi);simp only[vT,decide_eq_true_eq]at this;rcases this with h|h
  .omega
  .have:=vg.1 h j (QS.2 q);exact vt.1 this
 have tR:l.filter (λi=>decide (i < k))++List.range' k (rs.length - k)=l:=by
  refine uN ?_ Z ?_
  .refine(Qd ?_ Z).2 (λx=>?_)
   .refine QW.2 ⟨Z.filter _,List.nodup_range',λx m y K e=>?_⟩;have E:=(QL.1 m).2;have h2:=QT.1 K;simp only[decide_eq_true_eq]at E;omega
   .simp only[QG,QL,bV,QT,decide_eq_true_eq];omega
  .refine List.pairwise_append.2 ⟨List.pairwise_iff_forall_sublist.2 λh=>h.trans List.filter_sublist,?_,?_⟩
   .refine(List.pairwise_lt_range' (s:=k) (n:=rs.length - k) (step:=1)).imp_of_mem ?_;intro x y m K hxy;have E:=QT.1 m;have h2:=QT.1 K;exact(M6 Zo (rZ y Zo Zo x hxy)).sub
   .intro x m y K;have E:=(QL.1 m).2;have h2:=QT.1 K;simp only[decide_eq_true_eq]at E;exact(M6 Zo (rZ y Zo Zo x Zo)).sub
 generalize K6:l.filter (λi=>decide (i < k))=li at tR;have A:∀i,i∈li↔i < k:=λi=>by
  rw[<- K6,QL,bV,decide_eq_true_eq];omega
 have D:li.Nodup:=K6 ▸ Z.filter _;refine fZ (P:=P) (ρ:=ρ) (n:=n) (ops:=ops) (X:=λi=>(rs.zip ops.toList).getD i default) (QQ:=QQ) (λi hi=>⟨(H i hi).1,(H i hi).2.2⟩) _ a _ (λi hi=>(bV i).1 hi) ?_;rw[<- tR,QB];have g:∀i,i < k->((rs.zip ops.toList).getD i default).1=rs.getD i default:=λi hi=>(H i Zo).2.1
 have Hk:=Jd O;refine XM (X:=λi=>(rs.zip ops.toList).getD i default) (G:=G) (base:=base) (Sl:=Γ) (ds:=(rs.take k).filterMap λr=>r.dst) (an:=λi=>(iV ops).getD i []) li D (λi hi=>?_) (λi hi t L=>?_) (λi hi j q t U W=>?_) ?_ ?_ (F:=F) (a0:=a) (w0:={w with drawn:=w.drawn+1}) ?_ li [] rfl (λ_=>(undef,[])) Γ a _ (λi hi=>by cases hi) (λi hi=>by cases hi) (λt v h _=>h) ha rfl (by simp only[List.flatMap_nil,QV];exact hs.drawn _) (.refl _)
 .have C:=(A i).1 hi;exact⟨rfl,λx m=>by rw[QU.1 m];exact⟨ops,(H i Zo).2.2⟩⟩
 .have C:=(A i).1 hi;simp only[g i C]at L;refine List.mem_filterMap.2 ⟨rs.getD i default,?_,L⟩;rw[Vh,Zg Zo,X7];exact List.mem_take_iff_getElem.2 ⟨i,Zo,rfl⟩
 .have C:=(A i).1 hi;have M:=(A j).1 q;simp only[g i C,g j M]at U W;exact ZW Hk C M Zo Zo U W
 .intro Y i l2 e j q;have hi:i < k:=(A i).1 (by rw[e];simp);have rG:=M6 Zo q;rw[<- tR,e]at rG;have T:(Y++i::l2++List.range' k (rs.length - k)).Nodup:=by rw[<- e,tR];exact Z
  have Ξ:=rG.2.2;rw[vm,List.idxOf_append (l₁:=Y),List.idxOf_append (l₁:=Y)]at Ξ;by_cases rW:j∈Y
  .exact rW
  .rw[if_neg rW]at Ξ;have cL:i∉Y:=by
    rw[vm]at T;intro h;exact(QW.1 T).2.2 i h i Zs rfl
   rw[if_neg cL]at Ξ;rw[vr,List.idxOf_cons_self]at Ξ;omega
 .intro i hi vv hg d hh mV;have C:=(A i).1 hi;have e:=g i C;show VO P n [((rs.zip ops.toList).getD i default).1] _ _ _ _;rw[e];have hanlt:∀j∈(iV ops).getD i [],j < k∨True:=λ_ _=>.inr trivial
  refine(step i C vv hg d (λj q t L=>?_) mV);refine hh j q t ?_;have hjm:j < ops.size:=(bV j).1 (M6 Zo q).1;show((rs.zip ops.toList).getD j default).1.dst=some t;rw[(H j hjm).2.1];exact L
 .intro vv a' w' d hg I mV Kg Uj AX AS;have hf:=fin vv (λi hi=>hg i ((A i).2 hi)) d (λj q t L=>by
   have M:=QS.1 q;refine I j ((A j).2 M) t ?_;show((rs.zip ops.toList).getD j default).1.dst=some t;rw[g j M];exact L) mV
  have nN:tf P n (rs.drop k) ((List.range' k (rs.length - k)).map λi=>(rs.zip ops.toList).getD i default):=by
   refine⟨?_,λx m=>?_⟩
   .rw[QE];apply V0;intro i;simp only[Vo,Vu];by_cases hi:i < rs.length - k
    .rw[List.getElem?_range' hi];simp only[XB,Function.comp];rw[(H (k+1*i) Zo).2.1,Nat.one_mul,Vh,Zg Zo,X7]
    .rw[Vp (by simpa using hi),Vp Zo];rfl
   .obtain⟨i,hi,rfl⟩:=QO.1 m;have:=QT.1 hi;exact⟨ops,(H i Zo).2.2⟩
  have cF:(li.flatMap λi=>(vv i).2).Perm ((List.range k).map λi=>(vv i).2).flatten:=by
   rw[<- Va];refine List.Perm.flatMap_right _ ?_;refine(Qd D QY).2 (λx=>?_);rw[A,QS]
  have tQ:Sat w' ((((List.range k).map λi=>(vv i).2)++base).flatten++F):=AX.perm (by
   rw[Vc,vm];exact cF.append_right _)
  refine hf _ nN a' w' F QQ (QQ .normal) Kg tQ (λa2 w2 N H2 q2 k1 k2 k3 k4=>?_) (λch a2 w2 N H2 q2 k1 k2 k3 k4=>?_)
  .exact hh _ a2 w2 _ H2 [] q2 ⟨k1.size,λt v e=>k1.slots t v (o7 _ _ t v e)⟩ (k2.trans Uj) k3.cy (((kz.refl w).drawn _).trans (AS.trans k4))
  .exact hh _ a2 w2 [] H2 [] q2 ⟨k1.size,λt v e=>by cases e⟩ (k2.trans Uj) k3.cy (((kz.refl w).drawn _).trans (AS.trans k4))
end
def roomT:ByteArray:=⟨#[114,111,111,109]⟩
def moreT:ByteArray:=⟨#[109,111,114,101]⟩
def TxLen(A:List kC)(v:Value)(l:List ByteArray):Prop:=∃b c,v=.slice (some ⟨b,0,none⟩) l.length c/\l.length+2<=c/\l.length<=1099511627776/\(∀(i:Nat) t,l[i]? =some t->kC.cell b i (.string t)∈A/\t.size<=140737488355328)/\kC.cell b l.length (.string roomT)∈A/\kC.cell b (l.length+1) (.string moreT)∈A
inductive SN (A:List kC):Lt->List Value->Prop
 |mk {k:Nat} {n:Int} {b:Nat} {t:ByteArray} {items:List Lt} {c bk:Nat} {us:Nat->List Value} (wf:N2 k n b t items.length)
   (hm:∀i,i < items.length->∀y∈kA bk (i*5) (us i),y∈A) (hr:∀i x,items[i]? =some x->SN A x (us i)) (bP:kC.cell bk (items.length*5+1) (vi (-771))∈A) (hc:items.length+1<=c):SN A (.mk k n b t items) [cv k,vi n,uv b,.string t,.slice (some ⟨bk,0,none⟩) items.length c]
inductive NdLen (A:List kC):Nd->List Value->Prop
 |mk {k:Nat} {s:ByteArray} {lit:Lt} {args ab:List ByteArray} {kids:List Nd} {p:Int} {lv:List Value} {av tv:Value} {c bk:Nat} {us:Nat->List Value} (wf:Kv k s kids.length p) (hl:SN A lit lv) (bD:TxLen A av args) (bB:TxLen A tv ab)
   (hm:∀i,i < kids.length->∀y∈kA bk (i*11) (us i),y∈A) (hr:∀i x,kids[i]? =some x->NdLen A x (us i)) (bP:kC.cell bk (kids.length*11+10) (vi (-771))∈A) (hc:kids.length+1<=c):NdLen A (.mk k s lit args ab kids p) ([cv k,.string s]++lv++[av,tv,.slice (some ⟨bk,0,none⟩) kids.length c,vi p])
theorem NI {d j:Nat}{rows:List (List Value)}{row tl:List Value}(m:rows.flatten.length=j*d)(g:row.length=d):(rows.flatten++tl).take (j*d)++row++(rows.flatten++tl).drop (j*d+row.length)=(rows++[row]).flatten++tl.drop d:=by
 rw[List.take_append_of_le_length Zo,Ql Zo,List.drop_append,List.drop_of_length_le Zo,m,g,Qo];simp
mutual
def PN.lits(B:Nat):PN->Prop
 |.mk _ _ lit _ _ _ kids=>lit.size<=B/\PN.bj B kids
def PN.bj(B:Nat):List PN->Prop
 |[]=>True
 |x::r=>PN.lits B x/\PN.bj B r
end
theorem PN.oL {B:Nat}{x:PN}:∀{l:List PN},PN.bj B l->x∈l->PN.lits B x:=by
 intro l
 induction l with
 |nil=>intro _ h;cases h
 |cons y r ih=>
  intro h hx;rw[PN.bj]at h;exact zDZ
theorem PN.Wn {B:Nat}:∀{l:List PN},(∀x∈l,PN.lits B x)->PN.bj B l:=by
 intro l
 induction l with
 |nil=>intro _;rw[PN.bj];trivial
 |cons y r ih=>intro h;rw[PN.bj];exact⟨h y Zs,ih λx d=>h x (by simp[d])⟩
def Ka(B:Nat)(st:ah):Prop:=∀l∈st.bodies,PN.bj B l
theorem Ka.of {B:Nat}{st d:ah}(h:Ka B st)(e:d.bodies=st.bodies):Ka B d:=by
 unfold Ka;rw[e];exact h
theorem iQ(a:ah)(e:Nat)(p:Int):(a.wrong e p).bodies=a.bodies:=by unfold ah.wrong;split <;> rfl
theorem zF(unit:Nat)(arg own:Bool)(p:Int):∀(l:List ByteArray) (i:Nat) (st:ah) (env:List Nat),(kP unit arg own p l i st env).1.bodies=st.bodies
 |[],_,_,_=>rfl
 |nm::r,i,st,env=>by
  rw[kP,zF unit arg own p r];show(if _ then st.wrong 180 p else st).bodies=_;split
  .exact iQ _ _ _
  .rfl
theorem xe(F G:List ByteArray)(st:ah)(env:List Nat)(nm:ByteArray)(u:Nat)(p:Int)(put:Bool):(wC F G st env nm u p put).2.bodies=st.bodies:=by
 unfold wC;split
 .rfl
 .split
  .show(if _ then st.wrong 182 p else st).bodies=_;split
   .exact iQ _ _ _
   .rfl
  .split
   .rfl
   .show(if _ then st else st.wrong 181 p).bodies=_;split
    .rfl
    .exact iQ _ _ _
theorem LD {B:Nat}{b:Bool}{x:PN}(h:PN.lits B x):PN.lits B (PN.lG b x):=by
 cases x;exact h
theorem IU {B:Nat}(b:Bool){l:List PN}(h:PN.bj B l):PN.bj B (wL b l):=by
 cases l with
 |nil=>exact h
 |cons x r=>
  rw[PN.bj]at h;refine PN.Wn λy hy=>?_
  rcases QI.1 hy with rfl|hy
  .exact h.1
  .obtain⟨z,d,rfl⟩:=QO.1 hy;exact LD (PN.oL h.2 d)
theorem Pq(F G:List ByteArray)(B:Nat)(W:eV.size<=B):∀(N:Nat) (x:Nd),x.size<=N->x.w<=B->∀st env u,Ka B st->
 (PN.lits B (jD F G x st env u).1/\Ka B (jD F G x st env u).2)/\(PN.lits B (zh F G x st env u).1/\Ka B (zh F G x st env u).2):=by
 intro N
 induction N with
 |zero=>intro x K;have:=x.size_pos;omega
 |succ N ih=>
  have m:∀l:List Nd,Nd.ap l<=N->Nd.ws l<=B->∀st env u,Ka B st->PN.bj B (kT F G l st env u).1/\Ka B (kT F G l st env u).2:=by
   intro l
   induction l with
   |nil=>intro _ _ st env u h;rw[kT];exact⟨by rw[PN.bj];trivial,h⟩
   |cons x r iR=>
    intro hl H st env u h;simp only[Nd.ap]at hl;simp only[Nd.ws]at H;rw[jc];obtain⟨A,C⟩:=(ih x Zo Zo st env u h).1;obtain⟨D,E⟩:=iR Zo Zo _ env u C;exact⟨by rw[PN.bj];exact⟨A,D⟩,E⟩
  have U:∀(s:ByteArray) (l:List Nd),Nd.ap l<=N->Nd.ws l<=B->∀i st env u,Ka B st->PN.bj B (ki F G s l i st env u).1/\Ka B (ki F G s l i st env u).2.2:=by
   intro s l
   induction l with
   |nil=>intro _ _ i st env u h;rw[ki];exact⟨by rw[PN.bj];trivial,h⟩
   |cons x r iR=>
    intro hl H i st env u h;simp only[Nd.ap]at hl;simp only[Nd.ws]at H;obtain⟨⟨M,O⟩,⟨S,T⟩⟩:=ih x Zo Zo st env u h;cases d:cY s i with
    |true=>
     rw[zJ _ _ _ _ _ _ _ _ _ d];obtain⟨D,E⟩:=iR Zo Zo (i+1) _ env u T;exact⟨by rw[PN.bj];exact⟨S,D⟩,E⟩
    |false=>
     rw[wd _ _ _ _ _ _ _ _ _ d];obtain⟨D,E⟩:=iR Zo Zo (i+1) _ env u O;exact⟨by rw[PN.bj];exact⟨M,D⟩,E⟩
  intro x K H st env u g;cases x with
  |mk k s lit args ab kids p=>
  simp only[Nd.size]at K;simp only[Nd.w]at H;have d:Nd.ap kids<=N:=by omega
  have j:Nd.ws kids<=B:=by omega
  have q:∀{X:Nat} {Y:ByteArray} {rs:List jZ} {n:Int} {b:Bool} {L:List PN},PN.bj B L->PN.lits B (.mk X Y eV rs n b L):=λh=>by rw[PN.lits];exact⟨W,h⟩
  have I:PN.bj B []:=by rw[PN.bj];trivial
  refine⟨?_,?_⟩
  .cases h:eR k s kids with
   |true=>
    rw[zN _ _ _ _ _ _ _ _ _ _ _ _ h];obtain⟨A,C⟩:=U s kids d j 0 st env u g;exact⟨q A,C⟩
   |false=>
    by_cases h1:k=1
    .rw[eo _ _ _ _ _ _ _ _ _ _ _ _ h h1];exact⟨by rw[PN.lits];exact⟨Zo,I⟩,g⟩
    by_cases h2:k=2
    .rw[ep _ _ _ _ _ _ _ _ _ _ _ _ h h2];exact⟨q I,g.of (xe ..)⟩
    by_cases h3:k=3
    .rw[et _ _ _ _ _ _ _ _ _ _ _ _ h h3];obtain⟨A,C⟩:=m kids d j _ env u (g.of (xe F G st env s u p true));exact⟨q A,C⟩
    by_cases h7:k=7
    .rw[eA _ _ _ _ _ _ _ _ _ _ _ _ h h7];refine⟨q I,?_⟩;simp only;rw[w7];have Q:Ka B (aS args ab p st env u).1:=by
      intro l hl;unfold aS at hl;rw[zF,zF]at hl;rcases QG.1 hl with hl|hl
      .exact g l hl
      .rw[QU.1 hl];exact I
     obtain⟨A,C⟩:=m kids d j (aS args ab p st env u).1 (aS args ab p st env u).2 st.outer.length Q;intro l hl;rcases QR hl with hl|rfl
     .exact C l hl
     .exact A
    by_cases h8:k=8
    .rw[eB _ _ _ _ _ _ _ _ _ _ _ _ h h8];exact⟨q (m kids d j st env u g).1,(m kids d j st env u g).2⟩
    by_cases h9:k=9
    .rw[eC _ _ _ _ _ _ _ _ _ _ _ _ h h9];exact⟨q (m kids d j st env u g).1,(m kids d j st env u g).2⟩
    by_cases h6:k=6
    .rw[ez _ _ _ _ _ _ _ _ _ _ _ _ h h6];exact⟨q (m kids d j st env u g).1,(m kids d j st env u g).2⟩
    by_cases h5:k=5
    .rw[ew _ _ _ _ _ _ _ _ _ _ _ _ h h5];exact⟨q (IU _ (m kids d j st env u g).1),(m kids d j st env u g).2⟩
    cases hs:jO kids with
    |true=>
     rw[yD _ _ _ _ _ _ _ _ _ _ _ _ h ⟨h1,h2,h3,h5,h6,h7,h8,h9⟩ hs];have J:=m kids.tail (by cases kids with|nil=>exact d|cons x r=>simp only[Nd.ap]at d;simp only[List.tail_cons];omega) (by cases kids with|nil=>exact j|cons x r=>simp only[Nd.ws]at j;simp only[List.tail_cons];omega) st env u g;exact⟨q J.1,J.2⟩
    |false=>rw[eu _ _ _ _ _ _ _ _ _ _ _ _ h ⟨h1,h2,h3,h5,h6,h7,h8,h9⟩ hs];exact⟨q (m kids d j st env u g).1,(m kids d j st env u g).2⟩
  .rw[ye];obtain⟨A,C⟩:=m kids d j _ (kP u false false p ab 0 (kP u true false p args 0 st env).1 (kP u true false p args 0 st env).2).2 u (g.of ((zF u false false p ab 0 (kP u true false p args 0 st env).1 (kP u true false p args 0 st env).2).trans (zF u true false p args 0 st env)));exact⟨q A,C⟩
mutual
theorem Wm(st:ah)(u:Nat)(B:Nat):∀x:PN,PN.lits B x->PN.lits B (eM st u x)
 |.mk k s l rs n b kids,h=>by
  rw[eM,PN.lits];rw[PN.lits]at h;exact⟨h.1,tX st u B kids h.2⟩
theorem tX(st:ah)(u:Nat)(B:Nat):∀l:List PN,PN.bj B l->PN.bj B (zv st u l)
 |[],h=>by rw[zv];exact h
 |x::r,h=>by
  rw[zv,PN.bj];rw[PN.bj]at h;exact⟨Wm st u B x h.1,tX st u B r h.2⟩
end
theorem RH(F G args ab:List ByteArray)(kids:List Nd)(B:Nat)(H:eV.size<=B)(m:Nd.ws kids<=B):∀y∈(zu F G args ab kids).answer.1,PN.bj B y.body:=by
 have q:Ka B (zu F G args ab kids):=by
  unfold zu;rw[w7];have s:PN.bj B []:=by rw[PN.bj];trivial
  have A:Ka B (aS args ab 0 fR [] (-1)).1:=by
   intro l hl;unfold aS at hl;rw[zF,zF]at hl;rcases QG.1 hl with hl|hl
   .cases hl
   .rw[QU.1 hl];exact s
  have C:∀l:List Nd,Nd.ws l<=B->∀st env u,Ka B st->PN.bj B (kT F G l st env u).1/\Ka B (kT F G l st env u).2:=by
   intro l
   induction l with
   |nil=>intro _ st env u h;rw[kT];exact⟨s,h⟩
   |cons x r iR=>
    intro m st env u h;simp only[Nd.ws]at m;rw[jc];obtain⟨g,j⟩:=(Pq F G B H _ x (Qt _) Zo st env u h).1;obtain⟨D,E⟩:=iR Zo _ env u j;exact⟨by rw[PN.bj];exact⟨g,D⟩,E⟩
  obtain⟨g,j⟩:=C kids m (aS args ab 0 fR [] (-1)).1 (aS args ab 0 fR [] (-1)).2 fR.outer.length A;intro l hl;rcases QR hl with hl|rfl
  .exact j l hl
  .exact g
 generalize zu F G args ab kids=st at q;intro y d;unfold ah.answer at d;split at d
 .cases d
 .split at d
  .cases d
  .split at d
   .cases d
   .obtain⟨u,_,rfl⟩:=QO.1 d;show PN.bj B (zv st u (st.bodies.getD u []));refine tX st u B _ ?_;rw[Vh];cases e:st.bodies[u]? with
    |none=>rw[Option.getD_none,PN.bj];trivial
    |some l=>exact q l (Zv e)
def cR(p:Bool)(d:Nat)(m:Bool):Rs:=if p then some (d,m)else none
theorem nB {p q:Bool}{d e:Nat}{m k:Bool}(h:p=q)(g:q=true->d=e/\m=k):cR p d m=cR q e k:=by
 subst h;cases p with
 |false=>rfl
 |true=>obtain⟨rfl,rfl⟩:=g rfl;rfl
theorem jx(b p:Bool)(d:Nat)(m:Bool):kQ b (cR p d m)=cR (b&&p) d m:=by cases b <;> cases p <;> rfl
theorem rS(p:Bool)(d:Nat)(m:Bool):wy (cR p d m)=cR p (d+1) m:=by cases p <;> rfl
theorem fP(b p:Bool)(d:Nat)(m:Bool):z7 b (cR p d m)=cR p d (b||m):=by cases p <;> rfl
theorem rQ(p q:Bool)(d e:Nat)(m k:Bool):yJ (cR p d m) (cR q e k)=cR (p&&q) (max d e) (m||k):=by cases p <;> cases q <;> rfl
theorem zero_c:(some (0,false):Rs)=cR true 0 false:=rfl
theorem fT(r:Rs)(l:List Rs):jm (r::l)=yJ r (jm l):=by
 cases r with
 |none=>cases h:jm l <;> rfl
 |some p=>cases h:jm l <;> simp[jm,yJ,h]
theorem Am(r:Rs):yJ r (some (0,false))=r:=by
 cases r with
 |none=>rfl
 |some p=>simp[yJ]
theorem MF(r:Rs):yJ (some (0,false)) r=r:=by
 cases r with
 |none=>rfl
 |some p=>simp[yJ]
theorem uT(l r:List Rs):jm (l++r)=yJ (jm l) (jm r):=by
 induction l with
 |nil=>simp only[QV,jm,MF]
 |cons x l ih=>
  rw[vr,fT,fT,ih];cases x <;> cases jm l <;> cases jm r <;> simp[yJ,Nat.max_assoc,vR]
def mx {α:Type}(f:α->Nat):List α->Nat
 |[]=>0
 |x::r=>max (f x) (mx f r)
theorem mx_le {α:Type}{f:α->Nat}{K:Nat}:∀{l:List α},(∀x∈l,f x<=K)->mx f l<=K:=by
 intro l
 induction l with
 |nil=>intro _;exact X3 _
 |cons x r ih=>
  intro h;have h1:=h x Zs;have h2:=ih λy d=>h y (by simp[d])
  simp only[mx];omega
theorem Gk {α:Type}{g:α->Rs}{p:α->Bool}{d:α->Nat}{m:α->Bool}:∀{l:List α},(∀x∈l,g x=cR (p x) (d x) (m x))->jm (l.map g)=cR (l.all p) (mx d l) (l.any m):=by
 intro l
 induction l with
 |nil=>intro _;rfl
 |cons x r ih=>
  intro h;rw[QD,fT,h x Zs,ih λy j=>h y (by simp[j]),rQ];rfl
mutual
def zV:Lt->Nat
 |.mk k _ _ _ items=>if k=10 then Gc items+1 else 0
def Gc:List Lt->Nat
 |[]=>0
 |x::r=>max (zV x) (Gc r)
end
mutual
def l7:Lt->Bool
 |.mk k _ _ t items=>decide (255 < items.length)||(decide (k=11)&&decide (255 < t.size))||Ek items
def Ek:List Lt->Bool
 |[]=>false
 |x::r=>l7 x||Ek r
end
theorem tW:∀l:List Lt,Gc l=mx zV l:=by
 intro l
 induction l with
 |nil=>rfl
 |cons x r ih=>simp only[Gc,mx,ih]
theorem IT:∀l:List Lt,Ek l=l.any l7:=by
 intro l
 induction l with
 |nil=>rfl
 |cons x r ih=>simp only[Ek,vh,ih]
theorem Wj:∀(N:Nat) (x:Lt),x.size<=N->∀i,jS x i=cR (jS x i).isSome (zV x) (l7 x):=by
 intro N
 induction N with
 |zero=>intro x d;have:=x.size_pos;omega
 |succ N ih=>
  intro x d i;cases x with
  |mk k n b t items=>
  simp only[Lt.size]at d;have B:∀y∈items,jS y true=cR (jS y true).isSome (zV y) (l7 y):=λy C=>ih y (by have:=Lt.aD C;omega) true
  have leaf:∀(c q:Bool),(c=true->items=[]/\k≠10/\q=(decide (k=11)&&decide (255 < t.size)))->kQ c (some (0,q))=cR (kQ c (some (0,q))).isSome (zV (.mk k n b t items)) (l7 (.mk k n b t items)):=by
   intro c q h;cases c with
   |false=>rfl
   |true=>
    obtain⟨m,s,A⟩:=h rfl;subst m;simp only[zV,l7,if_neg s,Ek,Q7,<- A];simp[kQ,cR]
  simp only[jS];split
  .exact leaf _ _ λh=>by simp only[vG,decide_eq_true_eq]at h;exact⟨vz h.2.2.2.2,Zo,by simp;omega⟩
  split
  .exact zDW
  split
  .exact leaf _ _ λh=>by simp only[vG,decide_eq_true_eq]at h;exact⟨vz h.2.2.2,Zo,by simp;omega⟩
  split
  .exact leaf _ _ λh=>by simp only[decide_eq_true_eq]at h;exact⟨vz h.2.2.2,Zo,by simp;omega⟩
  split
  .exact zDW
  split
  .exact leaf _ _ λh=>by simp only[decide_eq_true_eq]at h;exact⟨vz h.2.2,Zo,by simp;omega⟩
  split
  .rename_i j;exact leaf _ _ λh=>by simp only[decide_eq_true_eq]at h;exact⟨vz h.2.2,Zo,by simp[j]⟩
  split
  .rename_i g;subst g;rw[dI,Gk B,fP,rS,jx];simp only[zV,l7,if_pos,tW,IT];generalize (_&&List.all items _:Bool)=c;cases c <;> simp[cR]
  .rfl
theorem eT {l:Lt}(h:wz l=true):zV l=0/\l7 l=false:=by
 cases l with
 |mk k n b t items=>
 have h:=of_decide_eq_true h;simp only[Lt.kind,Lt.n,Lt.bits,Lt.text,Lt.items]at h;obtain⟨rfl,_,_,_,d⟩:=h;obtain rfl:=vz d;simp[zV,l7,Ek]
def wp(k:Nat)(s:ByteArray)(lit:Lt)(args ab:List ByteArray)(m:Nat):Bool:=
 if k=1 then(jS lit false).isSome&&decide (s.size=0/\args.length=0/\ab.length=0)
 else if k=2 then wm s&&wz lit&&decide (args.length=0/\ab.length=0)
 else if k=3 then jF s&&wz lit&&decide (args.length=0/\ab.length=0)
 else if k=4 then decide (0<=kS s)&&wz lit&&decide (args.length=0/\ab.length=0)
 else if k=5 then decide (2 < m)&&wz lit&&decide (s.size=0/\args.length=0/\ab.length=0)
 else if k=6 then decide (0<=kS s)&&wz lit&&decide (args.length=0/\ab.length=0)
 else if k=7 then args.all jF&&ab.all jF&&wz lit&&decide (s.size=0)
 else if k=8∨k=9 then wz lit&&decide (s.size=0/\args.length=0/\ab.length=0)
 else false
def yI(k:Nat)(s:ByteArray):Int:=
 if k=3∨k=9 then 1 else if k=4 then kS s+1 else if k=6 then kS s else if k=5∨k=7∨k=8 then -1 else 0
def iI(k m i:Nat)(x:Nd):Bool:=
 !(jR x&&!(decide (i=0)&&(decide (k=4)||decide (k=5))))&&!(decide (x.kind=9)&&!(decide (i+1=m)&&decide (k=7)))&&(decide (x.kind=6)==(decide (k=5)&&decide (0 < i)))
mutual
def jd:Nd->Bool
 |.mk k s lit args ab kids _=>wp k s lit args ab kids.length&&!(decide (0<=yI k s)&&decide (yI k s≠kids.length))&&kq k kids.length 0 kids
def kq(k m:Nat):Nat->List Nd->Bool
 |_,[]=>true
 |i,x::r=>jd x&&iI k m i x&&kq k m (i+1) r
end
mutual
def js:Nd->Bool
 |.mk k _ lit args ab kids _=>l7 lit||decide (15 < args.length)||decide (63 < ab.length)||(decide (k=4)&&decide (16 < kids.length))||(decide (k=6)&&decide (15 < kids.length))||(decide (k=5)&&decide (256 < kids.length))||(decide (k=8)&&decide (255 < kids.length))||Gj kids
def Gj:List Nd->Bool
 |[]=>false
 |x::r=>js x||Gj r
end
def ic(k:Nat)(s:ByteArray)(i:Nat):Nat:=
 if i=0/\(k=4∨k=5)then(if zw s=5 then 5 else 4)else if(k=4/\0 < i)∨k=6 then(if zw s=4 then 5 else 4)else 1
def xz(k:Nat)(s:ByteArray)(i:Nat)(x:Nd):Bool:=decide (x.kind≠6)&&decide (x.kind≠9)&&decide (wE x < ic k s i)
def rM(k:Nat)(s:ByteArray)(kids:List Nd):ByteArray:=if k=5 then(kids.drop 1).head?.elim ⟨#[]⟩ Nd.name else s
mutual
def w9:Nd->Nat
 |.mk k s lit _ _ kids _=>max (zV lit) (wF k (rM k s kids) 0 kids)+if k=7∨k=8 then 1 else 0
def wF(k:Nat)(s:ByteArray):Nat->List Nd->Nat
 |_,[]=>0
 |i,x::r=>max (w9 x+if xz k s i x then 1 else 0) (wF k s (i+1) r)
end
theorem En:∀l:List Nd,Gj l=l.any js:=by
 intro l
 induction l with
 |nil=>rfl
 |cons x r ih=>simp only[Gj,vh,ih]
def yT(x:Nd):Bool:=!jR x&&decide (x.kind≠9/\x.kind≠6)
theorem gX {x:Nd}(h:jR x=true):x.kind=2:=by
 simp only[jR,vG,decide_eq_true_eq]at h;exact h.1
theorem lp {k m i:Nat}{x:Nd}(q:¬(i=0/\(k=4∨k=5)))(s:¬(k=5/\0 < i))(A:¬(k=7/\i+1=m)):iI k m i x=yT x:=by
 have d:(decide (i=0)&&(decide (k=4)||decide (k=5)))=false:=by
  rw[vJ];intro h;simp at h;exact q h
 have g:(decide (k=5)&&decide (0 < i))=false:=by
  rw[vJ];intro h;simp only[vG,decide_eq_true_eq]at h;exact s h
 have j:(decide (i+1=m)&&decide (k=7))=false:=by
  rw[vJ];intro h;simp only[vG,decide_eq_true_eq]at h;exact A ⟨h.2,h.1⟩
 simp only[iI,yT,d,g,j];by_cases a:x.kind=9 <;> by_cases b:x.kind=6 <;> cases jR x <;> simp[a,b]
theorem qP(x:Nd):1<=wE x:=by
 unfold wE zw
 repeat' split
 all_goals omega
theorem lQ {x:Nd}{p:Nat}{f m:Bool}{d:Nat}:jX x p (cR f d m)=cR (f&&yT x) (d+if wE x < p then 1 else 0) m:=by
 unfold jX uX yT;by_cases hl:wE x < p
 .rw[if_pos hl,if_pos hl,rS,jx,jx]
  congr 1
  cases f <;> cases jR x <;> simp
 .rw[if_neg hl,if_neg hl,jx,jx]
  congr 1
  cases f <;> cases jR x <;> simp
theorem gG {k m:Nat}:∀{l:List Nd} {i:Nat},(∀j x,l[j]? =some x->iI k m (i+j) x=yT x)->kq k m i l=l.all λx=>jd x&&yT x:=by
 intro l
 induction l with
 |nil=>intro i _;rfl
 |cons x r ih=>
  intro i h;have d:=h 0 x rfl;rw[Qp]at d;simp only[kq,vf,d];rw[ih (i:=i+1) λj y g=>by rw[Qn,Nat.add_comm 1 j];exact h (j+1) y g]
theorem gB {k:Nat}{s:ByteArray}{p:Nat}:∀{l:List Nd} {i:Nat},(∀j x,l[j]? =some x->yT x=true/\ic k s (i+j)=p)->wF k s i l=mx (λx=>w9 x+if wE x < p then 1 else 0) l:=by
 intro l
 induction l with
 |nil=>intro i _;rfl
 |cons x r ih=>
  intro i h;obtain⟨d,g⟩:=h 0 x rfl;rw[Qp]at g;simp only[yT,vG,decide_eq_true_eq]at d;simp only[wF,mx,xz,g];rw[ih (i:=i+1) λj y m=>by rw[Qn,Nat.add_comm 1 j];exact h (j+1) y m];simp[d.2.1,d.2.2]
theorem pJ {k m:Nat}:∀{l r:List Nd} {i:Nat},kq k m i (l++r)=(kq k m i l&&kq k m (i+l.length) r):=by
 intro l
 induction l with
 |nil=>intro r i;simp[kq]
 |cons x l ih=>
  intro r i;simp only[vr,kq,ih,Vz];rw[show i+1+l.length=i+(l.length+1) by omega];simp only[Bool.and_assoc]
theorem C5 {k:Nat}{s:ByteArray}:∀{l r:List Nd} {i:Nat},wF k s i (l++r)=max (wF k s i l) (wF k s (i+l.length) r):=by
 intro l
 induction l with
 |nil=>intro r i;simp[wF]
 |cons x l ih=>
  intro r i;simp only[vr,wF,ih,Vz];rw[show i+1+l.length=i+(l.length+1) by omega,Nat.max_assoc]
theorem lastB {l:List Nd}(h:l≠[]):∃r x,l=r++[x]:=⟨l.dropLast,l.getLast h,(List.dropLast_concat_getLast h).symm⟩
theorem ur(s:ByteArray):gQ s=if zw s=5 then 5 else 4:=by
 unfold gQ zw
 repeat' split
 all_goals omega
theorem JU {x:Nd}(h:jR x=true):wE x=6:=by
 have:=gX h;simp[wE,this]
theorem Ib {x:Nd}{s:ByteArray}{f m:Bool}{d:Nat}:wx x s (cR f d m)=cR (f&&decide (x.kind≠9/\x.kind≠6)) (d+if wE x < gQ s then 1 else 0) m:=by
 unfold wx;by_cases h:jR x=true
 .rw[if_pos h];have g:=gX h;have j:=JU h;have:¬wE x < gQ s:=by
   rw[j,ur];split <;> omega
  rw[if_neg this];simp[g]
 .rw[if_neg h,lQ];simp only[Bool.not_eq_true]at h;simp[yT,h]
theorem l6 {k m:Nat}(j:k=4∨k=5)(x:Nd):iI k m 0 x=decide (x.kind≠9/\x.kind≠6):=by
 unfold iI;have g:decide (k=7)=false:=Zf Zo;rw[g];have d:(decide (k=4)||decide (k=5))=true:=by simp;exact j
 rw[d];by_cases a:x.kind=9 <;> by_cases b:x.kind=6 <;> simp[a,b]
theorem KV {k m i:Nat}{l:List Nd}(h:kq k m i l=true):∀x∈l,jd x=true:=by
 induction l generalizing i with
 |nil=>intro x hx;cases hx
 |cons y r ih=>
  simp only[kq,vG]at h;intro x hx;rcases QI.1 hx with rfl|hx
  .exact h.1.1
  .exact ih h.2 x hx
theorem Et:∀(N:Nat) (x:Nd),x.w<=N->kM x=cR (jd x) (w9 x) (js x):=by
 intro N
 induction N with
 |zero=>intro x g;have:=x.iy;omega
 |succ N ih=>
  intro x g;cases x with
  |mk k s lit args ab kids p=>
  simp only[Nd.w]at g;have hk:∀y∈kids,kM y=cR (jd y) (w9 y) (js y):=λy W=>ih y (by have:=Nd.cj W;omega)
  have hv:∀(l:List Nd) (pl:Nat),(∀y∈l,y∈kids)->jm (yM pl l (l.map kM))=cR (l.all λx=>jd x&&yT x) (mx (λx=>w9 x+if wE x < pl then 1 else 0) l) (l.any js):=λl pl hl=>by
   rw[fk];exact Gk λx g=>by rw[hk x (hl x g),lQ]
  have kp:∀{l:List Nd},(l.all λx=>jd x&&yT x)=true->∀x∈l,yT x=true:=λ{l} h x g=>by
   have:=vg.1 h x g;simp only[vG]at this;exact this.2
  have l1:∀x:Nd,(if wE x < 1 then 1 else 0)=0:=λx=>if_neg (by have:=qP x;omega)
  have one:∀(h3:k=3∨k=9) (y:Nd),kids=[y]->kq k 1 0 kids=(jd y&&yT y)/\(yT y=true->wF k (rM k s kids) 0 kids=w9 y):=by
   rintro h3 y rfl
   constructor
   .simp only[kq,vI];rw[lp Zo Zo Zo]
   .intro W;rw[gB (p:=1) (λj x g=>?_)]
    .simp only[mx,l1];omega
    .cases j with
     |zero=>cases g;exact⟨W,by unfold ic;rw[if_neg Zo,if_neg Zo]⟩
     |succ j=>simp at g
  have T:∀(b c m:Bool) (d:Nat),0<=yI k s->yI k s≠kids.length->cR (b&&!(decide (0<=yI k s)&&decide (yI k s≠kids.length))&&c) d m=none:=λb c m d h1 h2=>by
   rw[Zt h1,Zt h2];cases b <;> rfl
  have U:¬(0<=yI k s/\yI k s≠kids.length)->(!(decide (0<=yI k s)&&decide (yI k s≠kids.length)))=true:=λh=>by
   rw[vO,vF];simp only[decide_eq_false_iff_not];omega
  have mn:∀(c:Bool) (r:Rs),c=false->kQ c r=none:=λc r h=>by subst h;rfl
  simp only[kM,jl,w8];simp only[jd,js,w9,En];by_cases h1:k=1
  .subst h1;rw[if_pos rfl,Wj _ lit (Qt _) false,jx];cases kids with
   |nil=>
    rw[U Kx];refine nB (by simp[wp,kq];cases (jS lit false).isSome <;> simp) (λh=>?_);simp only[wp,if_true,vG,decide_eq_true_eq]at h;simp[wF,h.1.1.2.2.1,h.1.1.2.2.2]
   |cons y r=>
    rw[T _ _ _ _ Kx (by simp[yI];omega)];simp[cR]
  rw[if_neg h1];by_cases h2:k=2
  .subst h2;rw[if_pos rfl,zero_c,jx];cases kids with
   |nil=>
    rw[U Kx];refine nB (by simp[wp,kq];cases wm s <;> cases wz lit <;> simp) (λh=>?_);simp only[wp,show ¬(2:Nat)=1 by omega,if_false,if_true,vG,decide_eq_true_eq]at h;obtain⟨A,B⟩:=eT h.1.1.1.2;simp[wF,h.1.1.2.1,h.1.1.2.2,A,B]
   |cons y r=>
    rw[T _ _ _ _ Kx (by simp[yI];omega)];simp[cR]
  rw[if_neg h2];by_cases h3:k=3
  .subst h3;rw[if_pos rfl];rcases kids with _|⟨y,_|⟨z,r⟩⟩
   .rw[T _ _ _ _ Kx Kx];simp[kQ]
   .obtain⟨o1,o2⟩:=one (.inl rfl) y rfl;rw[U Kx];show kQ _ (jX y 1 (kM y))=_;rw[hk y Zs,lQ,l1,jx,show kq 3 [y].length 0 [y]=(jd y&&yT y)from o1];refine nB ?_ (λh=>?_)
    .simp[wp];cases jd y&&yT y <;> cases wz lit <;> cases jF s <;> simp
    .simp only[wp,show ¬(3:Nat)=1 by omega,show ¬(3:Nat)=2 by omega,if_false,if_true,vG,decide_eq_true_eq]at h;obtain⟨A,B⟩:=eT h.1.1.1.2;rw[o2 h.2.2];simp[h.1.1.2.1,h.1.1.2.2,A,B]
   .rw[T _ _ _ _ Kx (by simp[yI];omega)];simp[kQ]
  rw[if_neg h3];by_cases h4:k=4
  .subst h4;rw[if_pos rfl];rcases kids with _|⟨y,l⟩
   .by_cases ha:0<=kS s
    .rw[T _ _ _ _ (by simp[yI];omega) (by simp[yI];omega)];simp[kQ]
    .rw[mn _ _ (by simp[ha])];simp[wp,ha,cR]
   .have I:kq 4 (y::l).length 1 l=l.all λx=>jd x&&yT x:=gG λj x _=>lp Zo Zo Zo
    show kQ _ (yJ (wx y s (kM y)) (fB s l (l.map kM)))=_;rw[hk y Zs,Ib,fB,hv l (ni s) λz X=>by simp[X],fP,jx,rQ,jx];have ce:yI 4 s=kS s+1:=by simp[yI]
    rw[ce];have Uy:kq 4 (l.length+1) (0+1) l=l.all λx=>jd x&&yT x:=I
    refine nB ?_ (λh=>?_)
    .simp only[kq,I,l6 (.inl rfl),wp,Vz,Uy,Int.natCast_add,Int.natCast_one];simp only[show ¬(4:Nat)=1 by omega,show ¬(4:Nat)=2 by omega,show ¬(4:Nat)=3 by omega,show ¬((4:Nat)=3∨(4:Nat)=9) by omega,if_false,if_true,Vz];rw[vK];simp only[vG,vO,vF,decide_eq_true_eq,decide_eq_false_iff_not];constructor
     .rintro⟨⟨⟨⟨C,D⟩,E⟩,H⟩,⟨F,L⟩,Z,O⟩
      exact⟨⟨⟨⟨H,E⟩,C,D⟩,.inr Zo⟩,⟨F,L⟩,O⟩
     .rintro⟨⟨⟨⟨H,E⟩,C,D⟩,Z⟩,⟨F,L⟩,O⟩
      exact⟨⟨⟨⟨C,D⟩,E⟩,H⟩,⟨F,L⟩,Zo,O⟩
    .simp only[kq,I,Vz,Uy,wp,show ¬(4:Nat)=1 by omega,show ¬(4:Nat)=2 by omega,show ¬(4:Nat)=3 by omega,show ¬((4:Nat)=3∨(4:Nat)=9) by omega,if_false,if_true,Vz,vG,decide_eq_true_eq,vO,vF,decide_eq_false_iff_not]at h;obtain⟨A,B⟩:=eT h.1.1.1.2;obtain⟨⟨⟨⟨Q,M⟩,c3,G⟩,c5⟩,⟨c6,J⟩,S⟩:=h;have Y:=kp S;have s5:(l.length:Int)=kS s:=by omega
     rw[l6 (.inl rfl)]at J;simp only[decide_eq_true_eq]at J;have K:wF 4 s 1 l=mx (λx=>w9 x+if wE x < ni s then 1 else 0) l:=gB λj x g=>⟨Y x (Zv g),by unfold ic ni;rw[if_neg Zo,if_pos Zo]⟩
     simp only[wF,rM,show ¬(4:Nat)=5 by omega,if_false,K,A,B,c3,G,vh];constructor
     .have:xz 4 s 0 y=decide (wE y < gQ s):=by
       simp[xz,J.1,J.2,ic,ur]
      rw[this];simp
     .have e1:decide (15 < kS s)=decide (16 < (y::l).length):=by
       rw[vK,decide_eq_true_eq,decide_eq_true_eq,Vz];omega
      rw[e1];cases js y <;> simp
  rw[if_neg h4];by_cases h6:k=6
  .subst h6;have I:kq 6 kids.length 0 kids=kids.all λx=>jd x&&yT x:=gG λj x _=>lp Zo Zo Zo
   rw[if_pos rfl,fB,hv kids (ni s) λz X=>X,fP,jx,jx];have ce:yI 6 s=kS s:=by simp[yI]
   rw[ce];refine nB ?_ (λh=>?_)
   .simp only[I,wp,show ¬(6:Nat)=1 by omega,show ¬(6:Nat)=2 by omega,show ¬(6:Nat)=3 by omega,show ¬(6:Nat)=4 by omega,show ¬(6:Nat)=5 by omega,show ¬((6:Nat)=3∨(6:Nat)=9) by omega,if_false,if_true];rw[vK];simp only[vG,vO,vF,decide_eq_true_eq,decide_eq_false_iff_not];constructor
    .rintro⟨⟨⟨C,D⟩,E⟩,H,F⟩
     exact⟨⟨⟨⟨Zo,E⟩,C,D⟩,.inr Zo⟩,F⟩
    .rintro⟨⟨⟨⟨H,E⟩,C,D⟩,L⟩,F⟩
     exact⟨⟨⟨C,D⟩,E⟩,Zo,F⟩
   .simp only[I,wp,show ¬(6:Nat)=1 by omega,show ¬(6:Nat)=2 by omega,show ¬(6:Nat)=3 by omega,show ¬(6:Nat)=4 by omega,show ¬(6:Nat)=5 by omega,show ¬((6:Nat)=3∨(6:Nat)=9) by omega,if_false,if_true,vG,decide_eq_true_eq,vO,vF,decide_eq_false_iff_not]at h;obtain⟨⟨⟨⟨Q,M⟩,c3,G⟩,c5⟩,S⟩:=h;obtain⟨A,B⟩:=eT M;have Y:=kp S;have K:wF 6 s 0 kids=mx (λx=>w9 x+if wE x < ni s then 1 else 0) kids:=gB λj x g=>⟨Y x (Zv g),by unfold ic ni;rw[if_neg Zo,if_pos Zo]⟩
    have e1:decide (15 < kS s)=decide (15 < kids.length):=by
     rw[vK,decide_eq_true_eq,decide_eq_true_eq];omega
    simp only[rM,show ¬(6:Nat)=5 by omega,if_false,K,A,B,c3,G,e1];simp
  rw[if_neg h6];by_cases h5:k=5
  .subst h5;rw[if_pos rfl];rcases kids with _|⟨y,_|⟨z,l⟩⟩
   .rw[mn _ _ Zs];simp[wp,cR]
   .rw[mn _ _ Zs];simp[wp,cR]
   .have hfk:∀{r:List Nd} {i:Nat},0 < i->kq 5 (y::z::l).length i r=r.all λx=>jd x&&decide (x.kind=6):=by
     intro r
     induction r with
     |nil=>intro i _;rfl
     |cons u r ihr=>
      intro i hi;simp only[kq,vf,ihr (i:=i+1) Zo]
      congr 2
      have hs:jR u=true->u.kind=2:=gX;unfold iI;rw[Zf (show ¬i=0 by omega),Zt hi];by_cases h6:u.kind=6
      .have:jR u=false:=by rw[vJ];intro h;have:=hs h;omega
       simp[h6,this]
      .simp[h6]
    have hmsg:jm (lr (z::l) ((z::l).map kM))=cR ((z::l).all λx=>jd x&&decide (x.kind=6)) (mx w9 (z::l)) ((z::l).any js):=by
     rw[ug];exact Gk λx g=>by rw[hk x (by simp only[QI]at g|-;exact .inr g),jx,Bool.and_comm]
    show kQ _ (z7 _ (yJ (jm (lr (z::l) ((z::l).map kM))) (wx y z.name (kM y))))=_;rw[hmsg,hk y Zs,Ib,rQ,fP,jx];have Kj:=hfk (r:=z::l) (i:=1) Zo;rw[U Kx];refine nB ?_ (λh=>?_)
    .rw[kq,Kj];simp only[l6 (.inr rfl),wp];simp only[show ¬(5:Nat)=1 by omega,show ¬(5:Nat)=2 by omega,show ¬(5:Nat)=3 by omega,show ¬(5:Nat)=4 by omega,show ¬(5:Nat)=6 by omega,show ¬((5:Nat)=3∨(5:Nat)=9) by omega,if_false,if_true];rw[vK];simp only[vG,vO,vF,decide_eq_true_eq,decide_eq_false_iff_not];constructor
     .rintro⟨⟨⟨C,D,E,H⟩,F⟩,L,Z,O⟩
      exact⟨⟨⟨⟨H,F⟩,C,D,E⟩,trivial⟩,⟨Z,O⟩,L⟩
     .rintro⟨⟨⟨⟨H,F⟩,C,D,E⟩,_⟩,⟨Z,O⟩,L⟩
      exact⟨⟨⟨C,D,E,H⟩,F⟩,L,Z,O⟩
    .rw[kq,Kj]at h;simp only[wp,l6 (.inr rfl),show ¬(5:Nat)=1 by omega,show ¬(5:Nat)=2 by omega,show ¬(5:Nat)=3 by omega,show ¬(5:Nat)=4 by omega,if_false,if_true,vG,decide_eq_true_eq]at h;obtain⟨⟨⟨⟨Q,M⟩,c0,c3,G⟩,c5⟩,⟨c6,J⟩,S⟩:=h;obtain⟨A,B⟩:=eT M;have h6:∀x∈z::l,x.kind=6:=λx g=>by
      have:=vg.1 S x g;simp only[vG,decide_eq_true_eq]at this;exact this.2
     have K:∀{r:List Nd} {i:Nat} {q:ByteArray},(∀x∈r,x.kind=6)->wF 5 q i r=mx w9 r:=by
      intro r
      induction r with
      |nil=>intro i q _;rfl
      |cons u r ihr=>
       intro i q hr;simp only[wF,mx,ihr λx g=>hr x (by simp[g])];simp[xz,hr u Zs]
     have hbr:xz 5 z.name 0 y=decide (wE y < gQ z.name):=by
      simp[xz,J.1,J.2,ic,ur]
     have Fk:rM 5 s (y::z::l)=z.name:=rfl;rw[Fk];rw[wF,K h6,hbr];simp only[A,B,c3,G,vh];constructor
     .simp[Nat.max_comm]
     .cases js y <;> simp
  rw[if_neg h5];by_cases h7:k=7
  .subst h7;rw[if_pos rfl];have cX:jm (wM kids (kids.map kM))=cR (kq 7 kids.length 0 kids) (wF 7 s 0 kids) (kids.any js):=by
    rcases(Classical.em (kids=[])).imp_right lastB with rfl|⟨l,x,rfl⟩
    .rfl
    .have hl:=hv l 1 (λz X=>by simp[X]);rw[fk]at hl;have fS:kq 7 (l++[x]).length 0 l=l.all λx=>jd x&&yT x:=gG λj y W=>lp Zo Zo (by
      have:=(Vt.1 W).1;rw[Vy,Q9];omega)
     have Ho:(if x.kind=9 then kM x else jX x 1 (kM x))=cR (jd x&&iI 7 (l++[x]).length (0+l.length) x) (w9 x) (js x):=by
      exact zB4
     rw[xl,uT,hl,fT,Ho,show jm []=some (0,false)from rfl,Am,rQ];rw[pJ,C5,fS];refine nB ?_ (λh=>?_)
     .simp[kq]
     .have s5:(l.all λx=>jd x&&yT x)=true:=by
       rw[vG]at h;exact h.1
      have Y:=kp s5;have fL:jd x&&iI 7 (l++[x]).length (0+l.length) x=true:=by
       simp only[kq,vI,vG]at h|-;exact⟨h.2.1,by simpa using h.2.2⟩
      have K:wF 7 s 0 l=mx (λx=>w9 x+if wE x < 1 then 1 else 0) l:=gB λj y W=>⟨Y y (Zv W),by unfold ic;rw[if_neg Zo,if_neg Zo]⟩
      have hb:xz 7 s (0+l.length) x=false:=by
       unfold xz ic;rw[if_neg Zo,if_neg Zo,Zf (show ¬wE x < 1 by have:=qP x;omega)];simp
      simp only[K,wF,hb];simp
   unfold wa;rw[cX,rS,fP,jx,fP,jx,jx];refine nB ?_ (λh=>?_)
   .rw[U Kx];simp only[wp,show ¬(7:Nat)=1 by omega,show ¬(7:Nat)=2 by omega,show ¬(7:Nat)=3 by omega,show ¬(7:Nat)=4 by omega,show ¬(7:Nat)=5 by omega,show ¬(7:Nat)=6 by omega,if_false,if_true];cases args.all jF <;> cases ab.all jF <;> cases wz lit <;> cases decide (s.size=0) <;> simp
   .simp only[wp,show ¬(7:Nat)=1 by omega,show ¬(7:Nat)=2 by omega,show ¬(7:Nat)=3 by omega,show ¬(7:Nat)=4 by omega,show ¬(7:Nat)=5 by omega,show ¬(7:Nat)=6 by omega,if_false,if_true,vG,decide_eq_true_eq]at h;obtain⟨⟨⟨⟨Q,M⟩,c3⟩,G⟩,c5⟩:=h;obtain⟨A,B⟩:=eT M;simp only[rM,show ¬(7:Nat)=5 by omega,if_false,A,B];refine⟨Zs,?_⟩;cases kids.any js <;> cases decide (15 < args.length) <;> cases decide (63 < ab.length) <;> rfl
  rw[if_neg h7];by_cases h8:k=8
  .subst h8;have I:kq 8 kids.length 0 kids=kids.all λx=>jd x&&yT x:=gG λj x _=>lp Zo Zo Zo
   rw[if_pos rfl,hv kids 1 λz X=>X,fP,rS,jx,U Kx];refine nB ?_ (λh=>?_)
   .simp only[I,wp,show ¬(8:Nat)=1 by omega,show ¬(8:Nat)=2 by omega,show ¬(8:Nat)=3 by omega,show ¬(8:Nat)=4 by omega,show ¬(8:Nat)=5 by omega,show ¬(8:Nat)=6 by omega,show ¬(8:Nat)=7 by omega,if_false,true_or,if_true];cases wz lit <;> simp
   .simp only[I,wp,show ¬(8:Nat)=1 by omega,show ¬(8:Nat)=2 by omega,show ¬(8:Nat)=3 by omega,show ¬(8:Nat)=4 by omega,show ¬(8:Nat)=5 by omega,show ¬(8:Nat)=6 by omega,show ¬(8:Nat)=7 by omega,if_false,true_or,if_true,vG,decide_eq_true_eq]at h;obtain⟨⟨⟨Q,M,c3,G⟩,c5⟩,S⟩:=h;obtain⟨A,B⟩:=eT Q;have Y:=kp (l:=kids) (vg.2 λx g=>by simpa using vg.1 S x g);have K:wF 8 s 0 kids=mx (λx=>w9 x+if wE x < 1 then 1 else 0) kids:=gB λj x g=>⟨Y x (Zv g),by unfold ic;rw[if_neg Zo,if_neg Zo]⟩
    simp only[rM,show ¬(8:Nat)=5 by omega,if_false,K,A,B,c3,G];simp
  rw[if_neg h8];by_cases h9:k=9
  .subst h9;rw[if_pos rfl];rcases kids with _|⟨y,_|⟨z,r⟩⟩
   .rw[T _ _ _ _ Kx Kx];simp[kQ]
   .obtain⟨o1,o2⟩:=one (.inr rfl) y rfl;rw[U Kx];show kQ _ (jX y 1 (kM y))=_;rw[hk y Zs,lQ,l1,jx,show kq 9 [y].length 0 [y]=(jd y&&yT y)from o1];refine nB ?_ (λh=>?_)
    .simp[wp];cases jd y&&yT y <;> cases wz lit <;> simp
    .simp only[wp,show ¬(9:Nat)=1 by omega,show ¬(9:Nat)=2 by omega,show ¬(9:Nat)=3 by omega,show ¬(9:Nat)=4 by omega,show ¬(9:Nat)=5 by omega,show ¬(9:Nat)=6 by omega,show ¬(9:Nat)=7 by omega,if_false,or_true,if_true,vG,decide_eq_true_eq]at h;obtain⟨⟨⟨Q,M,c3,G⟩,c5⟩,c6,J⟩:=h;obtain⟨A,B⟩:=eT Q;rw[o2 J];simp[A,B,c3,G]
   .rw[T _ _ _ _ Kx (by simp[yI];omega)];simp[kQ]
  rw[if_neg h9];simp[wp,cR,h1,h2,h3,h4,h5,h6,h7,h8,h9]
theorem MD {P:Program}{Z:Exit->Act->World->Prop}{Q:Act->World->Prop}{l m:List (RO×Oper)}:∀{a w},cH P Z (λa w=>cH P Z Q m a w) l a w->cH P Z Q (l++m) a w:=by
 induction l with
 |nil=>intro a w h;exact h
 |cons x l ih=>
  intro a w h;have q:cH P Z (λa w=>cH P Z Q m a w) (x::l)=wJ P Z x (cH P Z (λa w=>cH P Z Q m a w) l):=by funext a w;rfl
  show wJ P Z x (cH P Z Q (l++m)) a w;have d:wJ P Z x (cH P Z (λa w=>cH P Z Q m a w) l) a w:=h;have j:cH P Z (cH P Z Q (l++m)) [x] a w:=J7 (l:=[x]) (Q:=cH P Z (λa w=>cH P Z Q m a w) l) (λa w g=>ih g) d;exact j
section
variable {P:Program} {n:Nat} {rs l1 l2:List RO} {Γ:Env} {H:SH} {Z:List PanicEntry->Env->SH->Prop} {K:Env->SH->Prop}
theorem VO.app(h:VO P n l1 Γ H Z (λI H'=>VO P n l2 I H' Z K)):VO P n (l1++l2) Γ H Z K:=by
 intro l Y a w F G Q X hs hq N;obtain⟨O,J⟩:=Y;obtain⟨p,q,rfl,hp,lR⟩:=List.map_eq_append_iff.1 O;refine MD (h p ⟨hp,λx C=>J x (Zw _ C)⟩ a w F G _ X hs (λS w' I H' k U L W M=>?_) N);refine k q ⟨lR,λx C=>J x (QH _ C)⟩ S w' F G Q U W (λg E j d D m s A B=>hq g E j d D m (s.trans L) A (M.trans B)) (λT g E j d D m s A B=>N T g E j d D m (s.trans L) A (M.trans B))
def cutAt(t:Nat):List RO->List RO×List RO
 |[]=>([],[])
 |r::l=>if r.dst=some t then([r],l)else((r::(cutAt t l).1),(cutAt t l).2)
theorem Tl(t:Nat):∀l:List RO,l=(cutAt t l).1++(cutAt t l).2:=by
 intro l
 induction l with
 |nil=>rfl
 |cons r l ih=>
  simp only[cutAt];split
  .rfl
  .simp only[vr];rw[<- ih]
theorem VO.bool(t:Nat)(b:Bool)(C:cutAt t rs=(l1,l2))(A:VO P n l1 Γ H Z (λg H'=>look g t=some (.bool b)/\Sub g Γ/\ai H' H))(B:VO P n l2 ((t,.bool b)::Γ) H Z K):VO P n rs Γ H Z K:=by
 have j:=Tl t rs;rw[C]at j;rw[j];refine VO.app (A.mono λg H' ⟨h,m,q⟩=>VO.sub ?_ (VO.imp q B));intro s v d;simp only[look]at d;split at d
 .rename_i e;cases d
  first
   |(subst e;exact h)
   |(rw[<- e];exact h)
   |(rw[e];exact h)
 .exact m s v d
end
theorem RY(l:List Nd):jm (wM l (l.map kM))=cR (kq 7 l.length 0 l) (mx w9 l) (l.any js):=by
 have hk:∀y∈l,kM y=cR (jd y) (w9 y) (js y):=λy _=>Et _ y (Qt _)
 have l1:∀x:Nd,(if wE x < 1 then 1 else 0)=0:=λx=>if_neg (by have:=qP x;omega)
 rcases(Classical.em (l=[])).imp_right lastB with rfl|⟨l,x,rfl⟩
 .rfl
 .have q:jm (l.map λx=>jX x 1 (kM x))=cR (l.all λx=>jd x&&yT x) (mx w9 l) (l.any js):=Gk λx s=>by rw[hk x (by simp[s]),lQ,l1];rfl
  have m:kq 7 (l++[x]).length 0 l=l.all λx=>jd x&&yT x:=gG λj y A=>lp Zo Zo (by
   have:=(Vt.1 A).1;rw[Vy,Q9];omega)
  have d:(if x.kind=9 then kM x else jX x 1 (kM x))=cR (jd x&&iI 7 (l++[x]).length (0+l.length) x) (w9 x) (js x):=by
   exact zB4
  rw[xl,uT,q,fT,d,show jm []=some (0,false)from rfl,Am,rQ];rw[pJ,m];have g:∀l:List Nd,mx w9 (l++[x])=max (mx w9 l) (w9 x):=by
   intro l
   induction l with
   |nil=>simp[mx]
   |cons y l ih=>simp only[vr,mx,ih];omega
  rw[g];refine nB (by simp[kq]) λ_=>⟨rfl,Zs⟩
theorem mx_any {α:Type}{f:α->Nat}{K:Nat}:∀l:List α,decide (K < mx f l)=l.any λx=>decide (K < f x):=by
 intro l
 induction l with
 |nil=>simp[mx]
 |cons x l ih=>
  rw[vh,<- ih,vK,vT,decide_eq_true_eq,decide_eq_true_eq];simp only[decide_eq_true_eq];show K < max (f x) (mx f l)↔K < f x∨K < mx f l;rcases Nat.le_total (f x) (mx f l)with h|h
  .rw[Nat.max_eq_right h];omega
  .rw[Nat.max_eq_left h];omega
section
variable {P:Program} {n:Nat}
end
end Go.V
namespace Go.Proofs.YtijnokbblmbpkaaGreatDoor
open Go Go.V
noncomputable def dq:TypeInfo:=Tryz.t3
noncomputable def pq:Program:=⟨{Tryz.progTables with types:=#[dq,dq,Tryz.t2,Tryz.t3,Tryz.t4,Tryz.t5,dq,dq,dq,Tryz.t9,dq,dq,dq,dq,dq,dq,dq,dq,dq,dq,dq,dq,Tryz.t22,Tryz.t23,Tryz.t24,Tryz.t25,dq,dq,dq,dq,Tryz.t30,dq,dq,Tryz.t33,Tryz.t34,Tryz.t35,Tryz.t36,Tryz.t37,Tryz.t38,dq,dq,Tryz.t41,Tryz.t42,Tryz.t43,Tryz.t44,Tryz.t45,Tryz.t46,dq,dq,Tryz.t49,Tryz.t50,dq,dq,dq,dq,dq,dq,dq,dq,dq,Tryz.t60,Tryz.t61,dq,dq,dq,Tryz.t65,Tryz.t66,Tryz.t67,Tryz.t68,Tryz.t69,Tryz.t70,Tryz.t71,Tryz.t72,dq,dq,dq,dq,dq,dq,dq,Tryz.t80,dq,dq,Tryz.t83,Tryz.t84,dq,dq,dq,dq,dq,Tryz.t90,Tryz.t91,Tryz.t92,Tryz.t93,dq,Tryz.t95,Tryz.t96,Tryz.t97,dq,dq,Tryz.t100,Tryz.t101,Tryz.t102,dq,dq,dq,dq,dq,Tryz.t108,Tryz.t109,Tryz.t110,Tryz.t111,Tryz.t112,Tryz.t113,Tryz.t114,dq,dq,dq,dq,Tryz.t119,Tryz.t120,Tryz.t121,Tryz.t122,dq,Tryz.t124,dq,Tryz.t126,Tryz.t127,dq,dq,dq,dq,dq,dq,dq,dq,dq,dq,dq,dq,dq,dq,dq,dq,Tryz.t144,Tryz.t145,Tryz.t146,dq,dq,dq,dq,dq,Tryz.t152,dq,dq,dq,dq,dq,dq,dq,dq,dq,dq,dq,dq,dq,dq,dq,dq,dq,dq,dq,dq,dq,dq,dq,dq,dq,dq,Tryz.t179,Tryz.t180,Tryz.t181,Tryz.t182,Tryz.t183,dq,Tryz.t185,Tryz.t186,dq,dq,dq,dq,dq,dq,dq,dq,dq,Tryz.t196,Tryz.t197,dq,Tryz.t199,Tryz.t200,Tryz.t201,Tryz.t202,Tryz.t203,Tryz.t204,Tryz.t205,Tryz.t206,dq,Tryz.t208,Tryz.t209,Tryz.t210,dq,dq,dq,dq,dq,Tryz.t216,Tryz.t217,dq,Tryz.t219,Tryz.t220,dq,dq,dq,dq,dq,dq,dq,Tryz.t228,Tryz.t229,Tryz.t230,dq,dq,dq,dq,dq,dq,dq,dq,dq,dq,dq,dq,dq,dq,dq,dq,dq,dq,dq,dq,dq,dq,dq,dq,dq,dq,dq,dq,dq,dq,Tryz.t261,Tryz.t262,dq,dq,dq,dq,dq,dq,dq,dq,dq,dq,dq,dq,dq,dq,dq,dq,dq,Tryz.t280,dq,dq,dq,dq,dq,dq,dq,dq,dq,dq,dq,dq,dq,dq,dq,dq,dq,dq,dq,dq,dq,dq,dq,dq,dq,dq,dq,dq,dq,dq,dq,dq,dq,dq,dq,dq,dq,dq,dq,dq,dq,dq,dq,dq,dq,dq,dq,dq,dq,dq,dq,dq,dq,dq,dq,dq,dq,dq,dq,dq,dq,dq,dq,dq,dq,dq,dq,dq,dq,dq,Tryz.t351,dq,dq,dq,dq,dq,dq,dq,dq,dq,dq,dq,dq,dq,dq,dq,dq,dq,dq,dq,dq,dq,dq,dq,dq,dq,dq,dq,dq,dq,dq,dq,dq,dq,dq,dq,dq,dq,dq,dq,dq,dq,dq,dq,dq,dq,dq,dq,dq,dq,dq,Tryz.t402,Tryz.t403]},#[]⟩
abbrev Zo9(f:Nat)(l:List (Nat×List (List Nat)))(F:aO):Prop:=aY Tryz.prog f l=some F
theorem Zx9{α:Type}{a b:α}(h:a=b:=by kernel_rfl):a=b:=h
noncomputable section
def F192:aO:=aZ (o:=gF pq Tryz.f192 [])
theorem low192:Zo9 192 [] F192:=Zx9
def F197:aO:=aZ (o:=gF pq Tryz.f197 [])
theorem low197:Zo9 197 [] F197:=Zx9
def F194:aO:=aZ (o:=gF pq Tryz.f194 [])
theorem low194:Zo9 194 [] F194:=Zx9
def F193:aO:=aZ (o:=gF pq Tryz.f193 [])
theorem low193:Zo9 193 [] F193:=Zx9
def F161:aO:=aZ (o:=gF pq Tryz.f161 [])
theorem low161:Zo9 161 [] F161:=Zx9
def F162:aO:=aZ (o:=gF pq Tryz.f162 [])
theorem low162:Zo9 162 [] F162:=Zx9
def F198:aO:=aZ (o:=gF pq Tryz.f198 [])
theorem low198:Zo9 198 [] F198:=Zx9
def F163:aO:=aZ (o:=gF pq Tryz.f163 [])
theorem low163:Zo9 163 [] F163:=Zx9
def F196:aO:=aZ (o:=gF pq Tryz.f196 [])
theorem low196:Zo9 196 [] F196:=Zx9
def F195:aO:=aZ (o:=gF pq Tryz.f195 [])
theorem low195:Zo9 195 [] F195:=Zx9
def F164:aO:=aZ (o:=gF pq Tryz.f164 [])
theorem low164:Zo9 164 [] F164:=Zx9
def F199:aO:=aZ (o:=gF pq Tryz.f199 [])
theorem low199:Zo9 199 [] F199:=Zx9
def F223:aO:=aZ (o:=gF pq Tryz.f223 [])
theorem low223:Zo9 223 [] F223:=Zx9
def F225:aO:=aZ (o:=gF pq Tryz.f225 [])
theorem low225:Zo9 225 [] F225:=Zx9
def F165:aO:=aZ (o:=gF pq Tryz.f165 [])
theorem low165:Zo9 165 [] F165:=Zx9
def F200:aO:=aZ (o:=gF pq Tryz.f200 [])
theorem low200:Zo9 200 [] F200:=Zx9
def F226:aO:=aZ (o:=gF pq Tryz.f226 [])
theorem low226:Zo9 226 [] F226:=Zx9
def F105:aO:=aZ (o:=gF pq Tryz.f105 [])
theorem low105:Zo9 105 [] F105:=Zx9
end
open Go Go.V Go.Shelf
shelf_lay Lays.n217 Nm 217 at Tryz as Tryz.sl217
shelf_lay Lays.n219 Nm 219 at Tryz as Tryz.sl219
theorem Wa(s:ByteArray)(c:Nat)(d:c < 256):au Tryz.prog 222 [.string s,cv c] [] (λv Post=>v=vi (Kq (kB s) c)/\Post=[]):=by
 refine au.Je (by kernel_rfl) (λw=>(Any.stringslite_IndexByte Tryz.sl217 s c w).mono ?_)
 rintro e w' ⟨rfl,rfl⟩
 refine⟨_,rfl,?_,rfl⟩;have g:((c:Int).toNat.toUInt8).toNat=c:=by
  rw[vX];exact Nat.mod_eq_of_lt d
 rw[ix_eq,g];rfl
theorem Wb(s:ByteArray):au Tryz.prog 246 [.string s,.string ⟨#[58]⟩] [] (λv Post=>v=vi (Kq (kB s) 58)/\Post=[]):=by
 refine au.Je (by kernel_rfl) (λw=>(Any.stringslite_Index_one Tryz.sl219 s 58 w).mono ?_)
 rintro e w' ⟨rfl,rfl⟩
 exact⟨_,rfl,by rw[ix_eq];rfl,rfl⟩
theorem uR(c:Nat)(hc:c < 256):au Tryz.prog 192 [cv c] [] (λv Post=>v=.bool (Be c)/\Post=[]):=by
 refine au.intro low192 Zn9 ?_
 (repeat' (first|refine ZB ?_|refine sO Zr (λ_=>?_) (λ_=>?_)|refine sS Zr (λ_=>?_) (λ_=>?_)|refine VC.sH Zr (λ_=>?_) (λ_=>?_)|refine VC.cond Zr (λ_=>?_) (λ_=>?_)))
 all_goals refine⟨.inr rfl,_,_,.tmp Zr .nil,ZI,?_,rfl⟩
 all_goals (simp only[bN,Be,Value.bool.injEq,decide_eq_true_eq,decide_eq_false_iff_not]at*)
 all_goals (rw[vK];simp only[vT,vG,vO,decide_eq_true_eq,decide_eq_false_iff_not,true_iff,iff_true,reduceCtorEq,false_iff,iff_false];omega)
theorem qA(c:Nat)(hc:c < 256):au Tryz.prog 197 [cv c] [] (λv Post=>v=.bool (wX c)/\Post=[]):=by
 refine au.intro low197 Zn9 ?_
 (repeat' (first|refine ZB ?_|refine sO Zr (λ_=>?_) (λ_=>?_)|refine sS Zr (λ_=>?_) (λ_=>?_)|refine VC.sH Zr (λ_=>?_) (λ_=>?_)|refine VC.cond Zr (λ_=>?_) (λ_=>?_)))
 all_goals refine⟨.inr rfl,_,_,.tmp Zr .nil,ZI,?_,rfl⟩
 all_goals (simp only[bN,wX,Value.bool.injEq,decide_eq_true_eq,decide_eq_false_iff_not]at*)
 all_goals (rw[vK];simp only[vT,vG,vO,decide_eq_true_eq,decide_eq_false_iff_not,true_iff,iff_true,reduceCtorEq,false_iff,iff_false];omega)
theorem Ll(c:Nat)(d:c < 256):au Tryz.prog 194 [cv c] [] (λv Post=>v=.bool (nX c)/\Post=[]):=by
 refine au.intro low194 Zn9 ?_;refine ae ?_;refine kL (uR c d) Zr ?_;cases hl:Be c with
 |true=>
  exact zCA
 |false=>
  refine ae ?_;refine kL (qA c d) Zr ?_;exact zCA
theorem uI(c:Nat)(g:c < 256):au Tryz.prog 162 [cv c] [] (λv Post=>v=.bool (cS c)/\Post=[]):=by
 refine au.intro low162 Zn9 ?_;have d:=ixN_bin g;have h:au Tryz.prog 195 [.string ⟨#[43,45,42,47,92,126,60,62,61,64,37,38,63,44,33]⟩,cv c] [] (λv Post=>v=vi (Kq [43,45,42,47,92,126,60,62,61,64,37,38,63,44,33] c)/\Post=[]):=by
  refine au.intro low195 Zn9 ?_;refine ae ?_;refine kL (Wa _ c g) Zr ?_;exact zC9
 generalize Kq [43,45,42,47,92,126,60,62,61,64,37,38,63,44,33] c=z at h d;refine ae ?_;refine kL h Zr ?_;refine ae ?_;refine⟨.inr rfl,_,_,.tmp Zr .nil,ZI,?_,rfl⟩;simp only[bN,<- d]
theorem Ry(s:ByteArray)(hs:s.size<=140737488355328)(k:Nat):au Tryz.prog 198 [.string s,vi k] [] (λv Post=>v=cv ((kB s).getD k 0)/\Post=[]):=by
 refine au.intro low198 Zn9 ?_;exact zB1
theorem Co(s:ByteArray)(hs:s.size<=140737488355328)(a:Nat)(A:a<=s.size)(d:Value)(I:Nat->SH)(on:Nat->Bool)
 (h:∀k c,a<=k->(kB s)[k]? =some c->eH Tryz.prog d [cv c] (I k) (λv Post=>v=.bool (on k)/\Post=I (k+1))):
 au Tryz.prog 193 [.string s,vi a,d] (I a) (λv Post=>∃e j:Nat,v=vi e/\a<=e/\e<=s.size/\(∀k,a<=k->k < e->on k=true)/\(e < s.size->on e=false)/\Post=I j):=by
 refine au.intro low193 Zn9 ?_;refine ae ?_;refine VC.loop (α:=Nat) (bg:=λk=>[(0,.string s),(1,vi k),(2,d)]) (Hf:=λk=>I k) (I:=λk=>a<=k/\k<=s.size/\∀i,a<=i->i < k->on i=true) (μ:=λk=>s.size - k) a ⟨Qt _,A,λi _ _=>by omega⟩ ZU (ai.refl _) ?_
 rintro k ⟨g,m,i3⟩
 refine ae ?_;by_cases hk:k < s.size
 .rw[Zt Zo];obtain⟨c,B,D⟩:=wG hk;refine ae ?_;refine wO Zr Zr (j:=k) rfl B ?_;refine ae ?_;refine fj Zr (h k _ g D) Zr (R:=[]) (by simp[V.fJ]) ?_
  rintro v Post ⟨rfl,rfl⟩
  rw[vp];cases ho:on k with
  |true=>
   refine ae ?_;refine⟨k+1,⟨Zo,Zo,λi q g2=>?_⟩,Zo,ZU,ai.refl _⟩;by_cases e:i=k
   .subst e;exact ho
   .exact i3 i q Zo
  |false=>
   refine ae ?_;exact kG (Post:=I (k+1)) (.inr rfl) (.tmp Zr .nil) ⟨k,k+1,rfl,g,m,i3,λ_=>ho,rfl⟩ (ai.refl _)
 .rw[Zf Zo];refine ae ?_;exact kG (Post:=I k) (.inr rfl) (.tmp Zr .nil) ⟨k,k,rfl,g,m,i3,λC=>absurd C hk,rfl⟩ (ai.refl _)
theorem oM(s:ByteArray)(B:s.size<=140737488355328):au Tryz.prog 161 [.string s] [] (λv Post=>v=.bool (wm s)/\Post=[]):=by
 refine au.intro low161 Zn9 ?_;have hlen:=kV s;unfold wm fF;refine ae ?_;by_cases h0:s=⟨#[]⟩
 .subst h0;exact zC9
 obtain⟨c,r,A,hr,D,lh⟩:=eK h0;rw[Zf h0,vP];refine ae ?_;by_cases h40:s.size<=40;rotate_left
 .exact zCW
 rw[Zt Zo];refine ae ?_;refine wO Zr Zr (j:=0) rfl A ?_;refine ae ?_;refine kL (uR _ D) Zr ?_;cases hl:Be c.toNat with
 |false=>
  refine ae ?_;refine⟨.inr rfl,_,_,.tmp Zr .nil,ZI,?_,rfl⟩;simp[bN,hr,hl]
 |true=>
  refine ae ?_;refine kH (Co s B 0 Zo (.func (.func 194) #[] #[]) (λ_=>[]) (λk=>nX ((kB s).getD k 0)) (λk x _ g=>eH.cB ?_)) Zr ZP (λv Post C=>?_)
  .rw[Vh,g];exact Ll _ (zt s _ (Zv g))
  obtain⟨e,j,rfl,e1,e2,m,q,rfl⟩:=C;have aj:=ML (l:=kB s) (p:=nX) (e:=e) Zo (λk d=>m k Zo d) (λd=>q Zo);have h2:(c.toNat::r).length<=40:=by rw[<- hr];omega
  simp only[QV];refine ae ?_;refine⟨.inr rfl,_,_,.tmp Zr .nil,ZI,?_,rfl⟩;exact zBX
theorem Mg(g pf j:Nat)(s:ByteArray)(B:s.size<=140737488355328)(k c:Nat)(hk:k < s.size)(A:c < 256):
 au Tryz.prog 196 [cv c,kE g,kE pf,kE j] [kA g 0 [vi k],kA pf 0 [vi 0],kA j 0 [.string s]] (λv Post=>v=.bool (cS c&&(decide (k=0)||decide (c≠45)||!wX ((kB s).getD (k+1) 0)))/\Post=[kA g 0 [vi ((k:Int)+1)],kA pf 0 [vi 0],kA j 0 [.string s]]):=by
 refine au.intro low196 Zn9 ?_;have m:(kB s).getD (k+1) 0 < 256:=by
  rw[Vh];cases h:(kB s)[k+1]? with
  |none=>decide
  |some x=>exact zt s _ (Zv h)
 have q:=Ry s B (k+1);generalize (kB s).getD (k+1) 0=d at m q|-;refine ae ?_;refine kL (uI c A) Zr ?_;cases hb:cS c with
 |false=>
  refine ae ?_;refine kG (.inr rfl) (.tmp Zr .nil) ⟨by simp[bN],rfl⟩ ZI
 |true=>
  refine ae ?_;by_cases h0:k=0
  .rw[Zt (show(k:Int)=0 by omega)];refine ae ?_;refine kG (.inr rfl) (.tmp Zr .nil) ⟨by simp[bN,h0],rfl⟩ ZI
  rw[Zf (show ¬(k:Int)=0 by omega)];refine ae ?_;by_cases So:c=45;rotate_left
  .rw[show decide ((c:Int)=45)=false from Zf Zo];exact zDB
  rw[show decide ((c:Int)=45)=true from Zt Zo];refine ae ?_;refine kL q Zr ?_;refine ae ?_;refine kL (qA d m) Zr ?_;cases K1:wX d
  .exact zDB
  .exact zDB
theorem EV(s:ByteArray)(I:s.size<=140737488355328)(c:UInt8)(r:List Nat)(O:s[0]? =some c)(A:kB s=c.toNat::r)(N:c.toNat=124∨cS c.toNat=true):
 au Tryz.prog 163 [.string s,vi 0] [] (λv Post=>v=vi (fH (kB s))/\Post=[]):=by
 refine au.intro low163 Zn9 ?_;have g:=kV s;have S:0 < s.size:=by rw[<- g,A];simp
 refine ae ?_;refine kX Zr (λE=>?_);simp only[Value.cells];refine ae ?_;refine kX Zr (λD=>?_);simp only[Value.cells];refine ae ?_;refine wO Zr Zr (j:=0) rfl O ?_;refine ae ?_;by_cases h0:c.toNat=124
 .rw[show decide ((c.toNat:Int)=124)=true from Zt Zo];refine ae ?_;refine kG (Post:=[]) (.inr rfl) (.tmp Zr .nil) ⟨by simp[bN,A,fH,h0],rfl⟩ ZI
 rw[show decide ((c.toNat:Int)=124)=false from Zf Zo];have d:cS c.toNat=true:=by
  rcases N with h|h
  .exact absurd h h0
  .exact h
 refine ae ?_;refine kK (λpf=>?_);refine ae ?_;have F:=Co s I 0 Zo (.func (.func 196) #[] #[kE D,kE pf,kE E]) (λk=>[kA D 0 [vi k],kA pf 0 [vi 0],kA E 0 [.string s]])
  (λk=>cS ((kB s).getD k 0)&&(decide (k=0)||decide ((kB s).getD k 0≠45)||!wX ((kB s).getD (k+1) 0))) (λk x _ m=>eH.cB (by
    have q:k < s.size:=by rw[<- g];exact(Vt.1 m).1
    have:=Mg D pf E s I k x q (zt s _ (Zv m));rw[Vh (i:=k),m];exact this))
 simp only[show((0:Nat):Int)=0 from rfl]at F;refine kH F Zr ZP (λv Post Q=>?_);obtain⟨e,j,rfl,e1,e2,L,G,rfl⟩:=Q;simp only[aE];refine ae ?_;refine kG (Post:=[]) (.inr rfl) (.tmp Zr .nil) ⟨?_,rfl⟩ ZI;have K:∀k,k < s.size->∃x,(kB s)[k]? =some x/\(kB s).getD k 0=x:=λk q=>by
  obtain⟨x,_,m⟩:=wG q;exact⟨_,m,by rw[Vh,m];rfl⟩
 have C:e≠0:=λe0=>by
  subst e0;have:=G S;rw[A]at this;simp[d]at this
 have B:∀k,1<=k->k < s.size->gV ((kB s).drop k)=(cS ((kB s).getD k 0)&&(decide (k=0)||decide ((kB s).getD k 0≠45)||!wX ((kB s).getD (k+1) 0))):=λk H q=>by
  obtain⟨x,m,J⟩:=K k q;rw[xi m,J,Zf (show ¬k=0 by omega),vN]
 have:=XQ (c:=c.toNat) (r:=r) (e:=e) h0 d (by rw[<- A];omega) (λk H M=>by rw[<- A,B k M Zo];exact L k Zo H) (λq=>by
  rw[<- A]at q|-;exact⟨Zo,by rw[B e Zo Zo];exact G Zo⟩)
 rcases this with h|h
 .rw[A,h];rfl
 .exact absurd h C
theorem Pk(qs qt qn:Nat)(s:ByteArray)(hs:s.size<=140737488355328):
 Iter Tryz.prog (.func (.func 223) #[] #[kE qs,kE qt,kE qn]) (λx=>[.string x]) [kA qs 0 [.string ⟨#[58]⟩],kA qt 0 [.string s],kA qn 0 [vi 1]] [] (λd=>d.map kB=j9 (kB s)):=by
 intro y J SP H A L;refine eH.cB (first:=#[]) (cap:=#[kE qs,kE qt,kE qn]) ?_;show au Tryz.prog 223 [y,kE qs,kE qt,kE qn] _ _;refine au.intro low223 Zn9 ?_;simp only[aE];refine ae ?_;refine VC.loop (α:=List ByteArray×ByteArray×List kC) (bg:=λ_=>[(0,y),(1,kE qs),(2,kE qt),(3,kE qn)]) (Hf:=λst=>[kA qs 0 [.string ⟨#[58]⟩],kA qt 0 [.string st.2.1],kA qn 0 [vi 1],st.2.2])
  (I:=λst=>st.1.map kB++j9 (kB st.2.1)=j9 (kB s)/\st.2.1.size<=s.size/\J st.1 st.2.2) (μ:=λst=>st.2.1.size) ([],s,A) ⟨rfl,Qt _,L⟩ ZU ZI ?_
 rintro⟨c,t,F⟩ ⟨q,M,i3⟩
 simp only at q M i3;dsimp only;have m:=kV t;have D:au Tryz.prog 225 [.string t,.string ⟨#[58]⟩] [] (λv Post=>v=vi (Kq (kB t) 58)/\Post=[]):=by
  refine au.intro low225 Zn9 ?_;refine ae ?_;refine kL (Wb t) Zr ?_;exact zC9
 refine ae ?_;refine kL D Zr ?_;rcases Pj (kB t) 58 with⟨h1,h2⟩|⟨p,r,h1,h2,h3⟩
 .rw[h1];refine ae ?_;have B:(c++[t]).map kB=j9 (kB s):=by rw[<- q,uZ h2];simp
  refine fj Zr (H c t F ⟨[],by simpa using B⟩ i3) Zr ZP (λv Post E=>?_);rcases E with⟨rfl,A',T8,rfl⟩|⟨rfl,B',hB',rfl⟩
  .simp only[aE];refine ae ?_;exact kG (Post:=[A']) (.inl rfl) .nil ⟨rfl,.inl ⟨c++[t],A',B,T8,rfl⟩⟩ ZI
  .simp only[aE];refine ae ?_;exact kG (Post:=[B']) (.inl rfl) .nil ⟨rfl,.inr ⟨c++[t],B',⟨[],by simpa using B⟩,hB',rfl⟩⟩ ZI
 .have fq:t.size=p.length+1+r.length:=by rw[<- m,h1];simp;omega
  have G:kB (t.extract 0 (p.length+1))=p++[58]:=by
   rw[ji,h1,show p++58::r=(p++[58])++r by simp,List.take_left' Zs];rfl
  have C:kB (t.extract (p.length+1) t.size)=r:=by
   rw[ji,Ql Zo,h1];simp[List.drop_append]
  have K:(t.extract (p.length+1) t.size).size=r.length:=by rw[<- kV,C]
  have j:=oi (p:=p) (r:=r) h2;rw[<- h1]at j;obtain⟨d,g⟩:=Rz (t.extract (p.length+1) t.size);rw[C]at g;have aN:OkC (λd=>d.map kB=j9 (kB s)) (c++[t.extract 0 (p.length+1)]):=⟨d,by rw[<- q,j];simp[G,g]⟩;rw[h3];refine ae ?_;rw[Zf (show ¬((p.length:Int) < 0) by omega)];refine ae ?_;refine eD (l:=0) (h:=p.length+1) Zr .YW (.num Zr) Zo ?_;refine ae ?_;refine fj Zr (H c _ F aN i3) Zr ZP (λv Post E=>?_);rcases E with⟨rfl,A',T8,rfl⟩|⟨rfl,B',hB',rfl⟩
  .simp only[aE];refine ae ?_;rw[show(((⟨#[58]⟩:ByteArray).size:Nat):Int)=1 from rfl,wrap64 (show -9223372036854775808<=(p.length:Int)+1/\(p.length:Int)+1<=9223372036854775807 by omega)];refine eD (l:=p.length+1) (h:=t.size) Zr (.num Zr) .YW Zo ?_;refine ae ?_;exact⟨(c++[t.extract 0 (p.length+1)],t.extract (p.length+1) t.size,A'),⟨by simp only[C];rw[<- q,j];simp[G],by simp only[K];omega,T8⟩,by simp only[K];omega,ZU,ZI⟩
  .exact zE9
theorem Ar(s:ByteArray)(hs:s.size<=140737488355328):au Tryz.prog 165 [.string s,.string ⟨#[58]⟩] [] (λv Post=>∃t,v=.tuple #[.string t,.bool (decide ((kB s).getLast? =some 58))]/\((kB s).getLast? =some 58->kB t=(kB s).dropLast)/\t.size<=s.size/\Post=[]):=by
 have d:=kV s;have m:∀(h:1<=s.size),s.extract (s.size - 1) s.size=⟨#[58]⟩↔(kB s).getLast? =some 58:=λh=>by
  have g:kB (s.extract (s.size - 1) s.size)=(kB s).drop (s.size - 1):=by rw[ji,Ql Zo]
  rw[List.getLast?_eq_getElem?,d];constructor
  .intro e;rw[e]at g;have:(kB s).drop (s.size - 1)=[58]:=g.symm;have h2:=congrArg (λl=>l[0]?) this;simpa using h2
  .intro e;apply jQ;rw[g];obtain⟨q,hv⟩:=Vt.1 e;rw[vw q,hv,vx Zo];rfl
 have j:au Tryz.prog 226 [.string s,.string ⟨#[58]⟩] [] (λv Post=>v=.bool (decide ((kB s).getLast? =some 58))/\Post=[]):=by
  refine au.intro low226 Zn9 ?_;refine ae ?_;rw[show(((⟨#[58]⟩:ByteArray).size:Nat):Int)=1 from rfl];by_cases h:1<=s.size
  .rw[Zt (show(s.size:Int) ≥ 1 by omega)];refine ae ?_;rw[show(((⟨#[58]⟩:ByteArray).size:Nat):Int)=1 from rfl,wrap64 (show -9223372036854775808<=(s.size:Int) - 1/\(s.size:Int) - 1<=9223372036854775807 by omega),show(s.size:Int) - 1=((s.size - 1:Nat):Int) by omega];refine eD (l:=s.size - 1) (h:=s.size) Zr (.num Zr) .YW Zo ?_;refine ae ?_;refine⟨.inr rfl,_,_,.tmp Zr .nil,ZI,?_,rfl⟩;simp only[bN,m h]
  .exact zD0
 have hcut:au Tryz.prog 200 [.string s,.string ⟨#[58]⟩] [] (λv Post=>∃t,v=.tuple #[.string t,.bool (decide ((kB s).getLast? =some 58))]/\((kB s).getLast? =some 58->kB t=(kB s).dropLast)/\t.size<=s.size/\Post=[]):=by
  refine au.intro low200 Zn9 ?_;refine ae ?_;refine kL j Zr ?_;by_cases h:(kB s).getLast? =some 58
  .have lh:1<=s.size:=by
    cases g:kB s with
    |nil=>rw[g]at h;cases h
    |cons a r=>rw[<- d,g];simp
   rw[Zt h];refine ae ?_;rw[show(((⟨#[58]⟩:ByteArray).size:Nat):Int)=1 from rfl,wrap64 (show -9223372036854775808<=(s.size:Int) - 1/\(s.size:Int) - 1<=9223372036854775807 by omega),show(s.size:Int) - 1=((s.size - 1:Nat):Int) by omega];refine eD (l:=0) (h:=s.size - 1) Zr .YW (.num Zr) Zo ?_;refine ae ?_;have g:kB (s.extract 0 (s.size - 1))=(kB s).dropLast:=by rw[ji,vy,List.dropLast_eq_take,d]
   refine kG (Post:=[]) (.inr rfl) (.tmp Zr (.tmp Zr .nil)) ⟨_,rfl,λ_=>g,?_,rfl⟩ ZI;rw[<- kV,g,<- d];simp
  .rw[Zf h];refine ae ?_;refine kG (Post:=[]) (.inr rfl) (.tmp Zr (.tmp Zr .nil)) ⟨_,rfl,λh2=>absurd h2 h,Qt _,rfl⟩ ZI
 refine au.intro low165 Zn9 ?_;exact zCF
theorem xP(s:ByteArray):au Tryz.prog 164 [.string s,.string ⟨#[58]⟩] [] (λv Post=>∃qs qt qn,v=.func (.func 223) #[] #[kE qs,kE qt,kE qn]/\Post=[kA qs 0 [.string ⟨#[58]⟩],kA qt 0 [.string s],kA qn 0 [vi 1]]):=by
 have h:au Tryz.prog 199 [.string s,.string ⟨#[58]⟩,vi 1] [] (λv Post=>∃qs qt qn,v=.func (.func 223) #[] #[kE qs,kE qt,kE qn]/\Post=[kA qs 0 [.string ⟨#[58]⟩],kA qt 0 [.string s],kA qn 0 [vi 1]]):=by
  refine au.intro low199 Zn9 ?_;refine ae ?_;refine kX Zr (λqt=>?_);simp only[Value.cells];refine ae ?_;refine kX Zr (λqs=>?_);simp only[Value.cells];refine ae ?_;refine kX Zr (λqn=>?_);simp only[Value.cells];refine ae ?_;refine kG (.inr rfl) (.tmp Zr .nil) ⟨qs,qt,qn,rfl,rfl⟩ ZI
 refine au.intro low164 Zn9 ?_;refine ae ?_;rw[show(((⟨#[58]⟩:ByteArray).size:Nat):Int)=1 from rfl];refine kH h Zr ZP (λv Post d=>?_);obtain⟨qs,qt,qn,rfl,rfl⟩:=d;simp only[aE];refine ae ?_;refine kG (.inr rfl) (.tmp Zr .nil) ⟨qs,qt,qn,rfl,rfl⟩ ZI
def sd(p:List Nat):Bool:=decide (p.getLast? =some 58)&&fF p.dropLast
theorem A9:∀{c:List (List Nat)} {rest:List (List Nat)} {n:Nat},(∀p∈c,sd p=true)->zg (c++rest) n=zg rest (n+c.length):=by
 intro c
 induction c with
 |nil=>intro rest n _;simp
 |cons p c ih=>
  intro rest n h;have d:=h p Zs;simp only[sd,vG,decide_eq_true_eq]at d;have g:p≠[]:=λe=>by rw[e]at d;simp at d
  simp only[vr,zg,if_neg g,d.1,d.2,decide_true,Bool.and_self,if_true];rw[ih (λq j=>h q (by simp[j])),Vz,show n+1+c.length=n+(c.length+1) by omega]
theorem tT {p:List Nat}{rest:List (List Nat)}{n:Nat}(d:p≠[])(h:sd p=false):zg (p::rest) n=-1:=by
 simp only[sd]at h;simp[zg,d,h]
theorem B7(l:List Nat):(j9 l).length<=l.length+1:=by
 induction l with
 |nil=>simp[j9]
 |cons c r ih=>
  simp only[j9];split
  .simp;omega
  .cases h:j9 r with
   |nil=>simp
   |cons p ps=>rw[h]at ih;simp at ih|-;omega
theorem gp(s:ByteArray)(G:s.size<=140737488355328):au Tryz.prog 105 [.string s] [] (λv Post=>v=vi (kS s)/\Post=[]):=by
 refine au.intro low105 Zn9 ?_;have U:=kV s;refine ae ?_;refine kK (λB=>?_);refine ae ?_;refine kL (oM s G) Zr ?_;cases hn:wm s with
 |true=>
  refine ae ?_;have:kS s=0:=by unfold kS p7;rw[show fF (kB s)=true from hn];rfl
  rw[this];exact⟨.inr rfl,[vi 0],[],.cq (v:=vi 0) Zr MJ .nil,ai.nil,⟨rfl,rfl⟩⟩
 |false=>
  have X:fF (kB s)=false:=hn;refine ae ?_;by_cases h0:s=⟨#[]⟩
  .subst h0;refine ae ?_;exact zBI
  obtain⟨c,r,E,K,uQ,lh⟩:=eK h0;rw[Zf h0];refine ae ?_;refine wO Zr Zr (j:=0) rfl E ?_;refine ae ?_;have dD:kS s=if(cS c.toNat||decide (c.toNat=124))=true then(if fH (kB s)=(kB s).length then 1 else -1)else zg (j9 (kB s)) 0:=by
   unfold kS p7;rw[if_neg (by rw[X];simp)];simp only[K]
  refine kL (uI _ uQ) Zr ?_;cases hb:cS c.toNat with
  |true=>
   refine ae ?_;refine kL (EV s G c r E K (.inr hb)) Zr ?_;rw[show(cS c.toNat||decide (c.toNat=124))=true by simp[hb],if_pos rfl]at dD;exact zAY
  |false=>
   refine ae ?_;refine wO Zr Zr (j:=0) rfl E ?_;refine ae ?_;by_cases OU:c.toNat=124
   .rw[show decide ((c.toNat:Int)=124)=true from Zt Zo];refine ae ?_;refine kL (EV s G c r E K (.inl OU)) Zr ?_;rw[show(cS c.toNat||decide (c.toNat=124))=true by simp[OU],if_pos rfl]at dD;exact zAY
   rw[show decide ((c.toNat:Int)=124)=false from Zf Zo];rw[if_neg (by simp[hb,OU])]at dD;refine ae ?_;refine kK (λq=>?_);refine ae ?_;refine kH (xP s) Zr ZP (λv Post L=>?_);obtain⟨qs,qt,qn,rfl,rfl⟩:=L;simp only[aE];refine ae ?_;have pA:∀d:List ByteArray,OkC (λg:List ByteArray=>g.map kB=j9 (kB s)) d->d.length<=s.size+1:=λd ⟨t,Z⟩=>by
    have H:=congrArg List.length Z;have T:=B7 (kB s);simp at H;omega
   refine VC.iM (α:=ByteArray) (enc:=λx=>[.string x]) (λd A=>(∀x∈d,sd (kB x)=true)/\A=[kA q 0 [vi d.length],kA B 0 [vi 0]].flatten) ([kA q 0 [vi 0],kA B 0 [vi 0]].flatten) Zr (Pk qs qt qn s G) (R:=[kA q 0 [vi 0],kA B 0 [vi 0]]) ZP (ai.perm Zs)
    ⟨λx hx=>(by cases hx),rfl⟩ (λ_=>rfl) ?_ ?_
   .rintro d x A Q ⟨F,rfl⟩
    have I:=pA _ Q;simp only[Vy,Q9]at I;obtain⟨rest,S⟩:=Q;have m:kS s=zg (kB x::rest.map kB) d.length:=by
     rw[dD,<- S];have:=A9 (c:=d.map kB) (rest:=kB x::rest.map kB) (n:=0) (λp J=>by obtain⟨y,N,rfl⟩:=QO.1 J;exact F y N);simpa using this
    have Hp:x.size<=s.size:=by
     have H:kB x∈j9 (kB s):=by rw[<- S];simp
     have T:=(List.sublist_flatten_of_mem H).length_le;rw[uY,kV,kV]at T;omega
    simp only[Aj];refine VC.imp (H':=[kA q 0 [vi d.length],kA B 0 [vi 0]]) (ai.perm Zs) ?_;refine VC.mY ?_;refine ae ?_;refine⟨trivial,?_⟩;refine ae ?_;by_cases hx0:x=⟨#[]⟩
    .rw[Zt hx0];have:kS s=d.length:=by
      rw[m,hx0];rfl
     refine ae ?_;rw[this];exact⟨.inr rfl,[vi d.length],[],.cq (v:=vi d.length) Zr MJ .nil,ai.nil,⟨rfl,rfl⟩⟩
    rw[Zf hx0];have O:kB x≠[]:=λe=>hx0 (jQ (by rw[e];rfl))
    refine ae ?_;refine kH (Ar x Zo) Zr ZP (λv Post L=>?_);obtain⟨y,rfl,Y,Sv,rfl⟩:=L;simp only[QV];by_cases tN:(kB x).getLast? =some 58
    .rw[Zt tN];have D:=Y tN;refine ae ?_;refine kL (oM y Zo) Zr ?_;cases hny:wm y with
     |true=>
      have C:sd (kB x)=true:=by
       unfold sd;rw[Zt tN,<- D];exact hny
      refine ae ?_;refine⟨[kA q 0 [vi (d.length+1:Nat)],kA B 0 [vi 0]].flatten,⟨λz hz=>?_,Zs⟩,?_⟩
      .rcases QG.1 hz with h|h
       .exact F z h
       .rw[QU.1 h];exact C
      .refine ai.cut (M:=[kA q 0 [vi ((d.length:Int)+1)],kA B 0 [vi 0]]) ZI (ai.perm Zs)
     |false=>
      have C:sd (kB x)=false:=by
       unfold sd;rw[Zt tN,<- D];exact hny
      have:kS s=-1:=by rw[m,tT O C]
      refine ae ?_;rw[this];exact zBI
    .rw[Zf tN];have C:sd (kB x)=false:=by
      unfold sd;rw[Zf tN];rfl
     have:kS s=-1:=by rw[m,tT O C]
     refine ae ?_;rw[this];exact zBI
   .rintro g A W ⟨F,rfl⟩
    have:kS s=g.length:=by
     rw[dD,<- W];have:=A9 (c:=g.map kB) (rest:=[]) (n:=0) (λp J=>by obtain⟨y,N,rfl⟩:=QO.1 J;exact F y N);simpa[zg]using this
    refine VC.imp (H':=[kA q 0 [vi g.length],kA B 0 [vi 0]]) (ai.perm Zs) ?_;refine ae ?_;rw[this];exact⟨.inr rfl,[vi g.length],[],.cq (v:=vi g.length) Zr MJ .nil,ai.nil,⟨rfl,rfl⟩⟩
end Go.Proofs.YtijnokbblmbpkaaGreatDoor

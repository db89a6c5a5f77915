/-
  What looks come to, by nodes.
-/
import Derived.Test.YtijnokbblmbpkaaGreatDoorM6
import Derived.Test.YtijnokbblmbpkaaGreatDoorM5
set_option linter.all false
namespace Go.V
open Go
theorem dY(place:Nat):∀l:List Nd,eP place l (l.map kN)=l.map fun x=>ja x place (kN x):=by
 intro l
 induction l with
 |nil=>rfl
 |cons x r ih=>simp only[QC,eP,ih]
theorem sO:∀l:List Nd,qJ l (l.map kN)=l.map fun x=>kQ (decide (x.kind=6)) (kN x):=by
 intro l
 induction l with
 |nil=>rfl
 |cons x r ih=>simp only[QC,qJ,ih]
theorem tS(x:Nd):∀l:List Nd,wp (l++[x]) ((l++[x]).map kN)=(l.map fun y=>ja y 1 (kN y))++[if x.kind=9 then kN x else ja x 1 (kN x)]:=by
 intro l
 induction l with
 |nil=>rfl
 |cons y r ih=>
  cases r with
  |nil=>rfl
  |cons z r=>simpa[wp]using ih
theorem s6 {x:Nd}{place K d:Nat}{r:Rs}{m:Bool}(hr:∀d m,r=some (d,m)->d<=K)(h:ja x place r=some (d,m)):d<=K+1:=by
 have h2:=jT (jT h);split at h2
 ·obtain⟨d',e,h3⟩:=gg h2;have:=hr d' m h3;omega
 ·have:=hr d m h2;omega
mutual
def Nd.w:Nd->Nat
 |.mk _ s lit args ab kids _=>1+s.size+lit.size+args.length+ab.length+Nd.ws kids
def Nd.ws:List Nd->Nat
 |[]=>0
 |x::r=>x.w+Nd.ws r
end
theorem Nd.nC(x:Nd):0 < x.w:=by cases x;simp only[Nd.w];omega
theorem Nd.cy {x:Nd}:∀{l:List Nd},x∈l->x.w<=Nd.ws l:=by
 intro l
 induction l with
 |nil=>intro h;cases h
 |cons y r ih=>
  intro h;simp only[Nd.ws];exact zCC
theorem Nd.ZN {f:Nat->Nat}:∀{l:List Nd} {o:Nat},(∀i x,l[i]? =some x->x.w<=f (o+i))->Nd.ws l<=((List.range' o l.length).map f).sum:=by
 intro l
 induction l with
 |nil=>intro o _;simp[Nd.ws]
 |cons y r ih=>
  intro o h;have h0:=h 0 y rfl;have h1:=ih (o:=o+1) (fun i x e=>by have:=h (i+1) x e;rwa [Qi,Nat.add_comm 1 i]);simp only[Nd.ws,Vz,List.range'_succ,QC,List.sum_cons,Qj]at h0 h1|-;omega
theorem Lt.SU {f:Nat->Nat}:∀{l:List Lt} {o:Nat},(∀i x,l[i]? =some x->x.size<=f (o+i))->Lt.aq l<=((List.range' o l.length).map f).sum:=by
 intro l
 induction l with
 |nil=>intro o _;simp[Lt.aq]
 |cons y r ih=>
  intro o h;have h0:=h 0 y rfl;have h1:=ih (o:=o+1) (fun i x e=>by have:=h (i+1) x e;rwa [Qi,Nat.add_comm 1 i]);simp only[Lt.aq,Vz,List.range'_succ,QC,List.sum_cons,Qj]at h0 h1|-;omega
theorem Fo {K d:Nat}{m:Bool}{p q:Rs}(hp:∀d m,p=some (d,m)->d<=K)(hq:∀d m,q=some (d,m)->d<=K)(h:zr p q=some (d,m)):d<=K:=by
 cases p with
 |none=>cases h
 |some p=>
  cases q with
  |none=>cases h
  |some q=>
   simp only[zr,X4,X5]at h;have h1:=hp p.1 p.2 rfl;have h2:=hq q.1 q.2 rfl;omega
theorem pF:∀l:List Nd,(wp l (l.map kN)).length=l.length:=by
 intro l
 induction l with
 |nil=>rfl
 |cons x r ih=>
  cases r with
  |nil=>rfl
  |cons y r=>simpa[wp]using ih
theorem pE:∀(l:List Nd) (j:Nat) (y:Nd),l[j]? =some y->(wp l (l.map kN))[j]? =some (if y.kind=9/\j+1=l.length then kN y else ja y 1 (kN y)):=by
 intro l
 induction l with
 |nil=>intro j y h;simp at h
 |cons x r ih=>
  intro j y h;cases r with
  |nil=>
   cases j with
   |zero=>
    simp only[Vn,X4]at h;subst h;simp[wp]
   |succ j=>simp at h
  |cons z r=>
   cases j with
   |zero=>
    simp only[Vn,X4]at h;subst h;simp[wp]
   |succ j=>
    have:=ih j y (by simpa using h);simpa[wp]using this
theorem G4:∀(N:Nat) (x:Nd),x.w<=N->∀(d:Nat) (m:Bool),kN x=some (d,m)->d<=2*x.w:=by
 intro N
 induction N with
 |zero=>intro x hx;have:=x.nC;omega
 |succ N ih=>
  intro x hx d m h;cases x with
  |mk k s lit args ab kids p=>
  simp only[Nd.w]at hx|-;have hk:∀y∈kids,∀d m,kN y=some (d,m)->d<=2*Nd.ws kids:=fun y hy d m e=>by
   have h1:=Nd.cy hy;have h2:=ih y Zo d m e;omega
  have hv:∀(y:Nd) (pl:Nat),y∈kids->∀d m,ja y pl (kN y)=some (d,m)->d<=2*Nd.ws kids+1:=fun y pl hy d m e=>s6 (hk y hy) e
  have ma:∀(l:List Nd) (pl:Nat),(∀y∈l,y∈kids)->∀d m,jc (eP pl l (l.map kN))=some (d,m)->d<=2*Nd.ws kids+1:=fun l pl hl d m e=>by
   rw[dY]at e;refine gl (fun r hr d m e=>?_) e;obtain⟨y,hy,rfl⟩:=QM.1 hr;exact hv y pl (hl y hy) d m e
  have ha:∀(l:List Nd) (q:ByteArray),(∀y∈l,y∈kids)->∀d m,ik q l (l.map kN)=some (d,m)->d<=2*Nd.ws kids+1:=fun l q hl d m e=>by
   obtain⟨m',h2⟩:=cT (jT e);exact ma l _ hl d m' h2
  have hf:∀(y:Nd) (q:ByteArray),y∈kids->∀d m,zV y q (kN y)=some (d,m)->d<=2*Nd.ws kids+1:=fun y q hy d m e=>by
   unfold zV at e;split at e
   ·have:=hk y hy d m e;omega
   ·exact hv y _ hy d m e
  have ed:∀d m,(match kids,kids.map kN with|[x],[r]=>ja x 1 r|_,_=>none)=some (d,m)->d<=2*Nd.ws kids+1:=fun d m e=>by
   match kids,hv,e with
   |[y],hv,e=>exact hv y 1 Zs d m e
   |[],_,e=>cases e
   |_::_::_,_,e=>cases e
  simp only[kN,jq,ju]at h;split at h
  ·have h2:=D4 _ lit (Qn _) false d m (jT h);omega
  split at h
  ·have:=jT h;cases this;omega
  split at h
  ·have:=ed d m (jT h);omega
  split at h
  ·have h2:=jT h
   match kids,hf,ha,h2 with
   |[],_,_,h2=>cases h2
   |y::l,hf,ha,h2=>
    have:=Fo (hf y s Zs) (ha l s (fun z hz=>by simp[hz])) h2;omega
  split at h
  ·have:=ha kids s (fun _ h=>h) d m (jT h);omega
  split at h
  ·have h2:=jT h
   match kids,hf,hk,h2 with
   |[],_,_,h2=>cases h2
   |[_],_,_,h2=>cases h2
   |y::z::l,hf,hk,h2=>
    obtain⟨m',h3⟩:=cT h2;have:=Fo (K:=2*Nd.ws (y::z::l)+1) (fun d m e=>?_) (hf y z.name Zs) h3
    ·omega
    ·change jc (qJ (z::l) ((z::l).map kN))=some (d,m)at e;rw[sO]at e;have:=gl (K:=2*Nd.ws (y::z::l)) (fun r hr d m e=>by
      obtain⟨u,hu,rfl⟩:=QM.1 hr;exact hk u (QI _ hu) d m (jT e)) e
     omega
  split at h
  ·have h2:=jT h;simp only[wy]at h2;obtain⟨m',h3⟩:=cT (jT h2);obtain⟨m'',h4⟩:=cT (jT h3);obtain⟨d',rfl,h5⟩:=gg h4;have:=gl (K:=2*Nd.ws kids+1) (fun r hr d m e=>by
    obtain⟨j,hj⟩:=Vv hr;have xT:=(Vt.1 hj).1;rw[pF]at xT;have aB:=pE kids j kids[j] (Zg xT);rw[aB]at hj;have bO:kids[j]∈kids:=List.getElem_mem _;split at hj
    ·cases hj;have:=hk _ bO d m e;omega
    ·cases hj;exact hv _ 1 bO d m e) h5
   omega
  split at h
  ·obtain⟨d',rfl,h5⟩:=gg (jT h);obtain⟨m',h6⟩:=cT h5;have:=ma kids 1 (fun _ h=>h) d' m' h6;omega
  split at h
  ·have:=ed d m (jT h);omega
  ·cases h
theorem nG {b sz:Nat}:∀{rows:List (List Value)} {o:Nat},(∀r∈rows,r.length=sz)->∀{i:Nat} {r:List Value},rows[i]? =some r->∀y∈kA b (o+i*sz) r,y∈kA b o rows.flatten:=by
 intro rows
 induction rows with
 |nil=>intro o _ i r h;simp at h
 |cons q rows ih=>
  intro o h i r hi y hy;rw[Vd,j8,QF];cases i with
  |zero=>
   simp only[Vn,X4]at hi;subst hi;rw[Qw,Qj]at hy;exact .inl hy
  |succ i=>
   right;rw[h q Zs];refine ih (fun r hr=>h r (by simp[hr])) (by simpa using hi) y ?_
   rwa [show o+sz+i*sz=o+(i+1)*sz by rw[Nat.succ_mul];omega]
theorem WV {B:List kC}{k:Nat}{n:Int}{b:Nat}{t:ByteArray}{items:List Lt}{sv:Value}{rows:List (List Value)}{sp:List Value}(bD:jA 5 sv items.length rows.flatten sp)(hl:rows.length=items.length)(h5:∀r∈rows,r.length=5)
 (hr:∀(i:Nat) x r,items[i]? =some x->rows[i]? =some r->zk B x r) (wf:N3 k n b t items.length):zk (aj sv rows.flatten sp++B) (.mk k n b t items) [cv k,vi n,uv b,.string t,sv]:=by
 have aB:∀i,i < items.length->rows[i]? =some (rows.getD i []):=fun i hi=>by
  rw[Vh,Zg Zo];rfl
 generalize hm:items.length=m at bD;generalize Ie:rows.flatten=xs at bD|-;cases bD with
 |@mk bk o _ c _ _ h1 h2 h3=>
  rw[<- hm];subst Ie;refine .mk (bk:=bk) (o:=o) (us:=fun i=>rows.getD i []) wf (fun _=>rfl) (fun i hi y hy=>?_) (fun i x hx=>?_)
  ·refine Zw _ ?_;simp only[aj,j8];exact Zw _ (nG h5 (aB i hi) y hy)
  ·have hi:=(Vt.1 hx).1;exact(hr i x _ hx (aB i hi)).more fun y hy=>QG _ hy
 |nil=>
  have h0:items=[]:=vz hm;subst h0;exact .mk (bk:=0) (o:=0) (us:=fun _=>[]) wf (fun h=>absurd h Zs) (fun i hi=>absurd hi Zs) (fun i x hx=>by simp at hx)
theorem Ax {sv:Value}{l:List ByteArray}{sp:List Value}{n:Nat}(hn:n=l.length)(bD:jA 1 sv n (l.map Value.string) sp)(hl:l.length<=1099511627776)(ht:∀t∈l,t.size<=140737488355328):dG (aj sv (l.map Value.string) sp) sv l:=by
 generalize hx:l.map Value.string=xs at bD;cases bD with
 |@mk bk o _ c _ _ h1 h2 h3=>
  subst hx;refine⟨_,c,by rw[hn],hl,fun i t e=>⟨bk,o,rfl,?_,ht t (Zv e)⟩⟩;simp only[aj,j8];refine Zw _ (kJ.2 ⟨i,_,?_,rfl⟩);rw[Vu,e];rfl
 |nil=>
  have h0:l=[]:=vz hn.symm;subst h0;exact⟨none,0,rfl,Zs,fun i t e=>by simp at e⟩
theorem Ar {P:Program}{n:Nat}{rs:List RO}{Γ:Env}{H:SH}{Z:List PanicEntry->Env->SH->Prop}{K:Env->SH->Prop}{d:Option Nat}{t:TypeId}{size bytes:Nat}{zero:List Value}{s x:Operand}{b o k c c2:Nat}{ad:Addr}
 (hs:ev Γ s=some (.slice (some ⟨b,o,none⟩) k c)) (hx:ev Γ x=some (.slice (some ad) 0 c2)) (hle:k<=c) (h:VO P n rs (ap d (.slice (some ⟨b,o,none⟩) k c) Γ) H Z K):VO P n (⟨d,none,.append t size bytes zero s x⟩::rs) Γ H Z K:=by
 refine VO.Z9 rfl rfl (fun ρ aO=>⟨_,rfl,?_⟩);rw[aO _ _ hs,aO _ _ hx];simp only[ej];rw[if_pos (show k+0<=c by omega)];have e0:(Builtin.firstCells size 0 (.slice (some ad) 0 c2):Sem (Array Value))=pure #[]:=by
  simp only[Builtin.firstCells,Qw];rfl
 rw[e0];refine aK.bind (aK.pure ?_);refine aK.bind (aK.pure (aK.pure ?_));exact⟨_,H,[],.inl rfl,Zs,h⟩
theorem SS:∀l:List Lt,l.length<=Lt.aq l:=by
 intro l
 induction l with
 |nil=>exact Qv _
 |cons x r ih=>have:=x.size_pos;simp only[Lt.aq,Vz];omega
structure Sg where
 rG:Nat->Nat
 off:Nat->Nat
 cap:Nat->Nat
 tl:Nat->List Value
def lM:Nat:=18446744073709551616
def qX(σ:Sg)(a:Addr):Addr:=⟨σ.rG a.block,σ.off a.block+a.off,a.spot⟩
def rnF(σ:Sg):Fn->Fn
 |.yield l=>.yield (σ.rG l)
 |f=>f
def Ho(σ:Sg)(b c:Nat):Nat:=if c < lM then c else σ.cap b - (c - lM)
def rn(σ:Sg)(x:Value):Value:=match x with
 |.pointer (some a)=>.pointer (some (qX σ a))
 |.slice (some a) n c=>.slice (some (qX σ a)) n (Ho σ a.block c)
 |.map (some r)=>.map (some (σ.rG r))
 |.func f x y=>.func (rnF σ f) (x.attach.map fun⟨v,_⟩=>rn σ v) (y.attach.map fun⟨v,_⟩=>rn σ v)
 |.iface t v=>.iface t (rn σ v)
 |.agg cs=>.agg (cs.attach.map fun⟨v,_⟩=>rn σ v)
 |.tuple cs=>.tuple (cs.attach.map fun⟨v,_⟩=>rn σ v)
 |v=>v
 termination_by SizeOf.sizeOf x
section
variable (σ:Sg)
@[simp] theorem cw (k:IntKind) (z:Int):rn σ (.int k z)=.int k z:=by simp[rn]
@[simp] theorem qY (b:Bool):rn σ (.bool b)=.bool b:=by simp[rn]
@[simp] theorem eU (s:ByteArray):rn σ (.string s)=.string s:=by simp[rn]
@[simp] theorem rn_float (k:FloatKind) (s:Nat):rn σ (.float k s)=.float k s:=by simp[rn]
@[simp] theorem rn_complex (k:FloatKind) (s t:Nat):rn σ (.complex k s t)=.complex k s t:=by simp[rn]
@[simp] theorem rn_chan (c:Option Nat):rn σ (.chan c)=.chan c:=by simp[rn]
@[simp] theorem rn_ptr0:rn σ (.pointer none)=.pointer none:=by simp[rn]
@[simp] theorem cZ (a:Addr):rn σ (.pointer (some a))=.pointer (some (qX σ a)):=by simp[rn]
@[simp] theorem nT (n c:Nat):rn σ (.slice none n c)=.slice none n c:=by simp[rn]
@[simp] theorem bn (a:Addr) (n c:Nat):rn σ (.slice (some a) n c)=.slice (some (qX σ a)) n (Ho σ a.block c):=by simp[rn]
@[simp] theorem rn_map0:rn σ (.map none)=.map none:=by simp[rn]
@[simp] theorem rn_map (r:Nat):rn σ (.map (some r))=.map (some (σ.rG r)):=by simp[rn]
@[simp] theorem rn_nilF:rn σ .nilFunc=.nilFunc:=by simp[rn]
@[simp] theorem rn_nilI:rn σ .nilIface=.nilIface:=by simp[rn]
@[simp] theorem SI (t:TypeId) (v:Value):rn σ (.iface t v)=.iface t (rn σ v):=by simp[rn]
@[simp] theorem Ae (cs:Array Value):rn σ (.agg cs)=.agg (cs.map (rn σ)):=by simp[rn]
@[simp] theorem Af (cs:Array Value):rn σ (.tuple cs)=.tuple (cs.map (rn σ)):=by simp[rn]
@[simp] theorem rn_func (f:Fn) (x y:Array Value):rn σ (.func f x y)=.func (rnF σ f) (x.map (rn σ)) (y.map (rn σ)):=by simp[rn]
end
theorem qZ(σ:Sg)(v:Value):(rn σ v).cells=v.cells.map (rn σ):=by
 cases v <;> try simp[Value.cells]
 ·rename_i a;cases a <;> simp
 ·rename_i a n c;cases a <;> simp
 ·rename_i a;cases a <;> simp
def bq:Value->Bool
 |.bool _|.int .. |.float .. |.string _|.pointer none|.slice none _ _|.map none|.nilFunc|.nilIface=>true
 |_=>false
def pw:Value->Bool
 |.agg cs=>cs.toList.all bq
 |.tuple cs=>cs.toList.all bq
 |v=>bq v
theorem eS {σ:Sg}{v:Value}(h:bq v=true):rn σ v=v:=by
 cases v <;> try simp_all [bq]
 ·rename_i a;cases a <;> simp_all [bq]
 ·rename_i a n c;cases a <;> simp_all [bq]
 ·rename_i a;cases a <;> simp_all [bq]
theorem eT {σ:Sg}{l:List Value}(h:l.all bq=true):l.map (rn σ)=l:=by
 rw[ve]at h
 conv=>rhs;rw[<- List.map_id l]
 exact QB fun x hx=>eS (h x hx)
theorem dT {σ:Sg}{v:Value}(h:pw v=true):rn σ v=v:=by
 cases v with
 |agg cs=>simp only[pw]at h;rw[Ae];congr 1;apply vC.1;rw[vD,eT h]
 |tuple cs=>simp only[pw]at h;rw[Af];congr 1;apply vC.1;rw[vD,eT h]
 |_=>exact eS h
theorem Jg {op:BinOp}{k k':IntKind}{a b:Int}{w:Value}(h:mX op k a k' b=some w):bq w=true:=by
 unfold mX at h;cases op <;> simp only at h <;> (split at h) <;> first|(cases h;rfl)|cases h
theorem JU {op:BinOp}{a b:ByteArray}{w:Value}(h:S8 op a b=some w):bq w=true:=by
 unfold S8 at h;cases op <;> simp only at h <;> first|(cases h;rfl)|(split at h <;> first|(cases h;rfl)|cases h)|cases h
theorem UK {σ:Sg}{op:BinOp}{u v w:Value}(h:zt op u v=some w):zt op (rn σ u) (rn σ v)=some (rn σ w):=by
 unfold zt at h;split at h
 ·rw[eS (Jg h)];simpa[zt]using h
 ·rw[eS (JU h)];simpa[zt]using h
 ·cases h
theorem P4 {σ:Sg}{k:NK}{u:Value}{b:Bool}(h:isNil k u=some b):isNil k (rn σ u)=some b:=by
 unfold isNil at h;split at h <;> first|(cases h;done)|skip
 ·rename_i a;cases a <;> simpa[isNil]using h
 ·rename_i a;cases a <;> simpa[isNil]using h
 ·rename_i a _ _;cases a <;> simpa[isNil]using h
 all_goals simpa[isNil]using h
theorem MZ {σ:Sg}{k:SK}{u v:Value}{b:Bool}(h:pC k u v=some b):pC k (rn σ u) (rn σ v)=some b:=by
 unfold pC at h;split at h <;> first|(cases h;done)|simpa[pC]using h
theorem N7 {σ:Sg}:∀{ks:List SK} {xs ys:List Value} {b:Bool},fX ks xs ys=some b->fX ks (xs.map (rn σ)) (ys.map (rn σ))=some b:=by
 intro ks
 induction ks with
 |nil=>intro xs ys b h;simpa[fX]using h
 |cons k ks ih=>
  intro xs ys b h;cases xs with
  |nil=>simp[fX]at h
  |cons x xs=>
   cases ys with
   |nil=>simp[fX]at h
   |cons y ys=>
    simp only[fX]at h;split at h
    ·rename_i a c h1 h2;simp only[QC,fX,MZ h1,ih h2];exact h
    ·cases h
theorem tK {σ:Sg}:∀{ps:List (Nat×Nat×Value)} {cs out:List Value},jX cs ps=some out->
 jX (cs.map (rn σ)) (ps.map fun(a,b,v)=>(a,b,rn σ v))=some (out.map (rn σ)):=by
 intro ps
 induction ps with
 |nil=>intro cs out h;simp only[jX,X4]at h;subst h;rfl
 |cons p ps ih=>
  intro cs out h;obtain⟨o,s,v⟩:=p;simp only[jX]at h;split at h
  ·rename_i hc;have:=ih h;simp only[QC,jX,qZ,Array.size_map,Q5,if_pos hc];simpa[QA,List.map_take,List.map_drop]using this
  ·cases h
theorem Om {σ:Sg}{v:Value}{y k:Nat}(h:bound v y=some k):bound (rn σ v) y=some k:=by
 unfold bound at h;split at h
 ·simpa[bound]using h
 ·cases h
theorem rX {σ:Sg}{v:Option Value}{y k:Nat}{d:Option Nat}(h:wP y d v=some k):wP y d (v.map (rn σ))=some k:=by
 cases v with
 |none=>exact h
 |some v=>exact Om h
theorem nF {σ:Sg}{n c:Nat}{lo hi mx:Option Value}{r:Nat×Nat×Nat}(h:zj n c lo hi mx=some r):zj n c (lo.map (rn σ)) (hi.map (rn σ)) (mx.map (rn σ))=some r:=by
 unfold zj at h|-;simp only[Qx]at h|-;obtain⟨m,h1,hh,h2,l,h3,h4⟩:=h;exact⟨m,rX h1,hh,by simpa using rX h2,l,rX h3,h4⟩
theorem mD {σ:Sg}{cs:Array Value}{i:Nat}{v:Value}(h:cs[i]? =some v):(cs.map (rn σ))[i]? =some (rn σ v):=by
 rw[Array.getElem?_map,h];rfl
def okC:R->Bool
 |.build z _=>z.all bq
 |.gD _ z _ _=>pw z
 |.JR n _ _ _ _=>Nat.blt n lM
 |.AR f _ _=>match f with|.yield _=>false|_=>true
 |_=>true
def Yh:Value->Bool
 |.slice (some _) _ c=>!Nat.blt c lM
 |_=>false
def okS(ρ:Operand->Value):R->Bool
 |.rj _ x _ _ _=>!Yh (ρ x)
 |.cap x=>!Yh (ρ x)
 |.tD x=>match ρ x with|.pointer (some ⟨_,_,none⟩)=>true|_=>false
 |_=>true
theorem yZ {σ:Sg}{ρ:Operand->Value}{r:R}{v:Value}(hc:okC r=true)(ho:okS ρ r=true)(h:kW ρ r=some v):kW (fun x=>rn σ (ρ x)) r=some (rn σ v):=by
 cases r <;> simp only[kW]at h|- <;> first|(cases h;done)|skip
 case mv x=>cases h;rfl
 case pick c a b=>
  split at h
  ·rename_i t ht;cases h;simp only[ht,qY];cases t <;> rfl
  ·cases h
 case bin op x y=>exact UK h
 case eqb neq x y=>
  split at h
  ·rename_i a b ha hb;cases h;simp only[ha,hb,qY]
  ·cases h
 case Cm neq k x=>
  simp only[X0]at h;obtain⟨b,h1,rfl⟩:=h;rw[P4 h1];simp
 case Cl neq ks x y=>
  split at h
  ·rename_i a b ha hb;split at h
   ·rename_i hs;simp only[X0]at h;obtain⟨c,h1,rfl⟩:=h;simp only[ha,hb,Ae,Array.size_map,if_pos hs,vD,N7 h1];simp
   ·cases h
  ·cases h
 case un op x=>
  cases op <;> simp only at h|-
  all_goals first|(cases h;done)|(split at h <;> first|(cases h;done)|(rename_i hx;cases h;simp only[hx,qY,cw]))
 case conv k x=>
  split at h
  ·rename_i hx;cases h;simp only[hx,cw]
  ·cases h
 case cvs x=>
  split at h
  ·rename_i hx;cases h;simp only[hx,eU]
  ·cases h
 case GU t x=>cases h;simp
 case AR f a b=>
  cases h;have hf:rnF σ f=f:=by cases f <;> simp_all [okC,rnF]
  simp[QD,Function.comp_def,hf]
 case ext x i=>
  split at h
  ·rename_i vs hx;simp only[hx,Af];exact mD h
  ·cases h
 case build z ps=>
  simp only[X0]at h;obtain⟨l,h1,rfl⟩:=h;have:=tK (σ:=σ) h1;rw[eT hc]at this;have e:jW (fun x=>rn σ (ρ x)) ps=(jW ρ ps).map fun(a,b,v)=>(a,b,rn σ v):=by simp[jW,QD,Function.comp_def]
  rw[e,this];simp
 case tD x=>
  split at h
  ·rename_i a ha;cases h;simp only[ha,cZ]
  ·cases h
 case fld off x=>
  split at h
  ·rename_i b o hx;cases h;simp only[hx,cZ,qX,Qi]
  ·cases h
 case IK off size agg x=>
  split at h
  ·rename_i cs hx;simp only[hx,Ae];exact zDC
  ·cases h
 case Mi len size x i=>
  split at h
  ·rename_i b o k z hx hi;split at h
   ·rename_i hb;cases h;simp only[hx,hi,cZ,qX,cw,if_pos hb,Qi]
   ·cases h
  ·cases h
 case Jb size x i=>
  split at h
  ·rename_i b o len c k z hx hi;split at h
   ·rename_i hb;cases h;simp only[hx,hi,cZ,bn,qX,cw,if_pos hb,Qi]
   ·cases h
  ·cases h
 case uA x i=>
  split at h
  ·rename_i s k z hx hi;split at h
   ·rename_i hb;simp only[X0]at h;obtain⟨b,h1,rfl⟩:=h;simp only[hx,hi,eU,cw,if_pos hb,h1,X2]
   ·cases h
  ·cases h
 case Jc len size agg x i=>
  split at h
  ·rename_i cs k z hx hi;split at h
   ·rename_i hb;simp only[hx,hi,Ae,cw,if_pos hb];exact zDC
   ·cases h
  ·cases h
 case JS x lo hi=>
  split at h
  ·rename_i s hx;simp only[X0]at h;obtain⟨⟨l,hh,m⟩,h1,rfl⟩:=h;have:=nF (σ:=σ) h1;simp only[Option.map_map,X1]at this;simp only[hx,eU];rw[show(lo.map fun x=>rn σ (ρ x))=lo.map (rn σ ∘ ρ)from rfl,show(hi.map fun x=>rn σ (ρ x))=hi.map (rn σ ∘ ρ)from rfl,this];rfl
  ·cases h
 case rj size x lo hi mx=>
  split at h
  ·rename_i b o len c hx;simp only[X0]at h;obtain⟨⟨l,hh,m⟩,h1,rfl⟩:=h;have IU:c < lM:=by
    simp only[okS,hx,Yh,Bool.not_not]at ho;exact Qm ho
   have hm:m - l < lM:=by
    have hle:m<=c:=by
     simp only[zj,Qx]at h1;obtain⟨m',g1,h',g2,l',g3,g4⟩:=h1;cases g4;cases NG:mx.map ρ with
     |none=>rw[NG]at g1;simp only[wP,X4]at g1;omega
     |some u=>
      rw[NG]at g1;simp only[wP,bound]at g1;split at g1
      ·split at g1
       ·rename_i hz;cases g1;omega
       ·cases g1
      ·cases g1
    omega
   have:=nF (σ:=σ) h1;simp only[Option.map_map]at this;simp only[hx,bn,qX,Ho,if_pos IU,if_pos hm];rw[show(lo.map fun x=>rn σ (ρ x))=lo.map (rn σ ∘ ρ)from rfl,show(hi.map fun x=>rn σ (ρ x))=hi.map (rn σ ∘ ρ)from rfl,show(mx.map fun x=>rn σ (ρ x))=mx.map (rn σ ∘ ρ)from rfl,this];simp only[X2];split <;> simp only[Qi]
  ·rename_i len c hx;simp only[X0]at h;obtain⟨⟨l,hh,m⟩,h1,rfl⟩:=h;have:=nF (σ:=σ) h1;simp only[Option.map_map]at this;simp only[hx,nT];rw[show(lo.map fun x=>rn σ (ρ x))=lo.map (rn σ ∘ ρ)from rfl,show(hi.map fun x=>rn σ (ρ x))=hi.map (rn σ ∘ ρ)from rfl,show(mx.map fun x=>rn σ (ρ x))=mx.map (rn σ ∘ ρ)from rfl,this];rfl
  ·cases h
 case JR len size x lo hi=>
  split at h
  ·rename_i b o hx;simp only[X0]at h;obtain⟨⟨l,hh,m⟩,h1,rfl⟩:=h;have:=nF (σ:=σ) h1;simp only[Option.map_map,X1]at this;have hm:m - l < lM:=by
    have IU:len < lM:=Qm hc;have hle:m<=len:=by
     simp only[zj,Qx]at h1;obtain⟨m',g1,h',g2,l',g3,g4⟩:=h1;cases g4;simp only[wP,X4]at g1;omega
    omega
   simp only[hx,bn,cZ,qX,Ho,if_pos hm];rw[show(lo.map fun x=>rn σ (ρ x))=lo.map (rn σ ∘ ρ)from rfl,show(hi.map fun x=>rn σ (ρ x))=hi.map (rn σ ∘ ρ)from rfl,this];simp only[X2];split <;> simp only[Qi]
  ·cases h
 case D3 x=>
  split at h
  ·rename_i hx;cases h;simp only[hx,eU,cw]
  ·cases h
 case Jj x=>
  split at h
  ·rename_i a k c hx;cases h;cases a <;> simp only[hx,bn,nT,cw]
  ·cases h
 case cap x=>
  split at h
  ·rename_i a k c hx;cases h;cases a with
   |none=>simp only[hx,nT,cw]
   |some a=>
    have IU:c < lM:=by
     simp only[okS,hx,Yh,Bool.not_not]at ho;exact Qm ho
    simp only[hx,bn,Ho,if_pos IU,cw]
  ·cases h
 case min2 x y=>
  split at h
  ·rename_i hx hy;cases h;simp only[hx,hy,cw]
  ·cases h
 case max2 x y=>
  split at h
  ·rename_i hx hy;cases h;simp only[hx,hy,cw]
  ·cases h
 case gD t z ok x=>
  simp only[okC]at hc;split at h
  ·rename_i hx;split at h
   ·rename_i aP;cases h;simp[hx,aP,dT hc]
   ·cases h
  ·rename_i u w hx;split at h
   ·rename_i hu;cases h;simp only[hx,SI,if_pos hu];split <;> simp
   ·rename_i hu;split at h
    ·rename_i aP;cases h;simp[hx,if_neg hu,aP,dT hc]
    ·cases h
  ·cases h
def Sf(r:R):Bool:=kd r||jG r||mY r||(match r with|.store .. =>true|_=>false)
def Zj(o:Oper):Bool:=match o.op with
 |.call c=>(match c.callee with|.builtin .recover=>true|_=>false)&&o.guard.isNone
 |_=>false
def Rl(P:Program)(n:Nat)(kp:Nat->List Nat)(od:Nat->List (List Nat)):Code->Option (Nat×List RO×IC)
 |.seq (.region _ ops false) c=>match ops.toList with
  |o1::os=>if Zj o1 then match o1.dst,zx P n ops os,zG P n kp od c with
   |some d,some rs,some y=>if d < n/\rs.all (fun r=>Sf r.op)=true then some (d,rs,y)else none
   |_,_,_=>none else none
  |[]=>none
 |_=>none
structure RIR where
 n:Nat
 bI:List RV
 d:Nat
 rs:List RO
 post:IC
def KP(P:Program)(kp:Nat->List Nat)(od:Nat->List (List Nat))(f:Nat):Option RIR:=
 match P.funcs[f]? with
 |none=>none
 |some fn=>match fn.body with
  |none=>none
  | some c => if fn.name != "runtime.NumGoroutine" then
     match Rl P fn.ntmps kp od c,ww P fn.results.toList with
     |some (d,rs,y),some r=>some ⟨fn.ntmps,r,d,rs,y⟩
     |_,_=>none
    else none
def ic(P:Program)(f:Nat)(args:List Value)(u u':FrameMode)(bm:SH)(Q:SH->Prop):Prop:=
 wE P f=true/\∀F w,Sat w (bm.flatten++F)->CallsDIn (AP none) 0 P f args.toArray u w fun e u2 w'=>u2=u'/\∃v Post,e=.returned v/\Q Post/\Sat w' (Post.flatten++F)/\kg w w'
inductive Rcv:FrameMode->Value->FrameMode->Prop where
 |none:Rcv .returning .nilIface .returning
 |some {v:Value}:Rcv (.panicking [{v:=v,recovered:=false}]) v (.panicking [{v:=v,recovered:=true}])
section
variable {P:Program} {n m:Nat} {ops:Array Oper} {Q:Exit->Act->List Frame->World->Prop} {cs:List Frame}
theorem JJ {o:Oper}{t:TypeId}{x y:Operand}(h:o.op=.store t x y){ρ:Operand->Value}{w:World}:(∃w',(execOp ρ o).run P w=.ok .skip w')∨(∃e w',(execOp ρ o).run P w=.halt e w'):=by
 simp only[execOp,h];rw[Sem.run_bind];cases hh:(Instr.storeAt t (ρ x) (ρ y)).run P w with
 |ok v w'=>exact .inl ⟨w',rfl⟩
 |halt e w'=>exact .inr ⟨e,w',rfl⟩
theorem MJ:∀(l:List (RO×Oper)) (idx:List Nat),idx.map (fun i=>ops[i]?)=l.map (fun x=>some x.2)->(∀x∈l,Sf x.1.op=true/\dP P n ops x.2=some x.1)->
 ∀(a:Act) (w:World),cr P (fun _ _ _=>False) (fun a' w'=>Q .normal a' cs w') l a w->wpOpsSIn (AP none) m P ops Q idx a cs w:=by
 intro l
 induction l with
 |nil=>
  intro idx hi _ a w h;obtain rfl:idx=[]:=by simpa using hi
  exact h
 |cons x l ih=>
  intro idx hi hx a w h;cases idx with
  |nil=>simp at hi
  |cons i idx=>
   simp only[QC,vq]at hi;obtain⟨hi1,L6⟩:=hi;obtain⟨hp,mP⟩:=hx x Zs;obtain⟨g1,g2,g3,g4⟩:=jI mP;have Up:=ih idx L6 (fun y hy=>hx y B9);simp only[wpOpsSIn,hi1];refine⟨fun _ _=>trivial,?_⟩;rw[g4 a];have h':wA P (fun _ _ _=>False) x (cr P (fun _ _ _=>False) (fun a' w'=>Q .normal a' cs w') l) a w:=h;unfold wA at h';by_cases hw:jE x.1.guard a=true
   ·rw[if_pos hw]at h'|-;by_cases hpu:kd x.1.op=true
    ·rw[if_pos hpu]at h';obtain⟨v,e,hn⟩:=h';have bB:(execOp a.eval x.2).run P w=.ok (.value v) w:=pz (w:=w) (yB a) g1 e;rw[bB];rw[g2]at hn;exact Up _ _ hn
    ·by_cases hre:jG x.1.op=true
     ·rw[if_neg hpu,if_pos hre]at h';obtain⟨s,v,e,er,hn⟩:=h';have bB:(execOp a.eval x.2).run P w=.ok (.value v) w:=sN (yB a) g1 e (er w (.refl w));rw[bB];rw[g2]at hn;exact Up _ _ hn
     ·rw[if_neg hpu,if_neg hre]at h';obtain⟨uw,hv⟩:=h';by_cases hnw:mY x.1.op=true
      ·obtain⟨u,w',bB,_⟩:=uw hnw;simp only[AL,bB,jo]at hv;rw[bB];exact Up _ _ hv
      ·have l7:∃k y z,x.1.op=.store k y z:=by
        simp only[Sf,vR]at hp;rcases hp with((h|h)|h)|h
        ·exact absurd h hpu
        ·exact absurd h hre
        ·exact absurd h hnw
        ·split at h
         ·exact⟨_,_,_,by assumption⟩
         ·cases h
       obtain⟨k,y,z,l7⟩:=l7;have Mb:∃t,x.2.op=.store t y z:=by
        rw[l7]at g1;generalize x.2=oo at g1|-;obtain⟨dst,op,ty,pos,after,guard⟩:=oo;simp only at g1|-;cases op
        case store t y' z'=>
         simp only[j7,X0]at g1;obtain⟨i,_,g1⟩:=g1;cases g1;exact⟨_,rfl⟩
        all_goals (exfalso;try simp only[j7]at g1)
        all_goals (repeat' split at g1)
        all_goals first
         |(cases g1;done)
         |(simp only[X0]at g1;obtain⟨_,_,g1⟩:=g1;cases g1;done)
       obtain⟨t,Mb⟩:=Mb;rcases JJ (P:=P) Mb (ρ:=a.eval) (w:=w)with⟨w',bB⟩|⟨e,w',bB⟩
       ·simp only[AL,bB,jo]at hv;rw[bB];exact Up _ _ hv
       ·simp only[AL,bB]at hv;cases e <;> exact hv.elim
   ·rw[if_neg hw]at h'|-;rw[g2]at h';exact Up _ _ h'
end
theorem ic.intro {P:Program}{kp:Nat->List Nat}{od:Nat->List (List Nat)}{f:Nat}{F:RIR}{args:List Value}{bm:SH}{u u':FrameMode}{rv:Value}{Q:SH->Prop}(hl:KP P kp od f=some F)(hn:args.length<=F.n)(hu:Rcv u rv u')
 (h:VO P F.n F.rs ((F.d,rv)::aM 0 args) bm (fun _ _ _=>False) fun ay H'=>oN P F.n F.post ay H' (sf F.bI fun _ Post=>Q Post)):ic P f args u u' bm Q:=by
 unfold KP at hl;split at hl
 ·cases hl
 rename_i fn uF;split at hl
 ·cases hl
 rename_i c hc;split at hl
 case isFalse=>cases hl
 rename_i iu;split at hl
 case h_2=>cases hl
 rename_i d rs y r hb hr;cases hl;refine⟨by simp only[wE,uF,iu,hc];rfl,fun FF w hs=>?_⟩;unfold Rl at hb;split at hb
 case h_2=>cases hb
 rename_i id ops c2;split at hb
 case h_2=>cases hb
 rename_i o1 os I2;split at hb
 case isFalse=>cases hb
 rename_i Pg;split at hb
 case h_2=>cases hb
 rename_i d' rs' y' hd1 Gi hd3;split at hb
 case isFalse=>cases hb
 rename_i gk;cases hb;obtain⟨hdn,au⟩:=gk;refine callsDIn_of_wpSIn uF hc trivial (fun xz cs YY=>?_);have eC:ops.size=os.length+1:=by rw[<- Array.length_toList,I2];rfl
 refine wpSIn_seq (wpSIn_region ?_);rw[eC,List.range_succ_eq_map];have h0:ops[0]? =some o1:=by rw[<- vB,I2];rfl
 unfold Zj at Pg;split at Pg
 case h_2=>cases Pg
 rename_i cl oB;simp only[vF]at Pg;obtain⟨U9,hg⟩:=Pg;have hcal':cl.callee=.builtin .recover:=by
  split at U9
  ·assumption
  ·cases U9
 have hg':o1.guard=none:=by simpa using hg
 obtain⟨a0,ha0⟩:∃a0:Act,a0={tmps:=args.toArray++Array.replicate (fn.ntmps - args.toArray.size) undef,defers:=[]}:=⟨_,rfl⟩;rw[<- ha0];have hagree:w8 fn.ntmps (aM 0 args) a0:=by
  rw[ha0];refine⟨?_,fun t v e=>?_⟩
  ·simp at hn|-;omega
  ·exact zAQ
 have hdef:a0.defers=[]:=by rw[ha0]
 simp only[wpOpsSIn,h0];refine⟨fun _ _=>trivial,?_⟩;have hw:Region.wanted o1 (yielded ops a0.tmps)=true:=by simp[Region.wanted,hg']
 rw[if_pos hw];have bB:(execOp a0.eval o1).run P w=.ok .recover w:=by
  simp[execOp,oB,resolve,hcal',invoke,builtin]
 rw[bB];have hag1:=hagree.put hdn rv;have fQ:zx P fn.ntmps ops os=some rs:=Gi;obtain⟨hlen,aB⟩:=jv fQ;have key:∀YD,(∃u2,YD={xz with mode:=u2}::cs/\u2=u')->wpOpsSIn (AP none) 0 P ops (Exit.thenS (c2.wpSIn (AP none) 0 P (bodyPostS P fn xz cs fun e u2 w'=>u2=u'/\∃v Post,e=.returned v/\Q Post/\Sat w' (Post.flatten++FF)/\kg w w')) (bodyPostS P fn xz cs fun e u2 w'=>u2=u'/\∃v Post,e=.returned v/\Q Post/\Sat w' (Post.flatten++FF)/\kg w w')) (List.map Nat.succ (List.range os.length)) (a0.put o1.dst rv) YD w:=by
  rintro YD ⟨u2,rfl,rfl⟩
  refine MJ (n:=fn.ntmps) (rs.zip os) _ ?_ ?_ _ _ ?_
  ·apply V0;intro i;simp only[Vu];by_cases hi:i < os.length
   ·rw[List.getElem?_range hi];have hz:(rs.zip os)[i]? =some (rs[i]'Zo,os[i]):=by
     rw[Zg pJ];simp
    rw[hz];simp only[X2];rw[<- vB,I2];simp[hi]
   ·rw[Vp (by simpa using hi),Vp pJ];rfl
  ·intro x hx;obtain⟨i,hi⟩:=Vv hx;have cF:=(Vt.1 hi).1;simp at cF;have e:(rs.zip os)[i]? =some (rs[i]'Zo,os[i]'Zo):=by
    rw[Zg pJ];simp
   rw[e]at hi;cases hi;refine⟨?_,aB i _ _ (Zg Zo) (Zg Zo)⟩;exact ve.1 au _ (List.getElem_mem _)
  ·rw[hd1];refine h (rs.zip os) ⟨by rw[List.map_fst_zip];omega,fun x hx=>?_⟩ _ w FF _ _ hag1 hs (fun a2 w2 cu H2 q k1 k2 k3 k4=>?_) (fun _ _ _ _ _ q=>q.elim)
   ·obtain⟨i,hi⟩:=Vv hx;have cF:=(Vt.1 hi).1;simp at cF;have e:(rs.zip os)[i]? =some (rs[i]'Zo,os[i]'Zo):=by
     rw[Zg pJ];simp
    rw[e]at hi;cases hi;exact⟨ops,aB i _ _ (Zg Zo) (Zg Zo)⟩
   ·show c2.wpSIn _ _ _ _ a2 _ w2;refine wpSIn_of_wpIn rfl ?_;refine q none kp od c2 hd3 a2 w2 FF _ k1 k3 (fun e a3 w3 Γ3 H3 q3 j1 j2 j3 j4=>?_);obtain⟨he,vs,Post,e1,e2,e3⟩:=q3;have IW:a3.defers=[]:=by rw[j2,k2,jg,hdef]
    have hb:a3.defers=[]/\∃u2',({xz with mode:=u2}::cs:List Frame)={xz with mode:=u2'}::cs/\∃v,(results fn a3.tmps).run P w3=.ok v w3/\(u2'=u2/\∃v' Post,(Ending.returned v)=.returned v'/\Q Post/\Sat w3 (Post.flatten++FF)/\kg w w3):=
     ⟨IW,u2,rfl,_,gz j3 hr j1 e1,rfl,_,Post,rfl,e3,j3.imp e2,k4.trans j4⟩
    rcases he with rfl|rfl <;> exact hb
 cases hu with
 |none=>
  have uz:recoverD (xz::cs)=none:=by simp[recoverD,YY]
  simp only[uz];refine key _ ⟨.returning,?_,rfl⟩;have:xz={xz with mode:=.returning}:=by cases xz;simp_all
  rw[<- this]
 |some=>
  have uz:recoverD (xz::cs)=some (rv,{xz with mode:=.panicking [{v:=rv,recovered:=true}]}::cs):=by simp[recoverD,YY]
  simp only[uz];exact key _ ⟨_,rfl,rfl⟩
def YR(P:Program)(g:Nat)(tZ:List Value)(bI:List RV)(Q:Value->SH->Prop):Exit->Env->SH->Prop
 |.panic ch,Γ,H=>∃bm R Q2 u',ic P g tZ (.panicking ch) u' bm Q2/\settle u'=.returning/\eo H bm R/\∀Post,Q2 Post->sf bI Q .ret Γ (Post++R)
 |e,Γ,H=>(e=.normal∨e=.ret)/\∃bm R Q2,ic P g tZ .returning .returning bm Q2/\eo H bm R/\∀Post,Q2 Post->sf bI Q .ret Γ (Post++R)
def VDP(P:Program)(n:Nat)(bI:List RV)(dr:DR)(post:IC)(Q:Value->SH->Prop):List IC->Env->SH->Prop
 |[],Γ,H=>∃vs,nI Γ dr.tZ=some vs/\VC P n post ((dr.d,.func (.func dr.g) #[] vs.toArray)::Γ) H (YR P dr.g vs bI Q)
 |x::l,Γ,H=>VC P n x Γ H (bC (fun ay H'=>VDP P n bI dr post Q l ay H') (sf bI Q))
section
variable {P:Program} {n:Nat} {fn:Func} {tmps:Array Value} {FF:List kC} {w0:World}
theorem Nj {kp:Nat->List Nat}{od:Nat->List (List Nat)}{r:List RV}{Q:Value->SH->Prop}(hr:ww P fn.results.toList=some r):∀(l:List IC) (c:Code) (dr:DR) (y:IC),ef P n kp od c=some (l,dr,y)->
 ∀Γ H a w X,VDP P n r dr y Q l Γ H->w8 n Γ a->Sat w (H.flatten++(FF++marks X))->a.defers=X.map oS->kg w0 w->
 c.wpIn (AP none) 0 P (bodyPostM (AP none) 0 P fn (fun e w'=>∃v Post,e=.returned v/\Q v Post/\Sat w' (Post.flatten++FF)/\kg w0 w')) a w:=by
 intro l
 induction l with
 |nil=>
  intro c dr y hl Γ H a w X hv ha hs hd hk;unfold ef at hl;split at hl
  case h_2=>cases hl
  rename_i p q;split at hl
  case h_2=>
   split at hl <;> cases hl
  rename_i x hx;simp only[X0]at hl;obtain⟨y',hy,he⟩:=hl;cases he;obtain⟨id,ops,o1,o2,cl,rfl,I2,h1,h2,U9,cp,hg,hdst⟩:=Jq hx;obtain⟨vs,ma,hpost⟩:=hv;refine wpIn_seq (wpIn_region_list ?_);rw[I2];obtain⟨g1,g2,g3,g4⟩:=jI h1;have hv1:kW a.eval (.AR (.func dr.g) [] dr.tZ)=some (.func (.func dr.g) #[] vs.toArray):=by
   simp[kW,ha.nI ma]
  have bB:(execOp a.eval o1).run P w=.ok (.value (.func (.func dr.g) #[] vs.toArray)) w:=pz (w:=w) (yB a) g1 hv1;have ha1:=ha.ap g3 (.func (.func dr.g) #[] vs.toArray);simp only at ha1 g2;simp only[wpListIn,g4 a,jE,if_true];refine⟨fun _ _=>trivial,?_⟩;rw[Oper.semAt_none,bB];show(if Region.wanted o2 (yielded ops (a.put o1.dst _).tmps)then _ else _);rw[<- g2];have hw:Region.wanted o2 (yielded ops (a.put (some dr.d) (.func (.func dr.g) #[] vs.toArray)).tmps)=true:=by simp[Region.wanted,hg]
  rw[if_pos hw];have O7:(a.put (some dr.d) (.func (.func dr.g) #[] vs.toArray)).eval (.tmp dr.d)=.func (.func dr.g) #[] vs.toArray:=ha1.ev (by simp[V.ev,V.ap,V.look]);have hdef:(execOp (a.put (some dr.d) (.func (.func dr.g) #[] vs.toArray)).eval o2).run P w=.ok (.defer {target:=.fn (.func dr.g) vs.toArray,args:=#[]}) w:=by
   simp[execOp,h2,resolve,U9,cp,O7,Deferred.ofValue]
  refine⟨fun _ _=>trivial,?_⟩;rw[Oper.semAt_none,hdef,Oper.uponIn_defer,hdst];show q.wpIn _ _ _ _ _ w;have hputd:(a.put (some dr.d) (.func (.func dr.g) #[] vs.toArray)).defers=a.defers:=jg ..;refine hpost none kp od _ hy _ w (FF++marks X) _ (fun l e=>by cases e) ⟨ha1.size,ha1.slots⟩ hs (fun e a' w' ay H' Y q k1 k2 k3 k4=>?_);have Kx:a'.defers=Y.map oS++({target:=.fn (.func dr.g) vs.toArray,args:=#[]}::X.map oS):=by
   rw[k2];show _++({target:=.fn (.func dr.g) vs.toArray,args:=#[]}::(a.put (some dr.d) (.func (.func dr.g) #[] vs.toArray)).defers)=_;rw[hputd,hd]
  have go:∀(u u':FrameMode) (bm Rr:SH) (Q2:SH->Prop),u≠.run->settle u'=.returning->ic P dr.g vs u u' bm Q2->eo H' bm Rr->(∀Post,Q2 Post->sf r Q .ret ay (Post++Rr))->
   LeavesInM (AP none) 0 P fn a'.tmps (fun e w'=>∃v Post,e=.returned v/\Q v Post/\Sat w' (Post.flatten++FF)/\kg w0 w') a'.defers u w':=by
   intro u u' bm Rr Q2 hu DQ Ue Pq eB;rw[Kx];refine gX (w0:=w0) (FF:=FF++marks X) hu Y w' k3 (hk.trans k4) (fun w2 s2 c2=>?_);refine⟨hu,.inr ⟨Zs,.func dr.g,vs.toArray,dr.g,vs.toArray,rfl,?_,fun _ _=>trivial,?_⟩⟩
   ·simp[invoke,zb Ue.1]
   ·have rK:Sat w2 (bm.flatten++(Rr.flatten++(FF++marks X))):=by
     rw[<- vj];exact s2.perm (Pq.append_right _)
    refine(Ue.2 (Rr.flatten++(FF++marks X)) w2 rK).mono ?_
    rintro e2 u2 w3 ⟨rfl,v,Post,rfl,iN,Me,rI⟩
    show LeavesInM _ _ _ _ _ _ (X.map oS) (settle u2) w3;rw[DQ];refine yb hr (eB Post iN) k1 ?_ (c2.trans rI);rw[Vc,vj];exact Me
  cases e with
  |normal=>
   exact zEF
  |ret=>
   exact zEF
  |panic ch=>
   obtain⟨bm,Rr,Q2,u',Ue,DQ,Pq,eB⟩:=q;exact go (.panicking ch) u' bm Rr Q2 Zs DQ Ue Pq eB
  |exit id=>exact absurd q.1 Zs
  |goto l=>exact absurd q.1 Zs
  |outgrown=>exact absurd q.1 Zs
 |cons x l ih=>
  intro c dr y hl Γ H a w X hv ha hs hd hk;unfold ef at hl;split at hl
  case h_2=>cases hl
  rename_i p q;split at hl
  ·simp only[X0]at hl;obtain⟨y',hy,he⟩:=hl;cases he
  split at hl
  case h_2=>cases hl
  rename_i x' l' d' y' hx hq;cases hl;refine wpIn_seq (hv none kp od _ hx a w (FF++marks X) _ (fun l e=>by cases e) ha hs (fun e a' w' ay H' Y q k1 k2 k3 k4=>?_));have Kx:a'.defers=(Y++X).map oS:=by rw[k2,hd];simp
  cases e <;> first
   |exact ih _ _ _ hq ay H' a' w' (Y++X) q k1 k3.marks Kx (hk.trans k4)
   |(obtain⟨he,_⟩:=q;simp at he;done)
   |(show LeavesInM _ _ _ _ _ _ a'.defers _ w';rw[Kx];exact yb hr q k1 k3.marks (hk.trans k4))
end
theorem aw.KK {P:Program}{kp:Nat->List Nat}{od:Nat->List (List Nat)}{f:Nat}{F:DIR}{args:List Value}{bm:SH}{Q:Value->SH->Prop}(hl:KO P kp od f=some F)(hn:args.length<=F.n)
 (h:VDP P F.n F.bI F.dr F.post Q F.pre (aM 0 args) bm):aw P f args bm Q:=by
 unfold KO at hl;split at hl
 ·cases hl
 rename_i fn uF;split at hl
 ·cases hl
 rename_i c hc;split at hl
 case isFalse=>cases hl
 rename_i iu;split at hl
 case h_2=>cases hl
 rename_i l d y r hb hr;cases hl;refine⟨by simp only[wE,uF,iu,hc];rfl,fun FF w hs=>?_⟩;refine(callsIn_wide (n:=0)).1 (callsIn_of_wp_marks uF hc trivial (Nj hr l c d y hb _ _ _ w [] h ⟨?_,fun t v e=>?_⟩ (by simpa[V.marks]using hs) rfl (.refl w)))
 ·simp at hn|-;omega
 ·exact zAQ
section
variable {ops:Array Oper}
theorem Fz {both:Bool}{rs:List (RO×Oper)}{orders:List (List Nat)}(hlen:rs.length=ops.size)
 (hc:fk both rs ops orders=true) (t:Nat):∃o∈orders,o.Perm (jf ops ops.size t (Array.replicate ops.size false))/\(jf ops ops.size t (Array.replicate ops.size false)).Nodup/\
   o.Pairwise (fun x y=>indep (rs.getD y default) (rs.getD x default)=true∨[x,y].Sublist (jf ops ops.size t (Array.replicate ops.size false))):=by
 simp only[fk,vF]at hc;obtain⟨⟨⟨hb,hd⟩,ho⟩,hp⟩:=hc;have hu:oI ops (Array.replicate ops.size false)=List.range ops.size:=by
  exact zAU
 obtain⟨s1,s2,_⟩:=y8 hb ops.size t (Array.replicate ops.size false) Zs (by rw[hu];simp);generalize hl:jf ops ops.size t (Array.replicate ops.size false)=l at s1 s2|-;have U6:∀{x y:Nat},y < ops.size->x∈(ij ops).getD y []->J8 l x y:=fun hy hx=>hl ▸ uE hb (Qn _) (iQ hx) hy
 have bO:∀i,i∈l↔i < ops.size:=fun i=>by rw[s2,hu];simp
 generalize IW:Fv both rs (ij ops) ops.size=d at hd hp;have hdlt:∀x∈d,x < ops.size:=by
  exact zCX
 have Gw:(l.filter (d.contains ·)).Perm d:=by
  exact zBE
 have au:=ve.1 hp _ (sM Gw);simp only[vR,vN,vh]at au;have Gs:zm (fun x y=>!((ij ops).getD x []).contains y) (l.filter (d.contains ·))=true:=by
  exact zAD
 rcases au with au|⟨o,NH,hpo⟩
 ·rw[Gs]at au;cases au
 have xV:=ve.1 ho o NH;simp only[vF,beq_iff_eq,ve,decide_eq_true_eq]at xV;obtain⟨⟨o1,o2⟩,o3⟩:=xV;have dI:o.Perm l:=by
  exact zAI
 refine⟨o,NH,dI,s1,?_⟩
 ·exact zAN
theorem UP {rs:List (RO×Oper)}{orders:List (List Nat)}(hlen:rs.length=ops.size)
 (hc:oT rs ops orders=true) (t:Nat):∃o∈orders,o.Perm (jf ops ops.size t (Array.replicate ops.size false))/\(jf ops ops.size t (Array.replicate ops.size false)).Nodup/\
   o.Pairwise (fun x y=>indep (rs.getD y default) (rs.getD x default)=true∨[x,y].Sublist (jf ops ops.size t (Array.replicate ops.size false))):=by
 unfold oT at hc;rcases vS.1 hc with hc|hc
 ·exact Fz hlen hc t
 ·exact Fz hlen hc t
theorem Tb {x y c:Nat}{l1 l2:List Nat}(hn:(l1++c::l2).Nodup)(hx:x∈l1)(hy:y∈l1)(h:[x,y].Sublist (l1++c::l2)):[x,y].Sublist l1:=by
 rw[List.sublist_append_iff]at h;obtain⟨a,b,e,ha,hb⟩:=h;have hd:=(QT.1 hn).2.2;have hb0:b=[]:=by
  cases b with
  |nil=>rfl
  |cons z b=>
   have hz:z∈[x,y]:=by rw[e];simp
   have hz1:z∈l1:=by simp only[QH,List.not_mem_nil,or_false]at hz;rcases hz with rfl|rfl <;> assumption
   exact absurd rfl (hd z hz1 z (hb.subset Zs))
 subst hb0;rw[vm]at e;rw[e];exact ha
theorem G8 {P:Program}{n:Nat}{X:Nat->RO×Oper}{Z:Exit->Act->World->Prop}{Q:Act->World->Prop}{c:Nat}{l1 l2 o:List Nat}(hp:o.Perm (l1++c::l2))(hn:(l1++c::l2).Nodup)(hg:∀i∈l1++c::l2,Good P n ops (X i))
 (DP:o.Pairwise (fun x y=>indep (X y) (X x)=true∨[x,y].Sublist (l1++c::l2))) {a:Act} {w:World}
 (h:cr P wU (cr P Z (fun _ _=>False) [X c]) ((o.filter (l1.contains ·)).map X) a w):cr P Z Q ((l1++c::l2).map X) a w:=by
 have L7:=(QT.1 hn).1;have dt:o.Nodup:=hp.nodup_iff.2 hn;have hp1:(o.filter (l1.contains ·)).Perm l1:=by
  refine(QY (dt.filter _) L7).2 fun x=>?_
  simp only[QK,vt,hp.mem_iff];exact⟨fun h=>h.2,fun h=>⟨by simp[h],h⟩⟩
 have h1:=reorder (P:=P) (n:=n) (ops:=ops) l1 _ hp1 L7 (fun i hi=>hg i (Zw _ hi)) ((DP.filter _).imp_of_mem fun {x y} hx hy h=>by
  rcases h with h|h
  ·exact .inl h
  ·simp only[QK,vt]at hx hy;exact .inr (Tb hn hx.2 hy.2 h)) h
 have h2:cr P Z (cr P Z (fun _ _=>False) [X c]) (l1.map X) a w:=Dn h1;rw[QA,QC];have app:∀(u v:List (RO×Oper)) (a:Act) (w:World),cr P Z (cr P Z Q v) u a w->cr P Z Q (u++v) a w:=by
  intro u v
  induction u with
  |nil=>intro a w h;exact h
  |cons x u ih=>intro a w h;exact eX (fun a w h=>ih a w h) h
 refine app _ _ _ _ (HT (fun a w hc=>?_) h2);exact eX (fun a w (hf:False)=>hf.elim) hc
end
def Es(x:RO):List Nat:=cO x.guard++cX (lB x.op)
def Bp(bg cd:List Nat):List Nat->List (RO×Bool)->List (List RO)
 |_,[]=>[[]]
 |skip,(x,late)::r=>
  (if(kd x.op||!late)&&!(kd x.op||jG x.op)||(Es x).all (fun t=>!skip.contains t&&!(late&&cd.contains t))&&(kd x.op||!late)then(Bp bg cd skip r).map (x::·)else [])++
  (if late||kd x.op&&(ot x.dst).all (fun d=>!bg.contains d)then Bp bg cd (ot x.dst++skip) r else [])
where
 ot (d:Option Nat):List Nat:=d.toList
theorem Ro {bg cd:List Nat}(p:Nat->Bool)(X:Nat->RO)(late:Nat->Bool):∀(o:List Nat) (skip:List Nat),
 (∀i∈o,p i=true->(kd (X i).op||!late i)=true)->
 (∀i∈o,p i=false->late i=false->kd (X i).op=true)->
 (∀i∈o,p i=false->late i=false->∀d,(X i).dst=some d->d∉bg)->
 (∀i∈o,p i=true->(kd (X i).op||jG (X i).op)=true->∀t∈Es (X i),t∉skip/\(late i=true->t∉cd))->
 o.Pairwise (fun i j=>p i=false->p j=true->(kd (X j).op||jG (X j).op)=true->∀d,(X i).dst=some d->d∉Es (X j))->
 (o.filter p).map X∈Bp bg cd skip (o.map fun i=>(X i,late i)):=by
 intro o
 induction o with
 |nil=>intro skip _ _ _ _ _;simp[Bp]
 |cons i o ih=>
  intro skip h1 h2 h3 h4 h5;rw[List.pairwise_cons]at h5;simp only[QC,Bp,QF];cases hp:p i with
  |true=>
   left;have hr:=h1 i Zs hp;rw[if_pos,List.filter_cons_of_pos hp,QC]
   ·exact QM.2 ⟨_,ih skip (fun j hj=>h1 j (by simp[hj])) (fun j hj=>h2 j (by simp[hj])) (fun j hj=>h3 j (by simp[hj])) (fun j hj=>h4 j (by simp[hj])) h5.2,rfl⟩
   ·cases hq:(kd (X i).op||jG (X i).op)with
    |false=>simp[hr]
    |true=>
     have:=h4 i Zs hp hq;rw[hr];simp only[Bool.not_true,Bool.and_false,vM,vH,ve,vN];intro t ht;have:=this t ht;cases hl:late i <;> simp_all
  |false=>
   right;rw[if_pos,List.filter_cons_of_neg (by simp[hp])]
   ·refine ih _ (fun j hj=>h1 j (by simp[hj])) (fun j hj=>h2 j (by simp[hj])) (fun j hj=>h3 j (by simp[hj])) (fun j hj pj q t ht=>⟨fun hm=>?_,(h4 j (by simp[hj]) pj q t ht).2⟩) h5.2;rcases QF.1 hm with hm|hm
    ·have hd:(X i).dst=some t:=by simpa[Bp.ot]using hm
     exact h5.1 j hj hp pj q t hd ht
    ·exact(h4 j (by simp[hj]) pj q t ht).1 hm
   ·cases hl:late i with
    |true=>rfl
    |false=>
     have hr:=h2 i Zs hp hl;rw[hr];simp only[vU,vM,ve,vN];intro d hd;have O4:(X i).dst=some d:=by simpa[Bp.ot]using hd
     have:=h3 i Zs hp hl d O4;simpa using this
theorem dM {x y:RO×Oper}(h:indep x y=true):rU x y=true/\rU y x=true/\(kd x.1.op||kd y.1.op||(jG x.1.op&&jG y.1.op)||(mY x.1.op&&jG y.1.op))=true:=by
 simp only[indep,vF]at h;exact⟨h.1.1,h.1.2,h.2⟩
theorem VC.Oz {P:Program}{n:Nat}{Γ:Env}{H:SH}{Q:Exit->Env->SH->Prop}{rL:List (List RO)}{aV:List Nat}
 (h:∀rs∈rL,∃pre d f xs post,rs=pre++⟨d,none,.call f xs⟩::post/\∀S∈Bp (cX xs) d.toList [] (pre.map (fun x=>(x,false))++post.map (fun x=>(x,true))),
   VO P n S Γ H (fun _ _ _=>False) fun ay H'=>VO P n [⟨d,none,.call f xs⟩] ay H' (fun ch _ l9=>Q (.panic ch) [] l9) (fun _ _=>False)):VC P n (.draw rL aV) Γ H Q:=by
 intro ρ kp od code hl a w F QQ hr ha hs hh;obtain⟨id,ops,rs,rfl,h1,hm,hc,rfl,rfl⟩:=jd hl;have hlen:=(jv h1).1;refine wpIn_region_draw (fun t=>?_);have o6:Region.schedule (P.follows .mixedOrders) ops t=jf ops ops.size t (Array.replicate ops.size false):=by simp[Region.schedule,hm,Region.linearise,jf]
 rw[o6];have hu:oI ops (Array.replicate ops.size false)=List.range ops.size:=by
  exact zAU
 have et:zC ops=true:=by
  exact zEL
 have bO:=(y8 et ops.size t (Array.replicate ops.size false) Zs (by rw[hu];simp)).2.1;refine eY (P:=P) (ρ:=ρ) (n:=n) (ops:=ops) (X:=fun i=>(rs.zip ops.toList).getD i default) (QQ:=QQ) (fun i hi=>?_) _ a _ (fun i hi=>by rw[bO,hu]at hi;simpa using hi) ?_
 ·exact zDJ
 obtain⟨o,NH,dI,E1,DP⟩:=UP (rs:=rs.zip ops.toList) (by simp[hlen]) hc t;obtain⟨pre,d,f,xs,post,e,hS⟩:=h (o.map fun i=>rs.getD i default) (QM.2 ⟨o,NH,rfl⟩);have aS:∀i∈o,i < ops.size:=fun i hi=>by have:=dI.mem_iff.1 hi;rw[bO,hu]at this;simpa using this
 generalize jf ops ops.size t (Array.replicate ops.size false)=l at dI E1 DP bO|-;obtain⟨o1,oc,rfl,e1,e2⟩:=List.map_eq_append_iff.1 e;obtain⟨ci,o2,rfl,e3,e4⟩:=List.map_eq_cons_iff.1 e2;obtain⟨l1,l2,rfl⟩:=vp (dI.mem_iff.1 (show ci∈o1++ci::o2 by simp));have dt:(o1++ci::o2).Nodup:=dI.nodup_iff.2 E1;refine G8 (n:=n) (ops:=ops) (o:=o1++ci::o2) dI E1 (fun i hi=>?_) DP ?_
 ·obtain⟨g1,g2,g3⟩:=z7 h1 (aS i (dI.mem_iff.2 hi));exact Good.Sd g3
 have xR:∀i∈o1++ci::o2,((rs.zip ops.toList).getD i default).1=rs.getD i default:=fun i hi=>(z7 h1 (aS i hi)).2.1
 have hpc:l1.contains ci=false:=by
  have:=(QT.1 E1).2.2;cases Ua:l1.contains ci with
  |false=>rfl
  |true=>exact absurd rfl (this ci (vt.1 Ua) ci Zs)
 have hfil:(o1++ci::o2).filter (l1.contains ·)=(o1++o2).filter (l1.contains ·):=by
  simp only[V5,V6,hpc,vL,↓reduceIte]
 have hdj:∀i∈o1,i∉o2:=fun i h1 h2=>(QT.1 dt).2.2 i h1 i (by simp[h2]) rfl
 have DL:(o1++o2).map (fun i=>(rs.getD i default,o2.contains i))=pre.map (fun x=>(x,false))++post.map (fun x=>(x,true)):=by
  rw[<- e1,<- e4,QA,QD,QD]
  congr 1
  ·refine QB fun i hi=>?_
   simp[hdj i hi]
  ·refine QB fun i hi=>?_
   simp[hi]
 have bY:((o1++o2).filter (l1.contains ·)).map (fun i=>rs.getD i default)∈Bp (cX xs) d.toList [] (pre.map (fun x=>(x,false))++post.map (fun x=>(x,true))):=by
  rw[<- DL];have hXc:((rs.zip ops.toList).getD ci default).1=⟨d,none,.call f xs⟩:=by rw[xR ci Zs,e3]
  have mP:j7 P ((rs.zip ops.toList).getD ci default).2.op=some (.call f xs):=by
   obtain⟨g1,g2,g3⟩:=z7 h1 (aS ci Zs);have:=(jI g3).1;rw[hXc]at this;exact this
  have hndl:∀x∈l1,x∉ci::l2:=fun x h1 h2=>(QT.1 E1).2.2 x h1 x h2 rfl
  have ncl:ci∉l1:=fun h=>by simp[h]at hpc
  have Ta:∀{x y:Nat},[x,y].Sublist (l1++ci::l2)->y∈ci::l1->x∈l1:=by
   intro x y hxy hy;have hb:=uW E1 hxy;by_cases hx:x∈l1
   ·exact hx
   ·exfalso;have:=hb.2.2;rw[List.idxOf_append,if_neg hx]at this;rcases QH.1 hy with rfl|hy
    ·rw[List.idxOf_append,if_neg ncl]at this;have h0:List.idxOf y (y::l2)=0:=List.idxOf_cons_self;omega
    ·have h2:=List.idxOf_lt_length_of_mem hy;rw[List.idxOf_append,if_pos hy]at this;omega
  have hp1:=List.pairwise_append.1 DP;have tz:=List.pairwise_cons.1 hp1.2.1;refine Ro (l1.contains ·) (fun i=>rs.getD i default) (fun i=>o2.contains i) (o1++o2) [] ?_ ?_ ?_ ?_ ?_
  ·intro i hi hp;have hp:=vt.1 hp;by_cases h2:i∈o2
   ·have hA:=dM ((tz.1 i h2).resolve_right fun q=>ncl (Ta q (by simp[hp])));have h3:=hA.2.2;rw[hXc,xR i (by simp[h2])]at h3;have h4:kd (rs.getD i default).op=true:=by simpa[kd,jG]using h3
    show(kd (rs.getD i default).op||!o2.contains i)=true;rw[h4];rfl
   ·show(kd (rs.getD i default).op||!o2.contains i)=true;simp[h2]
  ·intro i hi hp hl;have h2:i∈o1:=by
    rcases QF.1 hi with h|h
    ·exact h
    ·simp[h]at hl
   have hp:i∉l1:=fun h=>by simp[h]at hp
   have hB:=dM ((hp1.2.2 i h2 ci Zs).resolve_right fun q=>hp (Ta q Zs));have h3:=hB.2.2;rw[hXc,xR i (by simp[h2])]at h3;simp[kd,jG,mY]at h3;exact h3
  ·intro i hi hp hl dd hd hm;have h2:i∈o1:=by
    rcases QF.1 hi with h|h
    ·exact h
    ·simp[h]at hl
   have hp:i∉l1:=fun h=>by simp[h]at hp
   have hB:=dM ((hp1.2.2 i h2 ci Zs).resolve_right fun q=>hp (Ta q Zs));refine(zX hB.2.1 dd (by rw[xR i (by simp[h2])];exact hd)).1 ?_;obtain⟨c,Ua,oA,hc3,_⟩:=qG mP;unfold looks;rw[hXc,Ua];simp only[kd,jG,vT,vL,↓reduceIte,cO,QS,Op.operands,Call.operands,oA,Array.toList_append,hc3];unfold cX at hm|-;rw[List.filterMap_append];exact QG _ hm
  ·intro i hi hp hq tt ht;refine⟨Zs,fun hl=>?_⟩;have hp:=vt.1 hp;have h2:i∈o2:=vt.1 hl;have hA:=dM ((tz.1 i h2).resolve_right fun q=>ncl (Ta q (by simp[hp])));intro hd;have O4:d=some tt:=by simpa using hd
   have:=(zX hA.2.1 tt (by rw[hXc];exact O4)).1;unfold looks at this;rw[xR i (by simp[h2])]at this;simp only[hq,↓reduceIte]at this;exact this ht
  ·have hpw2:(o1++o2).Pairwise (fun x y=>indep ((rs.zip ops.toList).getD y default) ((rs.zip ops.toList).getD x default)=true∨[x,y].Sublist (l1++ci::l2)):=DP.sublist (List.Sublist.append_left (Qd _ _) _);refine hpw2.imp_of_mem fun {i j} hi hj h pi pj hq dd hd hm=>?_
   have pj:=vt.1 pj;have pi:i∉l1:=fun h=>by simp[h]at pi
   have mem:∀{x:Nat},x∈o1++o2->x∈o1++ci::o2:=fun {x} h=>by
    rcases QF.1 h with h|h <;> simp[h]
   have hA:=dM (h.resolve_right fun q=>pi (Ta q (by simp[pj])));have:=(zX hA.2.1 dd (by rw[xR i (mem hi)];exact hd)).1;unfold looks at this;rw[xR j (mem hj)]at this;simp only[hq,↓reduceIte]at this;exact this hm
 rw[hfil];refine hS _ bY _ ⟨?_,?_⟩ a {w with drawn:=w.drawn+1} F _ _ ha (hs.drawn _) (fun a' w' ay H' q g1 g2 g3 g4=>?_) (fun _ _ _ _ _ q=>q.elim)
 ·rw[QD];refine QB fun i hi=>xR i ?_
  exact zE7
 ·intro x hx;obtain⟨i,hi,rfl⟩:=QM.1 hx;have bQ:i∈o1++ci::o2:=by
   exact zE7
  obtain⟨g1,g2,g3⟩:=z7 h1 (aS i bQ);exact⟨ops,g3⟩
 ·refine q [(rs.zip ops.toList).getD ci default] ⟨?_,?_⟩ a' w' F _ _ g1 g3 (fun _ _ _ _ q=>q.elim) (fun ch a2 w2 cu H2 q2 k1 k2 k3 k4=>hh (.panic ch) a2 w2 [] H2 [] q2 ⟨k1.size,fun t v e=>by cases e⟩ (by rw[k2,g2];rfl) k3.cf (((kg.refl w).drawn _).trans (g4.trans k4)))
  ·show [((rs.zip ops.toList).getD ci default).1]=_;rw[xR ci Zs,e3]
  ·intro x hx;rw[QR.1 hx];obtain⟨g1,g2,g3⟩:=z7 h1 (aS ci Zs);exact⟨ops,g3⟩
end Go.V

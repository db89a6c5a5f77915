/-
  What looks come to: bounds.
-/
import Derived.Test.YtijnokbblmbpkaaGreatDoorN6
import Derived.Test.YtijnokbblmbpkaaGreatDoorN5
set_option linter.all false
namespace Go.V
open Go
theorem cK:∀{l:List Rs},none∈l->wZ l=none:=by
 intro l
 induction l with
 |nil=>intro h;cases h
 |cons r l ih=>
  intro h;cases r with
  |none=>rfl
  |some p=>
   rcases Q9.1 h with h|h
   ·cases h
   ·simp only[wZ,ih h]
theorem cL {d e:Nat}{m k:Bool}:∀{l:List Rs},wZ l=some (d,m)->wZ (l++[some (e,k)])=some (max d e,m||k):=by
 intro l
 induction l generalizing d m with
 |nil=>intro h;cases h;simp[wZ]
 |cons r l ih=>
  intro h;cases r with
  |none=>cases h
  |some p=>
   simp only[wZ]at h;cases hl:wZ l with
   |none=>rw[hl]at h;cases h
   |some q=>
    rw[hl]at h;cases h;simp only[vf,wZ,ih hl,X1,X2];exact⟨Zo,by rw[vN]⟩
theorem fL {K:Nat}:∀{l:List Rs} {d:Nat} {m:Bool},(∀r∈l,∀d m,r=some (d,m)->d<=K)->wZ l=some (d,m)->d<=K:=by
 intro l
 induction l with
 |nil=>intro d m _ h;cases h;omega
 |cons r l ih=>
  intro d m hl h;cases r with
  |none=>cases h
  |some p=>
   simp only[wZ]at h;cases hq:wZ l with
   |none=>rw[hq]at h;cases h
   |some q=>
    rw[hq]at h;cases h;have h1:=hl (some p) Zs p.1 p.2 rfl;have h2:=ih (fun r hr=>hl r (by simp[hr])) hq;omega
theorem jN {b:Bool}{r:Rs}{p:Nat×Bool}(h:kP b r=some p):r=some p:=by
 unfold kP at h;split at h
 ·exact h
 ·cases h
theorem cI {b:Bool}{r:Rs}{d:Nat}{m:Bool}(h:wy b r=some (d,m)):∃m',r=some (d,m'):=by
 cases r with
 |none=>cases h
 |some p=>cases h;exact⟨_,rfl⟩
theorem fG {r:Rs}{d:Nat}{m:Bool}(h:wm r=some (d,m)):∃d',d=d'+1/\r=some (d',m):=by
 cases r with
 |none=>cases h
 |some p=>cases h;exact⟨_,rfl,rfl⟩
theorem CX:∀(N:Nat) (x:Lt),x.size<=N->∀(i:Bool) (d:Nat) (m:Bool),wE x i=some (d,m)->d<=x.size:=by
 intro N
 induction N with
 |zero=>intro x hx;have:=x.size_pos;omega
 |succ N ih=>
  intro x hx i d m h;cases x with
  |mk k n b t items=>
  simp only[Lt.size]at hx|-;simp only[wE]at h;have zero:∀(c:Bool) (q:Bool),kP c (some (0,q))=some (d,m)->d=0:=fun c q h=>by have:=jN h;cases this;rfl
  split at h
  ·have:=zero _ _ h;omega
  split at h
  ·have:=zero _ _ h;omega
  split at h
  ·have:=zero _ _ h;omega
  split at h
  ·have:=zero _ _ h;omega
  split at h
  ·have:=zero _ _ h;omega
  split at h
  ·have:=zero _ _ h;omega
  split at h
  ·have:=zero _ _ h;omega
  split at h
  ·obtain⟨d',hd,h2⟩:=fG (jN h);obtain⟨m',h3⟩:=cI h2;rw[gQ]at h3;have:=fL (K:=Lt.aq items) (fun r hr d m e=>by
    obtain⟨y,hy,rfl⟩:=QE.1 hr;have h1:=Lt.aH hy;have h2:=ih y Zo true d m e;omega) h3
   omega
  ·cases h
theorem mQ(place:Nat):∀l:List Nd,zo place l (l.map kN)=l.map fun x=>jm x place (kN x):=by
 intro l
 induction l with
 |nil=>rfl
 |cons x r ih=>simp only[Q3,zo,ih]
theorem Bi:∀l:List Nd,oh l (l.map kN)=l.map fun x=>kP (decide (x.kind=6)) (kN x):=by
 intro l
 induction l with
 |nil=>rfl
 |cons x r ih=>simp only[Q3,oh,ih]
theorem sw {x:Nd}{place K d:Nat}{r:Rs}{m:Bool}(hr:∀d m,r=some (d,m)->d<=K)(h:jm x place r=some (d,m)):d<=K+1:=by
 have h2:=jN (jN h);split at h2
 ·obtain⟨d',e,h3⟩:=fG h2;have:=hr d' m h3;omega
 ·have:=hr d m h2;omega
mutual
def Nd.w:Nd->Nat
 |.mk _ s lit args ab kids _=>1+s.size+lit.size+args.length+ab.length+Nd.ws kids
def Nd.ws:List Nd->Nat
 |[]=>0
 |x::r=>x.w+Nd.ws r
end
theorem Nd.fw(x:Nd):0 < x.w:=by cases x;simp only[Nd.w];omega
theorem Nd.bY {x:Nd}:∀{l:List Nd},x∈l->x.w<=Nd.ws l:=by
 intro l
 induction l with
 |nil=>intro h;cases h
 |cons y r ih=>
  intro h;simp only[Nd.ws];exact zC9
theorem Nd.ws_le {f:Nat->Nat}:∀{l:List Nd} {o:Nat},(∀i x,l[i]? =some x->x.w<=f (o+i))->Nd.ws l<=((List.range' o l.length).map f).sum:=by
 intro l
 induction l with
 |nil=>intro o _;simp[Nd.ws]
 |cons y r ih=>
  intro o h;have h0:=h 0 y rfl;have h1:=ih (o:=o+1) (fun i x e=>by have:=h (i+1) x e;rwa [Qe,Nat.add_comm 1 i]);simp only[Nd.ws,Vp,List.range'_succ,Q3,List.sum_cons,Qh]at h0 h1|-;omega
theorem Lt.Sb {f:Nat->Nat}:∀{l:List Lt} {o:Nat},(∀i x,l[i]? =some x->x.size<=f (o+i))->Lt.aq l<=((List.range' o l.length).map f).sum:=by
 intro l
 induction l with
 |nil=>intro o _;simp[Lt.aq]
 |cons y r ih=>
  intro o h;have h0:=h 0 y rfl;have h1:=ih (o:=o+1) (fun i x e=>by have:=h (i+1) x e;rwa [Qe,Nat.add_comm 1 i]);simp only[Lt.aq,Vp,List.range'_succ,Q3,List.sum_cons,Qh]at h0 h1|-;omega
theorem DY {K d:Nat}{m:Bool}{p q:Rs}(hp:∀d m,p=some (d,m)->d<=K)(hq:∀d m,q=some (d,m)->d<=K)(h:nZ p q=some (d,m)):d<=K:=by
 cases p with
 |none=>cases h
 |some p=>
  cases q with
  |none=>cases h
  |some q=>
   simp only[nZ,X1,X2]at h;have h1:=hp p.1 p.2 rfl;have h2:=hq q.1 q.2 rfl;omega
theorem pu:∀l:List Nd,(wP l (l.map kN)).length=l.length:=by
 intro l
 induction l with
 |nil=>rfl
 |cons x r ih=>
  cases r with
  |nil=>rfl
  |cons y r=>simpa[wP]using ih
theorem po:∀(l:List Nd) (j:Nat) (y:Nd),l[j]? =some y->(wP l (l.map kN))[j]? =some (if y.kind=9/\j+1=l.length then kN y else jm y 1 (kN y)):=by
 intro l
 induction l with
 |nil=>intro j y h;simp at h
 |cons x r ih=>
  intro j y h;cases r with
  |nil=>
   cases j with
   |zero=>
    simp only[Vc,X1]at h;subst h;simp[wP]
   |succ j=>simp at h
  |cons z r=>
   cases j with
   |zero=>
    simp only[Vc,X1]at h;subst h;simp[wP]
   |succ j=>
    have:=ih j y (by simpa using h);simpa[wP]using this
theorem Rc:∀(N:Nat) (x:Nd),x.w<=N->∀(d:Nat) (m:Bool),kN x=some (d,m)->d<=2*x.w:=by
 intro N
 induction N with
 |zero=>intro x hx;have:=x.fw;omega
 |succ N ih=>
  intro x hx d m h;cases x with
  |mk k s lit args ab kids p=>
  simp only[Nd.w]at hx|-;have hk:∀y∈kids,∀d m,kN y=some (d,m)->d<=2*Nd.ws kids:=fun y hy d m e=>by
   have h1:=Nd.bY hy;have h2:=ih y Zo d m e;omega
  have hv:∀(y:Nd) (pl:Nat),y∈kids->∀d m,jm y pl (kN y)=some (d,m)->d<=2*Nd.ws kids+1:=fun y pl hy d m e=>sw (hk y hy) e
  have tK:∀(l:List Nd) (pl:Nat),(∀y∈l,y∈kids)->∀d m,wZ (zo pl l (l.map kN))=some (d,m)->d<=2*Nd.ws kids+1:=fun l pl hl d m e=>by
   rw[mQ]at e;refine fL (fun r hr d m e=>?_) e;obtain⟨y,hy,rfl⟩:=QE.1 hr;exact hv y pl (hl y hy) d m e
  have ha:∀(l:List Nd) (q:ByteArray),(∀y∈l,y∈kids)->∀d m,gE q l (l.map kN)=some (d,m)->d<=2*Nd.ws kids+1:=fun l q hl d m e=>by
   obtain⟨m',h2⟩:=cI (jN e);exact tK l _ hl d m' h2
  have hf:∀(y:Nd) (q:ByteArray),y∈kids->∀d m,ze y q (kN y)=some (d,m)->d<=2*Nd.ws kids+1:=fun y q hy d m e=>by
   unfold ze at e;split at e
   ·have:=hk y hy d m e;omega
   ·exact hv y _ hy d m e
  have gg:∀d m,(match kids,kids.map kN with|[x],[r]=>jm x 1 r|_,_=>none)=some (d,m)->d<=2*Nd.ws kids+1:=fun d m e=>by
   match kids,hv,e with
   |[y],hv,e=>exact hv y 1 Zs d m e
   |[],_,e=>cases e
   |_::_::_,_,e=>cases e
  simp only[kN,jZ,jU]at h;split at h
  ·have h2:=CX _ lit (Qj _) false d m (jN h);omega
  split at h
  ·have:=jN h;cases this;omega
  split at h
  ·have:=gg d m (jN h);omega
  split at h
  ·have h2:=jN h
   match kids,hf,ha,h2 with
   |[],_,_,h2=>cases h2
   |y::l,hf,ha,h2=>
    have:=DY (hf y s Zs) (ha l s (fun z hz=>by simp[hz])) h2;omega
  split at h
  ·have:=ha kids s (fun _ h=>h) d m (jN h);omega
  split at h
  ·have h2:=jN h
   match kids,hf,hk,h2 with
   |[],_,_,h2=>cases h2
   |[_],_,_,h2=>cases h2
   |y::z::l,hf,hk,h2=>
    obtain⟨m',h3⟩:=cI h2;have:=DY (K:=2*Nd.ws (y::z::l)+1) (fun d m e=>?_) (hf y z.name Zs) h3
    ·omega
    ·change wZ (oh (z::l) ((z::l).map kN))=some (d,m)at e;rw[Bi]at e;have:=fL (K:=2*Nd.ws (y::z::l)) (fun r hr d m e=>by
      obtain⟨u,hu,rfl⟩:=QE.1 hr;exact hk u (QA _ hu) d m (jN e)) e
     omega
  split at h
  ·have h2:=jN h;simp only[wx]at h2;obtain⟨m',h3⟩:=cI (jN h2);obtain⟨m'',h4⟩:=cI (jN h3);obtain⟨d',rfl,h5⟩:=fG h4;have:=fL (K:=2*Nd.ws kids+1) (fun r hr d m e=>by
    obtain⟨j,hj⟩:=Vj hr;have tC:=(Vh.1 hj).1;rw[pu]at tC;have aC:=po kids j kids[j] (Zg tC);rw[aC]at hj;have bM:kids[j]∈kids:=Vn _;split at hj
    ·cases hj;have:=hk _ bM d m e;omega
    ·cases hj;exact hv _ 1 bM d m e) h5
   omega
  split at h
  ·obtain⟨d',rfl,h5⟩:=fG (jN h);obtain⟨m',h6⟩:=cI h5;have:=tK kids 1 (fun _ h=>h) d' m' h6;omega
  split at h
  ·have:=gg d m (jN h);omega
  ·cases h
theorem eD {b sz:Nat}:∀{rows:List (List Value)} {o:Nat},(∀r∈rows,r.length=sz)->∀{i:Nat} {r:List Value},rows[i]? =some r->∀y∈kA b (o+i*sz) r,y∈kA b o rows.flatten:=by
 intro rows
 induction rows with
 |nil=>intro o _ i r h;simp at h
 |cons q rows ih=>
  intro o h i r hi y hy;rw[V6,kd,Q7];cases i with
  |zero=>
   simp only[Vc,X1]at hi;subst hi;rw[Qt,Qh]at hy;exact .inl hy
  |succ i=>
   right;rw[h q Zs];refine ih (fun r hr=>h r (by simp[hr])) (by simpa using hi) y ?_
   rwa [show o+sz+i*sz=o+(i+1)*sz by rw[Qq];omega]
theorem zu {sz:Nat}:∀{rows:List (List Value)},(∀r∈rows,r.length=sz)->rows.flatten.length=rows.length*sz:=by
 intro rows
 induction rows with
 |nil=>intro _;simp
 |cons q rows ih=>
  intro h;rw[V6,Vo,h q Zs,ih fun r hr=>h r (by simp[hr]),Vp,Qq];omega
theorem Wa {B:List kB}{k:Nat}{n:Int}{b:Nat}{t:ByteArray}{items:List Lt}{sv:Value}{rows:List (List Value)}{sp:List Value}(bh:kY 5 sv items.length rows.flatten sp)(hl:rows.length=items.length)(h5:∀r∈rows,r.length=5)
 (hr:∀(i:Nat) x r,items[i]? =some x->rows[i]? =some r->zN B x r) (wf:DM k n b t items.length):zN (ai sv rows.flatten sp++B) (.mk k n b t items) [cv k,vi n,uv b,.string t,sv]:=by
 have aC:∀i,i < items.length->rows[i]? =some (rows.getD i []):=fun i hi=>by
  rw[V8,Zg Zo];rfl
 generalize hm:items.length=m at bh;generalize A7:rows.flatten=xs at bh|-;cases bh with
 |@mk bk o _ c _ _ h1 h2 h3=>
  rw[<- hm];subst A7;refine .mk (bk:=bk) (o:=o) (us:=fun i=>rows.getD i []) wf (fun _=>rfl) (fun i hi y hy=>?_) (fun i x hx=>?_)
  ·refine Zw _ ?_;simp only[ai,kd];exact Zw _ (eD h5 (aC i hi) y hy)
  ·have hi:=(Vh.1 hx).1;exact(hr i x _ hx (aC i hi)).more fun y hy=>Q8 _ hy
 |nil=>
  have h0:items=[]:=vj hm;subst h0;exact .mk (bk:=0) (o:=0) (us:=fun _=>[]) wf (fun h=>absurd h Zs) (fun i hi=>absurd hi Zs) (fun i x hx=>by simp at hx)
theorem Wl {B:List kB}{k:Nat}{s:ByteArray}{lit:Lt}{args ab:List ByteArray}{kids:List Nd}{p:Int}{lv:List Value}{av tv sv:Value}{rows:List (List Value)}{sp:List Value}(bh:kY 11 sv kids.length rows.flatten sp)(hl:rows.length=kids.length)(Hw:∀r∈rows,r.length=11)
 (hr:∀(i:Nat) x r,kids[i]? =some x->rows[i]? =some r->j7 B x r) (wf:G5 k s kids.length p) (aI:zN B lit lv) (bB:du B av args) (bu:du B tv ab):j7 (ai sv rows.flatten sp++B) (.mk k s lit args ab kids p) ([cv k,.string s]++lv++[av,tv,sv,vi p]):=by
 have aC:∀i,i < kids.length->rows[i]? =some (rows.getD i []):=fun i hi=>by
  rw[V8,Zg Zo];rfl
 have eA:∀y∈B,y∈ai sv rows.flatten sp++B:=fun y hy=>Q8 _ hy
 have oN:=aI.more eA;have dV:=bB.more eA;have dW:=bu.more eA;clear aI bB bu;generalize hm:kids.length=m at bh;generalize A7:rows.flatten=xs at bh|-;cases bh with
 |@mk bk o _ c _ _ h1 h2 h3=>
  rw[<- hm];subst A7;refine .mk (bk:=bk) (o:=o) (us:=fun i=>rows.getD i []) wf oN dV dW (fun _=>rfl) (fun i hi y hy=>?_) (fun i x hx=>?_) Zo
  ·refine Zw _ ?_;simp only[ai,kd];exact Zw _ (eD Hw (aC i hi) y hy)
  ·have hi:=(Vh.1 hx).1;exact(hr i x _ hx (aC i hi)).more eA
 |nil=>
  have h0:kids=[]:=vj hm;subst h0;exact .mk (bk:=0) (o:=0) (us:=fun _=>[]) wf oN dV dW (fun h=>absurd h Zs) (fun i hi=>absurd hi Zs) (fun i x hx=>by simp at hx) Zs
theorem cU {sv:Value}{l:List ByteArray}{sp:List Value}{n:Nat}(hn:n=l.length)(bh:kY 1 sv n (l.map Value.string) sp)(hl:l.length<=1099511627776)(ht:∀t∈l,t.size<=140737488355328):du (ai sv (l.map Value.string) sp) sv l:=by
 generalize hx:l.map Value.string=xs at bh;cases bh with
 |@mk bk o _ c _ _ h1 h2 h3=>
  subst hx;refine⟨_,c,by rw[hn],hl,fun i t e=>⟨bk,o,rfl,?_,ht t (Zv e)⟩⟩;simp only[ai,kd];refine Zw _ (kH.2 ⟨i,_,?_,rfl⟩);rw[Vi,e];rfl
 |nil=>
  have h0:l=[]:=vj hn.symm;subst h0;exact⟨none,0,rfl,Zs,fun i t e=>by simp at e⟩
theorem yu {P:Program}{n:Nat}{rs:List RO}{Γ:Env}{H:SH}{Z:List PanicEntry->Env->SH->Prop}{K:Env->SH->Prop}{d:Option Nat}{t:TypeId}{size bytes:Nat}{zero:List Value}{s x:Operand}{b o k c c2:Nat}{ad:Addr}
 (hs:ev Γ s=some (.slice (some ⟨b,o,none⟩) k c)) (hx:ev Γ x=some (.slice (some ad) 0 c2)) (hle:k<=c) (h:VO P n rs (ak d (.slice (some ⟨b,o,none⟩) k c) Γ) H Z K):VO P n (⟨d,none,.append t size bytes zero s x⟩::rs) Γ H Z K:=by
 refine VO.Tv rfl rfl (fun ρ aG=>⟨_,rfl,?_⟩);rw[aG _ _ hs,aG _ _ hx];simp only[cR];rw[if_pos (show k+0<=c by omega)];have e0:(Builtin.firstCells size 0 (.slice (some ad) 0 c2):Sem (Array Value))=pure #[]:=by
  simp only[Builtin.firstCells,Qt];rfl
 rw[e0];refine az.bind (az.pure ?_);refine az.bind (az.pure (az.pure ?_));exact⟨_,H,[],.inl rfl,Zs,h⟩
theorem Gd:∀l:List Lt,l.length<=Lt.aq l:=by
 intro l
 induction l with
 |nil=>exact Qs _
 |cons x r ih=>have:=x.size_pos;simp only[Lt.aq,Vp];omega
theorem ws_ge:∀l:List Nd,l.length<=Nd.ws l:=by
 intro l
 induction l with
 |nil=>exact Qs _
 |cons x r ih=>have:=x.fw;simp only[Nd.ws,Vp];omega
structure Sg where
 qW:Nat->Nat
 off:Nat->Nat
 cap:Nat->Nat
 tl:Nat->List Value
def iV:Nat:=18446744073709551616
def qw(σ:Sg)(a:Addr):Addr:=⟨σ.qW a.block,σ.off a.block+a.off,a.spot⟩
def rnF(σ:Sg):Fn->Fn
 |.yield l=>.yield (σ.qW l)
 |f=>f
def F2(σ:Sg)(b c:Nat):Nat:=if c < iV then c else σ.cap b - (c - iV)
def rn(σ:Sg)(x:Value):Value:=match x with
 |.pointer (some a)=>.pointer (some (qw σ a))
 |.slice (some a) n c=>.slice (some (qw σ a)) n (F2 σ a.block c)
 |.map (some r)=>.map (some (σ.qW r))
 |.func f x y=>.func (rnF σ f) (x.attach.map fun⟨v,_⟩=>rn σ v) (y.attach.map fun⟨v,_⟩=>rn σ v)
 |.iface t v=>.iface t (rn σ v)
 |.agg cs=>.agg (cs.attach.map fun⟨v,_⟩=>rn σ v)
 |.tuple cs=>.tuple (cs.attach.map fun⟨v,_⟩=>rn σ v)
 |v=>v
 termination_by SizeOf.sizeOf x
section
variable (σ:Sg)
@[simp] theorem ck (k:IntKind) (z:Int):rn σ (.int k z)=.int k z:=by simp[rn]
@[simp] theorem qA (b:Bool):rn σ (.bool b)=.bool b:=by simp[rn]
@[simp] theorem eI (s:ByteArray):rn σ (.string s)=.string s:=by simp[rn]
@[simp] theorem rn_float (k:FloatKind) (s:Nat):rn σ (.float k s)=.float k s:=by simp[rn]
@[simp] theorem rn_complex (k:FloatKind) (s t:Nat):rn σ (.complex k s t)=.complex k s t:=by simp[rn]
@[simp] theorem rn_chan (c:Option Nat):rn σ (.chan c)=.chan c:=by simp[rn]
@[simp] theorem rn_ptr0:rn σ (.pointer none)=.pointer none:=by simp[rn]
@[simp] theorem cP (a:Addr):rn σ (.pointer (some a))=.pointer (some (qw σ a)):=by simp[rn]
@[simp] theorem nF (n c:Nat):rn σ (.slice none n c)=.slice none n c:=by simp[rn]
@[simp] theorem br (a:Addr) (n c:Nat):rn σ (.slice (some a) n c)=.slice (some (qw σ a)) n (F2 σ a.block c):=by simp[rn]
@[simp] theorem rn_map0:rn σ (.map none)=.map none:=by simp[rn]
@[simp] theorem rn_map (r:Nat):rn σ (.map (some r))=.map (some (σ.qW r)):=by simp[rn]
@[simp] theorem rn_nilF:rn σ .nilFunc=.nilFunc:=by simp[rn]
@[simp] theorem rn_nilI:rn σ .nilIface=.nilIface:=by simp[rn]
@[simp] theorem R3 (t:TypeId) (v:Value):rn σ (.iface t v)=.iface t (rn σ v):=by simp[rn]
@[simp] theorem yg (cs:Array Value):rn σ (.agg cs)=.agg (cs.map (rn σ)):=by simp[rn]
@[simp] theorem yh (cs:Array Value):rn σ (.tuple cs)=.tuple (cs.map (rn σ)):=by simp[rn]
@[simp] theorem rn_func (f:Fn) (x y:Array Value):rn σ (.func f x y)=.func (rnF σ f) (x.map (rn σ)) (y.map (rn σ)):=by simp[rn]
end
theorem qE(σ:Sg)(v:Value):(rn σ v).cells=v.cells.map (rn σ):=by
 cases v <;> try simp[Value.cells]
 ·rename_i a;cases a <;> simp
 ·rename_i a n c;cases a <;> simp
 ·rename_i a;cases a <;> simp
def bx:Value->Bool
 |.bool _|.int .. |.float .. |.string _|.pointer none|.slice none _ _|.map none|.nilFunc|.nilIface=>true
 |_=>false
def oZ:Value->Bool
 |.agg cs=>cs.toList.all bx
 |.tuple cs=>cs.toList.all bx
 |v=>bx v
theorem eG {σ:Sg}{v:Value}(h:bx v=true):rn σ v=v:=by
 cases v <;> try simp_all [bx]
 ·rename_i a;cases a <;> simp_all [bx]
 ·rename_i a n c;cases a <;> simp_all [bx]
 ·rename_i a;cases a <;> simp_all [bx]
theorem eH {σ:Sg}{l:List Value}(h:l.all bx=true):l.map (rn σ)=l:=by
 rw[vX]at h
 conv=>rhs;rw[<- List.map_id l]
 exact Q1 fun x hx=>eG (h x hx)
theorem dN {σ:Sg}{v:Value}(h:oZ v=true):rn σ v=v:=by
 cases v with
 |agg cs=>simp only[oZ]at h;rw[yg];congr 1;apply vD.1;rw[vE,eH h]
 |tuple cs=>simp only[oZ]at h;rw[yh];congr 1;apply vD.1;rw[vE,eH h]
 |_=>exact eG h
theorem H7 {op:BinOp}{k k':IntKind}{a b:Int}{w:Value}(h:mh op k a k' b=some w):bx w=true:=by
 unfold mh at h;cases op <;> simp only at h <;> (split at h) <;> first|(cases h;rfl)|cases h
theorem I8 {op:BinOp}{a b:ByteArray}{w:Value}(h:I7 op a b=some w):bx w=true:=by
 unfold I7 at h;cases op <;> simp only at h <;> first|(cases h;rfl)|(split at h <;> first|(cases h;rfl)|cases h)|cases h
theorem T0 {σ:Sg}{op:BinOp}{u v w:Value}(h:zF op u v=some w):zF op (rn σ u) (rn σ v)=some (rn σ w):=by
 unfold zF at h;split at h
 ·rw[eG (H7 h)];simpa[zF]using h
 ·rw[eG (I8 h)];simpa[zF]using h
 ·cases h
theorem Pn {σ:Sg}{k:NK}{u:Value}{b:Bool}(h:isNil k u=some b):isNil k (rn σ u)=some b:=by
 unfold isNil at h;split at h <;> first|(cases h;done)|skip
 ·rename_i a;cases a <;> simpa[isNil]using h
 ·rename_i a;cases a <;> simpa[isNil]using h
 ·rename_i a _ _;cases a <;> simpa[isNil]using h
 all_goals simpa[isNil]using h
theorem MO {σ:Sg}{k:SK}{u v:Value}{b:Bool}(h:pb k u v=some b):pb k (rn σ u) (rn σ v)=some b:=by
 unfold pb at h;split at h <;> first|(cases h;done)|simpa[pb]using h
theorem NS {σ:Sg}:∀{ks:List SK} {xs ys:List Value} {b:Bool},fF ks xs ys=some b->fF ks (xs.map (rn σ)) (ys.map (rn σ))=some b:=by
 intro ks
 induction ks with
 |nil=>intro xs ys b h;simpa[fF]using h
 |cons k ks ih=>
  intro xs ys b h;cases xs with
  |nil=>simp[fF]at h
  |cons x xs=>
   cases ys with
   |nil=>simp[fF]at h
   |cons y ys=>
    simp only[fF]at h;split at h
    ·rename_i a c h1 h2;simp only[Q3,fF,MO h1,ih h2];exact h
    ·cases h
theorem sY {σ:Sg}:∀{ps:List (Nat×Nat×Value)} {cs out:List Value},jT cs ps=some out->
 jT (cs.map (rn σ)) (ps.map fun(a,b,v)=>(a,b,rn σ v))=some (out.map (rn σ)):=by
 intro ps
 induction ps with
 |nil=>intro cs out h;simp only[jT,X1]at h;subst h;rfl
 |cons p ps ih=>
  intro cs out h;obtain⟨o,s,v⟩:=p;simp only[jT]at h;split at h
  ·rename_i hc;have:=ih h;simp only[Q3,jT,qE,Array.size_map,Vv,if_pos hc];simpa[Q0,List.map_take,List.map_drop]using this
  ·cases h
theorem N5 {σ:Sg}{v:Value}{y k:Nat}(h:bound v y=some k):bound (rn σ v) y=some k:=by
 unfold bound at h;split at h
 ·simpa[bound]using h
 ·cases h
theorem rE {σ:Sg}{v:Option Value}{y k:Nat}{d:Option Nat}(h:jr y d v=some k):jr y d (v.map (rn σ))=some k:=by
 cases v with
 |none=>exact h
 |some v=>exact N5 h
theorem mT {σ:Sg}{n c:Nat}{lo hi mx:Option Value}{r:Nat×Nat×Nat}(h:z5 n c lo hi mx=some r):z5 n c (lo.map (rn σ)) (hi.map (rn σ)) (mx.map (rn σ))=some r:=by
 unfold z5 at h|-;simp only[Qu]at h|-;obtain⟨m,h1,hh,h2,l,h3,h4⟩:=h;exact⟨m,rE h1,hh,by simpa using rE h2,l,rE h3,h4⟩
theorem lU {σ:Sg}{cs:Array Value}{i:Nat}{v:Value}(h:cs[i]? =some v):(cs.map (rn σ))[i]? =some (rn σ v):=by
 rw[Array.getElem?_map,h];rfl
def okC:R->Bool
 |.build z _=>z.all bx
 |.fS _ z _ _=>oZ z
 |.I3 n _ _ _ _=>Nat.blt n iV
 |.yZ f _ _=>match f with|.yield _=>false|_=>true
 |_=>true
def XA:Value->Bool
 |.slice (some _) _ c=>!Nat.blt c iV
 |_=>false
def okS(ρ:Operand->Value):R->Bool
 |.nW _ x _ _ _=>!XA (ρ x)
 |.cap x=>!XA (ρ x)
 |.sU x=>match ρ x with|.pointer (some ⟨_,_,none⟩)=>true|_=>false
 |_=>true
theorem yc {σ:Sg}{ρ:Operand->Value}{r:R}{v:Value}(hc:okC r=true)(ho:okS ρ r=true)(h:kR ρ r=some v):kR (fun x=>rn σ (ρ x)) r=some (rn σ v):=by
 cases r <;> simp only[kR]at h|- <;> first|(cases h;done)|skip
 case mv x=>cases h;rfl
 case pick c a b=>
  split at h
  ·rename_i t ht;cases h;simp only[ht,qA];cases t <;> rfl
  ·cases h
 case bin op x y=>exact T0 h
 case eqb neq x y=>
  split at h
  ·rename_i a b ha hb;cases h;simp only[ha,hb,qA]
  ·cases h
 case AR neq k x=>
  simp only[Qx]at h;obtain⟨b,h1,rfl⟩:=h;rw[Pn h1];simp
 case AQ neq ks x y=>
  split at h
  ·rename_i a b ha hb;split at h
   ·rename_i hs;simp only[Qx]at h;obtain⟨c,h1,rfl⟩:=h;simp only[ha,hb,yg,Array.size_map,if_pos hs,vE,NS h1];simp
   ·cases h
  ·cases h
 case un op x=>
  cases op <;> simp only at h|-
  all_goals first|(cases h;done)|(split at h <;> first|(cases h;done)|(rename_i hx;cases h;simp only[hx,qA,ck]))
 case conv k x=>
  split at h
  ·rename_i hx;cases h;simp only[hx,ck]
  ·cases h
 case cvs x=>
  split at h
  ·rename_i hx;cases h;simp only[hx,eI]
  ·cases h
 case E2 t x=>cases h;simp
 case yZ f a b=>
  cases h;have hf:rnF σ f=f:=by cases f <;> simp_all [okC,rnF]
  simp[Q5,Function.comp_def,hf]
 case ext x i=>
  split at h
  ·rename_i vs hx;simp only[hx,yh];exact lU h
  ·cases h
 case build z ps=>
  simp only[Qx]at h;obtain⟨l,h1,rfl⟩:=h;have:=sY (σ:=σ) h1;rw[eH hc]at this;have e:jR (fun x=>rn σ (ρ x)) ps=(jR ρ ps).map fun(a,b,v)=>(a,b,rn σ v):=by simp[jR,Q5,Function.comp_def]
  rw[e,this];simp
 case sU x=>
  split at h
  ·rename_i a ha;cases h;simp only[ha,cP]
  ·cases h
 case JF off x=>
  split at h
  ·rename_i b o hx;cases h;simp only[hx,cP,qw,Qe]
  ·cases h
 case Hr off size agg x=>
  split at h
  ·rename_i cs hx;simp only[hx,yg];exact zD6
  ·cases h
 case Lv len size x i=>
  split at h
  ·rename_i b o k z hx hi;split at h
   ·rename_i hb;cases h;simp only[hx,hi,cP,qw,ck,if_pos hb,Qe]
   ·cases h
  ·cases h
 case xA size x i=>
  split at h
  ·rename_i b o len c k z hx hi;split at h
   ·rename_i hb;cases h;simp only[hx,hi,cP,br,qw,ck,if_pos hb,Qe]
   ·cases h
  ·cases h
 case Lw x i=>
  split at h
  ·rename_i s k z hx hi;split at h
   ·rename_i hb;simp only[Qx]at h;obtain⟨b,h1,rfl⟩:=h;simp only[hx,hi,eI,ck,if_pos hb,h1,Qz]
   ·cases h
  ·cases h
 case HZ len size agg x i=>
  split at h
  ·rename_i cs k z hx hi;split at h
   ·rename_i hb;simp only[hx,hi,yg,ck,if_pos hb];exact zD6
   ·cases h
  ·cases h
 case I4 x lo hi=>
  split at h
  ·rename_i s hx;simp only[Qx]at h;obtain⟨⟨l,hh,m⟩,h1,rfl⟩:=h;have:=mT (σ:=σ) h1;simp only[Option.map_map,Qy]at this;simp only[hx,eI];rw[show(lo.map fun x=>rn σ (ρ x))=lo.map (rn σ ∘ ρ)from rfl,show(hi.map fun x=>rn σ (ρ x))=hi.map (rn σ ∘ ρ)from rfl,this];rfl
  ·cases h
 case nW size x lo hi mx=>
  split at h
  ·rename_i b o len c hx;simp only[Qx]at h;obtain⟨⟨l,hh,m⟩,h1,rfl⟩:=h;have Hz:c < iV:=by
    simp only[okS,hx,XA,Bool.not_not]at ho;exact Qi ho
   have hm:m - l < iV:=by
    have hle:m<=c:=by
     simp only[z5,Qu]at h1;obtain⟨m',g1,h',g2,l',g3,g4⟩:=h1;cases g4;cases Tb:mx.map ρ with
     |none=>rw[Tb]at g1;simp only[jr,X1]at g1;omega
     |some u=>
      rw[Tb]at g1;simp only[jr,bound]at g1;split at g1
      ·split at g1
       ·rename_i hz;cases g1;omega
       ·cases g1
      ·cases g1
    omega
   have:=mT (σ:=σ) h1;simp only[Option.map_map]at this;simp only[hx,br,qw,F2,if_pos Hz,if_pos hm];rw[show(lo.map fun x=>rn σ (ρ x))=lo.map (rn σ ∘ ρ)from rfl,show(hi.map fun x=>rn σ (ρ x))=hi.map (rn σ ∘ ρ)from rfl,show(mx.map fun x=>rn σ (ρ x))=mx.map (rn σ ∘ ρ)from rfl,this];simp only[Qz];split <;> simp only[Qe]
  ·rename_i len c hx;simp only[Qx]at h;obtain⟨⟨l,hh,m⟩,h1,rfl⟩:=h;have:=mT (σ:=σ) h1;simp only[Option.map_map]at this;simp only[hx,nF];rw[show(lo.map fun x=>rn σ (ρ x))=lo.map (rn σ ∘ ρ)from rfl,show(hi.map fun x=>rn σ (ρ x))=hi.map (rn σ ∘ ρ)from rfl,show(mx.map fun x=>rn σ (ρ x))=mx.map (rn σ ∘ ρ)from rfl,this];rfl
  ·cases h
 case I3 len size x lo hi=>
  split at h
  ·rename_i b o hx;simp only[Qx]at h;obtain⟨⟨l,hh,m⟩,h1,rfl⟩:=h;have:=mT (σ:=σ) h1;simp only[Option.map_map,Qy]at this;have hm:m - l < iV:=by
    have Hz:len < iV:=Qi hc;have hle:m<=len:=by
     simp only[z5,Qu]at h1;obtain⟨m',g1,h',g2,l',g3,g4⟩:=h1;cases g4;simp only[jr,X1]at g1;omega
    omega
   simp only[hx,br,cP,qw,F2,if_pos hm];rw[show(lo.map fun x=>rn σ (ρ x))=lo.map (rn σ ∘ ρ)from rfl,show(hi.map fun x=>rn σ (ρ x))=hi.map (rn σ ∘ ρ)from rfl,this];simp only[Qz];split <;> simp only[Qe]
  ·cases h
 case Pu x=>
  split at h
  ·rename_i hx;cases h;simp only[hx,eI,ck]
  ·cases h
 case EW x=>
  split at h
  ·rename_i a k c hx;cases h;cases a <;> simp only[hx,br,nF,ck]
  ·cases h
 case cap x=>
  split at h
  ·rename_i a k c hx;cases h;cases a with
   |none=>simp only[hx,nF,ck]
   |some a=>
    have Hz:c < iV:=by
     simp only[okS,hx,XA,Bool.not_not]at ho;exact Qi ho
    simp only[hx,br,F2,if_pos Hz,ck]
  ·cases h
 case min2 x y=>
  split at h
  ·rename_i hx hy;cases h;simp only[hx,hy,ck]
  ·cases h
 case max2 x y=>
  split at h
  ·rename_i hx hy;cases h;simp only[hx,hy,ck]
  ·cases h
 case fS t z ok x=>
  simp only[okC]at hc;split at h
  ·rename_i hx;split at h
   ·rename_i aN;cases h;simp[hx,aN,dN hc]
   ·cases h
  ·rename_i u w hx;split at h
   ·rename_i hu;cases h;simp only[hx,R3,if_pos hu];split <;> simp
   ·rename_i hu;split at h
    ·rename_i aN;cases h;simp[hx,if_neg hu,aN,dN hc]
    ·cases h
  ·cases h
def Rx(r:R):Bool:=kf r||jE r||mi r||(match r with|.store .. =>true|_=>false)
def Yu(o:Oper):Bool:=match o.op with
 |.call c=>(match c.callee with|.builtin .recover=>true|_=>false)&&o.guard.isNone
 |_=>false
def PK(P:Program)(n:Nat)(kp:Nat->List Nat)(od:Nat->List (List Nat)):Code->Option (Nat×List RO×IC)
 |.seq (.region _ ops false) c=>match ops.toList with
  |o1::os=>if Yu o1 then match o1.dst,zY P n ops os,wk P n kp od c with
   |some d,some rs,some y=>if d < n/\rs.all (fun r=>Rx r.op)=true then some (d,rs,y)else none
   |_,_,_=>none else none
  |[]=>none
 |_=>none
structure RIR where
 n:Nat
 bG:List RV
 d:Nat
 rs:List RO
 post:IC
def Kb(P:Program)(kp:Nat->List Nat)(od:Nat->List (List Nat))(f:Nat):Option RIR:=
 match P.funcs[f]? with
 |none=>none
 |some fn=>match fn.body with
  |none=>none
  | some c => if fn.name != "runtime.NumGoroutine" then
     match PK P fn.ntmps kp od c,wR P fn.results.toList with
     |some (d,rs,y),some r=>some ⟨fn.ntmps,r,d,rs,y⟩
     |_,_=>none
    else none
def gz(P:Program)(f:Nat)(args:List Value)(u u':FrameMode)(bq:SH)(Q:SH->Prop):Prop:=
 jo P f=true/\∀F w,Sat w (bq.flatten++F)->CallsDIn (yW none) 0 P f args.toArray u w fun e u2 w'=>u2=u'/\∃v Post,e=.returned v/\Q Post/\Sat w' (Post.flatten++F)/\ki w w'
inductive Rcv:FrameMode->Value->FrameMode->Prop where
 |none:Rcv .returning .nilIface .returning
 |some {v:Value}:Rcv (.panicking [{v:=v,recovered:=false}]) v (.panicking [{v:=v,recovered:=true}])
section
variable {P:Program} {n m:Nat} {ops:Array Oper} {Q:Exit->Act->List Frame->World->Prop} {cs:List Frame}
theorem IV {o:Oper}{t:TypeId}{x y:Operand}(h:o.op=.store t x y){ρ:Operand->Value}{w:World}:(∃w',(execOp ρ o).run P w=.ok .skip w')∨(∃e w',(execOp ρ o).run P w=.halt e w'):=by
 simp only[execOp,h];rw[Sem.run_bind];cases hh:(Instr.storeAt t (ρ x) (ρ y)).run P w with
 |ok v w'=>exact .inl ⟨w',rfl⟩
 |halt e w'=>exact .inr ⟨e,w',rfl⟩
theorem Mw:∀(l:List (RO×Oper)) (idx:List Nat),idx.map (fun i=>ops[i]?)=l.map (fun x=>some x.2)->(∀x∈l,Rx x.1.op=true/\dJ P n ops x.2=some x.1)->
 ∀(a:Act) (w:World),eK P (fun _ _ _=>False) (fun a' w'=>Q .normal a' cs w') l a w->wpOpsSIn (yW none) m P ops Q idx a cs w:=by
 intro l
 induction l with
 |nil=>
  intro idx hi _ a w h;obtain rfl:idx=[]:=by simpa using hi
  exact h
 |cons x l ih=>
  intro idx hi hx a w h;cases idx with
  |nil=>simp at hi
  |cons i idx=>
   simp only[Q3,ve]at hi;obtain⟨hi1,Ll⟩:=hi;obtain⟨hp,nP⟩:=hx x Zs;obtain⟨g1,g2,g3,g4⟩:=jG nP;have Ti:=ih idx Ll (fun y hy=>hx y (by simp[hy]));simp only[wpOpsSIn,hi1];refine⟨fun _ _=>trivial,?_⟩;rw[g4 a];have h':jx P (fun _ _ _=>False) x (eK P (fun _ _ _=>False) (fun a' w'=>Q .normal a' cs w') l) a w:=h;unfold jx at h';by_cases hw:jD x.1.guard a=true
   ·rw[if_pos hw]at h'|-;by_cases hpu:kf x.1.op=true
    ·rw[if_pos hpu]at h';obtain⟨v,e,hn⟩:=h';have bI:(execOp a.eval x.2).run P w=.ok (.value v) w:=o6 (w:=w) (zf a) g1 e;rw[bI];rw[g2]at hn;exact Ti _ _ hn
    ·by_cases hre:jE x.1.op=true
     ·rw[if_neg hpu,if_pos hre]at h';obtain⟨s,v,e,er,hn⟩:=h';have bI:(execOp a.eval x.2).run P w=.ok (.value v) w:=rZ (zf a) g1 e (er w (.refl w));rw[bI];rw[g2]at hn;exact Ti _ _ hn
     ·rw[if_neg hpu,if_neg hre]at h';obtain⟨tE,hv⟩:=h';by_cases hnw:mi x.1.op=true
      ·obtain⟨u,w',bI,_⟩:=tE hnw;simp only[yS,bI,jg]at hv;rw[bI];exact Ti _ _ hv
      ·have DF:∃k y z,x.1.op=.store k y z:=by
        simp only[Rx,vO]at hp;rcases hp with((h|h)|h)|h
        ·exact absurd h hpu
        ·exact absurd h hre
        ·exact absurd h hnw
        ·split at h
         ·exact⟨_,_,_,by assumption⟩
         ·cases h
       obtain⟨k,y,z,DF⟩:=DF;have Lq:∃t,x.2.op=.store t y z:=by
        rw[DF]at g1;generalize x.2=oo at g1|-;obtain⟨dst,op,ty,pos,after,guard⟩:=oo;simp only at g1|-;cases op
        case store t y' z'=>
         simp only[kz,Qx]at g1;obtain⟨i,_,g1⟩:=g1;cases g1;exact⟨_,rfl⟩
        all_goals (exfalso;try simp only[kz]at g1)
        all_goals (repeat' split at g1)
        all_goals first
         |(cases g1;done)
         |(simp only[Qx]at g1;obtain⟨_,_,g1⟩:=g1;cases g1;done)
       obtain⟨t,Lq⟩:=Lq;rcases IV (P:=P) Lq (ρ:=a.eval) (w:=w)with⟨w',bI⟩|⟨e,w',bI⟩
       ·simp only[yS,bI,jg]at hv;rw[bI];exact Ti _ _ hv
       ·simp only[yS,bI]at hv;cases e <;> exact hv.elim
   ·rw[if_neg hw]at h'|-;rw[g2]at h';exact Ti _ _ h'
end
theorem gz.intro {P:Program}{kp:Nat->List Nat}{od:Nat->List (List Nat)}{f:Nat}{F:RIR}{args:List Value}{bq:SH}{u u':FrameMode}{rv:Value}{Q:SH->Prop}(hl:Kb P kp od f=some F)(hn:args.length<=F.n)(hu:Rcv u rv u')
 (h:VO P F.n F.rs ((F.d,rv)::aB 0 args) bq (fun _ _ _=>False) fun aw H'=>ox P F.n F.post aw H' (rK F.bG fun _ Post=>Q Post)):gz P f args u u' bq Q:=by
 unfold Kb at hl;split at hl
 ·cases hl
 rename_i fn tY;split at hl
 ·cases hl
 rename_i c hc;split at hl
 case isFalse=>cases hl
 rename_i n6;split at hl
 case h_2=>cases hl
 rename_i d rs y r hb hr;cases hl;refine⟨by simp only[jo,tY,n6,hc];rfl,fun FF w hs=>?_⟩;unfold PK at hb;split at hb
 case h_2=>cases hb
 rename_i id ops c2;split at hb
 case h_2=>cases hb
 rename_i o1 os HI;split at hb
 case isFalse=>cases hb
 rename_i OY;split at hb
 case h_2=>cases hb
 rename_i d' rs' y' hd1 ZQ hd3;split at hb
 case isFalse=>cases hb
 rename_i fI;cases hb;obtain⟨hdn,ap⟩:=fI;refine callsDIn_of_wpSIn tY hc trivial (fun uX cs Yf=>?_);have gh:ops.size=os.length+1:=by rw[<- Array.length_toList,HI];rfl
 refine wpSIn_seq (wpSIn_region ?_);rw[gh,List.range_succ_eq_map];have h0:ops[0]? =some o1:=by rw[<- vC,HI];rfl
 unfold Yu at OY;split at OY
 case h_2=>cases OY
 rename_i cl pB;simp only[vF]at OY;obtain⟨Uv,hg⟩:=OY;have hcal':cl.callee=.builtin .recover:=by
  split at Uv
  ·assumption
  ·cases Uv
 have hg':o1.guard=none:=by simpa using hg
 obtain⟨a0,ha0⟩:∃a0:Act,a0={tmps:=args.toArray++Array.replicate (fn.ntmps - args.toArray.size) undef,defers:=[]}:=⟨_,rfl⟩;rw[<- ha0];have ZE:jl fn.ntmps (aB 0 args) a0:=by
  rw[ha0];refine⟨?_,fun t v e=>?_⟩
  ·simp at hn|-;omega
  ·exact zAS
 have ZS:a0.defers=[]:=by rw[ha0]
 simp only[wpOpsSIn,h0];refine⟨fun _ _=>trivial,?_⟩;have hw:Region.wanted o1 (yielded ops a0.tmps)=true:=by simp[Region.wanted,hg']
 rw[if_pos hw];have bI:(execOp a0.eval o1).run P w=.ok .recover w:=by
  simp[execOp,pB,resolve,hcal',invoke,builtin]
 rw[bI];have hag1:=ZE.put hdn rv;have dz:zY P fn.ntmps ops os=some rs:=ZQ;obtain⟨hlen,aC⟩:=ji dz;have key:∀XY,(∃u2,XY={uX with mode:=u2}::cs/\u2=u')->wpOpsSIn (yW none) 0 P ops (Exit.thenS (c2.wpSIn (yW none) 0 P (bodyPostS P fn uX cs fun e u2 w'=>u2=u'/\∃v Post,e=.returned v/\Q Post/\Sat w' (Post.flatten++FF)/\ki w w')) (bodyPostS P fn uX cs fun e u2 w'=>u2=u'/\∃v Post,e=.returned v/\Q Post/\Sat w' (Post.flatten++FF)/\ki w w')) (List.map Nat.succ (List.range os.length)) (a0.put o1.dst rv) XY w:=by
  rintro XY ⟨u2,rfl,rfl⟩
  refine Mw (n:=fn.ntmps) (rs.zip os) _ ?_ ?_ _ _ ?_
  ·apply vm;intro i;simp only[Vi];by_cases hi:i < os.length
   ·rw[List.getElem?_range hi];have hz:(rs.zip os)[i]? =some (rs[i]'Zo,os[i]):=by
     rw[Zg tj];simp
    rw[hz];simp only[Qz];rw[<- vC,HI];simp[hi]
   ·rw[Ve (by simpa using hi),Ve tj];rfl
  ·intro x hx;obtain⟨i,hi⟩:=Vj hx;have cf:=(Vh.1 hi).1;simp at cf;have e:(rs.zip os)[i]? =some (rs[i]'Zo,os[i]'Zo):=by
    rw[Zg tj];simp
   rw[e]at hi;cases hi;refine⟨?_,aC i _ _ (Zg Zo) (Zg Zo)⟩;exact vX.1 ap _ (Vn _)
  ·rw[hd1];refine h (rs.zip os) ⟨by rw[List.map_fst_zip];omega,fun x hx=>?_⟩ _ w FF _ _ hag1 hs (fun a2 w2 cr H2 q k1 k2 k3 k4=>?_) (fun _ _ _ _ _ q=>q.elim)
   ·obtain⟨i,hi⟩:=Vj hx;have cf:=(Vh.1 hi).1;simp at cf;have e:(rs.zip os)[i]? =some (rs[i]'Zo,os[i]'Zo):=by
     rw[Zg tj];simp
    rw[e]at hi;cases hi;exact⟨ops,aC i _ _ (Zg Zo) (Zg Zo)⟩
   ·show c2.wpSIn _ _ _ _ a2 _ w2;refine wpSIn_of_wpIn rfl ?_;refine q none kp od c2 hd3 a2 w2 FF _ k1 k3 (fun e a3 w3 Γ3 H3 q3 j1 j2 j3 j4=>?_);obtain⟨he,vs,Post,e1,e2,e3⟩:=q3;have S6:a3.defers=[]:=by rw[j2,k2,jY,ZS]
    have hb:a3.defers=[]/\∃u2',({uX with mode:=u2}::cs:List Frame)={uX with mode:=u2'}::cs/\∃v,(results fn a3.tmps).run P w3=.ok v w3/\(u2'=u2/\∃v' Post,(Ending.returned v)=.returned v'/\Q Post/\Sat w3 (Post.flatten++FF)/\ki w w3):=
     ⟨S6,u2,rfl,_,fP j3 hr j1 e1,rfl,_,Post,rfl,e3,j3.imp e2,k4.trans j4⟩
    rcases he with rfl|rfl <;> exact hb
 cases hu with
 |none=>
  have sO:recoverD (uX::cs)=none:=by simp[recoverD,Yf]
  simp only[sO];refine key _ ⟨.returning,?_,rfl⟩;have:uX={uX with mode:=.returning}:=by cases uX;simp_all
  rw[<- this]
 |some=>
  have sO:recoverD (uX::cs)=some (rv,{uX with mode:=.panicking [{v:=rv,recovered:=true}]}::cs):=by simp[recoverD,Yf]
  simp only[sO];exact key _ ⟨_,rfl,rfl⟩
def X3(P:Program)(g:Nat)(tw:List Value)(bG:List RV)(Q:Value->SH->Prop):Exit->Env->SH->Prop
 |.panic ch,Γ,H=>∃bq R Q2 u',gz P g tw (.panicking ch) u' bq Q2/\settle u'=.returning/\cz H bq R/\∀Post,Q2 Post->rK bG Q .ret Γ (Post++R)
 |e,Γ,H=>(e=.normal∨e=.ret)/\∃bq R Q2,gz P g tw .returning .returning bq Q2/\cz H bq R/\∀Post,Q2 Post->rK bG Q .ret Γ (Post++R)
def VDP(P:Program)(n:Nat)(bG:List RV)(dr:DR)(post:IC)(Q:Value->SH->Prop):List IC->Env->SH->Prop
 |[],Γ,H=>∃vs,gN Γ dr.tw=some vs/\VC P n post ((dr.d,.func (.func dr.g) #[] vs.toArray)::Γ) H (X3 P dr.g vs bG Q)
 |x::l,Γ,H=>VC P n x Γ H (bt (fun aw H'=>VDP P n bG dr post Q l aw H') (rK bG Q))
section
variable {P:Program} {n:Nat} {fn:Func} {tmps:Array Value} {FF:List kB} {w0:World}
theorem M8 {kp:Nat->List Nat}{od:Nat->List (List Nat)}{r:List RV}{Q:Value->SH->Prop}(hr:wR P fn.results.toList=some r):∀(l:List IC) (c:Code) (dr:DR) (y:IC),eZ P n kp od c=some (l,dr,y)->
 ∀Γ H a w X,VDP P n r dr y Q l Γ H->jl n Γ a->Sat w (H.flatten++(FF++marks X))->a.defers=X.map oC->ki w0 w->
 c.wpIn (yW none) 0 P (bodyPostM (yW none) 0 P fn (fun e w'=>∃v Post,e=.returned v/\Q v Post/\Sat w' (Post.flatten++FF)/\ki w0 w')) a w:=by
 intro l
 induction l with
 |nil=>
  intro c dr y hl Γ H a w X hv ha hs hd hk;unfold eZ at hl;split at hl
  case h_2=>cases hl
  rename_i p q;split at hl
  case h_2=>
   split at hl <;> cases hl
  rename_i x hx;simp only[Qx]at hl;obtain⟨y',hy,he⟩:=hl;cases he;obtain⟨id,ops,o1,o2,cl,rfl,HI,h1,h2,Uv,cu,hg,ZV⟩:=Ik hx;obtain⟨vs,tK,hpost⟩:=hv;refine wpIn_seq (wpIn_region_list ?_);rw[HI];obtain⟨g1,g2,g3,g4⟩:=jG h1;have hv1:kR a.eval (.yZ (.func dr.g) [] dr.tw)=some (.func (.func dr.g) #[] vs.toArray):=by
   simp[kR,ha.gN tK]
  have bI:(execOp a.eval o1).run P w=.ok (.value (.func (.func dr.g) #[] vs.toArray)) w:=o6 (w:=w) (zf a) g1 hv1;have ha1:=ha.ak g3 (.func (.func dr.g) #[] vs.toArray);simp only at ha1 g2;simp only[wpListIn,g4 a,jD,if_true];refine⟨fun _ _=>trivial,?_⟩;rw[Oper.semAt_none,bI];show(if Region.wanted o2 (yielded ops (a.put o1.dst _).tmps)then _ else _);rw[<- g2];have hw:Region.wanted o2 (yielded ops (a.put (some dr.d) (.func (.func dr.g) #[] vs.toArray)).tmps)=true:=by simp[Region.wanted,hg]
  rw[if_pos hw];have OQ:(a.put (some dr.d) (.func (.func dr.g) #[] vs.toArray)).eval (.tmp dr.d)=.func (.func dr.g) #[] vs.toArray:=ha1.ev (by simp[V.ev,V.ak,V.look]);have ZS:(execOp (a.put (some dr.d) (.func (.func dr.g) #[] vs.toArray)).eval o2).run P w=.ok (.defer {target:=.fn (.func dr.g) vs.toArray,args:=#[]}) w:=by
   simp[execOp,h2,resolve,Uv,cu,OQ,Deferred.ofValue]
  refine⟨fun _ _=>trivial,?_⟩;rw[Oper.semAt_none,ZS,Oper.uponIn_defer,ZV];show q.wpIn _ _ _ _ _ w;have hputd:(a.put (some dr.d) (.func (.func dr.g) #[] vs.toArray)).defers=a.defers:=jY ..;refine hpost none kp od _ hy _ w (FF++marks X) _ (fun l e=>by cases e) ⟨ha1.size,ha1.slots⟩ hs (fun e a' w' aw H' Y q k1 k2 k3 k4=>?_);have JO:a'.defers=Y.map oC++({target:=.fn (.func dr.g) vs.toArray,args:=#[]}::X.map oC):=by
   rw[k2];show _++({target:=.fn (.func dr.g) vs.toArray,args:=#[]}::(a.put (some dr.d) (.func (.func dr.g) #[] vs.toArray)).defers)=_;rw[hputd,hd]
  have go:∀(u u':FrameMode) (bq Rr:SH) (Q2:SH->Prop),u≠.run->settle u'=.returning->gz P dr.g vs u u' bq Q2->cz H' bq Rr->(∀Post,Q2 Post->rK r Q .ret aw (Post++Rr))->
   LeavesInM (yW none) 0 P fn a'.tmps (fun e w'=>∃v Post,e=.returned v/\Q v Post/\Sat w' (Post.flatten++FF)/\ki w0 w') a'.defers u w':=by
   intro u u' bq Rr Q2 hu xz S8 O3 oL;rw[JO];refine gk (w0:=w0) (FF:=FF++marks X) hu Y w' k3 (hk.trans k4) (fun w2 s2 c2=>?_);refine⟨hu,.inr ⟨Zs,.func dr.g,vs.toArray,dr.g,vs.toArray,rfl,?_,fun _ _=>trivial,?_⟩⟩
   ·simp[invoke,zC S8.1]
   ·have nT:Sat w2 (bq.flatten++(Rr.flatten++(FF++marks X))):=by
     rw[<- vZ];exact s2.perm (O3.append_right _)
    refine(S8.2 (Rr.flatten++(FF++marks X)) w2 nT).mono ?_
    rintro e2 u2 w3 ⟨rfl,v,Post,rfl,l7,DE,oM⟩
    show LeavesInM _ _ _ _ _ _ (X.map oC) (settle u2) w3;rw[xz];refine xH hr (oL Post l7) k1 ?_ (c2.trans oM);rw[V5,vZ];exact DE
  cases e with
  |normal=>
   exact zE8
  |ret=>
   exact zE8
  |panic ch=>
   obtain⟨bq,Rr,Q2,u',S8,xz,O3,oL⟩:=q;exact go (.panicking ch) u' bq Rr Q2 Zs xz S8 O3 oL
  |exit id=>exact absurd q.1 Zs
  |goto l=>exact absurd q.1 Zs
  |outgrown=>exact absurd q.1 Zs
 |cons x l ih=>
  intro c dr y hl Γ H a w X hv ha hs hd hk;unfold eZ at hl;split at hl
  case h_2=>cases hl
  rename_i p q;split at hl
  ·simp only[Qx]at hl;obtain⟨y',hy,he⟩:=hl;cases he
  split at hl
  case h_2=>cases hl
  rename_i x' l' d' y' hx hq;cases hl;refine wpIn_seq (hv none kp od _ hx a w (FF++marks X) _ (fun l e=>by cases e) ha hs (fun e a' w' aw H' Y q k1 k2 k3 k4=>?_));have JO:a'.defers=(Y++X).map oC:=by rw[k2,hd];simp
  cases e <;> first
   |exact ih _ _ _ hq aw H' a' w' (Y++X) q k1 k3.marks JO (hk.trans k4)
   |(obtain⟨he,_⟩:=q;simp at he;done)
   |(show LeavesInM _ _ _ _ _ _ a'.defers _ w';rw[JO];exact xH hr q k1 k3.marks (hk.trans k4))
end
theorem ao.J7 {P:Program}{kp:Nat->List Nat}{od:Nat->List (List Nat)}{f:Nat}{F:DIR}{args:List Value}{bq:SH}{Q:Value->SH->Prop}(hl:Ka P kp od f=some F)(hn:args.length<=F.n)
 (h:VDP P F.n F.bG F.dr F.post Q F.pre (aB 0 args) bq):ao P f args bq Q:=by
 unfold Ka at hl;split at hl
 ·cases hl
 rename_i fn tY;split at hl
 ·cases hl
 rename_i c hc;split at hl
 case isFalse=>cases hl
 rename_i n6;split at hl
 case h_2=>cases hl
 rename_i l d y r hb hr;cases hl;refine⟨by simp only[jo,tY,n6,hc];rfl,fun FF w hs=>?_⟩;refine(callsIn_wide (n:=0)).1 (callsIn_of_wp_marks tY hc trivial (M8 hr l c d y hb _ _ _ w [] h ⟨?_,fun t v e=>?_⟩ (by simpa[V.marks]using hs) rfl (.refl w)))
 ·simp at hn|-;omega
 ·exact zAS
section
variable {ops:Array Oper}
theorem Ec {both:Bool}{rs:List (RO×Oper)}{orders:List (List Nat)}(hlen:rs.length=ops.size)
 (hc:eT both rs ops orders=true) (t:Nat):∃o∈orders,o.Perm (jX ops ops.size t (Array.replicate ops.size false))/\(jX ops ops.size t (Array.replicate ops.size false)).Nodup/\
   o.Pairwise (fun x y=>indep (rs.getD y default) (rs.getD x default)=true∨[x,y].Sublist (jX ops ops.size t (Array.replicate ops.size false))):=by
 simp only[eT,vF]at hc;obtain⟨⟨⟨hb,hd⟩,ho⟩,hp⟩:=hc;have hu:om ops (Array.replicate ops.size false)=List.range ops.size:=by
  exact zAW
 obtain⟨s1,s2,_⟩:=zc hb ops.size t (Array.replicate ops.size false) Zs (by rw[hu];simp);generalize hl:jX ops ops.size t (Array.replicate ops.size false)=l at s1 s2|-;have Uu:∀{x y:Nat},y < ops.size->x∈(gD ops).getD y []->Jk l x y:=fun hy hx=>hl ▸ tT hb (Qj _) (il hx) hy
 have bM:∀i,i∈l↔i < ops.size:=fun i=>by rw[s2,hu];simp
 generalize S6:D8 both rs (gD ops) ops.size=d at hd hp;have ZT:∀x∈d,x < ops.size:=by
  exact zCR
 have EO:(l.filter (d.contains ·)).Perm d:=by
  exact zBE
 have ap:=vX.1 hp _ (rY EO);simp only[vO,vL,vY]at ap;have EM:zS (fun x y=>!((gD ops).getD x []).contains y) (l.filter (d.contains ·))=true:=by
  exact zAE
 rcases ap with ap|⟨o,Nn,HL⟩
 ·rw[EM]at ap;cases ap
 have xw:=vX.1 ho o Nn;simp only[vF,beq_iff_eq,vX,decide_eq_true_eq]at xw;obtain⟨⟨o1,o2⟩,o3⟩:=xw;have cg:o.Perm l:=by
  exact zAL
 refine⟨o,Nn,cg,s1,?_⟩
 ·exact zAQ
theorem T8 {rs:List (RO×Oper)}{orders:List (List Nat)}(hlen:rs.length=ops.size)
 (hc:oF rs ops orders=true) (t:Nat):∃o∈orders,o.Perm (jX ops ops.size t (Array.replicate ops.size false))/\(jX ops ops.size t (Array.replicate ops.size false)).Nodup/\
   o.Pairwise (fun x y=>indep (rs.getD y default) (rs.getD x default)=true∨[x,y].Sublist (jX ops ops.size t (Array.replicate ops.size false))):=by
 unfold oF at hc;rcases vP.1 hc with hc|hc
 ·exact Ec hlen hc t
 ·exact Ec hlen hc t
theorem So {x y c:Nat}{l1 l2:List Nat}(hn:(l1++c::l2).Nodup)(hx:x∈l1)(hy:y∈l1)(h:[x,y].Sublist (l1++c::l2)):[x,y].Sublist l1:=by
 rw[List.sublist_append_iff]at h;obtain⟨a,b,e,ha,hb⟩:=h;have hd:=(QK.1 hn).2.2;have hb0:b=[]:=by
  cases b with
  |nil=>rfl
  |cons z b=>
   have hz:z∈[x,y]:=by rw[e];simp
   have hz1:z∈l1:=by simp only[Q9,List.not_mem_nil,or_false]at hz;rcases hz with rfl|rfl <;> assumption
   exact absurd rfl (hd z hz1 z (hb.subset Zs))
 subst hb0;rw[vd]at e;rw[e];exact ha
theorem Fm {P:Program}{n:Nat}{X:Nat->RO×Oper}{Z:Exit->Act->World->Prop}{Q:Act->World->Prop}{c:Nat}{l1 l2 o:List Nat}(hp:o.Perm (l1++c::l2))(hn:(l1++c::l2).Nodup)(hg:∀i∈l1++c::l2,Good P n ops (X i))
 (HN:o.Pairwise (fun x y=>indep (X y) (X x)=true∨[x,y].Sublist (l1++c::l2))) {a:Act} {w:World}
 (h:eK P wD (eK P Z (fun _ _=>False) [X c]) ((o.filter (l1.contains ·)).map X) a w):eK P Z Q ((l1++c::l2).map X) a w:=by
 have Nl:=(QK.1 hn).1;have bQ:o.Nodup:=hp.nodup_iff.2 hn;have OW:(o.filter (l1.contains ·)).Perm l1:=by
  refine(QP (bQ.filter _) Nl).2 fun x=>?_
  simp only[QC,vg,hp.mem_iff];exact⟨fun h=>h.2,fun h=>⟨by simp[h],h⟩⟩
 have h1:=reorder (P:=P) (n:=n) (ops:=ops) l1 _ OW Nl (fun i hi=>hg i (Zw _ hi)) ((HN.filter _).imp_of_mem fun {x y} hx hy h=>by
  rcases h with h|h
  ·exact .inl h
  ·simp only[QC,vg]at hx hy;exact .inr (So hn hx.2 hy.2 h)) h
 have h2:eK P Z (eK P Z (fun _ _=>False) [X c]) (l1.map X) a w:=Cg h1;rw[Q0,Q3];have app:∀(u v:List (RO×Oper)) (a:Act) (w:World),eK P Z (eK P Z Q v) u a w->eK P Z Q (u++v) a w:=by
  intro u v
  induction u with
  |nil=>intro a w h;exact h
  |cons x u ih=>intro a w h;exact eL (fun a w h=>ih a w h) h
 refine app _ _ _ _ (SV (fun a w hc=>?_) h2);exact eL (fun a w (hf:False)=>hf.elim) hc
end
def Dh(x:RO):List Nat:=cC x.guard++cN (iI x.op)
def At(bg cd:List Nat):List Nat->List (RO×Bool)->List (List RO)
 |_,[]=>[[]]
 |skip,(x,late)::r=>
  (if(kf x.op||!late)&&!(kf x.op||jE x.op)||(Dh x).all (fun t=>!skip.contains t&&!(late&&cd.contains t))&&(kf x.op||!late)then(At bg cd skip r).map (x::·)else [])++
  (if late||kf x.op&&(nU x.dst).all (fun d=>!bg.contains d)then At bg cd (nU x.dst++skip) r else [])
where
 nU (d:Option Nat):List Nat:=d.toList
theorem P0 {bg cd:List Nat}(p:Nat->Bool)(X:Nat->RO)(late:Nat->Bool):∀(o:List Nat) (skip:List Nat),
 (∀i∈o,p i=true->(kf (X i).op||!late i)=true)->
 (∀i∈o,p i=false->late i=false->kf (X i).op=true)->
 (∀i∈o,p i=false->late i=false->∀d,(X i).dst=some d->d∉bg)->
 (∀i∈o,p i=true->(kf (X i).op||jE (X i).op)=true->∀t∈Dh (X i),t∉skip/\(late i=true->t∉cd))->
 o.Pairwise (fun i j=>p i=false->p j=true->(kf (X j).op||jE (X j).op)=true->∀d,(X i).dst=some d->d∉Dh (X j))->
 (o.filter p).map X∈At bg cd skip (o.map fun i=>(X i,late i)):=by
 intro o
 induction o with
 |nil=>intro skip _ _ _ _ _;simp[At]
 |cons i o ih=>
  intro skip h1 h2 h3 h4 h5;rw[List.pairwise_cons]at h5;simp only[Q3,At,Q7];cases hp:p i with
  |true=>
   left;have hr:=h1 i Zs hp;rw[if_pos,List.filter_cons_of_pos hp,Q3]
   ·exact QE.2 ⟨_,ih skip (fun j hj=>h1 j (by simp[hj])) (fun j hj=>h2 j (by simp[hj])) (fun j hj=>h3 j (by simp[hj])) (fun j hj=>h4 j (by simp[hj])) h5.2,rfl⟩
   ·cases hq:(kf (X i).op||jE (X i).op)with
    |false=>simp[hr]
    |true=>
     have:=h4 i Zs hp hq;rw[hr];simp only[Bool.not_true,Bool.and_false,vK,Bool.and_true,vX,vL];intro t ht;have:=this t ht;cases hl:late i <;> simp_all
  |false=>
   right;rw[if_pos,List.filter_cons_of_neg (by simp[hp])]
   ·refine ih _ (fun j hj=>h1 j (by simp[hj])) (fun j hj=>h2 j (by simp[hj])) (fun j hj=>h3 j (by simp[hj])) (fun j hj pj q t ht=>⟨fun hm=>?_,(h4 j (by simp[hj]) pj q t ht).2⟩) h5.2;rcases Q7.1 hm with hm|hm
    ·have hd:(X i).dst=some t:=by simpa[At.nU]using hm
     exact h5.1 j hj hp pj q t hd ht
    ·exact(h4 j (by simp[hj]) pj q t ht).1 hm
   ·cases hl:late i with
    |true=>rfl
    |false=>
     have hr:=h2 i Zs hp hl;rw[hr];simp only[vR,vK,vX,vL];intro d hd;have ON:(X i).dst=some d:=by simpa[At.nU]using hd
     have:=h3 i Zs hp hl d ON;simpa using this
theorem dG {x y:RO×Oper}(h:indep x y=true):rB x y=true/\rB y x=true/\(kf x.1.op||kf y.1.op||(jE x.1.op&&jE y.1.op)||(mi x.1.op&&jE y.1.op))=true:=by
 simp only[indep,vF]at h;exact⟨h.1.1,h.1.2,h.2⟩
theorem VC.Of {P:Program}{n:Nat}{Γ:Env}{H:SH}{Q:Exit->Env->SH->Prop}{ri:List (List RO)}{aP:List Nat}
 (h:∀rs∈ri,∃pre d f xs post,rs=pre++⟨d,none,.call f xs⟩::post/\∀S∈At (cN xs) d.toList [] (pre.map (fun x=>(x,false))++post.map (fun x=>(x,true))),
   VO P n S Γ H (fun _ _ _=>False) fun aw H'=>VO P n [⟨d,none,.call f xs⟩] aw H' (fun ch _ lD=>Q (.panic ch) [] lD) (fun _ _=>False)):VC P n (.draw ri aP) Γ H Q:=by
 intro ρ kp od code hl a w F QQ hr ha hs hh;obtain⟨id,ops,rs,rfl,h1,hm,hc,rfl,rfl⟩:=jV hl;have hlen:=(ji h1).1;refine wpIn_region_draw (fun t=>?_);have oP:Region.schedule (P.follows .mixedOrders) ops t=jX ops ops.size t (Array.replicate ops.size false):=by simp[Region.schedule,hm,Region.linearise,jX]
 rw[oP];have hu:om ops (Array.replicate ops.size false)=List.range ops.size:=by
  exact zAW
 have ej:we ops=true:=by
  exact zED
 have bM:=(zc ej ops.size t (Array.replicate ops.size false) Zs (by rw[hu];simp)).2.1;refine eM (P:=P) (ρ:=ρ) (n:=n) (ops:=ops) (X:=fun i=>(rs.zip ops.toList).getD i default) (QQ:=QQ) (fun i hi=>?_) _ a _ (fun i hi=>by rw[bM,hu]at hi;simpa using hi) ?_
 ·exact zDC
 obtain⟨o,Nn,cg,CN,HN⟩:=T8 (rs:=rs.zip ops.toList) (by simp[hlen]) hc t;obtain⟨pre,d,f,xs,post,e,hS⟩:=h (o.map fun i=>rs.getD i default) (QE.2 ⟨o,Nn,rfl⟩);have aI:∀i∈o,i < ops.size:=fun i hi=>by have:=cg.mem_iff.1 hi;rw[bM,hu]at this;simpa using this
 generalize jX ops ops.size t (Array.replicate ops.size false)=l at cg CN HN bM|-;obtain⟨o1,oc,rfl,e1,e2⟩:=List.map_eq_append_iff.1 e;obtain⟨ci,o2,rfl,e3,e4⟩:=List.map_eq_cons_iff.1 e2;obtain⟨l1,l2,rfl⟩:=List.append_of_mem (cg.mem_iff.1 (show ci∈o1++ci::o2 by simp));have bQ:(o1++ci::o2).Nodup:=cg.nodup_iff.2 CN;refine Fm (n:=n) (ops:=ops) (o:=o1++ci::o2) cg CN (fun i hi=>?_) HN ?_
 ·obtain⟨g1,g2,g3⟩:=wY h1 (aI i (cg.mem_iff.2 hi));exact Good.Rv g3
 have Cz:∀i∈o1++ci::o2,((rs.zip ops.toList).getD i default).1=rs.getD i default:=fun i hi=>(wY h1 (aI i hi)).2.1
 have hpc:l1.contains ci=false:=by
  have:=(QK.1 CN).2.2;cases Hy:l1.contains ci with
  |false=>rfl
  |true=>exact absurd rfl (this ci (vg.1 Hy) ci Zs)
 have hfil:(o1++ci::o2).filter (l1.contains ·)=(o1++o2).filter (l1.contains ·):=by
  simp only[vp,vq,hpc,vJ,↓reduceIte]
 have hdj:∀i∈o1,i∉o2:=fun i h1 h2=>(QK.1 bQ).2.2 i h1 i (by simp[h2]) rfl
 have CM:(o1++o2).map (fun i=>(rs.getD i default,o2.contains i))=pre.map (fun x=>(x,false))++post.map (fun x=>(x,true)):=by
  rw[<- e1,<- e4,Q0,Q5,Q5]
  congr 1
  ·refine Q1 fun i hi=>?_
   simp[hdj i hi]
  ·refine Q1 fun i hi=>?_
   simp[hi]
 have bK:((o1++o2).filter (l1.contains ·)).map (fun i=>rs.getD i default)∈At (cN xs) d.toList [] (pre.map (fun x=>(x,false))++post.map (fun x=>(x,true))):=by
  rw[<- CM];have hXc:((rs.zip ops.toList).getD ci default).1=⟨d,none,.call f xs⟩:=by rw[Cz ci Zs,e3]
  have nP:kz P ((rs.zip ops.toList).getD ci default).2.op=some (.call f xs):=by
   obtain⟨g1,g2,g3⟩:=wY h1 (aI ci Zs);have:=(jG g3).1;rw[hXc]at this;exact this
  have hndl:∀x∈l1,x∉ci::l2:=fun x h1 h2=>(QK.1 CN).2.2 x h1 x h2 rfl
  have ncl:ci∉l1:=fun h=>by simp[h]at hpc
  have Sn:∀{x y:Nat},[x,y].Sublist (l1++ci::l2)->y∈ci::l1->x∈l1:=by
   intro x y GY hy;have hb:=uD CN GY;by_cases hx:x∈l1
   ·exact hx
   ·exfalso;have:=hb.2.2;rw[List.idxOf_append,if_neg hx]at this;rcases Q9.1 hy with rfl|hy
    ·rw[List.idxOf_append,if_neg ncl]at this;have h0:List.idxOf y (y::l2)=0:=List.idxOf_cons_self;omega
    ·have h2:=List.idxOf_lt_length_of_mem hy;rw[List.idxOf_append,if_pos hy]at this;omega
  have OW:=List.pairwise_append.1 HN;have rh:=List.pairwise_cons.1 OW.2.1;refine P0 (l1.contains ·) (fun i=>rs.getD i default) (fun i=>o2.contains i) (o1++o2) [] ?_ ?_ ?_ ?_ ?_
  ·intro i hi hp;have hp:=vg.1 hp;by_cases h2:i∈o2
   ·have hA:=dG ((rh.1 i h2).resolve_right fun q=>ncl (Sn q (by simp[hp])));have h3:=hA.2.2;rw[hXc,Cz i (by simp[h2])]at h3;have h4:kf (rs.getD i default).op=true:=by simpa[kf,jE]using h3
    show(kf (rs.getD i default).op||!o2.contains i)=true;rw[h4];rfl
   ·show(kf (rs.getD i default).op||!o2.contains i)=true;simp[h2]
  ·intro i hi hp hl;have h2:i∈o1:=by
    rcases Q7.1 hi with h|h
    ·exact h
    ·simp[h]at hl
   have hp:i∉l1:=fun h=>by simp[h]at hp
   have hB:=dG ((OW.2.2 i h2 ci Zs).resolve_right fun q=>hp (Sn q Zs));have h3:=hB.2.2;rw[hXc,Cz i (by simp[h2])]at h3;simp[kf,jE,mi]at h3;exact h3
  ·intro i hi hp hl dd hd hm;have h2:i∈o1:=by
    rcases Q7.1 hi with h|h
    ·exact h
    ·simp[h]at hl
   have hp:i∉l1:=fun h=>by simp[h]at hp
   have hB:=dG ((OW.2.2 i h2 ci Zs).resolve_right fun q=>hp (Sn q Zs));refine(z8 hB.2.1 dd (by rw[Cz i (by simp[h2])];exact hd)).1 ?_;obtain⟨c,Hy,AU,hc3,_⟩:=pZ nP;unfold looks;rw[hXc,Hy];simp only[kf,jE,vQ,vJ,↓reduceIte,cC,QJ,Op.operands,Call.operands,AU,Array.toList_append,hc3];unfold cN at hm|-;rw[List.filterMap_append];exact Q8 _ hm
  ·intro i hi hp hq tt ht;refine⟨Zs,fun hl=>?_⟩;have hp:=vg.1 hp;have h2:i∈o2:=vg.1 hl;have hA:=dG ((rh.1 i h2).resolve_right fun q=>ncl (Sn q (by simp[hp])));intro hd;have ON:d=some tt:=by simpa using hd
   have:=(z8 hA.2.1 tt (by rw[hXc];exact ON)).1;unfold looks at this;rw[Cz i (by simp[h2])]at this;simp only[hq,↓reduceIte]at this;exact this ht
  ·have hpw2:(o1++o2).Pairwise (fun x y=>indep ((rs.zip ops.toList).getD y default) ((rs.zip ops.toList).getD x default)=true∨[x,y].Sublist (l1++ci::l2)):=HN.sublist (List.Sublist.append_left (QX _ _) _);refine hpw2.imp_of_mem fun {i j} hi hj h pi pj hq dd hd hm=>?_
   have pj:=vg.1 pj;have pi:i∉l1:=fun h=>by simp[h]at pi
   have mem:∀{x:Nat},x∈o1++o2->x∈o1++ci::o2:=fun {x} h=>by
    rcases Q7.1 h with h|h <;> simp[h]
   have hA:=dG (h.resolve_right fun q=>pi (Sn q (by simp[pj])));have:=(z8 hA.2.1 dd (by rw[Cz i (mem hi)];exact hd)).1;unfold looks at this;rw[Cz j (mem hj)]at this;simp only[hq,↓reduceIte]at this;exact this hm
 rw[hfil];refine hS _ bK _ ⟨?_,?_⟩ a {w with drawn:=w.drawn+1} F _ _ ha (hs.drawn _) (fun a' w' aw H' q g1 g2 g3 g4=>?_) (fun _ _ _ _ _ q=>q.elim)
 ·rw[Q5];refine Q1 fun i hi=>Cz i ?_
  exact zE1
 ·intro x hx;obtain⟨i,hi,rfl⟩:=QE.1 hx;have bO:i∈o1++ci::o2:=by
   exact zE1
  obtain⟨g1,g2,g3⟩:=wY h1 (aI i bO);exact⟨ops,g3⟩
 ·refine q [(rs.zip ops.toList).getD ci default] ⟨?_,?_⟩ a' w' F _ _ g1 g3 (fun _ _ _ _ q=>q.elim) (fun ch a2 w2 cr H2 q2 k1 k2 k3 k4=>hh (.panic ch) a2 w2 [] H2 [] q2 ⟨k1.size,fun t v e=>by cases e⟩ (by rw[k2,g2];rfl) k3.bV (((ki.refl w).drawn _).trans (g4.trans k4)))
  ·show [((rs.zip ops.toList).getD ci default).1]=_;rw[Cz ci Zs,e3]
  ·intro x hx;rw[QI.1 hx];obtain⟨g1,g2,g3⟩:=wY h1 (aI ci Zs);exact⟨ops,g3⟩
end Go.V

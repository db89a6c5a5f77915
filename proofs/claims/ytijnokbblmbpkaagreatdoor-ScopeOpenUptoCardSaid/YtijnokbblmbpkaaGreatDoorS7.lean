/-
  What looks come to, by nodes.
-/
import Derived.Test.YtijnokbblmbpkaaGreatDoorS6
import Derived.Test.YtijnokbblmbpkaaGreatDoorS5
set_option linter.all false
namespace Go.V
open Go
theorem dP(place:Nat):∀l:List Nd,eB place l (l.map kO)=l.map fun x=>jY x place (kO x):=by
 intro l
 induction l with
 |nil=>rfl
 |cons x r ih=>simp only[Q7,eB,ih]
theorem sh:∀l:List Nd,pZ l (l.map kO)=l.map fun x=>kP (decide (x.kind=6)) (kO x):=by
 intro l
 induction l with
 |nil=>rfl
 |cons x r ih=>simp only[Q7,pZ,ih]
theorem tq(x:Nd):∀l:List Nd,we (l++[x]) ((l++[x]).map kO)=(l.map fun y=>jY y 1 (kO y))++[if x.kind=9 then kO x else jY x 1 (kO x)]:=by
 intro l
 induction l with
 |nil=>rfl
 |cons y r ih=>
  cases r with
  |nil=>rfl
  |cons z r=>simpa[we]using ih
theorem sG {x:Nd}{place K d:Nat}{r:Rs}{m:Bool}(hr:∀d m,r=some (d,m)->d<=K)(h:jY x place r=some (d,m)):d<=K+1:=by
 have h2:=jR (jR h);split at h2
 ·obtain⟨d',e,h3⟩:=fN h2;have:=hr d' m h3;omega
 ·have:=hr d m h2;omega
mutual
def Nd.w:Nd->Nat
 |.mk _ s lit args ab kids _=>1+s.size+lit.size+args.length+ab.length+Nd.ws kids
def Nd.ws:List Nd->Nat
 |[]=>0
 |x::r=>x.w+Nd.ws r
end
theorem Nd.mN(x:Nd):0 < x.w:=by cases x;simp only[Nd.w];omega
theorem Nd.cq {x:Nd}:∀{l:List Nd},x∈l->x.w<=Nd.ws l:=by
 intro l
 induction l with
 |nil=>intro h;cases h
 |cons y r ih=>
  intro h;simp only[Nd.ws];exact zC8
theorem Nd.X4 {f:Nat->Nat}:∀{l:List Nd} {o:Nat},(∀i x,l[i]? =some x->x.w<=f (o+i))->Nd.ws l<=((List.range' o l.length).map f).sum:=by
 intro l
 induction l with
 |nil=>intro o _;simp[Nd.ws]
 |cons y r ih=>
  intro o h;have h0:=h 0 y rfl;have h1:=ih (o:=o+1) (fun i x e=>by have:=h (i+1) x e;rwa [Qc,Nat.add_comm 1 i]);simp only[Nd.ws,Vu,List.range'_succ,Q7,List.sum_cons,Qd]at h0 h1|-;omega
theorem Lt.Rv {f:Nat->Nat}:∀{l:List Lt} {o:Nat},(∀i x,l[i]? =some x->x.size<=f (o+i))->Lt.aw l<=((List.range' o l.length).map f).sum:=by
 intro l
 induction l with
 |nil=>intro o _;simp[Lt.aw]
 |cons y r ih=>
  intro o h;have h0:=h 0 y rfl;have h1:=ih (o:=o+1) (fun i x e=>by have:=h (i+1) x e;rwa [Qc,Nat.add_comm 1 i]);simp only[Lt.aw,Vu,List.range'_succ,Q7,List.sum_cons,Qd]at h0 h1|-;omega
theorem El {K d:Nat}{m:Bool}{p q:Rs}(hp:∀d m,p=some (d,m)->d<=K)(hq:∀d m,q=some (d,m)->d<=K)(h:zh p q=some (d,m)):d<=K:=by
 cases p with
 |none=>cases h
 |some p=>
  cases q with
  |none=>cases h
  |some q=>
   simp only[zh,Qy,Qz]at h;have h1:=hp p.1 p.2 rfl;have h2:=hq q.1 q.2 rfl;omega
theorem o8:∀l:List Nd,(we l (l.map kO)).length=l.length:=by
 intro l
 induction l with
 |nil=>rfl
 |cons x r ih=>
  cases r with
  |nil=>rfl
  |cons y r=>simpa[we]using ih
theorem o7:∀(l:List Nd) (j:Nat) (y:Nd),l[j]? =some y->(we l (l.map kO))[j]? =some (if y.kind=9/\j+1=l.length then kO y else jY y 1 (kO y)):=by
 intro l
 induction l with
 |nil=>intro j y h;simp at h
 |cons x r ih=>
  intro j y h;cases r with
  |nil=>
   cases j with
   |zero=>
    simp only[Vh,Qy]at h;subst h;simp[we]
   |succ j=>simp at h
  |cons z r=>
   cases j with
   |zero=>
    simp only[Vh,Qy]at h;subst h;simp[we]
   |succ j=>
    have:=ih j y (by simpa using h);simpa[we]using this
theorem Fw:∀(N:Nat) (x:Nd),x.w<=N->∀(d:Nat) (m:Bool),kO x=some (d,m)->d<=2*x.w:=by
 intro N
 induction N with
 |zero=>intro x hx;have:=x.mN;omega
 |succ N ih=>
  intro x hx d m h;cases x with
  |mk k s lit args ab kids p=>
  simp only[Nd.w]at hx|-;have hk:∀y∈kids,∀d m,kO y=some (d,m)->d<=2*Nd.ws kids:=fun y hy d m e=>by
   have h1:=Nd.cq hy;have h2:=ih y Zo d m e;omega
  have hv:∀(y:Nd) (pl:Nat),y∈kids->∀d m,jY y pl (kO y)=some (d,m)->d<=2*Nd.ws kids+1:=fun y pl hy d m e=>sG (hk y hy) e
  have lJ:∀(l:List Nd) (pl:Nat),(∀y∈l,y∈kids)->∀d m,jb (eB pl l (l.map kO))=some (d,m)->d<=2*Nd.ws kids+1:=fun l pl hl d m e=>by
   rw[dP]at e;refine fQ (fun r hr d m e=>?_) e;obtain⟨y,hy,rfl⟩:=QH.1 hr;exact hv y pl (hl y hy) d m e
  have ha:∀(l:List Nd) (q:ByteArray),(∀y∈l,y∈kids)->∀d m,gN q l (l.map kO)=some (d,m)->d<=2*Nd.ws kids+1:=fun l q hl d m e=>by
   obtain⟨m',h2⟩:=cK (jR e);exact lJ l _ hl d m' h2
  have hf:∀(y:Nd) (q:ByteArray),y∈kids->∀d m,zL y q (kO y)=some (d,m)->d<=2*Nd.ws kids+1:=fun y q hy d m e=>by
   unfold zL at e;split at e
   ·have:=hk y hy d m e;omega
   ·exact hv y _ hy d m e
  have dT:∀d m,(match kids,kids.map kO with|[x],[r]=>jY x 1 r|_,_=>none)=some (d,m)->d<=2*Nd.ws kids+1:=fun d m e=>by
   match kids,hv,e with
   |[y],hv,e=>exact hv y 1 Zs d m e
   |[],_,e=>cases e
   |_::_::_,_,e=>cases e
  simp only[kO,jn,jr]at h;split at h
  ·have h2:=Dd _ lit (Qh _) false d m (jR h);omega
  split at h
  ·have:=jR h;cases this;omega
  split at h
  ·have:=dT d m (jR h);omega
  split at h
  ·have h2:=jR h
   match kids,hf,ha,h2 with
   |[],_,_,h2=>cases h2
   |y::l,hf,ha,h2=>
    have:=El (hf y s Zs) (ha l s (fun z hz=>by simp[hz])) h2;omega
  split at h
  ·have:=ha kids s (fun _ h=>h) d m (jR h);omega
  split at h
  ·have h2:=jR h
   match kids,hf,hk,h2 with
   |[],_,_,h2=>cases h2
   |[_],_,_,h2=>cases h2
   |y::z::l,hf,hk,h2=>
    obtain⟨m',h3⟩:=cK h2;have:=El (K:=2*Nd.ws (y::z::l)+1) (fun d m e=>?_) (hf y z.name Zs) h3
    ·omega
    ·change jb (pZ (z::l) ((z::l).map kO))=some (d,m)at e;rw[sh]at e;have:=fQ (K:=2*Nd.ws (y::z::l)) (fun r hr d m e=>by
      obtain⟨u,hu,rfl⟩:=QH.1 hr;exact hk u (QD _ hu) d m (jR e)) e
     omega
  split at h
  ·have h2:=jR h;simp only[wk]at h2;obtain⟨m',h3⟩:=cK (jR h2);obtain⟨m'',h4⟩:=cK (jR h3);obtain⟨d',rfl,h5⟩:=fN h4;have:=fQ (K:=2*Nd.ws kids+1) (fun r hr d m e=>by
    obtain⟨j,hj⟩:=Vo hr;have Ba:=(Vm.1 hj).1;rw[o8]at Ba;have aA:=o7 kids j kids[j] (Zg Ba);rw[aA]at hj;have cF:kids[j]∈kids:=List.getElem_mem _;split at hj
    ·cases hj;have:=hk _ cF d m e;omega
    ·cases hj;exact hv _ 1 cF d m e) h5
   omega
  split at h
  ·obtain⟨d',rfl,h5⟩:=fN (jR h);obtain⟨m',h6⟩:=cK h5;have:=lJ kids 1 (fun _ h=>h) d' m' h6;omega
  split at h
  ·have:=dT d m (jR h);omega
  ·cases h
theorem mS {b sz:Nat}:∀{rows:List (List Value)} {o:Nat},(∀r∈rows,r.length=sz)->∀{i:Nat} {r:List Value},rows[i]? =some r->∀y∈kA b (o+i*sz) r,y∈kA b o rows.flatten:=by
 intro rows
 induction rows with
 |nil=>intro o _ i r h;simp at h
 |cons q rows ih=>
  intro o h i r hi y hy;rw[V9,j7,QA];cases i with
  |zero=>
   simp only[Vh,Qy]at hi;subst hi;rw[Qq,Qd]at hy;exact .inl hy
  |succ i=>
   right;rw[h q Zs];refine ih (fun r hr=>h r (by simp[hr])) (by simpa using hi) y ?_
   rwa [show o+sz+i*sz=o+(i+1)*sz by rw[Nat.succ_mul];omega]
theorem Uo {B:List kC}{k:Nat}{n:Int}{b:Nat}{t:ByteArray}{items:List Lt}{sv:Value}{rows:List (List Value)}{sp:List Value}(bF:jG 5 sv items.length rows.flatten sp)(hl:rows.length=items.length)(h5:∀r∈rows,r.length=5)
 (hr:∀(i:Nat) x r,items[i]? =some x->rows[i]? =some r->zw B x r) (wf:MP k n b t items.length):zw (ai sv rows.flatten sp++B) (.mk k n b t items) [cv k,vi n,uv b,.string t,sv]:=by
 have aA:∀i,i < items.length->rows[i]? =some (rows.getD i []):=fun i hi=>by
  rw[Vb,Zg Zo];rfl
 generalize hm:items.length=m at bF;generalize Hb:rows.flatten=xs at bF|-;cases bF with
 |@mk bk o _ c _ _ h1 h2 h3=>
  rw[<- hm];subst Hb;refine .mk (bk:=bk) (o:=o) (us:=fun i=>rows.getD i []) wf (fun _=>rfl) (fun i hi y hy=>?_) (fun i x hx=>?_)
  ·refine Zw _ ?_;simp only[ai,j7];exact Zw _ (mS h5 (aA i hi) y hy)
  ·have hi:=(Vm.1 hx).1;exact(hr i x _ hx (aA i hi)).more fun y hy=>QB _ hy
 |nil=>
  have h0:items=[]:=vt hm;subst h0;exact .mk (bk:=0) (o:=0) (us:=fun _=>[]) wf (fun h=>absurd h Zs) (fun i hi=>absurd hi Zs) (fun i x hx=>by simp at hx)
theorem I6 {sv:Value}{l:List ByteArray}{sp:List Value}{n:Nat}(hn:n=l.length)(bF:jG 1 sv n (l.map Value.string) sp)(hl:l.length<=1099511627776)(ht:∀t∈l,t.size<=140737488355328):eg (ai sv (l.map Value.string) sp) sv l:=by
 generalize hx:l.map Value.string=xs at bF;cases bF with
 |@mk bk o _ c _ _ h1 h2 h3=>
  subst hx;refine⟨_,c,by rw[hn],hl,fun i t e=>⟨bk,o,rfl,?_,ht t (Zv e)⟩⟩;simp only[ai,j7];refine Zw _ (kI.2 ⟨i,_,?_,rfl⟩);rw[Vn,e];rfl
 |nil=>
  have h0:l=[]:=vt hn.symm;subst h0;exact⟨none,0,rfl,Zs,fun i t e=>by simp at e⟩
theorem yy {P:Program}{n:Nat}{rs:List RO}{Γ:Env}{H:SH}{Z:List PanicEntry->Env->SH->Prop}{K:Env->SH->Prop}{d:Option Nat}{t:TypeId}{size bytes:Nat}{zero:List Value}{s x:Operand}{b o k c c2:Nat}{ad:Addr}
 (hs:ev Γ s=some (.slice (some ⟨b,o,none⟩) k c)) (hx:ev Γ x=some (.slice (some ad) 0 c2)) (hle:k<=c) (h:VO P n rs (ap d (.slice (some ⟨b,o,none⟩) k c) Γ) H Z K):VO P n (⟨d,none,.append t size bytes zero s x⟩::rs) Γ H Z K:=by
 refine VO.Yn rfl rfl (fun ρ aK=>⟨_,rfl,?_⟩);rw[aK _ _ hs,aK _ _ hx];simp only[dW];rw[if_pos (show k+0<=c by omega)];have e0:(Builtin.firstCells size 0 (.slice (some ad) 0 c2):Sem (Array Value))=pure #[]:=by
  simp only[Builtin.firstCells,Qq];rfl
 rw[e0];refine aG.bind (aG.pure ?_);refine aG.bind (aG.pure (aG.pure ?_));exact⟨_,H,[],.inl rfl,Zs,h⟩
theorem Ru:∀l:List Lt,l.length<=Lt.aw l:=by
 intro l
 induction l with
 |nil=>exact Qp _
 |cons x r ih=>have:=x.size_pos;simp only[Lt.aw,Vu];omega
structure Sg where
 qZ:Nat->Nat
 off:Nat->Nat
 cap:Nat->Nat
 tl:Nat->List Value
def iZ:Nat:=18446744073709551616
def qw(σ:Sg)(a:Addr):Addr:=⟨σ.qZ a.block,σ.off a.block+a.off,a.spot⟩
def rnF(σ:Sg):Fn->Fn
 |.yield l=>.yield (σ.qZ l)
 |f=>f
def Gi(σ:Sg)(b c:Nat):Nat:=if c < iZ then c else σ.cap b - (c - iZ)
def rn(σ:Sg)(x:Value):Value:=match x with
 |.pointer (some a)=>.pointer (some (qw σ a))
 |.slice (some a) n c=>.slice (some (qw σ a)) n (Gi σ a.block c)
 |.map (some r)=>.map (some (σ.qZ r))
 |.func f x y=>.func (rnF σ f) (x.attach.map fun⟨v,_⟩=>rn σ v) (y.attach.map fun⟨v,_⟩=>rn σ v)
 |.iface t v=>.iface t (rn σ v)
 |.agg cs=>.agg (cs.attach.map fun⟨v,_⟩=>rn σ v)
 |.tuple cs=>.tuple (cs.attach.map fun⟨v,_⟩=>rn σ v)
 |v=>v
 termination_by SizeOf.sizeOf x
section
variable (σ:Sg)
@[simp] theorem cm (k:IntKind) (z:Int):rn σ (.int k z)=.int k z:=by simp[rn]
@[simp] theorem qA (b:Bool):rn σ (.bool b)=.bool b:=by simp[rn]
@[simp] theorem eJ (s:ByteArray):rn σ (.string s)=.string s:=by simp[rn]
@[simp] theorem rn_float (k:FloatKind) (s:Nat):rn σ (.float k s)=.float k s:=by simp[rn]
@[simp] theorem rn_complex (k:FloatKind) (s t:Nat):rn σ (.complex k s t)=.complex k s t:=by simp[rn]
@[simp] theorem rn_chan (c:Option Nat):rn σ (.chan c)=.chan c:=by simp[rn]
@[simp] theorem rn_ptr0:rn σ (.pointer none)=.pointer none:=by simp[rn]
@[simp] theorem cQ (a:Addr):rn σ (.pointer (some a))=.pointer (some (qw σ a)):=by simp[rn]
@[simp] theorem nD (n c:Nat):rn σ (.slice none n c)=.slice none n c:=by simp[rn]
@[simp] theorem bp (a:Addr) (n c:Nat):rn σ (.slice (some a) n c)=.slice (some (qw σ a)) n (Gi σ a.block c):=by simp[rn]
@[simp] theorem rn_map0:rn σ (.map none)=.map none:=by simp[rn]
@[simp] theorem rn_map (r:Nat):rn σ (.map (some r))=.map (some (σ.qZ r)):=by simp[rn]
@[simp] theorem rn_nilF:rn σ .nilFunc=.nilFunc:=by simp[rn]
@[simp] theorem rn_nilI:rn σ .nilIface=.nilIface:=by simp[rn]
@[simp] theorem Rm (t:TypeId) (v:Value):rn σ (.iface t v)=.iface t (rn σ v):=by simp[rn]
@[simp] theorem yl (cs:Array Value):rn σ (.agg cs)=.agg (cs.map (rn σ)):=by simp[rn]
@[simp] theorem ym (cs:Array Value):rn σ (.tuple cs)=.tuple (cs.map (rn σ)):=by simp[rn]
@[simp] theorem rn_func (f:Fn) (x y:Array Value):rn σ (.func f x y)=.func (rnF σ f) (x.map (rn σ)) (y.map (rn σ)):=by simp[rn]
end
theorem qE(σ:Sg)(v:Value):(rn σ v).cells=v.cells.map (rn σ):=by
 cases v <;> try simp[Value.cells]
 ·rename_i a;cases a <;> simp
 ·rename_i a n c;cases a <;> simp
 ·rename_i a;cases a <;> simp
def bt:Value->Bool
 |.bool _|.int .. |.float .. |.string _|.pointer none|.slice none _ _|.map none|.nilFunc|.nilIface=>true
 |_=>false
def oV:Value->Bool
 |.agg cs=>cs.toList.all bt
 |.tuple cs=>cs.toList.all bt
 |v=>bt v
theorem eH {σ:Sg}{v:Value}(h:bt v=true):rn σ v=v:=by
 cases v <;> try simp_all [bt]
 ·rename_i a;cases a <;> simp_all [bt]
 ·rename_i a n c;cases a <;> simp_all [bt]
 ·rename_i a;cases a <;> simp_all [bt]
theorem eI {σ:Sg}{l:List Value}(h:l.all bt=true):l.map (rn σ)=l:=by
 rw[vZ]at h
 conv=>rhs;rw[<- List.map_id l]
 exact Q6 fun x hx=>eH (h x hx)
theorem dJ {σ:Sg}{v:Value}(h:oV v=true):rn σ v=v:=by
 cases v with
 |agg cs=>simp only[oV]at h;rw[yl];congr 1;apply vC.1;rw[vD,eI h]
 |tuple cs=>simp only[oV]at h;rw[ym];congr 1;apply vC.1;rw[vD,eI h]
 |_=>exact eH h
theorem Ie {op:BinOp}{k k':IntKind}{a b:Int}{w:Value}(h:me op k a k' b=some w):bt w=true:=by
 unfold me at h;cases op <;> simp only at h <;> (split at h) <;> first|(cases h;rfl)|cases h
theorem I1 {op:BinOp}{a b:ByteArray}{w:Value}(h:RF op a b=some w):bt w=true:=by
 unfold RF at h;cases op <;> simp only at h <;> first|(cases h;rfl)|(split at h <;> first|(cases h;rfl)|cases h)|cases h
theorem SZ {σ:Sg}{op:BinOp}{u v w:Value}(h:zi op u v=some w):zi op (rn σ u) (rn σ v)=some (rn σ w):=by
 unfold zi at h;split at h
 ·rw[eH (Ie h)];simpa[zi]using h
 ·rw[eH (I1 h)];simpa[zi]using h
 ·cases h
theorem Oj {σ:Sg}{k:NK}{u:Value}{b:Bool}(h:isNil k u=some b):isNil k (rn σ u)=some b:=by
 unfold isNil at h;split at h <;> first|(cases h;done)|skip
 ·rename_i a;cases a <;> simpa[isNil]using h
 ·rename_i a;cases a <;> simpa[isNil]using h
 ·rename_i a _ _;cases a <;> simpa[isNil]using h
 all_goals simpa[isNil]using h
theorem LX {σ:Sg}{k:SK}{u v:Value}{b:Bool}(h:o6 k u v=some b):o6 k (rn σ u) (rn σ v)=some b:=by
 unfold o6 at h;split at h <;> first|(cases h;done)|simpa[o6]using h
theorem MU {σ:Sg}:∀{ks:List SK} {xs ys:List Value} {b:Bool},fJ ks xs ys=some b->fJ ks (xs.map (rn σ)) (ys.map (rn σ))=some b:=by
 intro ks
 induction ks with
 |nil=>intro xs ys b h;simpa[fJ]using h
 |cons k ks ih=>
  intro xs ys b h;cases xs with
  |nil=>simp[fJ]at h
  |cons x xs=>
   cases ys with
   |nil=>simp[fJ]at h
   |cons y ys=>
    simp only[fJ]at h;split at h
    ·rename_i a c h1 h2;simp only[Q7,fJ,LX h1,ih h2];exact h
    ·cases h
theorem td {σ:Sg}:∀{ps:List (Nat×Nat×Value)} {cs out:List Value},jZ cs ps=some out->
 jZ (cs.map (rn σ)) (ps.map fun(a,b,v)=>(a,b,rn σ v))=some (out.map (rn σ)):=by
 intro ps
 induction ps with
 |nil=>intro cs out h;simp only[jZ,Qy]at h;subst h;rfl
 |cons p ps ih=>
  intro cs out h;obtain⟨o,s,v⟩:=p;simp only[jZ]at h;split at h
  ·rename_i hc;have:=ih h;simp only[Q7,jZ,qE,Array.size_map,Vz,if_pos hc];simpa[Q5,List.map_take,List.map_drop]using this
  ·cases h
theorem M4 {σ:Sg}{v:Value}{y k:Nat}(h:bound v y=some k):bound (rn σ v) y=some k:=by
 unfold bound at h;split at h
 ·simpa[bound]using h
 ·cases h
theorem rE {σ:Sg}{v:Option Value}{y k:Nat}{d:Option Nat}(h:wH y d v=some k):wH y d (v.map (rn σ))=some k:=by
 cases v with
 |none=>exact h
 |some v=>exact M4 h
theorem mR {σ:Sg}{n c:Nat}{lo hi mx:Option Value}{r:Nat×Nat×Nat}(h:za n c lo hi mx=some r):za n c (lo.map (rn σ)) (hi.map (rn σ)) (mx.map (rn σ))=some r:=by
 unfold za at h|-;simp only[Qr]at h|-;obtain⟨m,h1,hh,h2,l,h3,h4⟩:=h;exact⟨m,rE h1,hh,by simpa using rE h2,l,rE h3,h4⟩
theorem lW {σ:Sg}{cs:Array Value}{i:Nat}{v:Value}(h:cs[i]? =some v):(cs.map (rn σ))[i]? =some (rn σ v):=by
 rw[Array.getElem?_map,h];rfl
def okC:R->Bool
 |.build z _=>z.all bt
 |.fX _ z _ _=>oV z
 |.IX n _ _ _ _=>Nat.blt n iZ
 |.Ab f _ _=>match f with|.yield _=>false|_=>true
 |_=>true
def WZ:Value->Bool
 |.slice (some _) _ c=>!Nat.blt c iZ
 |_=>false
def okS(ρ:Operand->Value):R->Bool
 |.qI _ x _ _ _=>!WZ (ρ x)
 |.cap x=>!WZ (ρ x)
 |.sZ x=>match ρ x with|.pointer (some ⟨_,_,none⟩)=>true|_=>false
 |_=>true
theorem yh {σ:Sg}{ρ:Operand->Value}{r:R}{v:Value}(hc:okC r=true)(ho:okS ρ r=true)(h:kT ρ r=some v):kT (fun x=>rn σ (ρ x)) r=some (rn σ v):=by
 cases r <;> simp only[kT]at h|- <;> first|(cases h;done)|skip
 case mv x=>cases h;rfl
 case pick c a b=>
  split at h
  ·rename_i t ht;cases h;simp only[ht,qA];cases t <;> rfl
  ·cases h
 case bin op x y=>exact SZ h
 case eqb neq x y=>
  split at h
  ·rename_i a b ha hb;cases h;simp only[ha,hb,qA]
  ·cases h
 case A4 neq k x=>
  simp only[Qu]at h;obtain⟨b,h1,rfl⟩:=h;rw[Oj h1];simp
 case AZ neq ks x y=>
  split at h
  ·rename_i a b ha hb;split at h
   ·rename_i hs;simp only[Qu]at h;obtain⟨c,h1,rfl⟩:=h;simp only[ha,hb,yl,Array.size_map,if_pos hs,vD,MU h1];simp
   ·cases h
  ·cases h
 case un op x=>
  cases op <;> simp only at h|-
  all_goals first|(cases h;done)|(split at h <;> first|(cases h;done)|(rename_i hx;cases h;simp only[hx,qA,cm]))
 case conv k x=>
  split at h
  ·rename_i hx;cases h;simp only[hx,cm]
  ·cases h
 case cvs x=>
  split at h
  ·rename_i hx;cases h;simp only[hx,eJ]
  ·cases h
 case Fo t x=>cases h;simp
 case Ab f a b=>
  cases h;have hf:rnF σ f=f:=by cases f <;> simp_all [okC,rnF]
  simp[Q8,Function.comp_def,hf]
 case ext x i=>
  split at h
  ·rename_i vs hx;simp only[hx,ym];exact lW h
  ·cases h
 case build z ps=>
  simp only[Qu]at h;obtain⟨l,h1,rfl⟩:=h;have:=td (σ:=σ) h1;rw[eI hc]at this;have e:jU (fun x=>rn σ (ρ x)) ps=(jU ρ ps).map fun(a,b,v)=>(a,b,rn σ v):=by simp[jU,Q8,Function.comp_def]
  rw[e,this];simp
 case sZ x=>
  split at h
  ·rename_i a ha;cases h;simp only[ha,cQ]
  ·cases h
 case YT off x=>
  split at h
  ·rename_i b o hx;cases h;simp only[hx,cQ,qw,Qc]
  ·cases h
 case HI off size agg x=>
  split at h
  ·rename_i cs hx;simp only[hx,yl];exact zD5
  ·cases h
 case Lb len size x i=>
  split at h
  ·rename_i b o k z hx hi;split at h
   ·rename_i hb;cases h;simp only[hx,hi,cQ,qw,cm,if_pos hb,Qc]
   ·cases h
  ·cases h
 case H8 size x i=>
  split at h
  ·rename_i b o len c k z hx hi;split at h
   ·rename_i hb;cases h;simp only[hx,hi,cQ,bp,qw,cm,if_pos hb,Qc]
   ·cases h
  ·cases h
 case tT x i=>
  split at h
  ·rename_i s k z hx hi;split at h
   ·rename_i hb;simp only[Qu]at h;obtain⟨b,h1,rfl⟩:=h;simp only[hx,hi,eJ,cm,if_pos hb,h1,Qw]
   ·cases h
  ·cases h
 case H9 len size agg x i=>
  split at h
  ·rename_i cs k z hx hi;split at h
   ·rename_i hb;simp only[hx,hi,yl,cm,if_pos hb];exact zD5
   ·cases h
  ·cases h
 case IY x lo hi=>
  split at h
  ·rename_i s hx;simp only[Qu]at h;obtain⟨⟨l,hh,m⟩,h1,rfl⟩:=h;have:=mR (σ:=σ) h1;simp only[Option.map_map,Qv]at this;simp only[hx,eJ];rw[show(lo.map fun x=>rn σ (ρ x))=lo.map (rn σ ∘ ρ)from rfl,show(hi.map fun x=>rn σ (ρ x))=hi.map (rn σ ∘ ρ)from rfl,this];rfl
  ·cases h
 case qI size x lo hi mx=>
  split at h
  ·rename_i b o len c hx;simp only[Qu]at h;obtain⟨⟨l,hh,m⟩,h1,rfl⟩:=h;have HR:c < iZ:=by
    simp only[okS,hx,WZ,Bool.not_not]at ho;exact Qg ho
   have hm:m - l < iZ:=by
    have hle:m<=c:=by
     simp only[za,Qr]at h1;obtain⟨m',g1,h',g2,l',g3,g4⟩:=h1;cases g4;cases Mv:mx.map ρ with
     |none=>rw[Mv]at g1;simp only[wH,Qy]at g1;omega
     |some u=>
      rw[Mv]at g1;simp only[wH,bound]at g1;split at g1
      ·split at g1
       ·rename_i hz;cases g1;omega
       ·cases g1
      ·cases g1
    omega
   have:=mR (σ:=σ) h1;simp only[Option.map_map]at this;simp only[hx,bp,qw,Gi,if_pos HR,if_pos hm];rw[show(lo.map fun x=>rn σ (ρ x))=lo.map (rn σ ∘ ρ)from rfl,show(hi.map fun x=>rn σ (ρ x))=hi.map (rn σ ∘ ρ)from rfl,show(mx.map fun x=>rn σ (ρ x))=mx.map (rn σ ∘ ρ)from rfl,this];simp only[Qw];split <;> simp only[Qc]
  ·rename_i len c hx;simp only[Qu]at h;obtain⟨⟨l,hh,m⟩,h1,rfl⟩:=h;have:=mR (σ:=σ) h1;simp only[Option.map_map]at this;simp only[hx,nD];rw[show(lo.map fun x=>rn σ (ρ x))=lo.map (rn σ ∘ ρ)from rfl,show(hi.map fun x=>rn σ (ρ x))=hi.map (rn σ ∘ ρ)from rfl,show(mx.map fun x=>rn σ (ρ x))=mx.map (rn σ ∘ ρ)from rfl,this];rfl
  ·cases h
 case IX len size x lo hi=>
  split at h
  ·rename_i b o hx;simp only[Qu]at h;obtain⟨⟨l,hh,m⟩,h1,rfl⟩:=h;have:=mR (σ:=σ) h1;simp only[Option.map_map,Qv]at this;have hm:m - l < iZ:=by
    have HR:len < iZ:=Qg hc;have hle:m<=len:=by
     simp only[za,Qr]at h1;obtain⟨m',g1,h',g2,l',g3,g4⟩:=h1;cases g4;simp only[wH,Qy]at g1;omega
    omega
   simp only[hx,bp,cQ,qw,Gi,if_pos hm];rw[show(lo.map fun x=>rn σ (ρ x))=lo.map (rn σ ∘ ρ)from rfl,show(hi.map fun x=>rn σ (ρ x))=hi.map (rn σ ∘ ρ)from rfl,this];simp only[Qw];split <;> simp only[Qc]
  ·cases h
 case Dc x=>
  split at h
  ·rename_i hx;cases h;simp only[hx,eJ,cm]
  ·cases h
 case Ii x=>
  split at h
  ·rename_i a k c hx;cases h;cases a <;> simp only[hx,bp,nD,cm]
  ·cases h
 case cap x=>
  split at h
  ·rename_i a k c hx;cases h;cases a with
   |none=>simp only[hx,nD,cm]
   |some a=>
    have HR:c < iZ:=by
     simp only[okS,hx,WZ,Bool.not_not]at ho;exact Qg ho
    simp only[hx,bp,Gi,if_pos HR,cm]
  ·cases h
 case min2 x y=>
  split at h
  ·rename_i hx hy;cases h;simp only[hx,hy,cm]
  ·cases h
 case max2 x y=>
  split at h
  ·rename_i hx hy;cases h;simp only[hx,hy,cm]
  ·cases h
 case fX t z ok x=>
  simp only[okC]at hc;split at h
  ·rename_i hx;split at h
   ·rename_i aM;cases h;simp[hx,aM,dJ hc]
   ·cases h
  ·rename_i u w hx;split at h
   ·rename_i hu;cases h;simp only[hx,Rm,if_pos hu];split <;> simp
   ·rename_i hu;split at h
    ·rename_i aM;cases h;simp[hx,if_neg hu,aM,dJ hc]
    ·cases h
  ·cases h
def O9(r:R):Bool:=kd r||jF r||mf r||(match r with|.store .. =>true|_=>false)
def XJ(o:Oper):Bool:=match o.op with
 |.call c=>(match c.callee with|.builtin .recover=>true|_=>false)&&o.guard.isNone
 |_=>false
def OK(P:Program)(n:Nat)(kp:Nat->List Nat)(od:Nat->List (List Nat)):Code->Option (Nat×List RO×IC)
 |.seq (.region _ ops false) c=>match ops.toList with
  |o1::os=>if XJ o1 then match o1.dst,zn P n ops os,z5 P n kp od c with
   |some d,some rs,some y=>if d < n/\rs.all (fun r=>O9 r.op)=true then some (d,rs,y)else none
   |_,_,_=>none else none
  |[]=>none
 |_=>none
structure RIR where
 n:Nat
 bH:List RV
 d:Nat
 rs:List RO
 post:IC
def JS(P:Program)(kp:Nat->List Nat)(od:Nat->List (List Nat))(f:Nat):Option RIR:=
 match P.funcs[f]? with
 |none=>none
 |some fn=>match fn.body with
  |none=>none
  | some c => if fn.name != "runtime.NumGoroutine" then
     match OK P fn.ntmps kp od c,wi P fn.results.toList with
     |some (d,rs,y),some r=>some ⟨fn.ntmps,r,d,rs,y⟩
     |_,_=>none
    else none
def gI(P:Program)(f:Nat)(args:List Value)(u u':FrameMode)(bm:SH)(Q:SH->Prop):Prop:=
 jw P f=true/\∀F w,Sat w (bm.flatten++F)->CallsDIn (yZ none) 0 P f args.toArray u w fun e u2 w'=>u2=u'/\∃v Post,e=.returned v/\Q Post/\Sat w' (Post.flatten++F)/\ku w w'
inductive Rcv:FrameMode->Value->FrameMode->Prop where
 |none:Rcv .returning .nilIface .returning
 |some {v:Value}:Rcv (.panicking [{v:=v,recovered:=false}]) v (.panicking [{v:=v,recovered:=true}])
section
variable {P:Program} {n m:Nat} {ops:Array Oper} {Q:Exit->Act->List Frame->World->Prop} {cs:List Frame}
theorem IN {o:Oper}{t:TypeId}{x y:Operand}(h:o.op=.store t x y){ρ:Operand->Value}{w:World}:(∃w',(execOp ρ o).run P w=.ok .skip w')∨(∃e w',(execOp ρ o).run P w=.halt e w'):=by
 simp only[execOp,h];rw[Sem.run_bind];cases hh:(Instr.storeAt t (ρ x) (ρ y)).run P w with
 |ok v w'=>exact .inl ⟨w',rfl⟩
 |halt e w'=>exact .inr ⟨e,w',rfl⟩
theorem LG:∀(l:List (RO×Oper)) (idx:List Nat),idx.map (fun i=>ops[i]?)=l.map (fun x=>some x.2)->(∀x∈l,O9 x.1.op=true/\dZ P n ops x.2=some x.1)->
 ∀(a:Act) (w:World),cp P (fun _ _ _=>False) (fun a' w'=>Q .normal a' cs w') l a w->wpOpsSIn (yZ none) m P ops Q idx a cs w:=by
 intro l
 induction l with
 |nil=>
  intro idx hi _ a w h;obtain rfl:idx=[]:=by simpa using hi
  exact h
 |cons x l ih=>
  intro idx hi hx a w h;cases idx with
  |nil=>simp at hi
  |cons i idx=>
   simp only[Q7,vh]at hi;obtain⟨hi1,K1⟩:=hi;obtain⟨hp,tN⟩:=hx x Zs;obtain⟨g1,g2,g3,g4⟩:=jI tN;have SD:=ih idx K1 (fun y hy=>hx y (by simp[hy]));simp only[wpOpsSIn,hi1];refine⟨fun _ _=>trivial,?_⟩;rw[g4 a];have h':ju P (fun _ _ _=>False) x (cp P (fun _ _ _=>False) (fun a' w'=>Q .normal a' cs w') l) a w:=h;unfold ju at h';by_cases hw:jC x.1.guard a=true
   ·rw[if_pos hw]at h'|-;by_cases hpu:kd x.1.op=true
    ·rw[if_pos hpu]at h';obtain⟨v,e,hn⟩:=h';have bB:(execOp a.eval x.2).run P w=.ok (.value v) w:=oW (w:=w) (zu a) g1 e;rw[bB];rw[g2]at hn;exact SD _ _ hn
    ·by_cases hre:jF x.1.op=true
     ·rw[if_neg hpu,if_pos hre]at h';obtain⟨s,v,e,er,hn⟩:=h';have bB:(execOp a.eval x.2).run P w=.ok (.value v) w:=sg (zu a) g1 e (er w (.refl w));rw[bB];rw[g2]at hn;exact SD _ _ hn
     ·rw[if_neg hpu,if_neg hre]at h';obtain⟨tQ,hv⟩:=h';by_cases hnw:mf x.1.op=true
      ·obtain⟨u,w',bB,_⟩:=tQ hnw;simp only[yW,bB,jl]at hv;rw[bB];exact SD _ _ hv
      ·have lF:∃k y z,x.1.op=.store k y z:=by
        simp only[O9,vP]at hp;rcases hp with((h|h)|h)|h
        ·exact absurd h hpu
        ·exact absurd h hre
        ·exact absurd h hnw
        ·split at h
         ·exact⟨_,_,_,by assumption⟩
         ·cases h
       obtain⟨k,y,z,lF⟩:=lF;have K8:∃t,x.2.op=.store t y z:=by
        rw[lF]at g1;generalize x.2=oo at g1|-;obtain⟨dst,op,ty,pos,after,guard⟩:=oo;simp only at g1|-;cases op
        case store t y' z'=>
         simp only[kz,Qu]at g1;obtain⟨i,_,g1⟩:=g1;cases g1;exact⟨_,rfl⟩
        all_goals (exfalso;try simp only[kz]at g1)
        all_goals (repeat' split at g1)
        all_goals first
         |(cases g1;done)
         |(simp only[Qu]at g1;obtain⟨_,_,g1⟩:=g1;cases g1;done)
       obtain⟨t,K8⟩:=K8;rcases IN (P:=P) K8 (ρ:=a.eval) (w:=w)with⟨w',bB⟩|⟨e,w',bB⟩
       ·simp only[yW,bB,jl]at hv;rw[bB];exact SD _ _ hv
       ·simp only[yW,bB]at hv;cases e <;> exact hv.elim
   ·rw[if_neg hw]at h'|-;rw[g2]at h';exact SD _ _ h'
end
theorem gI.intro {P:Program}{kp:Nat->List Nat}{od:Nat->List (List Nat)}{f:Nat}{F:RIR}{args:List Value}{bm:SH}{u u':FrameMode}{rv:Value}{Q:SH->Prop}(hl:JS P kp od f=some F)(hn:args.length<=F.n)(hu:Rcv u rv u')
 (h:VO P F.n F.rs ((F.d,rv)::aI 0 args) bm (fun _ _ _=>False) fun ay H'=>ow P F.n F.post ay H' (rM F.bH fun _ Post=>Q Post)):gI P f args u u' bm Q:=by
 unfold JS at hl;split at hl
 ·cases hl
 rename_i fn tY;split at hl
 ·cases hl
 rename_i c hc;split at hl
 case isFalse=>cases hl
 rename_i oe;split at hl
 case h_2=>cases hl
 rename_i d rs y r hb hr;cases hl;refine⟨by simp only[jw,tY,oe,hc];rfl,fun FF w hs=>?_⟩;unfold OK at hb;split at hb
 case h_2=>cases hb
 rename_i id ops c2;split at hb
 case h_2=>cases hb
 rename_i o1 os HY;split at hb
 case isFalse=>cases hb
 rename_i NS;split at hb
 case h_2=>cases hb
 rename_i d' rs' y' hd1 KX hd3;split at hb
 case isFalse=>cases hb
 rename_i fO;cases hb;obtain⟨hdn,au⟩:=fO;refine callsDIn_of_wpSIn tY hc trivial (fun u5 cs Xt=>?_);have eu:ops.size=os.length+1:=by rw[<- Array.length_toList,HY];rfl
 refine wpSIn_seq (wpSIn_region ?_);rw[eu,List.range_succ_eq_map];have h0:ops[0]? =some o1:=by rw[<- vB,HY];rfl
 unfold XJ at NS;split at NS
 case h_2=>cases NS
 rename_i cl ob;simp only[vF]at NS;obtain⟨Tm,hg⟩:=NS;have hcal':cl.callee=.builtin .recover:=by
  split at Tm
  ·assumption
  ·cases Tm
 have hg':o1.guard=none:=by simpa using hg
 obtain⟨a0,ha0⟩:∃a0:Act,a0={tmps:=args.toArray++Array.replicate (fn.ntmps - args.toArray.size) undef,defers:=[]}:=⟨_,rfl⟩;rw[<- ha0];have YZ:wA fn.ntmps (aI 0 args) a0:=by
  rw[ha0];refine⟨?_,fun t v e=>?_⟩
  ·simp at hn|-;omega
  ·exact zAQ
 have Y9:a0.defers=[]:=by rw[ha0]
 simp only[wpOpsSIn,h0];refine⟨fun _ _=>trivial,?_⟩;have hw:Region.wanted o1 (yielded ops a0.tmps)=true:=by simp[Region.wanted,hg']
 rw[if_pos hw];have bB:(execOp a0.eval o1).run P w=.ok .recover w:=by
  simp[execOp,ob,resolve,hcal',invoke,builtin]
 rw[bB];have hag1:=YZ.put hdn rv;have fE:zn P fn.ntmps ops os=some rs:=KX;obtain⟨hlen,aA⟩:=wF fE;have key:∀Xj,(∃u2,Xj={u5 with mode:=u2}::cs/\u2=u')->wpOpsSIn (yZ none) 0 P ops (Exit.thenS (c2.wpSIn (yZ none) 0 P (bodyPostS P fn u5 cs fun e u2 w'=>u2=u'/\∃v Post,e=.returned v/\Q Post/\Sat w' (Post.flatten++FF)/\ku w w')) (bodyPostS P fn u5 cs fun e u2 w'=>u2=u'/\∃v Post,e=.returned v/\Q Post/\Sat w' (Post.flatten++FF)/\ku w w')) (List.map Nat.succ (List.range os.length)) (a0.put o1.dst rv) Xj w:=by
  rintro Xj ⟨u2,rfl,rfl⟩
  refine LG (n:=fn.ntmps) (rs.zip os) _ ?_ ?_ _ _ ?_
  ·apply vw;intro i;simp only[Vn];by_cases hi:i < os.length
   ·rw[List.getElem?_range hi];have hz:(rs.zip os)[i]? =some (rs[i]'Zo,os[i]):=by
     rw[Zg ru];simp
    rw[hz];simp only[Qw];rw[<- vB,HY];simp[hi]
   ·rw[Vj (by simpa using hi),Vj ru];rfl
  ·intro x hx;obtain⟨i,hi⟩:=Vo hx;have et:=(Vm.1 hi).1;simp at et;have e:(rs.zip os)[i]? =some (rs[i]'Zo,os[i]'Zo):=by
    rw[Zg ru];simp
   rw[e]at hi;cases hi;refine⟨?_,aA i _ _ (Zg Zo) (Zg Zo)⟩;exact vZ.1 au _ (List.getElem_mem _)
  ·rw[hd1];refine h (rs.zip os) ⟨by rw[List.map_fst_zip];omega,fun x hx=>?_⟩ _ w FF _ _ hag1 hs (fun a2 w2 cY H2 q k1 k2 k3 k4=>?_) (fun _ _ _ _ _ q=>q.elim)
   ·obtain⟨i,hi⟩:=Vo hx;have et:=(Vm.1 hi).1;simp at et;have e:(rs.zip os)[i]? =some (rs[i]'Zo,os[i]'Zo):=by
     rw[Zg ru];simp
    rw[e]at hi;cases hi;exact⟨ops,aA i _ _ (Zg Zo) (Zg Zo)⟩
   ·show c2.wpSIn _ _ _ _ a2 _ w2;refine wpSIn_of_wpIn rfl ?_;refine q none kp od c2 hd3 a2 w2 FF _ k1 k3 (fun e a3 w3 Γ3 H3 q3 j1 j2 j3 j4=>?_);obtain⟨he,vs,Post,e1,e2,e3⟩:=q3;have KY:a3.defers=[]:=by rw[j2,k2,jc,Y9]
    have hb:a3.defers=[]/\∃u2',({u5 with mode:=u2}::cs:List Frame)={u5 with mode:=u2'}::cs/\∃v,(results fn a3.tmps).run P w3=.ok v w3/\(u2'=u2/\∃v' Post,(Ending.returned v)=.returned v'/\Q Post/\Sat w3 (Post.flatten++FF)/\ku w w3):=
     ⟨KY,u2,rfl,_,fV j3 hr j1 e1,rfl,_,Post,rfl,e3,j3.imp e2,k4.trans j4⟩
    rcases he with rfl|rfl <;> exact hb
 cases hu with
 |none=>
  have tZ:recoverD (u5::cs)=none:=by simp[recoverD,Xt]
  simp only[tZ];refine key _ ⟨.returning,?_,rfl⟩;have:u5={u5 with mode:=.returning}:=by cases u5;simp_all
  rw[<- this]
 |some=>
  have tZ:recoverD (u5::cs)=some (rv,{u5 with mode:=.panicking [{v:=rv,recovered:=true}]}::cs):=by simp[recoverD,Xt]
  simp only[tZ];exact key _ ⟨_,rfl,rfl⟩
def Xl(P:Program)(g:Nat)(tC:List Value)(bH:List RV)(Q:Value->SH->Prop):Exit->Env->SH->Prop
 |.panic ch,Γ,H=>∃bm R Q2 u',gI P g tC (.panicking ch) u' bm Q2/\settle u'=.returning/\dX H bm R/\∀Post,Q2 Post->rM bH Q .ret Γ (Post++R)
 |e,Γ,H=>(e=.normal∨e=.ret)/\∃bm R Q2,gI P g tC .returning .returning bm Q2/\dX H bm R/\∀Post,Q2 Post->rM bH Q .ret Γ (Post++R)
def VDP(P:Program)(n:Nat)(bH:List RV)(dr:DR)(post:IC)(Q:Value->SH->Prop):List IC->Env->SH->Prop
 |[],Γ,H=>∃vs,nQ Γ dr.tC=some vs/\VC P n post ((dr.d,.func (.func dr.g) #[] vs.toArray)::Γ) H (Xl P dr.g vs bH Q)
 |x::l,Γ,H=>VC P n x Γ H (bD (fun ay H'=>VDP P n bH dr post Q l ay H') (rM bH Q))
section
variable {P:Program} {n:Nat} {fn:Func} {tmps:Array Value} {FF:List kC} {w0:World}
theorem Mg {kp:Nat->List Nat}{od:Nat->List (List Nat)}{r:List RV}{Q:Value->SH->Prop}(hr:wi P fn.results.toList=some r):∀(l:List IC) (c:Code) (dr:DR) (y:IC),ff P n kp od c=some (l,dr,y)->
 ∀Γ H a w X,VDP P n r dr y Q l Γ H->wA n Γ a->Sat w (H.flatten++(FF++marks X))->a.defers=X.map oD->ku w0 w->
 c.wpIn (yZ none) 0 P (bodyPostM (yZ none) 0 P fn (fun e w'=>∃v Post,e=.returned v/\Q v Post/\Sat w' (Post.flatten++FF)/\ku w0 w')) a w:=by
 intro l
 induction l with
 |nil=>
  intro c dr y hl Γ H a w X hv ha hs hd hk;unfold ff at hl;split at hl
  case h_2=>cases hl
  rename_i p q;split at hl
  case h_2=>
   split at hl <;> cases hl
  rename_i x hx;simp only[Qu]at hl;obtain⟨y',hy,he⟩:=hl;cases he;obtain⟨id,ops,o1,o2,cl,rfl,HY,h1,h2,Tm,cf,hg,hdst⟩:=Ir hx;obtain⟨vs,lJ,hpost⟩:=hv;refine wpIn_seq (wpIn_region_list ?_);rw[HY];obtain⟨g1,g2,g3,g4⟩:=jI h1;have hv1:kT a.eval (.Ab (.func dr.g) [] dr.tC)=some (.func (.func dr.g) #[] vs.toArray):=by
   simp[kT,ha.nQ lJ]
  have bB:(execOp a.eval o1).run P w=.ok (.value (.func (.func dr.g) #[] vs.toArray)) w:=oW (w:=w) (zu a) g1 hv1;have ha1:=ha.ap g3 (.func (.func dr.g) #[] vs.toArray);simp only at ha1 g2;simp only[wpListIn,g4 a,jC,if_true];refine⟨fun _ _=>trivial,?_⟩;rw[Oper.semAt_none,bB];show(if Region.wanted o2 (yielded ops (a.put o1.dst _).tmps)then _ else _);rw[<- g2];have hw:Region.wanted o2 (yielded ops (a.put (some dr.d) (.func (.func dr.g) #[] vs.toArray)).tmps)=true:=by simp[Region.wanted,hg]
  rw[if_pos hw];have NJ:(a.put (some dr.d) (.func (.func dr.g) #[] vs.toArray)).eval (.tmp dr.d)=.func (.func dr.g) #[] vs.toArray:=ha1.ev (by simp[V.ev,V.ap,V.look]);have Y9:(execOp (a.put (some dr.d) (.func (.func dr.g) #[] vs.toArray)).eval o2).run P w=.ok (.defer {target:=.fn (.func dr.g) vs.toArray,args:=#[]}) w:=by
   simp[execOp,h2,resolve,Tm,cf,NJ,Deferred.ofValue]
  refine⟨fun _ _=>trivial,?_⟩;rw[Oper.semAt_none,Y9,Oper.uponIn_defer,hdst];show q.wpIn _ _ _ _ _ w;have hputd:(a.put (some dr.d) (.func (.func dr.g) #[] vs.toArray)).defers=a.defers:=jc ..;refine hpost none kp od _ hy _ w (FF++marks X) _ (fun l e=>by cases e) ⟨ha1.size,ha1.slots⟩ hs (fun e a' w' ay H' Y q k1 k2 k3 k4=>?_);have JD:a'.defers=Y.map oD++({target:=.fn (.func dr.g) vs.toArray,args:=#[]}::X.map oD):=by
   rw[k2];show _++({target:=.fn (.func dr.g) vs.toArray,args:=#[]}::(a.put (some dr.d) (.func (.func dr.g) #[] vs.toArray)).defers)=_;rw[hputd,hd]
  have go:∀(u u':FrameMode) (bm Rr:SH) (Q2:SH->Prop),u≠.run->settle u'=.returning->gI P dr.g vs u u' bm Q2->dX H' bm Rr->(∀Post,Q2 Post->rM r Q .ret ay (Post++Rr))->
   LeavesInM (yZ none) 0 P fn a'.tmps (fun e w'=>∃v Post,e=.returned v/\Q v Post/\Sat w' (Post.flatten++FF)/\ku w0 w') a'.defers u w':=by
   intro u u' bm Rr Q2 hu C2 Sr NZ ep;rw[JD];refine gA (w0:=w0) (FF:=FF++marks X) hu Y w' k3 (hk.trans k4) (fun w2 s2 c2=>?_);refine⟨hu,.inr ⟨Zs,.func dr.g,vs.toArray,dr.g,vs.toArray,rfl,?_,fun _ _=>trivial,?_⟩⟩
   ·simp[invoke,zQ Sr.1]
   ·have xF:Sat w2 (bm.flatten++(Rr.flatten++(FF++marks X))):=by
     rw[<- vf];exact s2.perm (NZ.append_right _)
    refine(Sr.2 (Rr.flatten++(FF++marks X)) w2 xF).mono ?_
    rintro e2 u2 w3 ⟨rfl,v,Post,rfl,im,NY,ri⟩
    show LeavesInM _ _ _ _ _ _ (X.map oD) (settle u2) w3;rw[C2];refine xN hr (ep Post im) k1 ?_ (c2.trans ri);rw[V8,vf];exact NY
  cases e with
  |normal=>
   exact zE8
  |ret=>
   exact zE8
  |panic ch=>
   obtain⟨bm,Rr,Q2,u',Sr,C2,NZ,ep⟩:=q;exact go (.panicking ch) u' bm Rr Q2 Zs C2 Sr NZ ep
  |exit id=>exact absurd q.1 Zs
  |goto l=>exact absurd q.1 Zs
  |outgrown=>exact absurd q.1 Zs
 |cons x l ih=>
  intro c dr y hl Γ H a w X hv ha hs hd hk;unfold ff at hl;split at hl
  case h_2=>cases hl
  rename_i p q;split at hl
  ·simp only[Qu]at hl;obtain⟨y',hy,he⟩:=hl;cases he
  split at hl
  case h_2=>cases hl
  rename_i x' l' d' y' hx hq;cases hl;refine wpIn_seq (hv none kp od _ hx a w (FF++marks X) _ (fun l e=>by cases e) ha hs (fun e a' w' ay H' Y q k1 k2 k3 k4=>?_));have JD:a'.defers=(Y++X).map oD:=by rw[k2,hd];simp
  cases e <;> first
   |exact ih _ _ _ hq ay H' a' w' (Y++X) q k1 k3.marks JD (hk.trans k4)
   |(obtain⟨he,_⟩:=q;simp at he;done)
   |(show LeavesInM _ _ _ _ _ _ a'.defers _ w';rw[JD];exact xN hr q k1 k3.marks (hk.trans k4))
end
theorem aq.JO {P:Program}{kp:Nat->List Nat}{od:Nat->List (List Nat)}{f:Nat}{F:DIR}{args:List Value}{bm:SH}{Q:Value->SH->Prop}(hl:JR P kp od f=some F)(hn:args.length<=F.n)
 (h:VDP P F.n F.bH F.dr F.post Q F.pre (aI 0 args) bm):aq P f args bm Q:=by
 unfold JR at hl;split at hl
 ·cases hl
 rename_i fn tY;split at hl
 ·cases hl
 rename_i c hc;split at hl
 case isFalse=>cases hl
 rename_i oe;split at hl
 case h_2=>cases hl
 rename_i l d y r hb hr;cases hl;refine⟨by simp only[jw,tY,oe,hc];rfl,fun FF w hs=>?_⟩;refine(callsIn_wide (n:=0)).1 (callsIn_of_wp_marks tY hc trivial (Mg hr l c d y hb _ _ _ w [] h ⟨?_,fun t v e=>?_⟩ (by simpa[V.marks]using hs) rfl (.refl w)))
 ·simp at hn|-;omega
 ·exact zAQ
section
variable {ops:Array Oper}
theorem Ew {both:Bool}{rs:List (RO×Oper)}{orders:List (List Nat)}(hlen:rs.length=ops.size)
 (hc:eR both rs ops orders=true) (t:Nat):∃o∈orders,o.Perm (jp ops ops.size t (Array.replicate ops.size false))/\(jp ops ops.size t (Array.replicate ops.size false)).Nodup/\
   o.Pairwise (fun x y=>indep (rs.getD y default) (rs.getD x default)=true∨[x,y].Sublist (jp ops ops.size t (Array.replicate ops.size false))):=by
 simp only[eR,vF]at hc;obtain⟨⟨⟨hb,hd⟩,ho⟩,hp⟩:=hc;have hu:pd ops (Array.replicate ops.size false)=List.range ops.size:=by
  exact zB2
 obtain⟨s1,s2,_⟩:=cT hb ops.size t (Array.replicate ops.size false) Zs (by rw[hu];simp);generalize hl:jp ops ops.size t (Array.replicate ops.size false)=l at s1 s2|-;have Ti:∀{x y:Nat},y < ops.size->x∈(nO ops).getD y []->Ke l x y:=fun hy hx=>hl ▸ Cw hb (Qh _) (oy hx) hy
 have cF:∀i,i∈l↔i < ops.size:=fun i=>by rw[s2,hu];simp
 generalize KY:Es both rs (nO ops) ops.size=d at hd hp;have Za:∀x∈d,x < ops.size:=by
  exact zCR
 have E8:(l.filter (d.contains ·)).Perm d:=by
  exact zBB
 have au:=vZ.1 hp _ (sf E8);simp only[vP,vM,ve]at au;have E4:zd (fun x y=>!((nO ops).getD x []).contains y) (l.filter (d.contains ·))=true:=by
  exact zAD
 rcases au with au|⟨o,Mx,hpo⟩
 ·rw[E4]at au;cases au
 have xD:=vZ.1 ho o Mx;simp only[vF,beq_iff_eq,vZ,decide_eq_true_eq]at xD;obtain⟨⟨o1,o2⟩,o3⟩:=xD;have eZ:o.Perm l:=by
  exact zAI
 refine⟨o,Mx,eZ,s1,?_⟩
 ·exact zAN
theorem S5 {rs:List (RO×Oper)}{orders:List (List Nat)}(hlen:rs.length=ops.size)
 (hc:oE rs ops orders=true) (t:Nat):∃o∈orders,o.Perm (jp ops ops.size t (Array.replicate ops.size false))/\(jp ops ops.size t (Array.replicate ops.size false)).Nodup/\
   o.Pairwise (fun x y=>indep (rs.getD y default) (rs.getD x default)=true∨[x,y].Sublist (jp ops ops.size t (Array.replicate ops.size false))):=by
 unfold oE at hc;rcases vQ.1 hc with hc|hc
 ·exact Ew hlen hc t
 ·exact Ew hlen hc t
theorem RH {x y c:Nat}{l1 l2:List Nat}(hn:(l1++c::l2).Nodup)(hx:x∈l1)(hy:y∈l1)(h:[x,y].Sublist (l1++c::l2)):[x,y].Sublist l1:=by
 rw[List.sublist_append_iff]at h;obtain⟨a,b,e,ha,hb⟩:=h;have hd:=(QM.1 hn).2.2;have hb0:b=[]:=by
  cases b with
  |nil=>rfl
  |cons z b=>
   have hz:z∈[x,y]:=by rw[e];simp
   have hz1:z∈l1:=by simp only[QC,List.not_mem_nil,or_false]at hz;rcases hz with rfl|rfl <;> assumption
   exact absurd rfl (hd z hz1 z (hb.subset Zs))
 subst hb0;rw[vg]at e;rw[e];exact ha
theorem F3 {P:Program}{n:Nat}{X:Nat->RO×Oper}{Z:Exit->Act->World->Prop}{Q:Act->World->Prop}{c:Nat}{l1 l2 o:List Nat}(hp:o.Perm (l1++c::l2))(hn:(l1++c::l2).Nodup)(hg:∀i∈l1++c::l2,Good P n ops (X i))
 (E2:o.Pairwise (fun x y=>indep (X y) (X x)=true∨[x,y].Sublist (l1++c::l2))) {a:Act} {w:World}
 (h:cp P wP (cp P Z (fun _ _=>False) [X c]) ((o.filter (l1.contains ·)).map X) a w):cp P Z Q ((l1++c::l2).map X) a w:=by
 have K4:=(QM.1 hn).1;have dR:o.Nodup:=hp.nodup_iff.2 hn;have hp1:(o.filter (l1.contains ·)).Perm l1:=by
  refine(QS (dR.filter _) K4).2 fun x=>?_
  simp only[QF,vm,hp.mem_iff];exact⟨fun h=>h.2,fun h=>⟨by simp[h],h⟩⟩
 have h1:=reorder (P:=P) (n:=n) (ops:=ops) l1 _ hp1 K4 (fun i hi=>hg i (Zw _ hi)) ((E2.filter _).imp_of_mem fun {x y} hx hy h=>by
  rcases h with h|h
  ·exact .inl h
  ·simp only[QF,vm]at hx hy;exact .inr (RH hn hx.2 hy.2 h)) h
 have h2:cp P Z (cp P Z (fun _ _=>False) [X c]) (l1.map X) a w:=Cq h1;rw[Q5,Q7];have app:∀(u v:List (RO×Oper)) (a:Act) (w:World),cp P Z (cp P Z Q v) u a w->cp P Z Q (u++v) a w:=by
  intro u v
  induction u with
  |nil=>intro a w h;exact h
  |cons x u ih=>intro a w h;exact eL (fun a w h=>ih a w h) h
 refine app _ _ _ _ (GO (fun a w hc=>?_) h2);exact eL (fun a w (hf:False)=>hf.elim) hc
end
def Dy(x:RO):List Nat:=cE x.guard++cO (iN x.op)
def Az(bg cd:List Nat):List Nat->List (RO×Bool)->List (List RO)
 |_,[]=>[[]]
 |skip,(x,late)::r=>
  (if(kd x.op||!late)&&!(kd x.op||jF x.op)||(Dy x).all (fun t=>!skip.contains t&&!(late&&cd.contains t))&&(kd x.op||!late)then(Az bg cd skip r).map (x::·)else [])++
  (if late||kd x.op&&(nV x.dst).all (fun d=>!bg.contains d)then Az bg cd (nV x.dst++skip) r else [])
where
 nV (d:Option Nat):List Nat:=d.toList
theorem ON {bg cd:List Nat}(p:Nat->Bool)(X:Nat->RO)(late:Nat->Bool):∀(o:List Nat) (skip:List Nat),
 (∀i∈o,p i=true->(kd (X i).op||!late i)=true)->
 (∀i∈o,p i=false->late i=false->kd (X i).op=true)->
 (∀i∈o,p i=false->late i=false->∀d,(X i).dst=some d->d∉bg)->
 (∀i∈o,p i=true->(kd (X i).op||jF (X i).op)=true->∀t∈Dy (X i),t∉skip/\(late i=true->t∉cd))->
 o.Pairwise (fun i j=>p i=false->p j=true->(kd (X j).op||jF (X j).op)=true->∀d,(X i).dst=some d->d∉Dy (X j))->
 (o.filter p).map X∈Az bg cd skip (o.map fun i=>(X i,late i)):=by
 intro o
 induction o with
 |nil=>intro skip _ _ _ _ _;simp[Az]
 |cons i o ih=>
  intro skip h1 h2 h3 h4 h5;rw[List.pairwise_cons]at h5;simp only[Q7,Az,QA];cases hp:p i with
  |true=>
   left;have hr:=h1 i Zs hp;rw[if_pos,List.filter_cons_of_pos hp,Q7]
   ·exact QH.2 ⟨_,ih skip (fun j hj=>h1 j (by simp[hj])) (fun j hj=>h2 j (by simp[hj])) (fun j hj=>h3 j (by simp[hj])) (fun j hj=>h4 j (by simp[hj])) h5.2,rfl⟩
   ·cases hq:(kd (X i).op||jF (X i).op)with
    |false=>simp[hr]
    |true=>
     have:=h4 i Zs hp hq;rw[hr];simp only[Bool.not_true,Bool.and_false,vL,Bool.and_true,vZ,vM];intro t ht;have:=this t ht;cases hl:late i <;> simp_all
  |false=>
   right;rw[if_pos,List.filter_cons_of_neg (by simp[hp])]
   ·refine ih _ (fun j hj=>h1 j (by simp[hj])) (fun j hj=>h2 j (by simp[hj])) (fun j hj=>h3 j (by simp[hj])) (fun j hj pj q t ht=>⟨fun hm=>?_,(h4 j (by simp[hj]) pj q t ht).2⟩) h5.2;rcases QA.1 hm with hm|hm
    ·have hd:(X i).dst=some t:=by simpa[Az.nV]using hm
     exact h5.1 j hj hp pj q t hd ht
    ·exact(h4 j (by simp[hj]) pj q t ht).1 hm
   ·cases hl:late i with
    |true=>rfl
    |false=>
     have hr:=h2 i Zs hp hl;rw[hr];simp only[vS,vL,vZ,vM];intro d hd;have Xq:(X i).dst=some d:=by simpa[Az.nV]using hd
     have:=h3 i Zs hp hl d Xq;simpa using this
theorem dC {x y:RO×Oper}(h:indep x y=true):rB x y=true/\rB y x=true/\(kd x.1.op||kd y.1.op||(jF x.1.op&&jF y.1.op)||(mf x.1.op&&jF y.1.op))=true:=by
 simp only[indep,vF]at h;exact⟨h.1.1,h.1.2,h.2⟩
theorem VC.Ng {P:Program}{n:Nat}{Γ:Env}{H:SH}{Q:Exit->Env->SH->Prop}{rj:List (List RO)}{aU:List Nat}
 (h:∀rs∈rj,∃pre d f xs post,rs=pre++⟨d,none,.call f xs⟩::post/\∀S∈Az (cO xs) d.toList [] (pre.map (fun x=>(x,false))++post.map (fun x=>(x,true))),
   VO P n S Γ H (fun _ _ _=>False) fun ay H'=>VO P n [⟨d,none,.call f xs⟩] ay H' (fun ch _ lH=>Q (.panic ch) [] lH) (fun _ _=>False)):VC P n (.draw rj aU) Γ H Q:=by
 intro ρ kp od code hl a w F QQ hr ha hs hh;obtain⟨id,ops,rs,rfl,h1,hm,hc,rfl,rfl⟩:=je hl;have hlen:=(wF h1).1;refine wpIn_region_draw (fun t=>?_);have xH:Region.schedule (P.follows .mixedOrders) ops t=jp ops ops.size t (Array.replicate ops.size false):=by simp[Region.schedule,hm,Region.linearise,jp]
 rw[xH];have hu:pd ops (Array.replicate ops.size false)=List.range ops.size:=by
  exact zB2
 have dY:wy ops=true:=by
  exact zEE
 have cF:=(cT dY ops.size t (Array.replicate ops.size false) Zs (by rw[hu];simp)).2.1;refine il (P:=P) (ρ:=ρ) (n:=n) (ops:=ops) (X:=fun i=>(rs.zip ops.toList).getD i default) (QQ:=QQ) (fun i hi=>?_) _ a _ (fun i hi=>by rw[cF,hu]at hi;simpa using hi) ?_
 ·exact zDD
 obtain⟨o,Mx,eZ,Mw,E2⟩:=S5 (rs:=rs.zip ops.toList) (by simp[hlen]) hc t;obtain⟨pre,d,f,xs,post,e,hS⟩:=h (o.map fun i=>rs.getD i default) (QH.2 ⟨o,Mx,rfl⟩);have aO:∀i∈o,i < ops.size:=fun i hi=>by have:=eZ.mem_iff.1 hi;rw[cF,hu]at this;simpa using this
 generalize jp ops ops.size t (Array.replicate ops.size false)=l at eZ Mw E2 cF|-;obtain⟨o1,oc,rfl,e1,e2⟩:=List.map_eq_append_iff.1 e;obtain⟨ci,o2,rfl,e3,e4⟩:=List.map_eq_cons_iff.1 e2;obtain⟨l1,l2,rfl⟩:=List.append_of_mem (eZ.mem_iff.1 (show ci∈o1++ci::o2 by simp));have dR:(o1++ci::o2).Nodup:=eZ.nodup_iff.2 Mw;refine F3 (n:=n) (ops:=ops) (o:=o1++ci::o2) eZ Mw (fun i hi=>?_) E2 ?_
 ·obtain⟨g1,g2,g3⟩:=zC h1 (aO i (eZ.mem_iff.2 hi));exact Good.O7 g3
 have xy:∀i∈o1++ci::o2,((rs.zip ops.toList).getD i default).1=rs.getD i default:=fun i hi=>(zC h1 (aO i hi)).2.1
 have hpc:l1.contains ci=false:=by
  have:=(QM.1 Mw).2.2;cases So:l1.contains ci with
  |false=>rfl
  |true=>exact absurd rfl (this ci (vm.1 So) ci Zs)
 have hfil:(o1++ci::o2).filter (l1.contains ·)=(o1++o2).filter (l1.contains ·):=by
  simp only[vx,vy,hpc,vK,↓reduceIte]
 have hdj:∀i∈o1,i∉o2:=fun i h1 h2=>(QM.1 dR).2.2 i h1 i (by simp[h2]) rfl
 have CX:(o1++o2).map (fun i=>(rs.getD i default,o2.contains i))=pre.map (fun x=>(x,false))++post.map (fun x=>(x,true)):=by
  rw[<- e1,<- e4,Q5,Q8,Q8]
  congr 1
  ·refine Q6 fun i hi=>?_
   simp[hdj i hi]
  ·refine Q6 fun i hi=>?_
   simp[hi]
 have bW:((o1++o2).filter (l1.contains ·)).map (fun i=>rs.getD i default)∈Az (cO xs) d.toList [] (pre.map (fun x=>(x,false))++post.map (fun x=>(x,true))):=by
  rw[<- CX];have hXc:((rs.zip ops.toList).getD ci default).1=⟨d,none,.call f xs⟩:=by rw[xy ci Zs,e3]
  have tN:kz P ((rs.zip ops.toList).getD ci default).2.op=some (.call f xs):=by
   obtain⟨g1,g2,g3⟩:=zC h1 (aO ci Zs);have:=(jI g3).1;rw[hXc]at this;exact this
  have hndl:∀x∈l1,x∉ci::l2:=fun x h1 h2=>(QM.1 Mw).2.2 x h1 x h2 rfl
  have ncl:ci∉l1:=fun h=>by simp[h]at hpc
  have RG:∀{x y:Nat},[x,y].Sublist (l1++ci::l2)->y∈ci::l1->x∈l1:=by
   intro x y hxy hy;have hb:=uE Mw hxy;by_cases hx:x∈l1
   ·exact hx
   ·exfalso;have:=hb.2.2;rw[List.idxOf_append,if_neg hx]at this;rcases QC.1 hy with rfl|hy
    ·rw[List.idxOf_append,if_neg ncl]at this;have h0:List.idxOf y (y::l2)=0:=List.idxOf_cons_self;omega
    ·have h2:=List.idxOf_lt_length_of_mem hy;rw[List.idxOf_append,if_pos hy]at this;omega
  have hp1:=List.pairwise_append.1 E2;have sU:=List.pairwise_cons.1 hp1.2.1;refine ON (l1.contains ·) (fun i=>rs.getD i default) (fun i=>o2.contains i) (o1++o2) [] ?_ ?_ ?_ ?_ ?_
  ·intro i hi hp;have hp:=vm.1 hp;by_cases h2:i∈o2
   ·have hA:=dC ((sU.1 i h2).resolve_right fun q=>ncl (RG q (by simp[hp])));have h3:=hA.2.2;rw[hXc,xy i (by simp[h2])]at h3;have h4:kd (rs.getD i default).op=true:=by simpa[kd,jF]using h3
    show(kd (rs.getD i default).op||!o2.contains i)=true;rw[h4];rfl
   ·show(kd (rs.getD i default).op||!o2.contains i)=true;simp[h2]
  ·intro i hi hp hl;have h2:i∈o1:=by
    rcases QA.1 hi with h|h
    ·exact h
    ·simp[h]at hl
   have hp:i∉l1:=fun h=>by simp[h]at hp
   have hB:=dC ((hp1.2.2 i h2 ci Zs).resolve_right fun q=>hp (RG q Zs));have h3:=hB.2.2;rw[hXc,xy i (by simp[h2])]at h3;simp[kd,jF,mf]at h3;exact h3
  ·intro i hi hp hl dd hd hm;have h2:i∈o1:=by
    rcases QA.1 hi with h|h
    ·exact h
    ·simp[h]at hl
   have hp:i∉l1:=fun h=>by simp[h]at hp
   have hB:=dC ((hp1.2.2 i h2 ci Zs).resolve_right fun q=>hp (RG q Zs));refine(zN hB.2.1 dd (by rw[xy i (by simp[h2])];exact hd)).1 ?_;obtain⟨c,So,oa,hc3,_⟩:=pW tN;unfold looks;rw[hXc,So];simp only[kd,jF,vR,vK,↓reduceIte,cE,QL,Op.operands,Call.operands,oa,Array.toList_append,hc3];unfold cO at hm|-;rw[List.filterMap_append];exact QB _ hm
  ·intro i hi hp hq tt ht;refine⟨Zs,fun hl=>?_⟩;have hp:=vm.1 hp;have h2:i∈o2:=vm.1 hl;have hA:=dC ((sU.1 i h2).resolve_right fun q=>ncl (RG q (by simp[hp])));intro hd;have Xq:d=some tt:=by simpa using hd
   have:=(zN hA.2.1 tt (by rw[hXc];exact Xq)).1;unfold looks at this;rw[xy i (by simp[h2])]at this;simp only[hq,↓reduceIte]at this;exact this ht
  ·have hpw2:(o1++o2).Pairwise (fun x y=>indep ((rs.zip ops.toList).getD y default) ((rs.zip ops.toList).getD x default)=true∨[x,y].Sublist (l1++ci::l2)):=E2.sublist (List.Sublist.append_left (QW _ _) _);refine hpw2.imp_of_mem fun {i j} hi hj h pi pj hq dd hd hm=>?_
   have pj:=vm.1 pj;have pi:i∉l1:=fun h=>by simp[h]at pi
   have mem:∀{x:Nat},x∈o1++o2->x∈o1++ci::o2:=fun {x} h=>by
    rcases QA.1 h with h|h <;> simp[h]
   have hA:=dC (h.resolve_right fun q=>pi (RG q (by simp[pj])));have:=(zN hA.2.1 dd (by rw[xy i (mem hi)];exact hd)).1;unfold looks at this;rw[xy j (mem hj)]at this;simp only[hq,↓reduceIte]at this;exact this hm
 rw[hfil];refine hS _ bW _ ⟨?_,?_⟩ a {w with drawn:=w.drawn+1} F _ _ ha (hs.drawn _) (fun a' w' ay H' q g1 g2 g3 g4=>?_) (fun _ _ _ _ _ q=>q.elim)
 ·rw[Q8];refine Q6 fun i hi=>xy i ?_
  exact zE0
 ·intro x hx;obtain⟨i,hi,rfl⟩:=QH.1 hx;have cj:i∈o1++ci::o2:=by
   exact zE0
  obtain⟨g1,g2,g3⟩:=zC h1 (aO i cj);exact⟨ops,g3⟩
 ·refine q [(rs.zip ops.toList).getD ci default] ⟨?_,?_⟩ a' w' F _ _ g1 g3 (fun _ _ _ _ q=>q.elim) (fun ch a2 w2 cY H2 q2 k1 k2 k3 k4=>hh (.panic ch) a2 w2 [] H2 [] q2 ⟨k1.size,fun t v e=>by cases e⟩ (by rw[k2,g2];rfl) k3.df (((ku.refl w).drawn _).trans (g4.trans k4)))
  ·show [((rs.zip ops.toList).getD ci default).1]=_;rw[xy ci Zs,e3]
  ·intro x hx;rw[QK.1 hx];obtain⟨g1,g2,g3⟩:=zC h1 (aO ci Zs);exact⟨ops,g3⟩
end Go.V

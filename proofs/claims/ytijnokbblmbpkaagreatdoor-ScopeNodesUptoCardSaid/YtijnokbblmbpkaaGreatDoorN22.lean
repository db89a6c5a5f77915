/-
  A tree without its places: what looking at it comes to, what is the same.
-/
import Derived.Test.YtijnokbblmbpkaaGreatDoorN7
import Derived.Test.YtijnokbblmbpkaaGreatDoorN21
import Derived.Test.YtijnokbblmbpkaaGreatDoorN11
import Derived.Test.YtijnokbblmbpkaaGreatDoorN17
set_option linter.all false
namespace Go.V
open Go
theorem AJ(x:Nd):x.bare.kind=x.kind:=by cases x;rfl
theorem KK(x:Nd):x.bare.name=x.name:=by cases x;rfl
theorem uS:∀l:List Nd,Nd.DU l=l.map Nd.bare:=by
 intro l
 induction l with
 |nil=>rfl
 |cons x r ih=>simp only[Nd.DU,ih,Q3]
theorem fU(x:Nd)(p:Nat)(r:Rs):jm x.bare p r=jm x p r:=by
 cases x;rfl
theorem lT(x:Nd)(s:ByteArray)(r:Rs):ze x.bare s r=ze x s r:=by
 cases x;rfl
theorem zA(p:Nat):∀(l:List Nd) (rs:List Rs),zo p (l.map Nd.bare) rs=zo p l rs:=by
 intro l
 induction l with
 |nil=>intro rs;rfl
 |cons x r ih=>
  intro rs;cases rs with
  |nil=>rfl
  |cons q rs=>simp only[Q3,zo,ih,fU]
theorem Iu:∀(l:List Nd) (rs:List Rs),oh (l.map Nd.bare) rs=oh l rs:=by
 intro l
 induction l with
 |nil=>intro rs;rfl
 |cons x r ih=>
  intro rs;cases rs with
  |nil=>rfl
  |cons q rs=>simp only[Q3,oh,ih,AJ]
theorem dS:∀(l:List Nd) (rs:List Rs),wP (l.map Nd.bare) rs=wP l rs:=by
 intro l
 induction l with
 |nil=>intro rs;rfl
 |cons x r ih=>
  intro rs;cases r with
  |nil=>
   cases rs with
   |nil=>rfl
   |cons q rs=>simp only[Q3,Q6,wP,AJ,fU]
  |cons y r=>
   cases rs with
   |nil=>rfl
   |cons q rs=>
    have:=ih rs;simp only[Q3]at this|-;simp only[wP,fU,this]
theorem z7(s:ByteArray)(l:List Nd)(rs:List Rs):gE s (l.map Nd.bare) rs=gE s l rs:=by
 simp only[gE,Vv,zA]
theorem Iz(k:Nat)(s:ByteArray)(lit:Lt)(args ab:List ByteArray)(kids:List Nd)(rs:List Rs):jU k s lit args ab (kids.map Nd.bare) rs=jU k s lit args ab kids rs:=by
 match kids,rs with
 |[],rs=>rfl
 |[x],[]=>simp only[jU,Q3,Q6,<- zA 1 [x],<- dS [x],<- z7 s [x],Vp,Vw]
 |[x],[r]=>simp only[jU,Q3,Q6,<- zA 1 [x],<- dS [x],<- z7 s [x],<- z7 s [],<- fU x,<- lT x,Vp,Vw]
 |[x],r::q::rs=>simp only[jU,Q3,Q6,<- zA 1 [x],<- dS [x],<- z7 s [x],<- z7 s [],<- lT x,Vp,Vw]
 |x::y::l,[]=>
  have h1:=zA 1 (x::y::l) [];have h2:=dS (x::y::l) [];have h3:=z7 s (x::y::l) [];simp only[Q3]at h1 h2 h3|-;simp only[jU,h1,h2,h3,Vp,Vv]
 |x::y::l,r::rs=>
  have h1:=zA 1 (x::y::l) (r::rs);have h2:=dS (x::y::l) (r::rs);have h3:=z7 s (x::y::l) (r::rs);have h4:=z7 s (y::l) rs;have h5:=Iu (y::l) rs;simp only[Q3]at h1 h2 h3 h4 h5|-;simp only[jU,h1,h2,h3,h4,h5,lT,KK,Vp,Vv]
theorem nodeD_bare:∀(N:Nat) (x:Nd),x.w<=N->kN x.bare=kN x:=by
 intro N
 induction N with
 |zero=>intro x hx;have:=x.fw;omega
 |succ N ih=>
  intro x hx;cases x with
  |mk k s lit args ab kids p=>
  simp only[Nd.w]at hx;have hk:wh (Nd.DU kids)=wh kids:=by
   rw[jZ,jZ,uS,Q5];exact Q1 fun y hy=>ih y (by have:=Nd.bY hy;omega)
  rw[uS]at hk;simp only[Nd.bare,kN,uS,Iz,hk]
theorem Ie:∀(N:Nat) (x:Lt),x.size<=N->eo x x=true:=by
 intro N
 induction N with
 |zero=>intro x hx;have:=x.size_pos;omega
 |succ N ih=>
  intro x hx;cases x with
  |mk k n b t items=>
  simp only[Lt.size]at hx;have:eY items items=true:=(iC items items).2 ⟨rfl,fun j x y e1 e2=>by
   rw[e1]at e2;cases e2;exact ih x (by have:=Lt.aH (Zv e1);omega)⟩
  simp[eo,this]
mutual
def tM:Nd->Nd->Bool
 |.mk k s l a t ks p,.mk k' s' l' a' t' ks' p'=>decide (k=k')&&decide (s=s')&&decide (a=a')&&decide (t=t')&&eo l l'&&decide (p=p')&&gV ks ks'
def gV:List Nd->List Nd->Bool
 |[],[]=>true
 |x::r,y::q=>tM x y&&gV r q
 |_,_=>false
end
theorem nh:∀l l':List Nd,gV l l'=true↔l.length=l'.length/\∀(j:Nat) x y,l[j]? =some x->l'[j]? =some y->tM x y=true:=by
 intro l
 induction l with
 |nil=>
  intro l';cases l' with
  |nil=>simp[gV]
  |cons y r=>simp[gV]
 |cons x r ih=>
  intro l';cases l' with
  |nil=>simp[gV]
  |cons y q=>
   simp only[gV,vF,ih q,Vp];constructor
   ·exact zB9
   ·exact zC7
theorem E7 {l l':List Nd}{j:Nat}{x y:Nd}(h1:l[j]? =some x)(h2:l'[j]? =some y)(h:tM x y=false):gV l l'=false:=
 vH.2 fun e=>by have:=((nh l l').1 e).2 j x y h1 h2;rw[h]at this;cases this
theorem LW {l l':List Nd}(h:l.length≠l'.length):gV l l'=false:=vH.2 fun e=>h ((nh l l').1 e).1
theorem LU:∀(N:Nat) (x:Nd),x.w<=N->tM x x=true:=by
 intro N
 induction N with
 |zero=>intro x hx;have:=x.fw;omega
 |succ N ih=>
  intro x hx;cases x with
  |mk k s lit args ab kids p=>
  simp only[Nd.w]at hx;have hl:=Ie _ lit (Qj _);have h3:gV kids kids=true:=(nh _ _).2 ⟨rfl,fun j x y e1 e2=>by
   rw[e1]at e2;cases e2;exact ih x (by have:=Nd.bY (Zv e1);omega)⟩
  simp[tM,h3,hl]
inductive yC:Lt->List Value->List kB->Prop
 |mk {k:Nat} {n:Int} {b:Nat} {t:ByteArray} {items:List Lt} {sv:Value} {rows:List (List Value)} {sp:List Value} {Ls:Nat->List kB} {L:List kB} (bh:kY 5 sv items.length rows.flatten sp) (hl:rows.length=items.length) (h5:∀r∈rows,r.length=5)
   (hr:∀(i:Nat) x r,items[i]? =some x->rows[i]? =some r->yC x r (Ls i)) (wf:DM k n b t items.length) (hL:L.Perm (ai sv rows.flatten sp++(List.range items.length).flatMap Ls)):yC (.mk k n b t items) [cv k,vi n,uv b,.string t,sv] L
def ed(v:Value)(l:List ByteArray)(L:List kB):Prop:=∃sp,kY 1 v l.length (l.map Value.string) sp/\L=ai v (l.map Value.string) sp/\l.length<=1099511627776/\∀t∈l,t.size<=140737488355328
inductive dt:Nd->List Value->List kB->Prop
 |mk {k:Nat} {s:ByteArray} {lit:Lt} {args ab:List ByteArray} {kids:List Nd} {p:Int} {lv:List Value} {av tv sv:Value} {rows:List (List Value)} {sp:List Value} {Ls:Nat->List kB} {LL LA LT L:List kB} (bh:kY 11 sv kids.length rows.flatten sp) (hl:rows.length=kids.length) (Hw:∀r∈rows,r.length=11)
   (hr:∀(i:Nat) x r,kids[i]? =some x->rows[i]? =some r->dt x r (Ls i)) (wf:G5 k s kids.length p) (aI:yC lit lv LL) (bB:ed av args LA) (bu:ed tv ab LT)
   (hL:L.Perm (LL++(LA++(LT++(ai sv rows.flatten sp++(List.range kids.length).flatMap Ls))))):dt (.mk k s lit args ab kids p) ([cv k,.string s]++lv++[av,tv,sv,vi p]) L
theorem yC.rd {x:Lt}{vs:List Value}{L:List kB}(h:yC x vs L):zN L x vs:=by
 induction h with
 |@mk k n b t items sv rows sp Ls L bh hl h5 hr wf hL ih=>
  have:=Wa (B:=(List.range items.length).flatMap Ls) (k:=k) (n:=n) (b:=b) (t:=t) bh hl h5 (fun i x r e1 e2=>(ih i x r e1 e2).more fun z hz=>QD.2 ⟨i,QG.2 (Vh.1 e1).1,hz⟩) wf;exact this.more fun z hz=>hL.symm.subset hz
theorem ed.rd {v:Value}{l:List ByteArray}{L:List kB}(h:ed v l L):du L v l:=by
 obtain⟨sp,h1,rfl,h3,h4⟩:=h;exact cU rfl h1 h3 h4
theorem dt.rd {x:Nd}{vs:List Value}{L:List kB}(h:dt x vs L):j7 L x vs:=by
 induction h with
 |@mk k s lit args ab kids p lv av tv sv rows sp Ls LL LA LT L bh hl Hw hr wf aI bB bu hL ih=>
  have:=Wl (B:=LL++(LA++(LT++(List.range kids.length).flatMap Ls))) bh hl Hw (fun i x r e1 e2=>(ih i x r e1 e2).more fun z hz=>by
   simp only[Q7];exact .inr (.inr (.inr (QD.2 ⟨i,QG.2 (Vh.1 e1).1,hz⟩)))) wf (aI.rd.more fun z hz=>by simp[hz]) (bB.rd.more fun z hz=>by simp[hz]) (bu.rd.more fun z hz=>by simp[hz])
  refine this.more fun z hz=>hL.symm.subset ?_
  simp only[Q7]at hz|-;rcases hz with h|h|h|h|h
  ·exact .inr (.inr (.inr (.inl h)))
  ·exact .inl h
  ·exact .inr (.inl h)
  ·exact .inr (.inr (.inl h))
  ·exact .inr (.inr (.inr (.inr h)))
theorem dt.perm {x:Nd}{vs:List Value}{L M:List kB}(h:dt x vs L)(hp:M.Perm L):dt x vs M:=by
 cases h with
 |mk bh hl Hw hr wf aI bB bu hL=>exact .mk bh hl Hw hr wf aI bB bu (hp.trans hL)
theorem I6 {P:Program}{n:Nat}{rs:List RO}{Γ:Env}{H:SH}{Z:List PanicEntry->Env->SH->Prop}{K:Env->SH->Prop}{d:Option Nat}{t:TypeId}{size bytes:Nat}{zero:List Value}{s x:Operand}{a:Option Addr}{c2:Nat}
 (hs:ev Γ s=some Nz) (hx:ev Γ x=some (.slice a 0 c2)) (h:VO P n rs (ak d Nz Γ) H Z K):VO P n (⟨d,none,.append t size bytes zero s x⟩::rs) Γ H Z K:=by
 refine VO.Tv rfl rfl (fun ρ aG=>⟨_,rfl,?_⟩);rw[aG _ _ hs,aG _ _ hx];simp only[cR];rw[if_pos (show 0+0<=0 by omega)];cases a with
 |none=>
  refine az.bind (az.pure ?_);exact az.pure ⟨_,H,[],.inl rfl,Zs,h⟩
 |some ad=>
  have e0:(Builtin.firstCells size 0 (.slice (some ad) 0 c2):Sem (Array Value))=pure #[]:=by
   simp only[Builtin.firstCells,Qt];rfl
  rw[e0];refine az.bind (az.pure ?_);exact az.pure ⟨_,H,[],.inl rfl,Zs,h⟩
theorem K6(Ls:Nat->List kB)(L':List kB)(j:Nat):∃Ls':Nat->List kB,(∀i,i < j->Ls' i=Ls i)/\Ls' j=L'/\(List.range (j+1)).flatMap Ls'=(List.range j).flatMap Ls++L':=by
 refine⟨fun i=>if i < j then Ls i else L',fun i hi=>if_pos hi,if_neg (Nat.lt_irrefl _),?_⟩;rw[List.range_succ,vx];simp only[vy,List.flatMap_nil,vd,Nat.lt_irrefl,if_false]
 congr 1
 rw[vz,vz]
 congr 1
 exact Q1 fun i hi=>if_pos (QG.1 hi)
def dT(l:List Lt)(rows:List (List Value))(K:List kB):Prop:=rows.length=l.length/\(∀r∈rows,r.length=5)/\∃Ls,K=(List.range l.length).flatMap Ls/\∀(i:Nat) x r,l[i]? =some x->rows[i]? =some r->yC x r (Ls i)
def ik(l:List Nd)(rows:List (List Value))(K:List kB):Prop:=rows.length=l.length/\(∀r∈rows,r.length=11)/\∃Ls,K=(List.range l.length).flatMap Ls/\∀(i:Nat) x r,l[i]? =some x->rows[i]? =some r->dt x r (Ls i)
theorem dT.nil:dT [] [] []:=⟨rfl,fun r hr=>(by cases hr),fun _=>[],rfl,fun i x r h=>(by simp at h)⟩
theorem ik.nil:ik [] [] []:=⟨rfl,fun r hr=>(by cases hr),fun _=>[],rfl,fun i x r h=>(by simp at h)⟩
theorem ux {α:Type}{l:List α}{z x:α}{i:Nat}(h:(l++[z])[i]? =some x):(i < l.length/\l[i]? =some x)∨(i=l.length/\x=z):=by
 have hi:=(Vh.1 h).1;rw[Vo,Vy]at hi;by_cases e:i < l.length
 ·rw[VV e]at h;exact .inl ⟨e,h⟩
 ·have:i=l.length:=by omega
  subst this;rw[Va (Qj _),Qp]at h;simp only[Vc,X1]at h;exact .inr ⟨rfl,h.symm⟩
theorem dT.snoc {l:List Lt}{rows:List (List Value)}{K:List kB}(h:dT l rows K){x:Lt}{r:List Value}{L:List kB}(hx:yC x r L):dT (l++[x]) (rows++[r]) (K++L):=by
 exact zAT
theorem ik.snoc {l:List Nd}{rows:List (List Value)}{K:List kB}(h:ik l rows K){x:Nd}{r:List Value}{L:List kB}(hx:dt x r L):ik (l++[x]) (rows++[r]) (K++L):=by
 exact zAT
theorem yC.of {k:Nat}{n:Int}{b:Nat}{t:ByteArray}{items:List Lt}{sv:Value}{rows:List (List Value)}{sp:List Value}{K:List kB}(bh:kY 5 sv items.length rows.flatten sp)(h:dT items rows K)(wf:DM k n b t items.length):
 yC (.mk k n b t items) [cv k,vi n,uv b,.string t,sv] (ai sv rows.flatten sp++K):=by
 obtain⟨h1,h2,Ls,rfl,h3⟩:=h;exact .mk bh h1 h2 h3 wf (vW _)
theorem yC.parts {x:Lt}{vs:List Value}{L:List kB}(h:yC x vs L):∃sv rows sp K,vs=[cv x.kind,vi x.n,uv x.bits,.string x.text,sv]/\kY 5 sv x.items.length rows.flatten sp/\dT x.items rows K/\DM x.kind x.n x.bits x.text x.items.length/\L.Perm (ai sv rows.flatten sp++K):=by
 cases h with
 |mk bh hl h5 hr wf hL=>exact⟨_,_,_,_,rfl,bh,⟨hl,h5,_,rfl,hr⟩,wf,hL⟩
theorem dt.of {k:Nat}{s:ByteArray}{lit:Lt}{args ab:List ByteArray}{kids:List Nd}{p:Int}{lv:List Value}{av tv sv:Value}{rows:List (List Value)}{sp:List Value}{LL LA LT K:List kB}(bh:kY 11 sv kids.length rows.flatten sp)(h:ik kids rows K)(wf:G5 k s kids.length p)(aI:yC lit lv LL)(bB:ed av args LA)(bu:ed tv ab LT):
 dt (.mk k s lit args ab kids p) ([cv k,.string s]++lv++[av,tv,sv,vi p]) (LL++(LA++(LT++(ai sv rows.flatten sp++K)))):=by
 obtain⟨h1,h2,Ls,rfl,h3⟩:=h;exact .mk bh h1 h2 h3 wf aI bB bu (vW _)
structure Foc (p9:Nat)(x0:Nd)(M:List kB)(b o:Nat)(x:Nd)(vs:List Value)(L R:List kB):Prop where
 own:dt x vs L
 here:M.Perm (kA b o vs++(L++R))
 w:x.w<=x0.w
 back:∀y ws L',dt y ws L'->oW x y=false->oW y x=false->∃z us Lz,oW x0 z=false/\oW z x0=false/\dt z us Lz/\(kA b o ws++(L'++R)).Perm (kA p9 0 us++Lz)
section
variable {H:Type} {enc:TypeId×Value->H} {P:Program} {bulk:DataW H->Nat}
open Go.ChangeShapes Go.WideShapes Go.Deep
end
end Go.V
namespace Go.Proofs.YtijnokbblmbpkaaGreatDoor
open Go Go.V
set_option maxHeartbeats 3200000
set_option maxRecDepth 100000
theorem xO {A:List kB}{x:Lt}{vs:List Value}(h:zN A x vs):∃(e:Option Addr) (c:Nat),vs=[cv x.kind,vi x.n,uv x.bits,.string x.text,.slice e x.items.length c]:=by
 cases h with
 |mk wf ha hm hr=>exact⟨_,_,rfl⟩
theorem MS(A:List kB):∀(N:Nat) (x:Lt),x.size<=N->x.size<=274877906944->∀vs,zN A x vs->ao Tryz.prog 208 [.agg vs.toArray] [A] (fun v Post=>∃ws B,v=.agg ws.toArray/\yC x ws B/\Post=[A,B]):=by
 intro N
 induction N with
 |zero=>intro x hx;have:=x.size_pos;omega
 |succ N ih=>
  intro x hx hb vs h;cases h with
  |@mk k n b t items a c bk o us wf ha hm hr=>
  simp only[Lt.size]at hx hb;have GM:=Gd items;refine ao.intro low208 (by simp[n208]) ?_;refine ae ?_;refine kW Zr (fun q=>?_);simp only[Value.cells];refine kM (fun q2=>?_);refine ae ?_;refine VC.loop (α:=Nat×Value×List (List Value)×List Value×List kB) (aW:=fun s=>[(1,kE q),(2,kE q2),(9,.slice a items.length c),(10,vi items.length),(11,vi s.1)]) (Hf:=fun s=>[kA q 0 [cv k,vi n,uv b,.string t,s.2.1],ai s.2.1 s.2.2.1.flatten s.2.2.2.1,s.2.2.2.2,kA q2 0 [.int .u8 0,.int .i64 0,.int .u64 0,.string ⟨#[]⟩,Nz],A])
   (I:=fun s=>s.1<=items.length/\kY 5 s.2.1 s.1 s.2.2.1.flatten s.2.2.2.1/\dT (items.take s.1) s.2.2.1 s.2.2.2.2) (μ:=fun s=>items.length - s.1) (0,Nz,[],[],[]) ⟨Qs _,.nil,dT.nil⟩ ZU (aj.cut (M:=[kA q 0 [cv k,vi n,uv b,.string t,Nz],kA q2 0 [.int .u8 0,.int .i64 0,.int .u64 0,.string ⟨#[]⟩,Nz],A]) ZI (aj.perm (by simp[ai]))) ?_
  rintro⟨j,sv,rows,sp,B⟩ ⟨i1,i2,i3⟩
  simp only at i1 i2 i3;dsimp only;obtain⟨sa,sc,rfl⟩:=i2.form;refine ae ?_;by_cases hj:j < items.length;rotate_left
  ·rw[show decide ((j:Int) < (items.length:Int))=false from Zf Zo];have tC:j=items.length:=by omega
   subst tC;rw[Qa]at i3;have bP:=yC.of i2 i3 wf;refine ae ?_;exact⟨.inr rfl,[.agg #[cv k,vi n,uv b,.string t,.slice sa items.length sc]],[A,ai (.slice sa items.length sc) rows.flatten sp++B],.aS (us:=[cv k,vi n,uv b,.string t,.slice sa items.length sc]) Zr Zr (fun y hy=>by simp only[V6,Q7];repeat (first|exact Or.inl hy|refine Or.inr ?_)) .nil,aj.cut (M:=[A,ai (.slice sa items.length sc) rows.flatten sp,B]) ZI (aj.perm Zs),⟨_,_,rfl,bP,rfl⟩⟩
  obtain rfl:=ha Zo;rw[show decide ((j:Int) < (items.length:Int))=true from Zt Zo];obtain⟨y,hy⟩:∃y,items[j]? =some y:=⟨_,Zg hj⟩;have lh:=hm j hj;have dD:=hr j y hy;have gh:=Lt.aH (Zv hy);have aU:=ih y Zo Zo (us j) dD;generalize us j=uj at*;obtain⟨e1,c1,rfl⟩:=xO dD;refine ae ?_;refine kS Zr (fun z hz=>by have h9:=lh z hz;simp[h9]) rfl ?_;refine ae ?_;refine kM (fun q5=>?_);refine ae ?_;refine VC.draws ⟨?_,?_,trivial⟩
  all_goals
   refine ae ?_;refine kI aU Zr ZP (fun v Post hv=>?_);obtain⟨ws,B2,rfl,hw,rfl⟩:=hv;simp only[aE];have hwr:=hw.rd;obtain⟨e2,c2,rfl⟩:=xO hwr;have J3:=i3.snoc hw;rw[show items.take j++[y]=items.take (j+1) by rw[QY,hy];rfl]at J3;refine ae ?_;refine kg (out:=[cv y.kind,vi y.n,uv y.bits,.string y.text,.slice e2 y.items.length c2]) Zr Zr (fun r=>?_);refine j8 (k:=j) (m:=1) (xs:=rows.flatten) (sp:=sp) (ys:=[cv y.kind,vi y.n,uv y.bits,.string y.text,.slice e2 y.items.length c2]) Zr Zr i2 ZK Zr ?_ rfl Zr Zr Zd Zo (fun cq aY ax=>?_)
   ·exact AI
   have fJ:rows.flatten++[cv y.kind,vi y.n,uv y.bits,.string y.text,.slice e2 y.items.length c2]=(rows++[[cv y.kind,vi y.n,uv y.bits,.string y.text,.slice e2 y.items.length c2]]).flatten:=by simp
   rw[fJ]at ax|-;obtain⟨va,vc,rfl⟩:=ax.form;refine ae ?_;refine⟨(j+1,.slice va (j+1) vc,rows++[[cv y.kind,vi y.n,uv y.bits,.string y.text,.slice e2 y.items.length c2]],aY,B++B2),⟨by simp only;omega,ax,J3⟩,by simp only;omega,ZU,?_⟩;simp only;refine aj.cut (M:=[kA q 0 [cv k,vi n,uv b,.string t,.slice va (j+1) vc],ai (.slice va (j+1) vc) (rows++[[cv y.kind,vi y.n,uv y.bits,.string y.text,.slice e2 y.items.length c2]]).flatten aY,B,B2,kA q2 0 [.int .u8 0,.int .i64 0,.int .u64 0,.string ⟨#[]⟩,Nz],A]) ZI (aj.perm Zs)
set_option maxHeartbeats 12800000
def oY(k:Int)(nm:ByteArray)(vv kv:Value):List Value:=[.int .u8 k,.string nm,.int .u8 0,.int .i64 0,.int .u64 0,.string e0,Nz,Nz,.int .i64 0,.bool false,Nz,vv,kv]
structure SpS where
 j:Nat
 st:ah
 us:Value
 bC:List Value
 U:List UC
 V:List au
 T:List kB
 sv:Value
 rows:List (List Value)
 sp:List Value
 B:List kB
 W4:List PN
 vv:Value
 lC:List Nat
 Jg:List Value
 rs:List zV
structure Tu (X:Fix)(nm:ByteArray)(l:List Nd)(st:ah)(env:List Nat)(i:Nat)(q:Nat)(Uq Vq:List Nat)(s:SpS):Prop where
 j:s.j<=l.length
 u:∃w,s.U[i]? =some w/\w.q=q
 ok:gB s.st s.us s.bC s.U s.V s.T
 gr:Gr st s.st
 pU:Uq <+:s.U.map UC.q
 pV:Vq <+:s.V.map au.q
 room:Room s.st (jO (l.drop s.j))
 e3:(jB X.F X.G nm l 0 st env i).2.2=(jB X.F X.G nm (l.drop s.j) s.j s.st env i).2.2
 e1:(jB X.F X.G nm l 0 st env i).1=s.W4++(jB X.F X.G nm (l.drop s.j) s.j s.st env i).1
 e2:(jB X.F X.G nm l 0 st env i).2.1=s.rs++(jB X.F X.G nm (l.drop s.j) s.j s.st env i).2.1
 pl:s.W4.length=s.j
 sl:kY 13 s.sv s.j s.rows.flatten s.sp
 rw:zJ s.B (s.V.map au.q) s.W4 s.rows
 vsl:kY 1 s.vv s.lC.length (s.lC.map fun b=>kL (some b)) s.Jg
 raw:∀r∈s.rs,∃v,r=dL v/\v < (s.V.map au.q).length
 lC:s.lC=s.rs.map fun r=>(s.V.map au.q).getD r.index.toNat 0
 few:s.rs.length<=s.j
theorem su {U U':List UC}{i:Nat}{w:UC}(hw:U[i]? =some w)(h:U.map UC.q <+:U'.map UC.q):∃w',U'[i]? =some w'/\w'.q=w.q:=by
 obtain⟨t,ht⟩:=h;have h1:(U.map UC.q)[i]? =some w.q:=by rw[Vi,hw];rfl
 have h2:(U'.map UC.q)[i]? =some w.q:=by rw[<- ht,VV (Vh.1 h1).1];exact h1
 rw[Vi]at h2;exact Qx.1 h2
theorem Bp {qs Aq:List Nat}{rs:List zV}(h:∀r∈rs,∃v,r=dL v/\v < qs.length)(hq:qs <+:Aq):(∀r∈rs,∃v,r=dL v/\v < Aq.length)/\(rs.map fun r=>Aq.getD r.index.toNat 0)=rs.map fun r=>qs.getD r.index.toNat 0:=by
 refine⟨fun r hr=>let⟨v,h1,h2⟩:=h r hr;⟨v,h1,Qm h2 hq.length_le⟩,Q1 fun r hr=>?_⟩;obtain⟨v,rfl,hv⟩:=h r hr;exact zDI
theorem MH {qs:List Nat}{rs:List zV}(h:∀r∈rs,∃v,r=dL v/\v < qs.length):et rs=rs/\wg rs=[]/\zg qs rs:=by
 refine⟨vt.2 fun r hr=>?_,vr.2 fun r hr=>?_,.inl fun r hr=>?_,fun r hr _=>h r hr⟩
 ·obtain⟨v,rfl,_⟩:=h r hr;rfl
 ·obtain⟨v,rfl,_⟩:=h r hr;simp[dL]
 ·obtain⟨v,rfl,_⟩:=h r hr;rfl
section
variable {X:Fix} {nm:ByteArray} {l:List Nd} {st:ah} {env:List Nat} {i q:Nat} {Uq Vq:List Nat} {s:SpS}
theorem Tu.out(h:Tu X nm l st env i q Uq Vq s){y:Nd}(hy:l[s.j]? =some y)(bf:dX nm s.j=false){DG:Value}{ig:List Value}{U2:List UC}{V2:List au}{T2 B2:List kB}(hS:gB (jF X.F X.G y s.st env i).2 DG ig U2 V2 T2)(hU:s.U.map UC.q <+:U2.map UC.q)(hV:s.V.map au.q <+:V2.map au.q)
 {ws:List Value} {pn:PN} (sM:pn=(jF X.F X.G y s.st env i).1) (hn:uJ B2 (V2.map au.q) pn ws) {cq:Value} {aY:List Value} (bh:kY 13 cq (s.j+1) (s.rows++[ws]).flatten aY):
 Tu X nm l st env i q Uq Vq ⟨s.j+1,(jF X.F X.G y s.st env i).2,DG,ig,U2,V2,T2,cq,s.rows++[ws],aY,s.B++B2,s.W4++[pn],s.vv,s.lC,s.Jg,s.rs⟩:=by
 subst sM;have aI:=(Vh.1 hy).1;have OO:l.drop s.j=y::l.drop (s.j+1):=by
  exact zDH
 obtain⟨h1,h2,h3,h4,h5,h6,h7,h8,h9,Dz,Hw,Nj,h13,h14,h15,X4,h17⟩:=h;rw[OO]at h7 h8 h9 Dz;simp only[jO]at h7;rw[zi _ _ _ _ _ _ _ _ _ bf]at h8 h9 Dz;have hl:=(mY X.F X.G _ y (Qj _) s.st env i).1;obtain⟨w,hw,pD⟩:=h2;obtain⟨w',rT,hwq'⟩:=su hw hU;obtain⟨r1,r2⟩:=Bp h15 hV;exact⟨aI,⟨w',rT,hwq'.trans pD⟩,hS,h4.trans (zZ X.F X.G _ y (Qj _) s.st env i).1,h5.trans hU,h6.trans hV,h7.less hl,h8,by rw[h9];simp,Dz,by simp[Hw],bh,(h13.more (fun x hx=>Zw _ hx) hV).snoc (hn.more (fun x hx=>Q8 _ hx) (QT _)),h14,r1,X4.trans r2.symm,by simp only;omega⟩
theorem Tu.inn(h:Tu X nm l st env i q Uq Vq s){y:Nd}(hy:l[s.j]? =some y)(bf:dX nm s.j=true){DG:Value}{ig:List Value}{U2:List UC}{V2:List au}{T2 B2:List kB}(hS:gB (cH X.F X.G y s.st env i).2 DG ig U2 V2 T2)(hU:s.U.map UC.q <+:U2.map UC.q)(hV:s.V.map au.q <+:V2.map au.q)
 {ws:List Value} {pn:PN} (sM:pn=(cH X.F X.G y s.st env i).1) (hn:uJ B2 (V2.map au.q) pn ws) {cq:Value} {aY:List Value} (bh:kY 13 cq (s.j+1) (s.rows++[ws]).flatten aY)
 {vv':Value} {SN:List Value} {ME:List Nat} (hp:(kb nm≠5/\vv'=s.vv/\SN=s.Jg/\ME=s.lC)∨(kb nm=5/\s.st.vars.length < (V2.map au.q).length/\ME=s.lC++[(V2.map au.q).getD s.st.vars.length 0]/\kY 1 vv' ME.length (ME.map fun b=>kL (some b)) SN)):
 Tu X nm l st env i q Uq Vq ⟨s.j+1,(cH X.F X.G y s.st env i).2,DG,ig,U2,V2,T2,cq,s.rows++[ws],aY,s.B++B2,s.W4++[pn],vv',ME,SN,s.rs++(if kb nm=5 then [dL s.st.vars.length]else [])⟩:=by
 subst sM;have aI:=(Vh.1 hy).1;have OO:l.drop s.j=y::l.drop (s.j+1):=by
  exact zDH
 obtain⟨h1,h2,h3,h4,h5,h6,h7,h8,h9,Dz,Hw,Nj,h13,h14,h15,X4,h17⟩:=h;rw[OO]at h7 h8 h9 Dz;simp only[jO]at h7;rw[dQ _ _ _ _ _ _ _ _ _ bf]at h8 h9 Dz;have hl:=(mY X.F X.G _ y (Qj _) s.st env i).2;obtain⟨w,hw,pD⟩:=h2;obtain⟨w',rT,hwq'⟩:=su hw hU;obtain⟨r1,r2⟩:=Bp h15 hV;refine⟨aI,⟨w',rT,hwq'.trans pD⟩,hS,h4.trans (zZ X.F X.G _ y (Qj _) s.st env i).2,h5.trans hU,h6.trans hV,h7.less hl,h8,by rw[h9];simp,?_,by simp[Hw],bh,(h13.more (fun x hx=>Zw _ hx) hV).snoc (hn.more (fun x hx=>Q8 _ hx) (QT _)),?_,?_,?_,?_⟩
 ·rw[Dz];simp only;split <;> simp
 ·rcases hp with⟨_,rfl,rfl,rfl⟩|⟨_,_,_,k⟩
  ·exact h14
  ·exact k
 ·intro r hr;rcases Q7.1 hr with hr|hr
  ·exact r1 r hr
  ·rcases hp with⟨k,_⟩|⟨k,k2,_⟩
   ·rw[if_neg k]at hr;cases hr
   ·rw[if_pos k,QI]at hr;exact⟨_,hr,k2⟩
 ·show ME=_;rw[Q0,r2,<- X4];rcases hp with⟨k,_,_,k2⟩|⟨k,_,k2,_⟩
  ·rw[if_neg k,k2];simp
  ·rw[if_pos k,k2];show _=s.lC++[(V2.map au.q).getD ((s.st.vars.length:Int)).toNat 0];rw[vS]
 ·show(s.rs++_).length<=s.j+1;rw[Vo];split
  ·rw[Vy];omega
  ·rw[Vw];omega
theorem Tu.fin(h:Tu X nm l st env i q Uq Vq s)(hj:s.j=l.length):gB (jB X.F X.G nm l 0 st env i).2.2 s.us s.bC s.U s.V s.T/\
 uJ (ai s.sv s.rows.flatten s.sp++(s.B++ai s.vv (s.lC.map fun b=>kL (some b)) s.Jg)) (s.V.map au.q) (.mk (iL nm) (iM nm) ij (jB X.F X.G nm l 0 st env i).2.1 0 false (jB X.F X.G nm l 0 st env i).1) (oY (iL nm:Nat) (iM nm) s.vv s.sv):=by
 obtain⟨h1,h2,h3,h4,h5,h6,h7,h8,h9,Dz,Hw,Nj,h13,h14,h15,X4,h17⟩:=h;rw[hj,List.drop_length,jB]at h8 h9 Dz;simp only[vd]at h9 Dz;rw[h8,h9,Dz];refine⟨h3,?_⟩;obtain⟨k1,k2,k3⟩:=MH h15;rw[<- Hw]at Nj;have:=xV (k:=iL nm) (nm:=iM nm) (lit:=ij) (refs:=s.rs) (unit:=0) (iQ:=false) (rv:=Nz) (vv:=s.vv) (B:=s.B++ai s.vv (s.lC.map fun b=>kL (some b)) s.Jg) Nj (h13.more (fun x hx=>Zw _ hx) (QT _)) (oS _) (by rw[k2];exact js.nil _) (by
  rw[k1,<- X4];exact(gY rfl h14).more (fun x hx=>Q8 _ hx)) k3
 exact this
end
theorem JG(F G:List ByteArray)(nm:ByteArray)(env:List Nat)(u:Nat):∀(l:List Nd) (i:Nat) (st:ah),Gr st (jB F G nm l i st env u).2.2:=by
 intro l
 induction l with
 |nil=>intro i st;rw[jB];exact Gr.refl _
 |cons y q ihq=>
  intro i st;obtain⟨k1,k2⟩:=zZ F G _ y (Qj _) st env u;cases hi:dX nm i with
  |true=>rw[dQ _ _ _ _ _ _ _ _ _ hi];exact k2.trans (ihq _ _)
  |false=>rw[zi _ _ _ _ _ _ _ _ _ hi];exact k1.trans (ihq _ _)
theorem Pg {nm:ByteArray}{kids:List Nd}(hf:zl (kb nm) kids=true){i:Nat}{y:Nd}(hy:kids[i]? =some y)(hi:dX nm i=true):(kb nm=5/\y.args.length=1)∨(kb nm≠5/\y.args.length=0):=by
 have hl:=(Vh.1 hy).1;rw[xD hf hl]at hi;simp only[vF,decide_eq_true_eq]at hi;have hle:=qH nm;generalize kb nm=n at hf hi hle;have hn:n=0∨n=5∨(n=1∨n=2∨n=3∨n=4):=by omega
 rcases hn with rfl|rfl|hn
 ·cases hf
 ·obtain⟨h1,b,h2,h3,h4⟩:=K4 hf;simp only[jC,ib]at hi;obtain rfl:i=2:=by omega
  rw[hy]at h2;rw[X0 h2];exact .inl ⟨rfl,h4⟩
 ·cases hp:jK y with
  |true=>exact .inr ⟨Zo,(yb hp).2⟩
  |false=>
   have:=Cq hn hi.1 hy hp;rw[hf]at this;cases this
theorem Pj(F G:List ByteArray)(y:Nd)(st:ah)(env:List Nat)(u:Nat):st.vars.length+y.args.length<=(cH F G y st env u).2.vars.length:=by
 cases y with
 |mk k s lit args ab kids p=>
 rw[iz];obtain⟨f1,f2,f3,f4⟩:=jn u true false p args 0 st env;have g:=zE u false false p ab 0 (kO u true false p args 0 st env).1 (kO u true false p args 0 st env).2;have g2:=wU F G kids (kO u false false p ab 0 (kO u true false p args 0 st env).1 (kO u true false p args 0 st env).2).1 (kO u false false p ab 0 (kO u true false p args 0 st env).1 (kO u true false p args 0 st env).2).2 u;have h1:=g.vars.length_le;have h2:=g2.vars.length_le;show st.vars.length+args.length<=_;simp only;omega
theorem C6:∀l:List Nd,l.length<=Nd.aq l:=by
 intro l
 induction l with
 |nil=>exact Qj _
 |cons x r ih=>have:=x.size_pos;simp only[Nd.aq,Vp];omega
theorem Dn(X:Fix)(l1 l2 l3 l4 l5 vk av tv:Value)(s:ByteArray)(kids:List Nd)(a:Option Addr)(ac bk ko:Nat)(ks:Nat->List Value)(Ln:kids.length < 1073741824)(ha:0 < kids.length->a=some ⟨bk,ko,none⟩)(hm:∀i,i < kids.length->∀y∈kA bk (ko+i*11) (ks i),y∈X.S)(hr:∀i x,kids[i]? =some x->j7 X.S x (ks i))(N:Nat)(hN:Nd.aq kids<=N)(hN2:N < 1073741824)(iy:qg kids=true)(aN:∀x,x.size<=N->Rw x=true->∀vs,j7 X.S x vs->ot X x vs)(p:Int)(cE:zl (kb s) kids=true)
 (st:ah) (us:Value) (bC:List Value) (U:List UC) (Vs:List au) (T:List kB) (hS:gB st us bC U Vs T) (i:Nat) (u:UC) (hu:U[i]? =some u) (env:List Nat) (b:Nat) (es:Array MapEntry) (c:Nat) (hs:wn st Vs env es c) (DB:∀v∈env,st.af v∈st.line i) (bm:Room st (jO kids)):
 rq X 207 [kE X.wq,.agg #[vk,.string s,l1,l2,l3,l4,l5,av,tv,.slice a kids.length ac,.int .i64 p],vi (jC (kb s)),vi (ib (kb s)),kE u.q,.map (some b)] st (jB X.F X.G s kids 0 st env i).2.2 us bC U Vs T b es c (XL (.mk (iL s) (iM s) ij (jB X.F X.G s kids 0 st env i).2.1 0 false (jB X.F X.G s kids 0 st env i).1)):=by
 have Ad:kb s=1∨kb s=2∨kb s=3∨kb s=4∨kb s=5:=by
  have h1:=qH s;have h2:kb s≠0:=fun e=>by rw[e]at cE;cases cE
  omega
 have hto:s=nmTo↔kb s=5:=by
  constructor
  ·rintro rfl;decide
  ·intro h;unfold kb at h
   repeat' split at h
   all_goals first|omega|assumption
 refine jb.intro low207 (by simp[n207]) ?_;refine VC.join (α:=Nat×Nat) (aW:=fun q=>[(0,kE X.wq),(2,vi (jC (kb s))),(3,vi (ib (kb s))),(4,kE u.q),(5,.map (some b)),(7,kE q.1),(12,kE q.2)]) (Hf:=fun q=>[kA q.2 0 (oY 0 e0 Nz Nz),kA q.1 0 [vk,.string s,l1,l2,l3,l4,l5,av,tv,.slice a kids.length ac,.int .i64 p],kA X.wq 0 [.map (some X.fb),.map (some X.gb),us],ai us (U.map fun u=>kL (some u.q)) bC,[.obj X.fb (.map X.bF X.fc)],[.obj X.gb (.map X.bH X.gc)],WK U Vs,T,[.obj b (.map es c)],X.S]) (I:=fun _=>True) ?_ ?_
 ·refine ae ?_;refine kW Zr (fun q7=>?_);simp only[Value.cells];refine kM (fun fB=>?_);refine ae ?_;exact⟨(q7,fB),trivial,ZU,by unfold oY e0;exact bE⟩
 rintro⟨q7,fB⟩ _
 dsimp only;refine VC.join (α:=Nat) (aW:=fun IM=>[(0,kE X.wq),(2,vi (jC (kb s))),(3,vi (ib (kb s))),(4,kE u.q),(5,.map (some b)),(7,kE q7),(12,kE fB),(13,kE IM)]) (Hf:=fun IM=>[kA IM 0 (oY 11 s Nz Nz),kA fB 0 (oY 0 e0 Nz Nz),kA q7 0 [vk,.string s,l1,l2,l3,l4,l5,av,tv,.slice a kids.length ac,.int .i64 p],kA X.wq 0 [.map (some X.fb),.map (some X.gb),us],ai us (U.map fun u=>kL (some u.q)) bC,[.obj X.fb (.map X.bF X.fc)],[.obj X.gb (.map X.bH X.gc)],WK U Vs,T,[.obj b (.map es c)],X.S]) (I:=fun _=>True) ?_ (fun IM _=>?_)
 ·refine ae ?_;refine kM (fun IM=>?_);refine ae ?_;exact⟨IM,trivial,ZU,by unfold oY e0;exact bE⟩
 refine VC.join (α:=Unit) (aW:=fun _=>[(0,kE X.wq),(2,vi (jC (kb s))),(3,vi (ib (kb s))),(4,kE u.q),(5,.map (some b)),(7,kE q7),(12,kE fB),(13,kE IM)]) (Hf:=fun _=>[kA IM 0 (oY (iL s:Nat) (iM s) Nz Nz),kA fB 0 (oY 0 e0 Nz Nz),kA q7 0 [vk,.string s,l1,l2,l3,l4,l5,av,tv,.slice a kids.length ac,.int .i64 p],kA X.wq 0 [.map (some X.fb),.map (some X.gb),us],ai us (U.map fun u=>kL (some u.q)) bC,[.obj X.fb (.map X.bF X.fc)],[.obj X.gb (.map X.bH X.gc)],WK U Vs,T,[.obj b (.map es c)],X.S]) (I:=fun _=>True) ?_ (fun _ _=>?_)
 ·unfold oY;refine ae ?_;rcases Ad with h|h|h|h|h
  ·exact zB8
  ·exact zB8
  ·exact zBZ
  ·exact zBZ
  ·have hf:jC (kb s)=2:=by rw[h];rfl
   have e1:iL s=13:=by simp[iL,h]
   have e2:iM s=e0:=by simp[iM,h]
   rw[e1,e2];rw[show decide ((jC (kb s):Int)=0)=false from Zf Zo];refine ae ?_;rw[show decide (s=⟨#[116,111,58,100,111,58]⟩)=true from Zt (hto.2 h)];refine ae ?_;exact⟨(),trivial,ZU,by simp only[e0];exact aj.refl _⟩
 refine ae ?_;refine VC.loop (α:=SpS) (aW:=fun p=>[(0,kE X.wq),(2,vi (jC (kb s))),(3,vi (ib (kb s))),(4,kE u.q),(5,.map (some b)),(12,kE fB),(13,kE IM),(36,.slice a kids.length ac),(37,vi kids.length),(38,vi p.j)])
  (Hf:=fun p=>[kA IM 0 (oY (iL s:Nat) (iM s) p.vv p.sv),kA fB 0 (oY 0 e0 Nz Nz),kA X.wq 0 [.map (some X.fb),.map (some X.gb),p.us],ai p.us (p.U.map fun u=>kL (some u.q)) p.bC,[.obj X.fb (.map X.bF X.fc)],[.obj X.gb (.map X.bH X.gc)],WK p.U p.V,p.T,[.obj b (.map es c)],X.S,ai p.sv p.rows.flatten p.sp,p.B,ai p.vv (p.lC.map fun b=>kL (some b)) p.Jg]) (I:=Tu X s kids st env i u.q (U.map UC.q) (Vs.map au.q)) (μ:=fun p=>kids.length - p.j) ⟨0,st,us,bC,U,Vs,T,Nz,[],[],[],[],Nz,[],[],[]⟩
  ⟨Qs _,⟨u,hu,rfl⟩,hS,Gr.refl st,QT _,QT _,bm,rfl,rfl,rfl,rfl,.nil,zJ.nil _ _,.nil,Zs,rfl,Qj _⟩ ZU (aj.cut (M:=[kA IM 0 (oY (iL s:Nat) (iM s) Nz Nz),kA fB 0 (oY 0 e0 Nz Nz),kA X.wq 0 [.map (some X.fb),.map (some X.gb),us],ai us (U.map fun u=>kL (some u.q)) bC,[.obj X.fb (.map X.bF X.fc)],[.obj X.gb (.map X.bH X.gc)],WK U Vs,T,[.obj b (.map es c)],X.S]) ZI (aj.perm (by simp[ai]))) ?_
 rintro⟨j,bJ,Ay,nY,U1,V1,T1,sv,rows,sp,B,W4,vv,lC,Jg,rs⟩ hp
 have tC:j<=kids.length:=hp.j;obtain⟨sa,sc,gO⟩:∃sa sc,sv=.slice sa j sc:=hp.sl.form;obtain⟨pa,pc,Tg⟩:∃pa pc,vv=.slice pa lC.length pc:=hp.vsl.form;obtain⟨w,hw,pD⟩:∃w,U1[i]? =some w/\w.q=u.q:=hp.u;subst gO;subst Tg;dsimp only;unfold oY;refine ae ?_;by_cases aI:j < kids.length;rotate_left
 ·rw[show decide ((j:Int) < (kids.length:Int))=false from Zf Zo];obtain⟨f1,f2⟩:=hp.fin (by show j=kids.length;omega);refine ae ?_;refine jJ ⟨.inr rfl,_,[kA X.wq 0 [.map (some X.fb),.map (some X.gb),Ay],ai Ay (U1.map fun u=>kL (some u.q)) nY,[.obj X.fb (.map X.bF X.fc)],[.obj X.gb (.map X.bH X.gc)],WK U1 V1,T1,[.obj b (.map es c)],X.S,ai (.slice sa j sc) rows.flatten sp++(B++ai (.slice pa lC.length pc) (lC.map fun b=>kL (some b)) Jg)],.aS (us:=oY (iL s:Nat) (iM s) (.slice pa lC.length pc) (.slice sa j sc)) Zr Zr (fun y hy=>by simp only[V6,Q7];repeat (first|exact Or.inl hy|refine Or.inr ?_)) .nil,?_,⟨Ay,nY,U1,V1,T1,_,⟨f1,hp.pU,hp.pV,_,rfl,f2⟩,rfl⟩⟩;refine aj.cut (M:=[kA X.wq 0 [.map (some X.fb),.map (some X.gb),Ay],ai Ay (U1.map fun u=>kL (some u.q)) nY,[.obj X.fb (.map X.bF X.fc)],[.obj X.gb (.map X.bH X.gc)],WK U1 V1,T1,[.obj b (.map es c)],X.S,ai (.slice sa j sc) rows.flatten sp,B,ai (.slice pa lC.length pc) (lC.map fun b=>kL (some b)) Jg]) ZI (aj.perm Zs)
 rw[show decide ((j:Int) < (kids.length:Int))=true from Zt Zo];obtain rfl:=ha Zo;obtain⟨y,hy⟩:∃y,kids[j]? =some y:=⟨_,Zg aI⟩;have lh:=hm j aI;have dD:=hr j y hy;have Pc:y.size<=N:=by have:=Nd.aH (Zv hy);omega
 have hyok:=mu iy (Zv hy);have hoy:=aN y Pc hyok;have hiq:=xD cE aI;generalize ks j=kj at*;refine ae ?_;obtain⟨e1,e2,e3,e4,e5,e6,e7,a1,c1,a2,c2,a3,c3,XR,o2,DG,rfl,xu,bB,bu,hk8,GL,pC,ez,hcp2⟩:=wI dD;refine kS Zr (fun z hz=>by have h9:=lh z hz;simp[h9]) rfl ?_;refine jW ?_;refine kM (fun q15=>?_);refine jW ?_;refine VC.seq ?_;refine VC.join (α:=Unit) (aW:=fun _=>[(0,kE X.wq),(2,vi (jC (kb s))),(3,vi (ib (kb s))),(4,kE u.q),(5,.map (some b)),(12,kE fB),(13,kE IM),(15,kE q15),(36,.slice (some ⟨bk,ko,none⟩) kids.length ac),(37,vi kids.length),(38,vi j),(50,.bool (!dX s j))])
  (Hf:=fun _=>[kA q15 0 (rN y.kind y.name e1 e2 e3 e4 e5 e6 e7 a1 y.args.length c1 a2 y.ab.length c2 a3 y.kids.length c3 y.at_),kA IM 0 [.int .u8 (iL s:Nat),.string (iM s),.int .u8 0,.int .i64 0,.int .u64 0,.string e0,Nz,Nz,.int .i64 0,.bool false,Nz,.slice pa lC.length pc,.slice sa j sc],kA fB 0 [.int .u8 0,.string e0,.int .u8 0,.int .i64 0,.int .u64 0,.string e0,Nz,Nz,.int .i64 0,.bool false,Nz,Nz,Nz],kA X.wq 0 [.map (some X.fb),.map (some X.gb),Ay],ai Ay (U1.map fun u=>kL (some u.q)) nY,[.obj X.fb (.map X.bF X.fc)],[.obj X.gb (.map X.bH X.gc)],WK U1 V1,T1,[.obj b (.map es c)],X.S,ai (.slice sa j sc) rows.flatten sp,B,ai (.slice pa lC.length pc) (lC.map fun b=>kL (some b)) Jg]) (I:=fun _=>True) ?_ (fun _ _=>?_)
 ·rw[hiq];refine ae ?_;by_cases c1:(j:Int) < (jC (kb s):Int)
  ·rw[Zt c1,show decide (jC (kb s)<=j)=false from Zf Zo];refine ae ?_;exact⟨(),trivial,ZU,aj.refl _⟩
  ·rw[Zf c1,show decide (jC (kb s)<=j)=true from Zt Zo];refine ae ?_;by_cases c2:(ib (kb s):Int)<=(j:Int)
   ·rw[Zt c2,show decide (j < ib (kb s))=false from Zf Zo];refine ae ?_;exact⟨(),trivial,ZU,aj.refl _⟩
   ·rw[Zf c2,show decide (j < ib (kb s))=true from Zt Zo];refine ae ?_;exact⟨(),trivial,ZU,aj.refl _⟩
 have Te:Room bJ (jO (kids.drop j)):=hp.room;have OO:kids.drop j=y::kids.drop (j+1):=by
  exact zDH
 rw[OO]at Te;simp only[jO]at Te;have GK:gB bJ Ay nY U1 V1 T1:=hp.ok;have Ew:Gr st bJ:=hp.gr;have hpV:Vs.map au.q <+:V1.map au.q:=hp.pV;have cf:i < st.outer.length:=by have:=(Vh.1 hu).1;rw[hS.rep.ul]at this;exact this
 have nS:=hs.more Ew.vars hpV hS.rep.vl;have UE:∀v∈env,bJ.af v∈bJ.line i:=fun v hv=>by
  obtain⟨k1,k2⟩:=sn Ew hS.rep.wf GK.rep.wf cf (hs.lt v hv);rw[k1,k2];exact DB v hv
 have ς:kY 13 (.slice sa j sc) j rows.flatten sp:=hp.sl;have hvsl0:kY 1 (.slice pa lC.length pc) lC.length (lC.map fun b=>kL (some b)) Jg:=hp.vsl;have hfew:rs.length<=j:=hp.few;have hptl:lC.length=rs.length:=by have e:lC=_:=hp.lC;rw[e,Vv]
 have he3:(jB X.F X.G s kids 0 st env i).2.2=(jB X.F X.G s (kids.drop j) j bJ env i).2.2:=hp.e3;rw[OO]at he3;cases bf:dX s j with
 |false=>
  rw[zi _ _ _ _ _ _ _ _ _ bf]at he3;simp only[vM];have J0:=hoy _ dD bJ Ay nY U1 V1 T1 GK i w hw env b es c nS UE (Te.mono Zo);rw[pD]at J0;refine jW ?_;cases hfa:(jF X.F X.G y bJ env i).2.f with
  |some e=>
   have iw:∀x,(jF X.F X.G y bJ env i).2.f=some x->(jB X.F X.G s kids 0 st env i).2.2.f=some x:=fun x hx=>by rw[he3];exact(JG _ _ _ _ _ _ _ _).f _ hx
   refine VC.seq (VC.AO ⟨⟨[_,_,_,_,_,_],_,_,_,_,rfl,?_⟩,⟨[_,_,_,_,_],_,_,_,_,rfl,?_⟩,trivial⟩)
   ·refine⟨?_,?_,trivial⟩
    all_goals
     refine ae ?_;refine kK J0 Zr ZP (fun v Post hv=>?_) (fun ch Post hz=>?_)
     ·exact zBV
     ·exact zBK
   ·refine⟨?_,?_,?_,?_,trivial⟩
    all_goals
     refine ae ?_;refine kK J0 Zr ZP (fun v Post hv=>?_) (fun ch Post hz=>?_)
     ·exact zBV
     ·exact zBK
  |none=>
   refine VC.seq (VC.draws ⟨?_,?_,trivial⟩)
   all_goals
    refine ae ?_;refine kK J0 Zr ZP (fun v Post hv=>?_) (fun ch Post hz=>?_);rotate_left
    ·obtain⟨q1,Ni,p1,eg,rfl,rfl⟩:=hz;rw[hfa]at eg;cases eg
    obtain⟨nX,ig,U2,V2,T2,B2,⟨Cu,tG,tH,ws,rfl,hn⟩,rfl⟩:=hv;simp only[aE];obtain⟨pn,sM⟩:∃pn,pn=(jF X.F X.G y bJ env i).1:=⟨_,rfl⟩;rw[<- sM]at hn;obtain⟨f1,f2,f3,f4,f5,f6,f7,r1,r2,r3,p1,p2,p3,k1,k2,k3,GX⟩:=iG hn;subst GX;refine ae ?_;refine kg (out:=[.int .u8 pn.kind,.string pn.name,.int .u8 f1,.int .i64 f2,.int .u64 f3,.string f4,.slice f5 f6 f7,.slice r1 r2 r3,.int .i64 pn.unit,.bool pn.super,Nz,.slice p1 p2 p3,.slice k1 k2 k3]) Zr Zr (fun r=>?_);refine ae ?_;refine j8 (k:=j) (m:=1) (xs:=rows.flatten) (sp:=sp) (ys:=[.int .u8 pn.kind,.string pn.name,.int .u8 f1,.int .i64 f2,.int .u64 f3,.string f4,.slice f5 f6 f7,.slice r1 r2 r3,.int .i64 pn.unit,.bool pn.super,Nz,.slice p1 p2 p3,.slice k1 k2 k3]) Zr Zr ς ZK Zr ?_ rfl Zr Zr Zd Zo (fun cq aY ax=>?_)
    ·exact AI
    have fJ:rows.flatten++([.int .u8 pn.kind,.string pn.name,.int .u8 f1,.int .i64 f2,.int .u64 f3,.string f4,.slice f5 f6 f7,.slice r1 r2 r3,.int .i64 pn.unit,.bool pn.super,Nz,.slice p1 p2 p3,.slice k1 k2 k3]:List Value)=(rows++[([.int .u8 pn.kind,.string pn.name,.int .u8 f1,.int .i64 f2,.int .u64 f3,.string f4,.slice f5 f6 f7,.slice r1 r2 r3,.int .i64 pn.unit,.bool pn.super,Nz,.slice p1 p2 p3,.slice k1 k2 k3]:List Value)]).flatten:=by simp
    rw[fJ]at ax|-;obtain⟨lF,lG,rfl⟩:=ax.form;have lZ:=hp.out hy bf Cu tG tH sM hn ax;exact zAI
 |true=>
  rw[dQ _ _ _ _ _ _ _ _ _ bf]at he3;simp only[Bool.not_true];have iw:∀x,(cH X.F X.G y bJ env i).2.f=some x->(jB X.F X.G s kids 0 st env i).2.2.f=some x:=fun x hx=>by rw[he3];exact(JG _ _ _ _ _ _ _ _).f _ hx
  have OM:tA y=lN y.args y.ab (jO y.kids):=by cases y;rfl
  have hys2:y.size=1+Nd.aq y.kids:=by cases y;rfl
  have hyk:qg y.kids=true:=by
   cases y;simp only[Rw,vF]at hyok;exact hyok.2
  have yR:=C6 y.kids;have dw:=ET X (.int .u8 y.kind) (.int .u8 e1) (.int .i64 e2) (.int .u64 e3) (.string e4) (.slice e5 e6 e7) (.string y.name) y.kind y.name y.lit y.args y.ab (.slice a1 y.args.length c1) (.slice a2 y.ab.length c2) bB bu y.kids a3 c3 XR o2 DG Zo GL pC ez
   (fun i' x' ob=>aN x' (by have:=Nd.aH (Zv ob);omega) (mu hyk (Zv ob)) _ (ez i' x' ob)) y.at_ bJ Ay nY U1 V1 T1 GK i w hw env b es c nS UE (by rw[<- OM];exact Te.mono Zo)
  rw[<- Nd.eta y,pD]at dw;rcases Pg cE hy bf with⟨h5,xn⟩|⟨h5,xn⟩
  ·skip
   refine ae ?_;refine kK dw Zr ZP (fun v Post hv=>?_) (fun ch Post hz=>?_);rotate_left
   ·exact zBK
   obtain⟨nX,ig,U2,V2,T2,B2,⟨Cu,tG,tH,ws,hv,hn⟩,rfl⟩:=hv;simp only[aE];obtain⟨pn,sM⟩:∃pn,pn=(cH X.F X.G y bJ env i).1:=⟨_,rfl⟩;rw[<- sM]at hn;obtain⟨f1,f2,f3,f4,f5,f6,f7,r1,r2,r3,p1,p2,p3,k1,k2,k3,GX⟩:=iG hn;subst GX;have hvl2:bJ.vars.length < (V2.map au.q).length:=by
    have h1:=Pj X.F X.G y bJ env i;rw[Vv,Cu.rep.vl];omega
   have JT:cw (((V2.map au.q).drop bJ.vars.length).take y.args.length)=kE ((V2.map au.q).getD bJ.vars.length 0):=by
    rw[xn,vh hvl2,V8,Zg hvl2];rfl
   rw[JT]at hv;subst hv;refine ae ?_;refine kM (fun q16=>?_);refine ae ?_;refine kg (out:=[.int .u8 pn.kind,.string pn.name,.int .u8 f1,.int .i64 f2,.int .u64 f3,.string f4,.slice f5 f6 f7,.slice r1 r2 r3,.int .i64 pn.unit,.bool pn.super,Nz,.slice p1 p2 p3,.slice k1 k2 k3]) Zr Zr (fun r=>?_);refine ae ?_;refine j8 (k:=j) (m:=1) (xs:=rows.flatten) (sp:=sp) (ys:=[.int .u8 pn.kind,.string pn.name,.int .u8 f1,.int .i64 f2,.int .u64 f3,.string f4,.slice f5 f6 f7,.slice r1 r2 r3,.int .i64 pn.unit,.bool pn.super,Nz,.slice p1 p2 p3,.slice k1 k2 k3]) Zr Zr ς ZK Zr ?_ rfl Zr Zr Zd Zo (fun cq aY ax=>?_)
   ·exact AI
   have fJ:rows.flatten++([.int .u8 pn.kind,.string pn.name,.int .u8 f1,.int .i64 f2,.int .u64 f3,.string f4,.slice f5 f6 f7,.slice r1 r2 r3,.int .i64 pn.unit,.bool pn.super,Nz,.slice p1 p2 p3,.slice k1 k2 k3]:List Value)=(rows++[([.int .u8 pn.kind,.string pn.name,.int .u8 f1,.int .i64 f2,.int .u64 f3,.string f4,.slice f5 f6 f7,.slice r1 r2 r3,.int .i64 pn.unit,.bool pn.super,Nz,.slice p1 p2 p3,.slice k1 k2 k3]:List Value)]).flatten:=by simp
   rw[fJ]at ax|-;obtain⟨lF,lG,rfl⟩:=ax.form;refine ae ?_;refine kg (out:=[kE ((V2.map au.q).getD bJ.vars.length 0)]) Zr Zr (fun rr2=>?_);refine ae ?_;refine j8 (k:=lC.length) (m:=1) (xs:=lC.map fun b=>kL (some b)) (sp:=Jg) (ys:=[kE ((V2.map au.q).getD bJ.vars.length 0)]) Zr Zr hvsl0 ZK Zr ?_ rfl Zr Zr Zd Zo (fun vv' SN O9=>?_)
   ·exact AI
   have hfv:(lC.map fun b=>kL (some b))++[kE ((V2.map au.q).getD bJ.vars.length 0)]=(lC++[(V2.map au.q).getD bJ.vars.length 0]).map fun b=>kL (some b):=by simp[kL]
   rw[hfv]at O9|-;obtain⟨pa',pc',rfl⟩:=O9.form;have lZ:=hp.inn hy bf Cu tG tH sM hn ax (.inr ⟨h5,hvl2,rfl,by rw[Vo];exact O9⟩);refine ae ?_;refine⟨_,lZ,by simp only;omega,ZU,?_⟩;simp only;refine aj.cut (M:=[kA IM 0 [.int .u8 (iL s:Nat),.string (iM s),.int .u8 0,.int .i64 0,.int .u64 0,.string e0,.slice none 0 0,.slice none 0 0,.int .i64 0,.bool false,.slice none 0 0,.slice pa' (lC.length+1) pc',.slice lF (j+1) lG],kA fB 0 [.int .u8 0,.string e0,.int .u8 0,.int .i64 0,.int .u64 0,.string e0,.slice none 0 0,.slice none 0 0,.int .i64 0,.bool false,.slice none 0 0,.slice none 0 0,.slice none 0 0],kA X.wq 0 [.map (some X.fb),.map (some X.gb),nX],ai nX (U2.map fun u=>kL (some u.q)) ig,[.obj X.fb (.map X.bF X.fc)],[.obj X.gb (.map X.bH X.gc)],WK U2 V2,T2,[.obj b (.map es c)],X.S,ai (.slice lF (j+1) lG) (rows++[([.int .u8 pn.kind,.string pn.name,.int .u8 f1,.int .i64 f2,.int .u64 f3,.string f4,.slice f5 f6 f7,.slice r1 r2 r3,.int .i64 pn.unit,.bool pn.super,.slice none 0 0,.slice p1 p2 p3,.slice k1 k2 k3]:List Value)]).flatten aY,B,ai (.slice pa' (lC.length+1) pc') ((lC++[(V2.map au.q).getD bJ.vars.length 0]).map fun b=>kL (some b)) SN,B2]) ZI (aj.perm ?_);simp only[V6,V7,vd,vZ]
   repeat (first|exact vU _ QN|refine vU _ ?_)
  ·skip
   refine ae ?_;refine kK dw Zr ZP (fun v Post hv=>?_) (fun ch Post hz=>?_);rotate_left
   ·exact zBK
   obtain⟨nX,ig,U2,V2,T2,B2,⟨Cu,tG,tH,ws,hv,hn⟩,rfl⟩:=hv;simp only[aE];obtain⟨pn,sM⟩:∃pn,pn=(cH X.F X.G y bJ env i).1:=⟨_,rfl⟩;rw[<- sM]at hn;obtain⟨f1,f2,f3,f4,f5,f6,f7,r1,r2,r3,p1,p2,p3,k1,k2,k3,GX⟩:=iG hn;subst GX;have JT:cw (((V2.map au.q).drop bJ.vars.length).take y.args.length)=.pointer none:=by
    rw[xn];rfl
   rw[JT]at hv;subst hv;refine ae ?_;refine kM (fun q16=>?_);refine ae ?_;refine kg (out:=[.int .u8 pn.kind,.string pn.name,.int .u8 f1,.int .i64 f2,.int .u64 f3,.string f4,.slice f5 f6 f7,.slice r1 r2 r3,.int .i64 pn.unit,.bool pn.super,Nz,.slice p1 p2 p3,.slice k1 k2 k3]) Zr Zr (fun r=>?_);refine ae ?_;refine j8 (k:=j) (m:=1) (xs:=rows.flatten) (sp:=sp) (ys:=[.int .u8 pn.kind,.string pn.name,.int .u8 f1,.int .i64 f2,.int .u64 f3,.string f4,.slice f5 f6 f7,.slice r1 r2 r3,.int .i64 pn.unit,.bool pn.super,Nz,.slice p1 p2 p3,.slice k1 k2 k3]) Zr Zr ς ZK Zr ?_ rfl Zr Zr Zd Zo (fun cq aY ax=>?_)
   ·exact AI
   have fJ:rows.flatten++([.int .u8 pn.kind,.string pn.name,.int .u8 f1,.int .i64 f2,.int .u64 f3,.string f4,.slice f5 f6 f7,.slice r1 r2 r3,.int .i64 pn.unit,.bool pn.super,Nz,.slice p1 p2 p3,.slice k1 k2 k3]:List Value)=(rows++[([.int .u8 pn.kind,.string pn.name,.int .u8 f1,.int .i64 f2,.int .u64 f3,.string f4,.slice f5 f6 f7,.slice r1 r2 r3,.int .i64 pn.unit,.bool pn.super,Nz,.slice p1 p2 p3,.slice k1 k2 k3]:List Value)]).flatten:=by simp
   rw[fJ]at ax|-;obtain⟨lF,lG,rfl⟩:=ax.form;have lZ:=hp.inn hy bf Cu tG tH sM hn ax (.inl ⟨h5,rfl,rfl,rfl⟩);exact zAI
end Go.Proofs.YtijnokbblmbpkaaGreatDoor

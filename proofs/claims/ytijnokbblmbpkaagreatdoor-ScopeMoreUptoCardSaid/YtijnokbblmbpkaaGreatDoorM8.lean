/-
  The evaluator.
-/
import Derived.Test.YtijnokbblmbpkaaGreatDoorM7
set_option linter.all false
namespace Go.V
open Go
inductive uC where
 |cells (vs:List Value)
 |grow (size:Nat) (vs:List Value)
 |obj (o:Obj)
abbrev Mp:=List (Nat×uC)
def sj:Mp->Nat->Option uC
 |[],_=>none
 |(i,b)::r,k=>match Nat.beq i k with|true=>some b|false=>sj r k
def JN:Mp->Nat->uC->Mp
 |[],_,_=>[]
 |(i,b)::r,k,c=>match Nat.beq i k with|true=>(i,c)::r|false=>(i,b)::JN r k c
def se:Mp->Nat->Mp
 |[],_=>[]
 |(i,b)::r,k=>match Nat.beq i k with|true=>r|false=>(i,b)::se r k
def XR:uC->Option (List Value)
 |.cells vs=>some vs
 |.grow _ vs=>some vs
 |.obj _=>none
def St:uC->List Value->uC
 |.cells _,vs=>.cells vs
 |.grow s _,vs=>.grow s vs
 |.obj o,_=>.obj o
def tj(N0:Nat)(Γ:Env):Operand->Option Value
 |.tmp t=>look Γ t
 |.const v=>if pw v then some v else none
 |.global g=>if Nat.blt g N0 then some (.pointer (some ⟨g,0,none⟩))else none
 |.func f=>some (.func (.func f) #[] #[])
def LM(N0:Nat)(Γ:Env):List Operand->Option (List Value)
 |[]=>some []
 |x::r=>match tj N0 Γ x with
  |some v=>match LM N0 Γ r with
   |some l=>some (v::l)
   |none=>none
  |none=>none
def sg(N0:Nat)(Γ:Env)(x:Operand):Value:=(tj N0 Γ x).getD undef
def sH(N0:Nat)(Γ:Env)(x:Operand):Bool:=(tj N0 Γ x).isSome
inductive PR where
 |val (v:Value) (h:Mp) (nx:Nat)
 |uL (ch:List PanicEntry) (h:Mp) (nx:Nat)
inductive OR where
 |ok (Γ:Env) (h:Mp) (nx:Nat)
 |uL (ch:List PanicEntry) (Γ:Env) (h:Mp) (nx:Nat)
abbrev CF:=Nat->List Value->Mp->Nat->Option PR
def iE(h:Mp)(b o n:Nat):Option (List Value):=
 match sj h b with
 |some k=>match XR k with
  |some vs=>match Nat.ble (o+n) vs.length with
   |true=>some ((vs.drop o).take n)
   |false=>none
  |none=>none
 |none=>none
def J6(h:Mp)(b o:Nat)(us:List Value):Option Mp:=
 match sj h b with
 |some k=>match XR k with
  |some vs=>match Nat.ble (o+us.length) vs.length with
   |true=>match us.all js with
    |true=>some (JN h b (St k (vs.take o++us++vs.drop (o+us.length))))
    |false=>none
   |false=>none
  |none=>none
 |none=>none
def X8(h:Mp)(size:Nat):Value->Option (Nat×List Value)
 |.slice (some ⟨b,o,none⟩) m _=>match iE h b o (m*size)with
  |some l=>some (m,l)
  |none=>none
 |.slice none m _=>match m with|0=>some (0,[])|_=>none
 |.string s=>match size with|1=>some (s.size,eg s)|_=>none
 |_=>none
def K6(h:Mp)(size:Nat):Value->Option (List Value×Mp)
 |.slice none 0 0=>some ([],h)
 |.slice (some ⟨b,o,none⟩) n c=>match o with
  |0=>match sj h b with
   |some (.cells vs)=>match Nat.beq vs.length (c*size)&&(Nat.ble n c&&Nat.blt c lM)with
    |true=>some (vs.take (n*size),se h b)
    |false=>none
   |some (.grow s vs)=>match Nat.beq s size&&(Nat.beq c lM&&Nat.ble (n*size) vs.length)with
    |true=>some (vs.take (n*size),se h b)
    |false=>none
   |_=>none
  |_=>none
 |_=>none
def Ol(N0:Nat)(Γ:Env)(d:Nat):Option Operand->Option Nat
 |none=>some d
 |some x=>match tj N0 Γ x with
  |some (.int _ (.ofNat z))=>some z
  |_=>none
def CY(N0:Nat)(r:R)(Γ:Env)(h:Mp)(nx:Nat):Option PR:=
 match kd r&&(okC r&&((lB r).all (sH N0 Γ)&&okS (sg N0 Γ) r))with
 |true=>match kW (sg N0 Γ) r with
  |some v=>some (.val v h nx)
  |none=>none
 |false=>none
def slcU(N0:Nat)(Γ:Env)(h:Mp)(size:Nat)(lo hi:Option Operand)(b o n c:Nat):Option Value:=
 match sj h b with
 |some (.grow s vs)=>match Ol N0 Γ 0 lo,Ol N0 Γ n hi with
  |some l,some m=>match Nat.beq s size&&(Nat.blt 0 size&&(Nat.beq o ((c - lM)*size)&&(Nat.ble ((c - lM+n)*size) vs.length&&(Nat.ble l m&&(Nat.ble m n&&(Nat.blt l n||Nat.beq l 0))))))with
   |true=>some (.slice (some ⟨b,o+l*size,none⟩) (m - l) (c+l))
   |false=>none
  |_,_=>none
 |_=>none
def yP(N0:Nat)(F:CF)(r:R)(Γ:Env)(h:Mp)(nx:Nat):Option PR:=
 match r with
 |.qE x=>match tj N0 Γ x with
  |some (.pointer (some ⟨b,o,none⟩))=>match iE h b o 1 with
   |some [v]=>some (.val v h nx)
   |_=>none
  |_=>none
 |.iB n x=>match tj N0 Γ x with
  |some (.pointer (some ⟨b,o,none⟩))=>match iE h b o n with
   |some us=>some (.val (.agg us.toArray) h nx)
   |none=>none
  |_=>none
 |.alloc t z=>match z.all bq with
  |true=>some (.val (.pointer (some ⟨nx,0,none⟩)) ((nx,.cells z)::h) (nx+1))
  |false=>none
 |.box t x=>match tj N0 Γ x with
  |some v=>some (.val (.pointer (some ⟨nx,0,none⟩)) ((nx,.cells v.cells.toList)::h) (nx+1))
  |none=>none
 |.gM t len z ps=>match z.all bq&&((ps.map (·.2.2)).all (sH N0 Γ)&&Nat.blt len lM)with
  |true=>match jX (kw len z) (jW (sg N0 Γ) ps)with
   |some out=>some (.val (.slice (some ⟨nx,0,none⟩) len len) ((nx,.cells out)::h) (nx+1))
   |none=>none
  |false=>none
 |.store n x v=>match tj N0 Γ x,tj N0 Γ v with
  |some (.pointer (some ⟨b,o,none⟩)),some u=>match Nat.beq u.cells.toList.length n with
   |true=>match J6 h b o u.cells.toList with
    |some h'=>some (.val undef h' nx)
    |none=>none
   |false=>none
  |_,_=>none
 |.append t size bytes zero s x=>match tj N0 Γ s,tj N0 Γ x with
  |some sv,some xv=>match K6 h size sv with
   |some (xs,h')=>match X8 h' size xv with
    |some (m,ys)=>match ys.all js&&(Nat.beq zero.length size&&(!Nat.beq bytes 0&&(Nat.ble (xs.length+m) 1048576&&(Nat.ble bytes 65536&&(Nat.blt 0 size&&!Nat.beq (xs.length+m) 0)))))with
     |true=>some (.val (.slice (some ⟨nx,0,none⟩) (xs.length / size+m) lM) ((nx,.grow size (xs++ys))::h') (nx+1))
     |false=>none
    |none=>none
   |none=>none
  |_,_=>none
 |.call f xs=>match LM N0 Γ xs with
  |some args=>F f args h nx
  |none=>none
 |.rj size x lo hi mx=>match mx,tj N0 Γ x with
  |none,some (.slice (some ⟨b,o,none⟩) n c)=>match Nat.blt c lM with
   |true=>CY N0 (.rj size x lo hi mx) Γ h nx
   |false=>match slcU N0 Γ h size lo hi b o n c with
    |some v=>some (.val v h nx)
    |none=>none
  |_,_=>CY N0 (.rj size x lo hi mx) Γ h nx
 |r=>CY N0 r Γ h nx
def IN(Γ:Env):Option (Nat×Bool)->Option Bool
 |none=>some true
 |some (s,b)=>match look Γ s with
  |some (.bool c)=>some (c==b)
  |some (.tuple vs)=>match vs.toList with
   |[]=>some false
   |_=>none
  |_=>none
def z4(N0:Nat)(F:CF):List RO->Env->Mp->Nat->Option OR
 |[],Γ,h,nx=>some (.ok Γ h nx)
 |x::rs,Γ,h,nx=>match IN Γ x.guard with
  |none=>none
  |some false=>z4 N0 F rs (ap x.dst undef Γ) h nx
  |some true=>match yP N0 F x.op Γ h nx with
   |none=>none
   |some (.uL ch h' aX)=>some (.uL ch Γ h' aX)
   |some (.val v h' aX)=>z4 N0 F rs (ap x.dst v Γ) h' aX
def OO(e:Value->Value->Bool):List Value->List Value->Bool
 |[],[]=>true
 |x::xs,y::ys=>e x y&&OO e xs ys
 |_,_=>false
def LK:Nat->Value->Value->Bool
 |0,_,_=>false
 |k+1,a,b=>match a,b with
  |.bool x,.bool y=>x==y
  |.int i x,.int j y=>decide (i=j)&&decide (x=y)
  |.string x,.string y=>decide (x=y)
  |.pointer none,.pointer none=>true
  |.pointer (some x),.pointer (some y)=>decide (x=y)
  |.slice none n c,.slice none m d=>Nat.beq n m&&Nat.beq c d
  |.slice (some x) n c,.slice (some y) m d=>decide (x=y)&&(Nat.beq n m&&Nat.beq c d)
  |.map none,.map none=>true
  |.map (some x),.map (some y)=>Nat.beq x y
  |.nilFunc,.nilFunc=>true
  |.nilIface,.nilIface=>true
  |.iface t x,.iface u y=>decide (t=u)&&LK k x y
  |.agg x,.agg y=>OO (LK k) x.toList y.toList
  |.tuple x,.tuple y=>OO (LK k) x.toList y.toList
  |.func (.func f) x y,.func (.func g) z w=>decide (f=g)&&(OO (LK k) x.toList z.toList&&OO (LK k) y.toList w.toList)
  |_,_=>false
def eqE:Env->Env->Bool
 |[],[]=>true
 |(s,x)::r,(t,y)::q=>Nat.beq s t&&(LK 20 x y&&eqE r q)
 |_,_=>false
def eqM:List MapEntry->List MapEntry->Bool
 |[],[]=>true
 |x::xs,y::ys=>(LK 20 x.key y.key&&LK 20 x.val y.val)&&(Nat.beq x.born y.born&&eqM xs ys)
 |_,_=>false
def eqB:uC->uC->Bool
 |.cells x,.cells y=>OO (LK 20) x y
 |.grow n x,.grow m y=>Nat.beq n m&&OO (LK 20) x y
 |.obj (.map x c),.obj (.map y d)=>eqM x.toList y.toList&&Nat.beq c d
 |.obj (.stringIter x c),.obj (.stringIter y d)=>decide (x=y)&&Nat.beq c d
 |_,_=>false
def eqH:Mp->Mp->Bool
 |[],[]=>true
 |(s,x)::r,(t,y)::q=>Nat.beq s t&&(eqB x y&&eqH r q)
 |_,_=>false
def Kl(N0:Nat)(F:CF)(aV:List Nat)(Γ:Env)(h:Mp)(nx:Nat)(Δ:Env)(h1:Mp)(n1:Nat):List (List RO)->Bool
 |[]=>true
 |rs::r=>match z4 N0 F rs Γ h nx with
  |some (.ok ay h' aX)=>match eqE (aR aV ay) Δ&&(Nat.beq aX n1&&eqH h' h1)with
   |true=>Kl N0 F aV Γ h nx Δ h1 n1 r
   |false=>false
  |_=>false
inductive Ex where
 |normal
 |exit (id:Nat)
 |ret
 |uL (ch:List PanicEntry)
abbrev IR:=Option (Ex×Env×Mp×Nat)
def GN(body:Env->Mp->Nat->IR):Nat->Env->Mp->Nat->IR
 |0,_,_,_=>none
 |k+1,Γ,h,nx=>match body Γ h nx with
  |none=>none
  |some (.normal,ay,h',aX)=>GN body k ay h' aX
  |some r=>some r
def wJ(N0:Nat)(F:CF)(L:Nat):IC->Env->Mp->Nat->IR
 |.skip,Γ,h,nx=>some (.normal,Γ,h,nx)
 |.lU rs aV,Γ,h,nx=>match z4 N0 F rs Γ h nx with
  |none=>none
  |some (.ok ay h' aX)=>some (.normal,aR aV ay,h',aX)
  |some (.uL ch ay h' aX)=>some (.uL ch,ay,h',aX)
 |.draw rL aV,Γ,h,nx=>match rL with
  |[]=>none
  |rs::r=>match z4 N0 F rs Γ h nx with
   |some (.ok ay h' aX)=>match r with
    |[]=>some (.normal,aR aV ay,h',aX)
    |r0::r1=>match Kl N0 F aV Γ h nx (aR aV ay) h' aX (r0::r1)with
     |true=>some (.normal,aR aV ay,h',aX)
     |false=>none
   |_=>none
 |.seq a b,Γ,h,nx=>match wJ N0 F L a Γ h nx with
  |none=>none
  |some (.normal,ay,h',aX)=>wJ N0 F L b ay h' aX
  |some r=>some r
 |.cond c a b,Γ,h,nx=>match tj N0 Γ c with
  |some (.bool true)=>wJ N0 F L a Γ h nx
  |some (.bool false)=>wJ N0 F L b Γ h nx
  |_=>none
 |.block id a,Γ,h,nx=>match wJ N0 F L a Γ h nx with
  |none=>none
  |some (.exit i,ay,h',aX)=>match Nat.beq i id with
   |true=>some (.normal,ay,h',aX)
   |false=>some (.exit i,ay,h',aX)
  |some r=>some r
 |.loop a,Γ,h,nx=>GN (wJ N0 F L a) L Γ h nx
 |.exit id,Γ,h,nx=>some (.exit id,Γ,h,nx)
 |.ret,Γ,h,nx=>some (.ret,Γ,h,nx)
 |.hK ..,_,_,_=>none
 |.scope a,Γ,h,nx=>wJ N0 F L a Γ h nx
 |.label _,Γ,h,nx=>some (.normal,Γ,h,nx)
 |.free ..,_,_,_=>none
def Ad(Γ:Env)(h:Mp):List RV->Option (List Value)
 |[]=>some []
 |.tmp t::r=>match look Γ t,Ad Γ h r with
  |some v,some l=>some (v::l)
  |_,_=>none
 |.bV t::r=>match look Γ t with
  |some (.pointer (some ⟨b,o,none⟩))=>match iE h b o 1,Ad Γ h r with
   |some [v],some l=>some (v::l)
   |_,_=>none
  |_=>none
 |.aN t n::r=>match look Γ t with
  |some (.pointer (some ⟨b,o,none⟩))=>match iE h b o n,Ad Γ h r with
   |some us,some l=>some (.agg us.toArray::l)
   |_,_=>none
  |_=>none
inductive FE where
 |fir (F:aQ)
def Tg:List (Nat×FE)->Nat->Option FE
 |[],_=>none
 |(i,b)::r,k=>match Nat.beq i k with|true=>some b|false=>Tg r k
def orcTo(a b:CF):CF:=fun f args h nx=>match a f args h nx with
 |some r=>some r
 |none=>b f args h nx
def xE(N0:Nat)(Di:List (Nat×FE))(Ut:CF)(L:Nat):Nat->CF
 |0,_,_,_,_=>none
 |k+1,f,args,h,nx=>match Ut f args h nx with
  |some r=>some r
  |none=>match Tg Di f with
   |none=>none
   |some (.fir R)=>match Nat.ble args.length R.n with
    |false=>none
    |true=>match wJ N0 (xE N0 Di Ut L k) L R.body (aM 0 args) h nx with
     |some (.normal,ay,h',aX)=>match Ad ay h' R.bI with
      |some vs=>some (.val (bH vs) h' aX)
      |none=>none
     |some (.ret,ay,h',aX)=>match Ad ay h' R.bI with
      |some vs=>some (.val (bH vs) h' aX)
      |none=>none
     |some (.uL ch,_,h',aX)=>some (.uL ch h' aX)
     |_=>none
def Ag(k:Nat)(σ τ:Sg):Prop:=∀i,i < k->σ.rG i=τ.rG i/\σ.off i=τ.off i/\σ.cap i=τ.cap i/\σ.tl i=τ.tl i
theorem Ag.refl(k:Nat)(σ:Sg):Ag k σ σ:=fun _ _=>⟨rfl,rfl,rfl,rfl⟩
theorem Ag.symm {k:Nat}{σ τ:Sg}(h:Ag k σ τ):Ag k τ σ:=fun i hi=>let⟨a,b,c,d⟩:=h i hi;⟨a.symm,b.symm,c.symm,d.symm⟩
theorem Ag.mono {k l:Nat}{σ τ:Sg}(h:Ag l σ τ)(hk:k<=l):Ag k σ τ:=fun i hi=>h i Zo
theorem Ag.trans {k l:Nat}{σ τ υ:Sg}(h:Ag k σ τ)(g:Ag l τ υ)(hk:k<=l):Ag k σ υ:=fun i hi=>
 let⟨a,b,c,d⟩:=h i hi;let⟨a',b',c',d'⟩:=g i Zo;⟨a.trans a',b.trans b',c.trans c',d.trans d'⟩
def bT(k:Nat)(v:Value):Prop:=∀σ τ,Ag k σ τ->rn σ v=rn τ v
theorem bT.mono {k l:Nat}{v:Value}(h:bT k v)(hk:k<=l):bT l v:=fun σ τ a=>h σ τ (a.mono hk)
theorem bT.plain {k:Nat}{v:Value}(h:pw v=true):bT k v:=fun σ τ _=>by rw[dT h,dT h]
theorem bT.bq {k:Nat}{v:Value}(h:V.bq v=true):bT k v:=fun σ τ _=>by rw[eS h,eS h]
theorem map_inj {f g:Value->Value}:∀{l:List Value},l.map f=l.map g->∀v∈l,f v=g v:=by
 intro l
 induction l with
 |nil=>intro _ v h;cases h
 |cons x l ih=>
  intro h v hv;simp only[QC,vq]at h;rcases QH.1 hv with rfl|hv
  ·exact h.1
  ·exact ih h.2 v hv
theorem bT.cells {k:Nat}{v:Value}(h:bT k v):∀c∈v.cells.toList,bT k c:=fun c hc σ τ a=>by
 have h1:=congrArg (fun u=>(Value.cells u).toList) (h σ τ a);simp only[qZ,vD]at h1;exact map_inj h1 c hc
theorem bT.agg {k:Nat}{l:List Value}(h:∀v∈l,bT k v):bT k (.agg l.toArray):=fun σ τ a=>by
 simp only[Ae];congr 1;apply vC.1;simp only[vD];exact QB fun x hx=>h x hx σ τ a
theorem bT.bH {k:Nat}{l:List Value}(h:∀v∈l,bT k v):bT k (V.bH l):=by
 have ht:bT k (.tuple l.toArray):=fun σ τ a=>by
  simp only[Af];congr 1;apply vC.1;simp only[vD];exact QB fun x hx=>h x hx σ τ a
 cases l with
 |nil=>exact ht
 |cons x l=>cases l with
  |nil=>exact h x Zs
  |cons y l=>exact ht
theorem rn_tup(σ:Sg)(l:List Value):rn σ (V.bH l)=V.bH (l.map (rn σ)):=by
 cases l with
 |nil=>simp[V.bH]
 |cons x l=>cases l with
  |nil=>simp[V.bH]
  |cons y l=>simp[V.bH]
def rnO(σ:Sg):Obj->Obj
 |.map es c=>.map (es.map fun e=>{e with key:=rn σ e.key,val:=rn σ e.val}) c
 |o=>o
def yL(σ:Sg)(i:Nat):uC->List kC
 |.cells vs=>kA (σ.rG i) (σ.off i) (vs.map (rn σ))
 |.grow _ vs=>kA (σ.rG i) (σ.off i) (vs.map (rn σ)++σ.tl i)
 |.obj o=>[.obj (σ.rG i) (rnO σ o)]
def kY(A:List kC)(σ:Sg):Mp->List kC
 |[]=>A
 |p::h=>yL σ p.1 p.2++kY A σ h
variable {A:List kC}
theorem GA {σ:Sg}:∀{h:Mp},(kY A σ h).Perm (A++kY [] σ h):=by
 intro h
 induction h with
 |nil=>simp[kY]
 |cons p h ih=>exact(vX _ ih).trans (zc _ _ _)
def Z6(k:Nat):uC->Prop
 |.cells vs=>∀v∈vs,bT k v
 |.grow _ vs=>∀v∈vs,bT k v
 |.obj o=>∀σ τ,Ag k σ τ->rnO σ o=rnO τ o
theorem Z6.mono {k l:Nat}{b:uC}(h:Z6 k b)(hk:k<=l):Z6 l b:=by
 cases b with
 |cells vs=>exact fun v hv=>(h v hv).mono hk
 |grow s vs=>exact fun v hv=>(h v hv).mono hk
 |obj o=>exact fun σ τ a=>h σ τ (a.mono hk)
def N1(σ:Sg)(i:Nat):uC->Prop
 |.cells _=>True
 |.grow s vs=>vs.length+(σ.tl i).length=σ.cap i*s
 |.obj _=>σ.off i=0
structure ku (N0:Nat)(σ:Sg)(bu:List Value)(h:Mp)(nx:Nat):Prop where
 fix:∀g,g < N0->σ.rG g=g/\σ.off g=0
 le:N0<=nx
 ids:∀p∈h,p.1 < nx
 grow:∀p∈h,N1 σ p.1 p.2
 cells:∀p∈h,Z6 nx p.2
 bu:∀v∈bu,bT nx v
theorem ku.with {N0:Nat}{σ:Sg}{bu HN:List Value}{h:Mp}{nx:Nat}(g:ku N0 σ bu h nx)(hv:∀v∈HN,bT nx v):ku N0 σ HN h nx:=⟨g.fix,g.le,g.ids,g.grow,g.cells,hv⟩
theorem P2 {k i:Nat}{σ τ:Sg}{b:uC}(a:Ag k σ τ)(hi:i < k)(hb:Z6 k b):yL σ i b=yL τ i b:=by
 obtain⟨a1,a2,a3,a4⟩:=a i hi;cases b with
 |cells vs=>simp only[yL,a1,a2];congr 1;exact QB fun v hv=>hb v hv σ τ a
 |grow s vs=>simp only[yL,a1,a2,a4];congr 2;exact QB fun v hv=>hb v hv σ τ a
 |obj o=>simp only[yL,a1,hb σ τ a]
theorem P3 {k:Nat}{σ τ:Sg}{h:Mp}(a:Ag k σ τ)(hi:∀p∈h,p.1 < k)(hb:∀p∈h,Z6 k p.2):kY A σ h=kY A τ h:=by
 induction h with
 |nil=>rfl
 |cons p h ih=>
  simp only[kY];rw[P2 a (hi p Zs) (hb p Zs),ih (fun q hq=>hi q (by simp[hq])) (fun q hq=>hb q (by simp[hq]))]
theorem N1.ag {k i:Nat}{σ τ:Sg}{b:uC}(a:Ag k σ τ)(hi:i < k)(h:N1 σ i b):N1 τ i b:=by
 obtain⟨a1,a2,a3,a4⟩:=a i hi;cases b with
 |cells vs=>trivial
 |grow s vs=>simpa only[N1,<- a3,<- a4]using h
 |obj o=>simpa only[N1,<- a2]using h
theorem yR {a b:Nat}(h:Nat.beq a b=true):a=b:=Nat.eq_of_beq_eq_true h
theorem ξ {a b:Nat}(h:Nat.beq a b=false):a≠b:=Nat.ne_of_beq_eq_false h
theorem iR {a b:Nat}(h:Nat.ble a b=true):a<=b:=Qm h
theorem Du {a b:Nat}(h:Nat.blt a b=true):a < b:=Qm h
theorem zp {h:Mp}{b:Nat}{k:uC}(e:sj h b=some k):(b,k)∈h:=by
 induction h with
 |nil=>cases e
 |cons p h ih=>
  obtain⟨i,c⟩:=p;simp only[sj]at e;split at e
  ·rename_i hb;cases e;rw[yR hb];simp
  ·simp[ih e]
theorem F0 {h:Mp}{b:Nat}{p:Nat×uC}(e:p∈se h b):p∈h:=by
 induction h with
 |nil=>cases e
 |cons q h ih=>
  obtain⟨i,c⟩:=q;simp only[se]at e;split at e
  ·simp[e]
  ·rcases QH.1 e with rfl|e
   ·simp
   ·simp[ih e]
theorem Al {h:Mp}{b:Nat}{c:uC}{p:Nat×uC}(e:p∈JN h b c):p∈h∨p=(b,c):=by
 induction h with
 |nil=>cases e
 |cons q h ih=>
  obtain⟨i,d⟩:=q;simp only[JN]at e;split at e
  ·rename_i hb;rcases QH.1 e with rfl|e
   ·right;rw[yR hb]
   ·left;simp[e]
  ·rcases QH.1 e with rfl|e
   ·simp
   ·rcases ih e with h1|h1
    ·left;simp[h1]
    ·exact .inr h1
theorem nK {σ:Sg}{h:Mp}{b:Nat}{k:uC}(e:sj h b=some k):(kY A σ h).Perm (yL σ b k++kY A σ (se h b)):=by
 induction h with
 |nil=>cases e
 |cons p h ih=>
  obtain⟨i,c⟩:=p;simp only[sj]at e;split at e
  ·rename_i hb;cases e;simp only[se,hb];rw[yR hb];exact .refl _
  ·rename_i hb;simp only[se,hb];exact(vX _ (ih e)).trans (zc _ _ _)
theorem Mk {σ:Sg}{h:Mp}{b:Nat}{k c:uC}(e:sj h b=some k):(kY A σ (JN h b c)).Perm (yL σ b c++kY A σ (se h b)):=by
 induction h with
 |nil=>cases e
 |cons p h ih=>
  obtain⟨i,d⟩:=p;simp only[sj]at e;split at e
  ·rename_i hb;cases e;simp only[se,JN,hb];rw[yR hb];exact .refl _
  ·rename_i hb;simp only[se,JN,hb];exact(vX _ (ih e)).trans (zc _ _ _)
theorem C9 {σ:Sg}{b:Nat}{k:uC}{vs:List Value}(e:XR k=some vs):∃tl,(∀us,yL σ b (St k us)=kA (σ.rG b) (σ.off b) (us.map (rn σ)++tl))/\yL σ b k=kA (σ.rG b) (σ.off b) (vs.map (rn σ)++tl):=by
 cases k with
 |cells ws=>cases e;exact⟨[],fun us=>by simp[yL,St],by simp[yL]⟩
 |grow s ws=>cases e;exact⟨σ.tl b,fun us=>rfl,rfl⟩
 |obj o=>cases e
theorem pA {h:Mp}{b o n:Nat}{us:List Value}(e:iE h b o n=some us):∃k vs,sj h b=some k/\XR k=some vs/\o+n<=vs.length/\us=(vs.drop o).take n:=by
 unfold iE at e;split at e
 case h_2=>cases e
 rename_i k hk;split at e
 case h_2=>cases e
 rename_i vs ma;split at e
 case h_2=>cases e
 rename_i hb;cases e;exact⟨k,vs,hk,ma,iR hb,rfl⟩
theorem nS {h:Mp}{b o n:Nat}{us:List Value}(e:iE h b o n=some us):us.length=n:=by
 obtain⟨k,vs,_,_,h1,rfl⟩:=pA e;simp;omega
theorem nq {N0:Nat}{σ:Sg}{bu:List Value}{h:Mp}{nx b o n:Nat}{us:List Value}(g:ku N0 σ bu h nx)(e:iE h b o n=some us):∀v∈us,bT nx v:=by
 obtain⟨k,vs,h1,h2,_,rfl⟩:=pA e;have hs:=g.cells _ (zp h1);intro v hv;have hm:v∈vs:=List.mem_of_mem_drop (QN hv);cases k with
 |cells ws=>cases h2;exact hs v hm
 |grow s ws=>cases h2;exact hs v hm
 |obj o=>cases h2
theorem lQ {b o i m:Nat}{vs us:List Value}(h:us=(vs.drop i).take m):∀x∈kA b (o+i) us,x∈kA b o vs:=by
 intro x hx;subst h;obtain⟨j,v,hj,rfl⟩:=kJ.1 hx;refine kJ.2 ⟨i+j,v,?_,by congr 1;omega⟩;simp only[List.getElem?_take,Vo]at hj;split at hj
 ·exact hj
 ·cases hj
theorem eR {σ:Sg}{h:Mp}{b o n:Nat}{us:List Value}(e:iE h b o n=some us):∀x∈kA (σ.rG b) (σ.off b+o) (us.map (rn σ)),x∈kY A σ h:=by
 obtain⟨k,vs,h1,h2,h3,rfl⟩:=pA e;obtain⟨tl,_,ht⟩:=C9 (σ:=σ) (b:=b) h2;intro x hx;refine(nK h1).mem_iff.2 (Zw _ ?_);rw[ht];refine lQ (m:=n) (i:=o) ?_ x hx;rw[List.drop_append_of_le_length pJ,List.take_append_of_le_length pJ];simp[List.map_take,List.map_drop]
theorem JB(σ:Sg)(v:Value):js (rn σ v)=js v:=by
 cases v <;> try simp[js]
 ·rename_i a;cases a <;> simp[js]
 ·rename_i a _ _;cases a <;> simp[js]
 ·rename_i a;cases a <;> simp[js]
theorem tG(σ:Sg)(l:List Value)(h:l.all js=true):(l.map (rn σ)).all js=true:=by
 rw[ve]at h|-;intro x hx;obtain⟨y,hy,rfl⟩:=QM.1 hx;rw[JB];exact h y hy
def bU(σ:Sg)(Γ:Env):Env:=Γ.map fun p=>(p.1,rn σ p.2)
theorem lh(σ:Sg)(Γ:Env)(t:Nat):look (bU σ Γ) t=(look Γ t).map (rn σ):=by
 induction Γ with
 |nil=>rfl
 |cons p Γ ih=>
  simp only[bU,QC,look];by_cases e:p.1=t
  ·simp[e]
  ·simp only[e,if_false];exact ih
theorem yf {Γ:Env}{t:Nat}{v:Value}(h:look Γ t=some v):v∈Γ.map (·.2):=by
 induction Γ with
 |nil=>cases h
 |cons p Γ ih=>
  simp only[look]at h;split at h
  ·cases h;simp
  ·simp[ih h]
theorem KX(σ:Sg)(d:Option Nat)(v:Value)(Γ:Env):bU σ (ap d v Γ)=ap d (rn σ v) (bU σ Γ):=by cases d <;> rfl
theorem He {k:Nat}{d:Option Nat}{v:Value}{Γ:Env}(h:∀u∈v::Γ.map (·.2),bT k u):∀u∈(ap d v Γ).map (·.2),bT k u:=by
 cases d with
 |none=>exact fun u hu=>h u (QI _ hu)
 |some d=>simpa[ap]using h
theorem sV(σ:Sg)(k:List Nat)(Γ:Env):bU σ (aR k Γ)=aR k (bU σ Γ):=by
 induction k with
 |nil=>rfl
 |cons t k ih=>
  simp only[aR,lh];cases look Γ t with
  |none=>exact ih
  |some v=>simp only[X2,bU,QC];congr 1
theorem pB {n:Nat}{k:List Nat}{Γ:Env}(h:∀u∈Γ.map (·.2),bT n u):∀u∈(aR k Γ).map (·.2),bT n u:=by
 induction k with
 |nil=>intro u hu;cases hu
 |cons t k ih=>
  simp only[aR];split
  ·rename_i v hv;intro u hu;simp only[QC,QH]at hu;rcases hu with rfl|hu
   ·exact h _ (yf hv)
   ·exact ih u hu
  ·exact ih
theorem sU {k:Nat}{σ τ:Sg}{Γ:Env}(a:Ag k σ τ)(h:∀u∈Γ.map (·.2),bT k u):bU σ Γ=bU τ Γ:=by
 unfold bU;refine QB fun p hp=>?_
 rw[h p.2 (QM.2 ⟨p,hp,rfl⟩) σ τ a]
section
variable {N0 nx:Nat} {σ:Sg} {Γ:Env} {h:Mp}
theorem iq(g:ku N0 σ (Γ.map (·.2)) h nx){x:Operand}{v:Value}(e:tj N0 Γ x=some v):ev (bU σ Γ) x=some (rn σ v)/\bT nx v:=by
 cases x with
 |tmp t=>
  simp only[tj]at e;refine⟨by simp only[ev,lh,e,X2],g.bu _ (yf e)⟩
 |const u=>
  simp only[tj]at e;split at e
  ·rename_i hp;cases e;exact⟨by simp only[ev,dT hp],bT.plain hp⟩
  ·cases e
 |global i=>
  simp only[tj]at e;split at e
  ·rename_i hi;cases e;obtain⟨f1,f2⟩:=g.fix i (Du hi);refine⟨by simp only[ev,cZ,qX,f1,f2],fun aI τ' a=>?_⟩;obtain⟨a1,a2,_⟩:=a i (Qq (Du hi) g.le);simp only[cZ,qX,a1,a2]
  ·cases e
 |func f=>
  simp only[tj,X4]at e;subst e;exact⟨by simp[ev,rnF],fun aI τ' a=>by simp[rnF]⟩
theorem Ξ(g:ku N0 σ (Γ.map (·.2)) h nx):∀{xs:List Operand} {vs:List Value},LM N0 Γ xs=some vs->nI (bU σ Γ) xs=some (vs.map (rn σ))/\∀v∈vs,bT nx v:=by
 intro xs
 induction xs with
 |nil=>intro vs e;simp only[LM,X4]at e;subst e;exact⟨rfl,fun v hv=>by cases hv⟩
 |cons x xs ih=>
  intro vs e;simp only[LM]at e;split at e
  case h_2=>cases e
  rename_i v hv;split at e
  case h_2=>cases e
  rename_i l hl;cases e;obtain⟨h1,h2⟩:=iq g hv;obtain⟨h3,h4⟩:=ih hl;refine⟨by simp only[nI,h1,h3,QC],fun u hu=>?_⟩;rcases QH.1 hu with rfl|hu
  ·exact h2
  ·exact h4 u hu
theorem iA(g:ku N0 σ (Γ.map (·.2)) h nx){x:Operand}(e:sH N0 Γ x=true):known (bU σ Γ) x=true/\AU (bU σ Γ) x=rn σ (sg N0 Γ x)/\bT nx (sg N0 Γ x):=by
 obtain⟨v,hv⟩:=Qz.1 e;obtain⟨h1,h2⟩:=iq g hv;exact⟨by simp[known,h1],by simp[AU,sg,h1,hv],by simpa[sg,hv]using h2⟩
end
def iK(σ:Sg)(k b o c:Nat)(t:List Value):Sg:=⟨fun i=>if i=k then b else σ.rG i,fun i=>if i=k then o else σ.off i,fun i=>if i=k then c else σ.cap i,fun i=>if i=k then t else σ.tl i⟩
theorem oa(σ:Sg)(k b o c:Nat)(t:List Value):Ag k σ (iK σ k b o c t):=fun i hi=>by
 simp only[iK,if_neg (Nat.ne_of_lt hi),and_self]
theorem uX(σ:Sg)(k b o c:Nat)(t:List Value):(iK σ k b o c t).rG k=b/\(iK σ k b o c t).off k=o/\(iK σ k b o c t).cap k=c/\(iK σ k b o c t).tl k=t:=by simp[iK]
theorem ku.new {N0 nx:Nat}{σ:Sg}{bu HN:List Value}{h h':Mp}{B:uC}{b o c:Nat}{t:List Value}(g:ku N0 σ bu h nx)(hh:∀p∈h',p∈h)(hB:Z6 (nx+1) B)(hG:N1 (iK σ nx b o c t) nx B)
 (hv:∀v∈HN,bT (nx+1) v):ku N0 (iK σ nx b o c t) HN ((nx,B)::h') (nx+1):=by
 have a:=oa σ nx b o c t;refine⟨fun i hi=>?_,Nat.le_succ_of_le g.le,fun p hp=>?_,fun p hp=>?_,fun p hp=>?_,hv⟩
 ·obtain⟨a1,a2,_⟩:=a i (Qq hi g.le);rw[<- a1,<- a2];exact g.fix i hi
 ·rcases QH.1 hp with rfl|hp
  ·exact Qr _
  ·exact Nat.lt_succ_of_lt (g.ids p (hh p hp))
 ·rcases QH.1 hp with rfl|hp
  ·exact hG
  ·exact(g.grow p (hh p hp)).ag a (g.ids p (hh p hp))
 ·rcases QH.1 hp with rfl|hp
  ·exact hB
  ·exact(g.cells p (hh p hp)).mono (Qo _)
theorem nL {N0 nx:Nat}{σ:Sg}{bu:List Value}{h h':Mp}{B:uC}{b o c:Nat}{t:List Value}(g:ku N0 σ bu h nx)(hh:∀p∈h',p∈h):
 kY A (iK σ nx b o c t) ((nx,B)::h')=yL (iK σ nx b o c t) nx B++kY A σ h':=by
 have:=P3 (A:=A) (oa σ nx b o c t) (fun p hp=>g.ids p (hh p hp)) (fun p hp=>g.cells p (hh p hp));rw[this];rfl
theorem bT.ptr {k i o:Nat}{s:Option Nat}(hi:i < k):bT k (.pointer (some ⟨i,o,s⟩)):=fun σ τ a=>by
 obtain⟨a1,a2,_⟩:=a i hi;simp only[cZ,qX,a1,a2]
theorem bT.slc {k i o n c:Nat}{s:Option Nat}(hi:i < k):bT k (.slice (some ⟨i,o,s⟩) n c):=fun σ τ a=>by
 obtain⟨a1,a2,a3,_⟩:=a i hi;simp only[bn,qX,Ho,a1,a2,a3]
set_option maxHeartbeats 1600000
variable {A:List kC}
def Hp(σ:Sg)(ch:List PanicEntry):List PanicEntry:=ch.map fun e=>{e with v:=rn σ e.v}
def oM(A:List kC)(P:Program)(N0:Nat)(F:CF):Prop:=∀f args h nx bI,F f args h nx=some bI->∀σ,ku N0 σ args h nx->
 ji P f (args.map (rn σ)) [kY A σ h] (fun v Post=>∃v0 h' aX aI,bI=.val v0 h' aX/\Ag nx σ aI/\nx<=aX/\ku N0 aI [v0] h' aX/\v=rn aI v0/\Post=[kY A aI h'])
  (fun ch Post=>∃YA h' aX aI,bI=.uL YA h' aX/\Ag nx σ aI/\nx<=aX/\ku N0 aI (YA.map (·.v)) h' aX/\ch=Hp aI YA/\Post=[kY A aI h'])
section
variable {P:Program} {N0 nx n:Nat} {σ:Sg} {Γ:Env} {h:Mp} {rs:List RO} {d:Option Nat} {Z:List PanicEntry->Env->SH->Prop} {K:Env->SH->Prop}
theorem Xy {r:R}{v:Value}(g:ku N0 σ (Γ.map (·.2)) h nx)(hp:kd r=true)(hc:okC r=true)(hk:(lB r).all (sH N0 Γ)=true)(ho:okS (sg N0 Γ) r=true)(hv:kW (sg N0 Γ) r=some v)
 (aP:bT nx v->VO P n rs (ap d (rn σ v) (bU σ Γ)) [kY A σ h] Z K):VO P n (⟨d,none,r⟩::rs) (bU σ Γ) [kY A σ h] Z K:=by
 have ir:=ve.1 hk;refine nY hp ?_ (v:=rn σ v) ?_ (aP fun τ υ a=>?_)
 ·rw[ve];exact fun x hx=>(iA g (ir x hx)).1
 ·rw[<- yZ (σ:=σ) hc ho hv];exact gu hp fun x hx=>(iA g (ir x hx)).2.1
 ·have e1:=yZ (σ:=τ) hc ho hv;have e2:=yZ (σ:=υ) hc ho hv;have e3:kW (fun x=>rn τ (sg N0 Γ x)) r=kW (fun x=>rn υ (sg N0 Γ x)) r:=gu hp fun x hx=>(iA g (ir x hx)).2.2 τ υ a
  rw[e1,e2]at e3;exact X3 e3
theorem Sl {x:Operand}{b o:Nat}{v:Value}(g:ku N0 σ (Γ.map (·.2)) h nx)(hx:tj N0 Γ x=some (.pointer (some ⟨b,o,none⟩)))(hr:iE h b o 1=some [v])
 (aP:bT nx v->VO P n rs (ap d (rn σ v) (bU σ Γ)) [kY A σ h] Z K):VO P n (⟨d,none,.qE x⟩::rs) (bU σ Γ) [kY A σ h] Z K:=by
 have oE:=(iq g hx).1;simp only[cZ,qX]at oE;refine z8 oE (.among ?_) (aP (nq g hr v Zs));exact eR hr _ Ka
theorem Sm {x:Operand}{b o m:Nat}{us:List Value}(g:ku N0 σ (Γ.map (·.2)) h nx)(hx:tj N0 Γ x=some (.pointer (some ⟨b,o,none⟩)))(hr:iE h b o m=some us)
 (aP:bT nx (.agg us.toArray)->VO P n rs (ap d (rn σ (.agg us.toArray)) (bU σ Γ)) [kY A σ h] Z K):VO P n (⟨d,none,.iB m x⟩::rs) (bU σ Γ) [kY A σ h] Z K:=by
 have oE:=(iq g hx).1;simp only[cZ,qX]at oE;have hk:=aP (bT.agg (nq g hr));have he:rn σ (.agg us.toArray)=.agg (us.map (rn σ)).toArray:=by simp
 rw[he]at hk;refine kS oE (fun a ha=>?_) (by rw[Q5];exact nS hr) hk;simp only[Vd,Ve,vm];exact eR hr a ha
theorem uK {C:List kC}{B:List kC}(e:B=C++kY A σ h):ao (C::[kY A σ h]) [B]:=by subst e;exact ao.perm Zs
theorem Sk {t:TypeId}{z:List Value}(g:ku N0 σ (Γ.map (·.2)) h nx)(hz:z.all bq=true)
 (aP:∀aI,Ag nx σ aI->ku N0 aI (.pointer (some ⟨nx,0,none⟩)::Γ.map (·.2)) ((nx,.cells z)::h) (nx+1)->VO P n rs (ap d (rn aI (.pointer (some ⟨nx,0,none⟩))) (bU aI Γ)) [kY A aI ((nx,.cells z)::h)] Z K):
 VO P n (⟨d,none,.alloc t z⟩::rs) (bU σ Γ) [kY A σ h] Z K:=by
 refine kO fun b=>?_
 have a:=oa σ nx b 0 0 [];obtain⟨u1,u2,_⟩:=uX σ nx b 0 0 [];have hk:=aP (iK σ nx b 0 0 []) a (g.new (fun p hp=>hp) (fun v hv=>bT.bq (ve.1 hz v hv)) trivial (fun v hv=>by
  rcases QH.1 hv with rfl|hv
  ·exact bT.ptr (Qr _)
  ·exact(g.bu v hv).mono (Qo _)))
 simp only[cZ,qX,u1,u2]at hk;rw[sU a g.bu];refine VO.imp (uK (B:=kY A (iK σ nx b 0 0 []) ((nx,.cells z)::h)) ?_) hk;rw[nL g (fun p hp=>hp)];simp only[yL,u1,u2,eT hz]
theorem op_box {t:TypeId}{x:Operand}{v:Value}(g:ku N0 σ (Γ.map (·.2)) h nx)(hx:tj N0 Γ x=some v)
 (aP:∀aI,Ag nx σ aI->ku N0 aI (.pointer (some ⟨nx,0,none⟩)::Γ.map (·.2)) ((nx,.cells v.cells.toList)::h) (nx+1)->VO P n rs (ap d (rn aI (.pointer (some ⟨nx,0,none⟩))) (bU aI Γ)) [kY A aI ((nx,.cells v.cells.toList)::h)] Z K):
 VO P n (⟨d,none,.box t x⟩::rs) (bU σ Γ) [kY A σ h] Z K:=by
 obtain⟨oE,hs⟩:=iq g hx;refine kX oE fun b=>?_
 have a:=oa σ nx b 0 0 [];obtain⟨u1,u2,_⟩:=uX σ nx b 0 0 [];have hk:=aP (iK σ nx b 0 0 []) a (g.new (fun p hp=>hp) (fun w hw=>(hs.cells w hw).mono (Qo _)) trivial (fun v hv=>by
  rcases QH.1 hv with rfl|hv
  ·exact bT.ptr (Qr _)
  ·exact(g.bu v hv).mono (Qo _)))
 simp only[cZ,qX,u1,u2]at hk;rw[sU a g.bu];refine VO.imp (uK (B:=kY A (iK σ nx b 0 0 []) ((nx,.cells v.cells.toList)::h)) ?_) hk;rw[nL g (fun p hp=>hp)];simp only[yL,u1,u2];rw[qZ,vD]
 congr 2
 exact QB fun w hw=>(hs.cells w hw _ _ a.symm)
theorem IG(g:ku N0 σ (Γ.map (·.2)) h nx){ps:List (Nat×Nat×Operand)}(hk:(ps.map (·.2.2)).all (sH N0 Γ)=true):
 jW (AU (bU σ Γ)) ps=(jW (sg N0 Γ) ps).map fun(a,b,v)=>(a,b,rn σ v):=by
 simp only[jW,QD];refine QB fun p hp=>?_
 obtain⟨a,b,c⟩:=p;have:=(iA g (ve.1 hk c (QM.2 ⟨_,hp,rfl⟩))).2.1;simp[this]
theorem Hc {k:Nat}:∀{ps:List (Nat×Nat×Value)} {cs out:List Value},(∀v∈cs,bT k v)->(∀p∈ps,bT k p.2.2)->jX cs ps=some out->∀v∈out,bT k v:=by
 intro ps
 induction ps with
 |nil=>intro cs out hc _ e;simp only[jX,X4]at e;subst e;exact hc
 |cons p ps ih=>
  intro cs out hc hp e;obtain⟨o,s,v⟩:=p;simp only[jX]at e;split at e
  ·refine ih (fun u hu=>?_) (fun q hq=>hp q (by simp[hq])) e;rcases QF.1 hu with hu|hu
   ·rcases QF.1 hu with hu|hu
    ·exact hc u (QN hu)
    ·exact(hp (o,s,v) Zs).cells u hu
   ·exact hc u (List.mem_of_mem_drop hu)
  ·cases e
theorem B0 {k:Nat}{z:List Value}(h:z.all bq=true):(kw k z).all bq=true:=by
 rw[ve]at h|-;intro x hx;simp only[kw,QM,QO]at hx;obtain⟨i,hi,rfl⟩:=hx;have hz:0 < z.length:=Nat.pos_of_ne_zero fun e=>by rw[e]at hi;simp at hi
 have aS:i % z.length < z.length:=Nat.mod_lt _ hz;rw[getElem!_pos z _ aS];exact h _ (List.getElem_mem aS)
theorem MH {t:TypeId}{len:Nat}{z out:List Value}{ps:List (Nat×Nat×Operand)}(g:ku N0 σ (Γ.map (·.2)) h nx)(hz:z.all bq=true)(hk:(ps.map (·.2.2)).all (sH N0 Γ)=true)
 (ho:jX (kw len z) (jW (sg N0 Γ) ps)=some out) (hlen:len < lM)
 (aP:∀aI,Ag nx σ aI->ku N0 aI (.slice (some ⟨nx,0,none⟩) len len::Γ.map (·.2)) ((nx,.cells out)::h) (nx+1)->VO P n rs (ap d (rn aI (.slice (some ⟨nx,0,none⟩) len len)) (bU aI Γ)) [kY A aI ((nx,.cells out)::h)] Z K):
 VO P n (⟨d,none,.gM t len z ps⟩::rs) (bU σ Γ) [kY A σ h] Z K:=by
 have Mh:=B0 (k:=len) hz;have mQ:∀v∈out,bT nx v:=Hc (fun v hv=>bT.bq (ve.1 Mh v hv)) (fun p hp=>by
  simp only[jW,QM]at hp;obtain⟨q,hq,rfl⟩:=hp;exact(iA g (ve.1 hk _ (QM.2 ⟨q,hq,rfl⟩))).2.2) ho
 refine jB (out:=out.map (rn σ)) ?_ ?_ fun b=>?_
 ·rw[ve]at hk|-;exact fun x hx=>(iA g (hk x hx)).1
 ·rw[IG g hk];have:=tK (σ:=σ) ho;rw[eT Mh]at this;exact this
 have a:=oa σ nx b 0 0 [];obtain⟨u1,u2,_⟩:=uX σ nx b 0 0 [];have tx:=aP (iK σ nx b 0 0 []) a (g.new (fun p hp=>hp) (fun w hw=>(mQ w hw).mono (Qo _)) trivial (fun v hv=>by
  rcases QH.1 hv with rfl|hv
  ·exact bT.slc (Qr _)
  ·exact(g.bu v hv).mono (Qo _)))
 simp only[bn,qX,Ho,u1,u2,if_pos hlen]at tx;rw[sU a g.bu];refine VO.imp (uK (B:=kY A (iK σ nx b 0 0 []) ((nx,.cells out)::h)) ?_) tx;rw[nL g (fun p hp=>hp)];simp only[yL,u1,u2]
 congr 2
 exact QB fun w hw=>(mQ w hw _ _ a.symm)
theorem So {x y:Operand}{m b o:Nat}{u:Value}{h':Mp}(g:ku N0 σ (Γ.map (·.2)) h nx)(hx:tj N0 Γ x=some (.pointer (some ⟨b,o,none⟩)))(hy:tj N0 Γ y=some u)(hm:u.cells.toList.length=m)(hw:J6 h b o u.cells.toList=some h')
 (aP:ku N0 σ (undef::Γ.map (·.2)) h' nx->VO P n rs (ap d (rn σ undef) (bU σ Γ)) [kY A σ h'] Z K):VO P n (⟨d,none,.store m x y⟩::rs) (bU σ Γ) [kY A σ h] Z K:=by
 have oE:=(iq g hx).1;obtain⟨hy',hs⟩:=iq g hy;simp only[cZ,qX]at oE;have oB:(rn σ u).cells.toList=u.cells.toList.map (rn σ):=by rw[qZ,vD]
 have hsc:=hs.cells;generalize u.cells.toList=us at hm hw oB hsc;unfold J6 at hw;split at hw
 case h_2=>cases hw
 rename_i k hk;split at hw
 case h_2=>cases hw
 rename_i vs ma;split at hw
 case h_2=>cases hw
 rename_i hlen;split at hw
 case h_2=>cases hw
 rename_i ed;cases hw;have hle:=iR hlen;obtain⟨tl,t1,t2⟩:=C9 (σ:=σ) (b:=b) ma;have gT:∀v∈vs,bT nx v:=by
  have:=g.cells _ (zp hk);cases k with
  |cells ws=>cases ma;exact this
  |grow s ws=>cases ma;exact this
  |obj q=>cases ma
 have uw:∀v∈vs.take o++us++vs.drop (o+us.length),bT nx v:=fun v hv=>by
  rcases QF.1 hv with hv|hv
  ·rcases QF.1 hv with hv|hv
   ·exact gT v (QN hv)
   ·exact hsc v hv
  ·exact gT v (List.mem_of_mem_drop hv)
 have hlen2:(vs.take o++us++vs.drop (o+us.length)).length=vs.length:=by simp;omega
 have tx:=aP ⟨g.fix,g.le,fun p hp=>?_,fun p hp=>?_,fun p hp=>?_,fun v hv=>?_⟩
 ·refine VO.imp (ao.perm (B:=[kA (σ.rG b) (σ.off b) (vs.map (rn σ)++tl),kY A σ (se h b)]) ?_) ?_
  ·have:=nK (A:=A) (σ:=σ) hk;rw[t2]at this;simpa using this
  refine Hy (H':=[kA (σ.rG b) (σ.off b) ((vs.take o++us++vs.drop (o+us.length)).map (rn σ)++tl),kY A σ (se h b)]) oE hy' ?_ ?_ ?_ ?_
  ·rw[<- hm,<- Array.length_toList,oB,Q5]
  ·rw[oB];exact tG σ _ ed
  ·rw[oB];refine .cells Zo pJ ?_;have e0:σ.off b+o - σ.off b=o:=by omega
   rw[e0,List.take_append_of_le_length pJ,Q5,List.drop_append_of_le_length pJ];simp[List.map_take,List.map_drop]
  ·have hu:rn σ undef=undef:=dT rfl;rw[hu]at tx;refine VO.imp (ao.perm ?_) tx;have:=Mk (A:=A) (σ:=σ) (c:=St k (vs.take o++us++vs.drop (o+us.length))) hk;rw[t1]at this;simpa using this.symm
 ·rcases Al hp with hp|rfl
  ·exact g.ids p hp
  ·exact g.ids (b,k) (zp hk)
 ·rcases Al hp with hp|rfl
  ·exact g.grow p hp
  ·have:=g.grow (b,k) (zp hk);cases k with
   |cells ws=>trivial
   |grow s ws=>cases ma;simp only[N1,St]at this|-;rw[hlen2];exact this
   |obj q=>cases ma
 ·rcases Al hp with hp|rfl
  ·exact g.cells p hp
  ·cases k with
   |cells ws=>exact uw
   |grow s ws=>exact uw
   |obj q=>cases ma
 ·rcases QH.1 hv with rfl|hv
  ·exact bT.plain rfl
  ·exact g.bu v hv
end
variable {A:List kC}
section
variable {P:Program} {N0 nx n:Nat} {σ:Sg} {Γ:Env} {h:Mp} {rs:List RO} {d:Option Nat} {Z:List PanicEntry->Env->SH->Prop} {K:Env->SH->Prop}
theorem JX {size:Nat}{sv:Value}{xs:List Value}{h':Mp}(g:ku N0 σ (Γ.map (·.2)) h nx)(Gu:0 < size)(e:K6 h size sv=some (xs,h')):
 ∃k sp,jA size (rn σ sv) k (xs.map (rn σ)) sp/\(kY A σ h).Perm (aj (rn σ sv) (xs.map (rn σ)) sp++kY A σ h')/\(∀p∈h',p∈h)/\(∀v∈xs,bT nx v):=by
 unfold K6 at e;split at e
 ·cases e;exact⟨0,[],by simpa using jA.nil,by simp[aj],fun p hp=>hp,fun v hv=>by cases hv⟩
 ·rename_i b o m c;split at e
  case h_2=>cases e
  split at e
  ·rename_i vs hk;split at e
   case h_2=>cases e
   rename_i hb;cases e;simp only[vF]at hb;obtain⟨ep,p7,Nx⟩:=hb;have e1:=yR ep;have e2:=iR p7;have e3:=Du Nx;have YZ:m*size<=c*size:=Qs _ e2;refine⟨m,(vs.drop (m*size)).map (rn σ),?_,?_,fun p hp=>F0 hp,fun v hv=>g.cells _ (zp hk) v (QN hv)⟩
   ·simp only[bn,qX,Ho,if_pos e3];refine .mk ?_ ?_ e2
    ·rw[Q5,Q9];omega
    ·rw[Q5,Q5,Q9,Q0];omega
   ·refine(nK hk).trans (vY _ ?_);simp only[bn,qX,aj,yL,Qj,<- QA,Qf];exact .refl _
  ·rename_i s vs hk;split at e
   case h_2=>cases e
   rename_i hb;cases e;simp only[vF]at hb;obtain⟨ep,p7,Nx⟩:=hb;have e1:=yR ep;have e2:=yR p7;have e3:=iR Nx;subst e1;have hg:=g.grow _ (zp hk);simp only[N1]at hg;have hC:Ho σ b c=σ.cap b:=by rw[e2,Ho,if_neg (Nat.lt_irrefl _),Qt,Nat.sub_zero]
   refine⟨m,(vs.drop (m*s)).map (rn σ)++σ.tl b,?_,?_,fun p hp=>F0 hp,fun v hv=>g.cells _ (zp hk) v (QN hv)⟩
   ·simp only[bn,qX,hC];refine .mk ?_ ?_ ?_
    ·rw[Q5,Q9];omega
    ·rw[Vy,Q5,Q5,Q9,Q0];omega
    ·have:m*s<=σ.cap b*s:=by omega
     exact Nat.le_of_mul_le_mul_right this Gu
   ·refine(nK hk).trans (vY _ ?_);simp only[bn,qX,aj,yL,Qj,<- vj,<- QA,Qf];exact .refl _
  ·cases e
 ·cases e
theorem M4 {size m:Nat}{xv:Value}{ys:List Value}{h':Mp}{bu:List Value}(g:ku N0 σ bu h' nx)(e:X8 h' size xv=some (m,ys)):
 ej (rn σ xv)=some m/\Src (kY A σ h') size m (ys.map (rn σ)) (rn σ xv)/\ys.length=m*size/\∀v∈ys,bT nx v:=by
 unfold X8 at e;split at e
 ·split at e
  case h_2=>cases e
  rename_i l hl;cases e;have hlen:=nS hl;refine⟨by simp[ej],?_,hlen,nq g hl⟩;simp only[bn,qX,Src];exact⟨by rw[Q5,hlen],eR hl⟩
 ·split at e
  case h_2=>cases e
  cases e;exact⟨by simp[ej],by simp[Src],Zs,fun v hv=>by cases hv⟩
 ·rename_i s;split at e
  case h_2=>cases e
  cases e;have oC:(eg s).all bq=true:=by
   rw[ve];intro x hx;simp only[eg,QM]at hx;obtain⟨c,_,rfl⟩:=hx;rfl
  refine⟨by simp[ej],?_,by simp[eg],fun v hv=>bT.bq (ve.1 oC v hv)⟩;rw[eT oC];simp only[eU,Src,eg];rw[Qg Zs]
 ·cases e
theorem MG {t:TypeId}{size bytes m:Nat}{zero xs ys:List Value}{s x:Operand}{sv xv:Value}{h':Mp}(g:ku N0 σ (Γ.map (·.2)) h nx)(hs:tj N0 Γ s=some sv)(hx:tj N0 Γ x=some xv)(ht:K6 h size sv=some (xs,h'))(hy:X8 h' size xv=some (m,ys))
 (ed:ys.all js=true) (hz:zero.length=size) (hb:bytes≠0) (h1:xs.length+m<=1048576) (h2:bytes<=65536) (Gu:0 < size) (h0:xs.length+m≠0)
 (aP:∀aI,Ag nx σ aI->ku N0 aI (.slice (some ⟨nx,0,none⟩) (xs.length / size+m) lM::Γ.map (·.2)) ((nx,.grow size (xs++ys))::h') (nx+1)->
   VO P n rs (ap d (rn aI (.slice (some ⟨nx,0,none⟩) (xs.length / size+m) lM)) (bU aI Γ)) [kY A aI ((nx,.grow size (xs++ys))::h')] Z K):
 VO P n (⟨d,none,.append t size bytes zero s x⟩::rs) (bU σ Γ) [kY A σ h] Z K:=by
 obtain⟨k,sp,k1,k2,k3,k4⟩:=JX g Gu ht;have g':ku N0 σ (Γ.map (·.2)) h' nx:=⟨g.fix,g.le,fun p hp=>g.ids p (k3 p hp),fun p hp=>g.grow p (k3 p hp),fun p hp=>g.cells p (k3 p hp),g.bu⟩;obtain⟨s1,s2,s3,s4⟩:=M4 g' hy;have KB:=k1.len;rw[Q5]at KB;have Ct:k<=xs.length:=by rw[KB];exact Nat.le_mul_of_pos_right _ Gu
 have hdiv:xs.length / size=k:=by rw[KB];exact Nat.mul_div_cancel _ Gu
 refine VO.imp (ao.perm (B:=[aj (rn σ sv) (xs.map (rn σ)) sp,kY A σ h']) (by simpa using k2)) ?_;refine jH (iq g hs).1 (iq g hx).1 k1 .here s1 (R:=[kY A σ h']) (by simpa using s2) (by rw[Q5];exact s3) (tG σ _ ed) hz hb ?_ fun eW bE bD=>?_
 ·have:(2*(k+m)+192)*bytes<=2097344*65536:=Nat.mul_le_mul Zo h2;omega
 obtain⟨b,o,c,rfl,Ua,oA⟩:=bD.some (by
  rcases Ql (k+m)with e|e
  ·exfalso;have ek:k=0:=by omega
   rw[ek,Qw]at KB;omega
  ·exact e)
 have a:=oa σ nx b o c bE;obtain⟨u1,u2,u3,u4⟩:=uX σ nx b o c bE;have hk:=aP (iK σ nx b o c bE) a (g.new k3 (fun v hv=>by
  rcases QF.1 hv with hv|hv
  ·exact(k4 v hv).mono (Qo _)
  ·exact(s4 v hv).mono (Qo _)) (by
  simp only[N1,u3,u4];have:((xs.map (rn σ))++(ys.map (rn σ))).length+bE.length=c*size:=oA;simpa using this) (fun v hv=>by
  rcases QH.1 hv with rfl|hv
  ·exact bT.slc (Qr _)
  ·exact(g.bu v hv).mono (Qo _)))
 have hC:Ho (iK σ nx b o c bE) nx lM=c:=by simp[Ho,u3]
 simp only[bn,qX,u1,u2,hC,Qj,hdiv]at hk;rw[sU a g.bu];refine VO.imp (uK (B:=kY A (iK σ nx b o c bE) ((nx,.grow size (xs++ys))::h')) ?_) hk;rw[nL g k3];simp only[yL,u1,u2,u4,aj]
 congr 2
 rw[QA]
 congr 1
 congr 1
 ·exact QB fun w hw=>(k4 w hw _ _ a.symm)
 ·exact QB fun w hw=>(s4 w hw _ _ a.symm)
theorem Xx {F:CF}(hF:oM A P N0 F){f:Nat}{xs:List Operand}{args:List Value}{bI:PR}(g:ku N0 σ (Γ.map (·.2)) h nx)(he:LM N0 Γ xs=some args)(hf:F f args h nx=some bI)
 (aP:∀v h' aX aI,bI=.val v h' aX->Ag nx σ aI->nx<=aX->ku N0 aI (v::Γ.map (·.2)) h' aX->VO P n rs (ap d (rn aI v) (bU aI Γ)) [kY A aI h'] Z K)
 (qd:∀ch h' aX aI,bI=.uL ch h' aX->Ag nx σ aI->nx<=aX->ku N0 aI (ch.map (·.v)) h' aX->Z (Hp aI ch) (bU σ Γ) [kY A aI h']):
 VO P n (⟨d,none,.call f xs⟩::rs) (bU σ Γ) [kY A σ h] Z K:=by
 obtain⟨h1,h2⟩:=Ξ g he;refine kL (hF f args h nx bI hf σ (g.with h2)) h1 (R:=[]) (by simp[eo]) ?_ ?_
 ·rintro v Post ⟨v0,h',aX,aI,r1,r2,r3,r4,rfl,rfl⟩
  rw[vm,sU r2 g.bu];exact aP v0 h' aX aI r1 r2 r3 (r4.with fun u hu=>by
   rcases QH.1 hu with rfl|hu
   ·exact r4.bu _ Zs
   ·exact(g.bu u hu).mono r3)
 ·rintro ch Post ⟨v0,h',aX,aI,r1,r2,r3,r4,rfl,rfl⟩
  rw[vm];exact qd v0 h' aX aI r1 r2 r3 r4
end
end Go.V

/-
  The evaluator.
-/
import Derived.Test.YtijnokbblmbpkaaGreatDoorS7
set_option linter.all false
namespace Go.V
open Go
inductive tV where
 |cells (vs:List Value)
 |grow (size:Nat) (vs:List Value)
 |obj (o:Obj)
abbrev Mp:=List (Nat×tV)
def rS:Mp->Nat->Option tV
 |[],_=>none
 |(i,b)::r,k=>match Nat.beq i k with|true=>some b|false=>rS r k
def IT:Mp->Nat->tV->Mp
 |[],_,_=>[]
 |(i,b)::r,k,c=>match Nat.beq i k with|true=>(i,c)::r|false=>(i,b)::IT r k c
def rL:Mp->Nat->Mp
 |[],_=>[]
 |(i,b)::r,k=>match Nat.beq i k with|true=>r|false=>(i,b)::rL r k
def Wv:tV->Option (List Value)
 |.cells vs=>some vs
 |.grow _ vs=>some vs
 |.obj _=>none
def Ra:tV->List Value->tV
 |.cells _,vs=>.cells vs
 |.grow s _,vs=>.grow s vs
 |.obj o,_=>.obj o
def sN(N0:Nat)(Γ:Env):Operand->Option Value
 |.tmp t=>look Γ t
 |.const v=>if oV v then some v else none
 |.global g=>if Nat.blt g N0 then some (.pointer (some ⟨g,0,none⟩))else none
 |.func f=>some (.func (.func f) #[] #[])
def KH(N0:Nat)(Γ:Env):List Operand->Option (List Value)
 |[]=>some []
 |x::r=>match sN N0 Γ x with
  |some v=>match KH N0 Γ r with
   |some l=>some (v::l)
   |none=>none
  |none=>none
def rO(N0:Nat)(Γ:Env)(x:Operand):Value:=(sN N0 Γ x).getD undef
def rZ(N0:Nat)(Γ:Env)(x:Operand):Bool:=(sN N0 Γ x).isSome
inductive PR where
 |val (v:Value) (h:Mp) (nx:Nat)
 |uk (ch:List PanicEntry) (h:Mp) (nx:Nat)
inductive OR where
 |ok (Γ:Env) (h:Mp) (nx:Nat)
 |uk (ch:List PanicEntry) (Γ:Env) (h:Mp) (nx:Nat)
abbrev CF:=Nat->List Value->Mp->Nat->Option PR
def hK(h:Mp)(b o n:Nat):Option (List Value):=
 match rS h b with
 |some k=>match Wv k with
  |some vs=>match Nat.ble (o+n) vs.length with
   |true=>some ((vs.drop o).take n)
   |false=>none
  |none=>none
 |none=>none
def Je(h:Mp)(b o:Nat)(us:List Value):Option Mp:=
 match rS h b with
 |some k=>match Wv k with
  |some vs=>match Nat.ble (o+us.length) vs.length with
   |true=>match us.all jo with
    |true=>some (IT h b (Ra k (vs.take o++us++vs.drop (o+us.length))))
    |false=>none
   |false=>none
  |none=>none
 |none=>none
def WJ(h:Mp)(size:Nat):Value->Option (Nat×List Value)
 |.slice (some ⟨b,o,none⟩) m _=>match hK h b o (m*size)with
  |some l=>some (m,l)
  |none=>none
 |.slice none m _=>match m with|0=>some (0,[])|_=>none
 |.string s=>match size with|1=>some (s.size,dV s)|_=>none
 |_=>none
def Ka(h:Mp)(size:Nat):Value->Option (List Value×Mp)
 |.slice none 0 0=>some ([],h)
 |.slice (some ⟨b,o,none⟩) n c=>match o with
  |0=>match rS h b with
   |some (.cells vs)=>match Nat.beq vs.length (c*size)&&(Nat.ble n c&&Nat.blt c iZ)with
    |true=>some (vs.take (n*size),rL h b)
    |false=>none
   |some (.grow s vs)=>match Nat.beq s size&&(Nat.beq c iZ&&Nat.ble (n*size) vs.length)with
    |true=>some (vs.take (n*size),rL h b)
    |false=>none
   |_=>none
  |_=>none
 |_=>none
def M3(N0:Nat)(Γ:Env)(d:Nat):Option Operand->Option Nat
 |none=>some d
 |some x=>match sN N0 Γ x with
  |some (.int _ (.ofNat z))=>some z
  |_=>none
def By(N0:Nat)(r:R)(Γ:Env)(h:Mp)(nx:Nat):Option PR:=
 match kd r&&(okC r&&((iN r).all (rZ N0 Γ)&&okS (rO N0 Γ) r))with
 |true=>match kT (rO N0 Γ) r with
  |some v=>some (.val v h nx)
  |none=>none
 |false=>none
def slcU(N0:Nat)(Γ:Env)(h:Mp)(size:Nat)(lo hi:Option Operand)(b o n c:Nat):Option Value:=
 match rS h b with
 |some (.grow s vs)=>match M3 N0 Γ 0 lo,M3 N0 Γ n hi with
  |some l,some m=>match Nat.beq s size&&(Nat.blt 0 size&&(Nat.beq o ((c - iZ)*size)&&(Nat.ble ((c - iZ+n)*size) vs.length&&(Nat.ble l m&&(Nat.ble m n&&(Nat.blt l n||Nat.beq l 0))))))with
   |true=>some (.slice (some ⟨b,o+l*size,none⟩) (m - l) (c+l))
   |false=>none
  |_,_=>none
 |_=>none
def yG(N0:Nat)(F:CF)(r:R)(Γ:Env)(h:Mp)(nx:Nat):Option PR:=
 match r with
 |.pS x=>match sN N0 Γ x with
  |some (.pointer (some ⟨b,o,none⟩))=>match hK h b o 1 with
   |some [v]=>some (.val v h nx)
   |_=>none
  |_=>none
 |.lx n x=>match sN N0 Γ x with
  |some (.pointer (some ⟨b,o,none⟩))=>match hK h b o n with
   |some us=>some (.val (.agg us.toArray) h nx)
   |none=>none
  |_=>none
 |.alloc t z=>match z.all bt with
  |true=>some (.val (.pointer (some ⟨nx,0,none⟩)) ((nx,.cells z)::h) (nx+1))
  |false=>none
 |.box t x=>match sN N0 Γ x with
  |some v=>some (.val (.pointer (some ⟨nx,0,none⟩)) ((nx,.cells v.cells.toList)::h) (nx+1))
  |none=>none
 |.lN t len z ps=>match z.all bt&&((ps.map (·.2.2)).all (rZ N0 Γ)&&Nat.blt len iZ)with
  |true=>match jZ (kq len z) (jU (rO N0 Γ) ps)with
   |some out=>some (.val (.slice (some ⟨nx,0,none⟩) len len) ((nx,.cells out)::h) (nx+1))
   |none=>none
  |false=>none
 |.store n x v=>match sN N0 Γ x,sN N0 Γ v with
  |some (.pointer (some ⟨b,o,none⟩)),some u=>match Nat.beq u.cells.toList.length n with
   |true=>match Je h b o u.cells.toList with
    |some h'=>some (.val undef h' nx)
    |none=>none
   |false=>none
  |_,_=>none
 |.append t size bytes zero s x=>match sN N0 Γ s,sN N0 Γ x with
  |some sv,some xv=>match Ka h size sv with
   |some (xs,h')=>match WJ h' size xv with
    |some (m,ys)=>match ys.all jo&&(Nat.beq zero.length size&&(!Nat.beq bytes 0&&(Nat.ble (xs.length+m) 1048576&&(Nat.ble bytes 65536&&(Nat.blt 0 size&&!Nat.beq (xs.length+m) 0)))))with
     |true=>some (.val (.slice (some ⟨nx,0,none⟩) (xs.length / size+m) iZ) ((nx,.grow size (xs++ys))::h') (nx+1))
     |false=>none
    |none=>none
   |none=>none
  |_,_=>none
 |.call f xs=>match KH N0 Γ xs with
  |some args=>F f args h nx
  |none=>none
 |.qI size x lo hi mx=>match mx,sN N0 Γ x with
  |none,some (.slice (some ⟨b,o,none⟩) n c)=>match Nat.blt c iZ with
   |true=>By N0 (.qI size x lo hi mx) Γ h nx
   |false=>match slcU N0 Γ h size lo hi b o n c with
    |some v=>some (.val v h nx)
    |none=>none
  |_,_=>By N0 (.qI size x lo hi mx) Γ h nx
 |r=>By N0 r Γ h nx
def HN(Γ:Env):Option (Nat×Bool)->Option Bool
 |none=>some true
 |some (s,b)=>match look Γ s with
  |some (.bool c)=>some (c==b)
  |some (.tuple vs)=>match vs.toList with
   |[]=>some false
   |_=>none
  |_=>none
def wo(N0:Nat)(F:CF):List RO->Env->Mp->Nat->Option OR
 |[],Γ,h,nx=>some (.ok Γ h nx)
 |x::rs,Γ,h,nx=>match HN Γ x.guard with
  |none=>none
  |some false=>wo N0 F rs (ap x.dst undef Γ) h nx
  |some true=>match yG N0 F x.op Γ h nx with
   |none=>none
   |some (.uk ch h' aV)=>some (.uk ch Γ h' aV)
   |some (.val v h' aV)=>wo N0 F rs (ap x.dst v Γ) h' aV
def Nl(e:Value->Value->Bool):List Value->List Value->Bool
 |[],[]=>true
 |x::xs,y::ys=>e x y&&Nl e xs ys
 |_,_=>false
def KG:Nat->Value->Value->Bool
 |0,_,_=>false
 |k+1,a,b=>match a,b with
  |.bool x,.bool y=>x==y
  |.int i x,.int j y=>decide (i=j)&&decide (x=y)
  |.string x,.string y=>decide (x=y)
  |.pointer none,.pointer none=>true
  |.pointer (some x),.pointer (some y)=>decide (x=y)
  |.slice none n c,.slice none m d=>Nat.beq n m&&Nat.beq c d
  |.slice (some x) n c,.slice (some y) m d=>decide (x=y)&&(Nat.beq n m&&Nat.beq c d)
  |.map none,.map none=>true
  |.map (some x),.map (some y)=>Nat.beq x y
  |.nilFunc,.nilFunc=>true
  |.nilIface,.nilIface=>true
  |.iface t x,.iface u y=>decide (t=u)&&KG k x y
  |.agg x,.agg y=>Nl (KG k) x.toList y.toList
  |.tuple x,.tuple y=>Nl (KG k) x.toList y.toList
  |.func (.func f) x y,.func (.func g) z w=>decide (f=g)&&(Nl (KG k) x.toList z.toList&&Nl (KG k) y.toList w.toList)
  |_,_=>false
def eqE:Env->Env->Bool
 |[],[]=>true
 |(s,x)::r,(t,y)::q=>Nat.beq s t&&(KG 20 x y&&eqE r q)
 |_,_=>false
def eqM:List MapEntry->List MapEntry->Bool
 |[],[]=>true
 |x::xs,y::ys=>(KG 20 x.key y.key&&KG 20 x.val y.val)&&(Nat.beq x.born y.born&&eqM xs ys)
 |_,_=>false
def eqB:tV->tV->Bool
 |.cells x,.cells y=>Nl (KG 20) x y
 |.grow n x,.grow m y=>Nat.beq n m&&Nl (KG 20) x y
 |.obj (.map x c),.obj (.map y d)=>eqM x.toList y.toList&&Nat.beq c d
 |.obj (.stringIter x c),.obj (.stringIter y d)=>decide (x=y)&&Nat.beq c d
 |_,_=>false
def eqH:Mp->Mp->Bool
 |[],[]=>true
 |(s,x)::r,(t,y)::q=>Nat.beq s t&&(eqB x y&&eqH r q)
 |_,_=>false
def Jt(N0:Nat)(F:CF)(aU:List Nat)(Γ:Env)(h:Mp)(nx:Nat)(Δ:Env)(h1:Mp)(n1:Nat):List (List RO)->Bool
 |[]=>true
 |rs::r=>match wo N0 F rs Γ h nx with
  |some (.ok ay h' aV)=>match eqE (aT aU ay) Δ&&(Nat.beq aV n1&&eqH h' h1)with
   |true=>Jt N0 F aU Γ h nx Δ h1 n1 r
   |false=>false
  |_=>false
inductive Ex where
 |normal
 |exit (id:Nat)
 |ret
 |uk (ch:List PanicEntry)
abbrev IR:=Option (Ex×Env×Mp×Nat)
def Fk(body:Env->Mp->Nat->IR):Nat->Env->Mp->Nat->IR
 |0,_,_,_=>none
 |k+1,Γ,h,nx=>match body Γ h nx with
  |none=>none
  |some (.normal,ay,h',aV)=>Fk body k ay h' aV
  |some r=>some r
def w7(N0:Nat)(F:CF)(L:Nat):IC->Env->Mp->Nat->IR
 |.skip,Γ,h,nx=>some (.normal,Γ,h,nx)
 |.ly rs aU,Γ,h,nx=>match wo N0 F rs Γ h nx with
  |none=>none
  |some (.ok ay h' aV)=>some (.normal,aT aU ay,h',aV)
  |some (.uk ch ay h' aV)=>some (.uk ch,ay,h',aV)
 |.draw rj aU,Γ,h,nx=>match rj with
  |[]=>none
  |rs::r=>match wo N0 F rs Γ h nx with
   |some (.ok ay h' aV)=>match r with
    |[]=>some (.normal,aT aU ay,h',aV)
    |r0::r1=>match Jt N0 F aU Γ h nx (aT aU ay) h' aV (r0::r1)with
     |true=>some (.normal,aT aU ay,h',aV)
     |false=>none
   |_=>none
 |.seq a b,Γ,h,nx=>match w7 N0 F L a Γ h nx with
  |none=>none
  |some (.normal,ay,h',aV)=>w7 N0 F L b ay h' aV
  |some r=>some r
 |.cond c a b,Γ,h,nx=>match sN N0 Γ c with
  |some (.bool true)=>w7 N0 F L a Γ h nx
  |some (.bool false)=>w7 N0 F L b Γ h nx
  |_=>none
 |.block id a,Γ,h,nx=>match w7 N0 F L a Γ h nx with
  |none=>none
  |some (.exit i,ay,h',aV)=>match Nat.beq i id with
   |true=>some (.normal,ay,h',aV)
   |false=>some (.exit i,ay,h',aV)
  |some r=>some r
 |.loop a,Γ,h,nx=>Fk (w7 N0 F L a) L Γ h nx
 |.exit id,Γ,h,nx=>some (.exit id,Γ,h,nx)
 |.ret,Γ,h,nx=>some (.ret,Γ,h,nx)
 |.gE ..,_,_,_=>none
 |.scope a,Γ,h,nx=>w7 N0 F L a Γ h nx
 |.label _,Γ,h,nx=>some (.normal,Γ,h,nx)
 |.free ..,_,_,_=>none
def yk(Γ:Env)(h:Mp):List RV->Option (List Value)
 |[]=>some []
 |.tmp t::r=>match look Γ t,yk Γ h r with
  |some v,some l=>some (v::l)
  |_,_=>none
 |.bT t::r=>match look Γ t with
  |some (.pointer (some ⟨b,o,none⟩))=>match hK h b o 1,yk Γ h r with
   |some [v],some l=>some (v::l)
   |_,_=>none
  |_=>none
 |.aJ t n::r=>match look Γ t with
  |some (.pointer (some ⟨b,o,none⟩))=>match hK h b o n,yk Γ h r with
   |some us,some l=>some (.agg us.toArray::l)
   |_,_=>none
  |_=>none
inductive FE where
 |fir (F:aQ)
def RN:List (Nat×FE)->Nat->Option FE
 |[],_=>none
 |(i,b)::r,k=>match Nat.beq i k with|true=>some b|false=>RN r k
def orcTo(a b:CF):CF:=fun f args h nx=>match a f args h nx with
 |some r=>some r
 |none=>b f args h nx
def xg(N0:Nat)(Cm:List (Nat×FE))(SG:CF)(L:Nat):Nat->CF
 |0,_,_,_,_=>none
 |k+1,f,args,h,nx=>match SG f args h nx with
  |some r=>some r
  |none=>match RN Cm f with
   |none=>none
   |some (.fir R)=>match Nat.ble args.length R.n with
    |false=>none
    |true=>match w7 N0 (xg N0 Cm SG L k) L R.body (aI 0 args) h nx with
     |some (.normal,ay,h',aV)=>match yk ay h' R.bH with
      |some vs=>some (.val (bJ vs) h' aV)
      |none=>none
     |some (.ret,ay,h',aV)=>match yk ay h' R.bH with
      |some vs=>some (.val (bJ vs) h' aV)
      |none=>none
     |some (.uk ch,_,h',aV)=>some (.uk ch h' aV)
     |_=>none
def Ag(k:Nat)(σ τ:Sg):Prop:=∀i,i < k->σ.qZ i=τ.qZ i/\σ.off i=τ.off i/\σ.cap i=τ.cap i/\σ.tl i=τ.tl i
theorem Ag.refl(k:Nat)(σ:Sg):Ag k σ σ:=fun _ _=>⟨rfl,rfl,rfl,rfl⟩
theorem Ag.symm {k:Nat}{σ τ:Sg}(h:Ag k σ τ):Ag k τ σ:=fun i hi=>let⟨a,b,c,d⟩:=h i hi;⟨a.symm,b.symm,c.symm,d.symm⟩
theorem Ag.mono {k l:Nat}{σ τ:Sg}(h:Ag l σ τ)(hk:k<=l):Ag k σ τ:=fun i hi=>h i Zo
theorem Ag.trans {k l:Nat}{σ τ υ:Sg}(h:Ag k σ τ)(g:Ag l τ υ)(hk:k<=l):Ag k σ υ:=fun i hi=>
 let⟨a,b,c,d⟩:=h i hi;let⟨a',b',c',d'⟩:=g i Zo;⟨a.trans a',b.trans b',c.trans c',d.trans d'⟩
def bR(k:Nat)(v:Value):Prop:=∀σ τ,Ag k σ τ->rn σ v=rn τ v
theorem bR.mono {k l:Nat}{v:Value}(h:bR k v)(hk:k<=l):bR l v:=fun σ τ a=>h σ τ (a.mono hk)
theorem bR.plain {k:Nat}{v:Value}(h:oV v=true):bR k v:=fun σ τ _=>by rw[dJ h,dJ h]
theorem bR.bt {k:Nat}{v:Value}(h:V.bt v=true):bR k v:=fun σ τ _=>by rw[eH h,eH h]
theorem map_inj {f g:Value->Value}:∀{l:List Value},l.map f=l.map g->∀v∈l,f v=g v:=by
 intro l
 induction l with
 |nil=>intro _ v h;cases h
 |cons x l ih=>
  intro h v hv;simp only[Q7,vh]at h;rcases QC.1 hv with rfl|hv
  ·exact h.1
  ·exact ih h.2 v hv
theorem bR.cells {k:Nat}{v:Value}(h:bR k v):∀c∈v.cells.toList,bR k c:=fun c hc σ τ a=>by
 have h1:=congrArg (fun u=>(Value.cells u).toList) (h σ τ a);simp only[qE,vD]at h1;exact map_inj h1 c hc
theorem bR.agg {k:Nat}{l:List Value}(h:∀v∈l,bR k v):bR k (.agg l.toArray):=fun σ τ a=>by
 simp only[yl];congr 1;apply vC.1;simp only[vD];exact Q6 fun x hx=>h x hx σ τ a
theorem bR.bJ {k:Nat}{l:List Value}(h:∀v∈l,bR k v):bR k (V.bJ l):=by
 have ht:bR k (.tuple l.toArray):=fun σ τ a=>by
  simp only[ym];congr 1;apply vC.1;simp only[vD];exact Q6 fun x hx=>h x hx σ τ a
 cases l with
 |nil=>exact ht
 |cons x l=>cases l with
  |nil=>exact h x Zs
  |cons y l=>exact ht
theorem rn_tup(σ:Sg)(l:List Value):rn σ (V.bJ l)=V.bJ (l.map (rn σ)):=by
 cases l with
 |nil=>simp[V.bJ]
 |cons x l=>cases l with
  |nil=>simp[V.bJ]
  |cons y l=>simp[V.bJ]
def rnO(σ:Sg):Obj->Obj
 |.map es c=>.map (es.map fun e=>{e with key:=rn σ e.key,val:=rn σ e.val}) c
 |o=>o
def yD(σ:Sg)(i:Nat):tV->List kC
 |.cells vs=>kA (σ.qZ i) (σ.off i) (vs.map (rn σ))
 |.grow _ vs=>kA (σ.qZ i) (σ.off i) (vs.map (rn σ)++σ.tl i)
 |.obj o=>[.obj (σ.qZ i) (rnO σ o)]
def kW(A:List kC)(σ:Sg):Mp->List kC
 |[]=>A
 |p::h=>yD σ p.1 p.2++kW A σ h
variable {A:List kC}
theorem Fc {σ:Sg}:∀{h:Mp},(kW A σ h).Perm (A++kW [] σ h):=by
 intro h
 induction h with
 |nil=>simp[kW]
 |cons p h ih=>exact(vV _ ih).trans (zR _ _ _)
def Yj(k:Nat):tV->Prop
 |.cells vs=>∀v∈vs,bR k v
 |.grow _ vs=>∀v∈vs,bR k v
 |.obj o=>∀σ τ,Ag k σ τ->rnO σ o=rnO τ o
theorem Yj.mono {k l:Nat}{b:tV}(h:Yj k b)(hk:k<=l):Yj l b:=by
 cases b with
 |cells vs=>exact fun v hv=>(h v hv).mono hk
 |grow s vs=>exact fun v hv=>(h v hv).mono hk
 |obj o=>exact fun σ τ a=>h σ τ (a.mono hk)
def MN(σ:Sg)(i:Nat):tV->Prop
 |.cells _=>True
 |.grow s vs=>vs.length+(σ.tl i).length=σ.cap i*s
 |.obj _=>σ.off i=0
structure ki (N0:Nat)(σ:Sg)(bu:List Value)(h:Mp)(nx:Nat):Prop where
 fix:∀g,g < N0->σ.qZ g=g/\σ.off g=0
 le:N0<=nx
 ids:∀p∈h,p.1 < nx
 grow:∀p∈h,MN σ p.1 p.2
 cells:∀p∈h,Yj nx p.2
 bu:∀v∈bu,bR nx v
theorem ki.with {N0:Nat}{σ:Sg}{bu GK:List Value}{h:Mp}{nx:Nat}(g:ki N0 σ bu h nx)(hv:∀v∈GK,bR nx v):ki N0 σ GK h nx:=⟨g.fix,g.le,g.ids,g.grow,g.cells,hv⟩
theorem Oh {k i:Nat}{σ τ:Sg}{b:tV}(a:Ag k σ τ)(hi:i < k)(hb:Yj k b):yD σ i b=yD τ i b:=by
 obtain⟨a1,a2,a3,a4⟩:=a i hi;cases b with
 |cells vs=>simp only[yD,a1,a2];congr 1;exact Q6 fun v hv=>hb v hv σ τ a
 |grow s vs=>simp only[yD,a1,a2,a4];congr 2;exact Q6 fun v hv=>hb v hv σ τ a
 |obj o=>simp only[yD,a1,hb σ τ a]
theorem Oi {k:Nat}{σ τ:Sg}{h:Mp}(a:Ag k σ τ)(hi:∀p∈h,p.1 < k)(hb:∀p∈h,Yj k p.2):kW A σ h=kW A τ h:=by
 induction h with
 |nil=>rfl
 |cons p h ih=>
  simp only[kW];rw[Oh a (hi p Zs) (hb p Zs),ih (fun q hq=>hi q (by simp[hq])) (fun q hq=>hb q (by simp[hq]))]
theorem MN.ag {k i:Nat}{σ τ:Sg}{b:tV}(a:Ag k σ τ)(hi:i < k)(h:MN σ i b):MN τ i b:=by
 obtain⟨a1,a2,a3,a4⟩:=a i hi;cases b with
 |cells vs=>trivial
 |grow s vs=>simpa only[MN,<- a3,<- a4]using h
 |obj o=>simpa only[MN,<- a2]using h
theorem yI {a b:Nat}(h:Nat.beq a b=true):a=b:=Nat.eq_of_beq_eq_true h
theorem Yu {a b:Nat}(h:Nat.beq a b=false):a≠b:=Nat.ne_of_beq_eq_false h
theorem iu {a b:Nat}(h:Nat.ble a b=true):a<=b:=Qg h
theorem Cy {a b:Nat}(h:Nat.blt a b=true):a < b:=Qg h
theorem ze {h:Mp}{b:Nat}{k:tV}(e:rS h b=some k):(b,k)∈h:=by
 induction h with
 |nil=>cases e
 |cons p h ih=>
  obtain⟨i,c⟩:=p;simp only[rS]at e;split at e
  ·rename_i hb;cases e;rw[yI hb];simp
  ·simp[ih e]
theorem Ey {h:Mp}{b:Nat}{p:Nat×tV}(e:p∈rL h b):p∈h:=by
 induction h with
 |nil=>cases e
 |cons q h ih=>
  obtain⟨i,c⟩:=q;simp only[rL]at e;split at e
  ·simp[e]
  ·rcases QC.1 e with rfl|e
   ·simp
   ·simp[ih e]
theorem yq {h:Mp}{b:Nat}{c:tV}{p:Nat×tV}(e:p∈IT h b c):p∈h∨p=(b,c):=by
 induction h with
 |nil=>cases e
 |cons q h ih=>
  obtain⟨i,d⟩:=q;simp only[IT]at e;split at e
  ·rename_i hb;rcases QC.1 e with rfl|e
   ·right;rw[yI hb]
   ·left;simp[e]
  ·rcases QC.1 e with rfl|e
   ·simp
   ·rcases ih e with h1|h1
    ·left;simp[h1]
    ·exact .inr h1
theorem mW {σ:Sg}{h:Mp}{b:Nat}{k:tV}(e:rS h b=some k):(kW A σ h).Perm (yD σ b k++kW A σ (rL h b)):=by
 induction h with
 |nil=>cases e
 |cons p h ih=>
  obtain⟨i,c⟩:=p;simp only[rS]at e;split at e
  ·rename_i hb;cases e;simp only[rL,hb];rw[yI hb];exact .refl _
  ·rename_i hb;simp only[rL,hb];exact(vV _ (ih e)).trans (zR _ _ _)
theorem Le {σ:Sg}{h:Mp}{b:Nat}{k c:tV}(e:rS h b=some k):(kW A σ (IT h b c)).Perm (yD σ b c++kW A σ (rL h b)):=by
 induction h with
 |nil=>cases e
 |cons p h ih=>
  obtain⟨i,d⟩:=p;simp only[rS]at e;split at e
  ·rename_i hb;cases e;simp only[rL,IT,hb];rw[yI hb];exact .refl _
  ·rename_i hb;simp only[rL,IT,hb];exact(vV _ (ih e)).trans (zR _ _ _)
theorem Cc {σ:Sg}{b:Nat}{k:tV}{vs:List Value}(e:Wv k=some vs):∃tl,(∀us,yD σ b (Ra k us)=kA (σ.qZ b) (σ.off b) (us.map (rn σ)++tl))/\yD σ b k=kA (σ.qZ b) (σ.off b) (vs.map (rn σ)++tl):=by
 cases k with
 |cells ws=>cases e;exact⟨[],fun us=>by simp[yD,Ra],by simp[yD]⟩
 |grow s ws=>cases e;exact⟨σ.tl b,fun us=>rfl,rfl⟩
 |obj o=>cases e
theorem oX {h:Mp}{b o n:Nat}{us:List Value}(e:hK h b o n=some us):∃k vs,rS h b=some k/\Wv k=some vs/\o+n<=vs.length/\us=(vs.drop o).take n:=by
 unfold hK at e;split at e
 case h_2=>cases e
 rename_i k hk;split at e
 case h_2=>cases e
 rename_i vs lJ;split at e
 case h_2=>cases e
 rename_i hb;cases e;exact⟨k,vs,hk,lJ,iu hb,rfl⟩
theorem nC {h:Mp}{b o n:Nat}{us:List Value}(e:hK h b o n=some us):us.length=n:=by
 obtain⟨k,vs,_,_,h1,rfl⟩:=oX e;simp;omega
theorem mr {N0:Nat}{σ:Sg}{bu:List Value}{h:Mp}{nx b o n:Nat}{us:List Value}(g:ki N0 σ bu h nx)(e:hK h b o n=some us):∀v∈us,bR nx v:=by
 obtain⟨k,vs,h1,h2,_,rfl⟩:=oX e;have hs:=g.cells _ (ze h1);intro v hv;have hm:v∈vs:=List.mem_of_mem_drop (QI hv);cases k with
 |cells ws=>cases h2;exact hs v hm
 |grow s ws=>cases h2;exact hs v hm
 |obj o=>cases h2
theorem lj {b o i m:Nat}{vs us:List Value}(h:us=(vs.drop i).take m):∀x∈kA b (o+i) us,x∈kA b o vs:=by
 intro x hx;subst h;obtain⟨j,v,hj,rfl⟩:=kI.1 hx;refine kI.2 ⟨i+j,v,?_,by congr 1;omega⟩;simp only[List.getElem?_take,Vi]at hj;split at hj
 ·exact hj
 ·cases hj
theorem eG {σ:Sg}{h:Mp}{b o n:Nat}{us:List Value}(e:hK h b o n=some us):∀x∈kA (σ.qZ b) (σ.off b+o) (us.map (rn σ)),x∈kW A σ h:=by
 obtain⟨k,vs,h1,h2,h3,rfl⟩:=oX e;obtain⟨tl,_,ht⟩:=Cc (σ:=σ) (b:=b) h2;intro x hx;refine(mW h1).mem_iff.2 (Zw _ ?_);rw[ht];refine lj (m:=n) (i:=o) ?_ x hx;rw[List.drop_append_of_le_length ru,List.take_append_of_le_length ru];simp[List.map_take,List.map_drop]
theorem IA(σ:Sg)(v:Value):jo (rn σ v)=jo v:=by
 cases v <;> try simp[jo]
 ·rename_i a;cases a <;> simp[jo]
 ·rename_i a _ _;cases a <;> simp[jo]
 ·rename_i a;cases a <;> simp[jo]
theorem s6(σ:Sg)(l:List Value)(h:l.all jo=true):(l.map (rn σ)).all jo=true:=by
 rw[vZ]at h|-;intro x hx;obtain⟨y,hy,rfl⟩:=QH.1 hx;rw[IA];exact h y hy
def bS(σ:Sg)(Γ:Env):Env:=Γ.map fun p=>(p.1,rn σ p.2)
theorem iH(σ:Sg)(Γ:Env)(t:Nat):look (bS σ Γ) t=(look Γ t).map (rn σ):=by
 induction Γ with
 |nil=>rfl
 |cons p Γ ih=>
  simp only[bS,Q7,look];by_cases e:p.1=t
  ·simp[e]
  ·simp only[e,if_false];exact ih
theorem xQ {Γ:Env}{t:Nat}{v:Value}(h:look Γ t=some v):v∈Γ.map (·.2):=by
 induction Γ with
 |nil=>cases h
 |cons p Γ ih=>
  simp only[look]at h;split at h
  ·cases h;simp
  ·simp[ih h]
theorem J2(σ:Sg)(d:Option Nat)(v:Value)(Γ:Env):bS σ (ap d v Γ)=ap d (rn σ v) (bS σ Γ):=by cases d <;> rfl
theorem Gb {k:Nat}{d:Option Nat}{v:Value}{Γ:Env}(h:∀u∈v::Γ.map (·.2),bR k u):∀u∈(ap d v Γ).map (·.2),bR k u:=by
 cases d with
 |none=>exact fun u hu=>h u (QD _ hu)
 |some d=>simpa[ap]using h
theorem sw(σ:Sg)(k:List Nat)(Γ:Env):bS σ (aT k Γ)=aT k (bS σ Γ):=by
 induction k with
 |nil=>rfl
 |cons t k ih=>
  simp only[aT,iH];cases look Γ t with
  |none=>exact ih
  |some v=>simp only[Qw,bS,Q7];congr 1
theorem oZ {n:Nat}{k:List Nat}{Γ:Env}(h:∀u∈Γ.map (·.2),bR n u):∀u∈(aT k Γ).map (·.2),bR n u:=by
 induction k with
 |nil=>intro u hu;cases hu
 |cons t k ih=>
  simp only[aT];split
  ·rename_i v hv;intro u hu;simp only[Q7,QC]at hu;rcases hu with rfl|hu
   ·exact h _ (xQ hv)
   ·exact ih u hu
  ·exact ih
theorem ss {k:Nat}{σ τ:Sg}{Γ:Env}(a:Ag k σ τ)(h:∀u∈Γ.map (·.2),bR k u):bS σ Γ=bS τ Γ:=by
 unfold bS;refine Q6 fun p hp=>?_
 rw[h p.2 (QH.2 ⟨p,hp,rfl⟩) σ τ a]
section
variable {N0 nx:Nat} {σ:Sg} {Γ:Env} {h:Mp}
theorem gS(g:ki N0 σ (Γ.map (·.2)) h nx){x:Operand}{v:Value}(e:sN N0 Γ x=some v):ev (bS σ Γ) x=some (rn σ v)/\bR nx v:=by
 cases x with
 |tmp t=>
  simp only[sN]at e;refine⟨by simp only[ev,iH,e,Qw],g.bu _ (xQ e)⟩
 |const u=>
  simp only[sN]at e;split at e
  ·rename_i hp;cases e;exact⟨by simp only[ev,dJ hp],bR.plain hp⟩
  ·cases e
 |global i=>
  simp only[sN]at e;split at e
  ·rename_i hi;cases e;obtain⟨f1,f2⟩:=g.fix i (Cy hi);refine⟨by simp only[ev,cQ,qw,f1,f2],fun aF τ' a=>?_⟩;obtain⟨a1,a2,_⟩:=a i (Qk (Cy hi) g.le);simp only[cQ,qw,a1,a2]
  ·cases e
 |func f=>
  simp only[sN,Qy]at e;subst e;exact⟨by simp[ev,rnF],fun aF τ' a=>by simp[rnF]⟩
theorem YR(g:ki N0 σ (Γ.map (·.2)) h nx):∀{xs:List Operand} {vs:List Value},KH N0 Γ xs=some vs->nQ (bS σ Γ) xs=some (vs.map (rn σ))/\∀v∈vs,bR nx v:=by
 intro xs
 induction xs with
 |nil=>intro vs e;simp only[KH,Qy]at e;subst e;exact⟨rfl,fun v hv=>by cases hv⟩
 |cons x xs ih=>
  intro vs e;simp only[KH]at e;split at e
  case h_2=>cases e
  rename_i v hv;split at e
  case h_2=>cases e
  rename_i l hl;cases e;obtain⟨h1,h2⟩:=gS g hv;obtain⟨h3,h4⟩:=ih hl;refine⟨by simp only[nQ,h1,h3,Q7],fun u hu=>?_⟩;rcases QC.1 hu with rfl|hu
  ·exact h2
  ·exact h4 u hu
theorem gW(g:ki N0 σ (Γ.map (·.2)) h nx){x:Operand}(e:rZ N0 Γ x=true):known (bS σ Γ) x=true/\DV (bS σ Γ) x=rn σ (rO N0 Γ x)/\bR nx (rO N0 Γ x):=by
 obtain⟨v,hv⟩:=Qt.1 e;obtain⟨h1,h2⟩:=gS g hv;exact⟨by simp[known,h1],by simp[DV,rO,h1,hv],by simpa[rO,hv]using h2⟩
end
def ii(σ:Sg)(k b o c:Nat)(t:List Value):Sg:=⟨fun i=>if i=k then b else σ.qZ i,fun i=>if i=k then o else σ.off i,fun i=>if i=k then c else σ.cap i,fun i=>if i=k then t else σ.tl i⟩
theorem nK(σ:Sg)(k b o c:Nat)(t:List Value):Ag k σ (ii σ k b o c t):=fun i hi=>by
 simp only[ii,if_neg (Nat.ne_of_lt hi),and_self]
theorem uF(σ:Sg)(k b o c:Nat)(t:List Value):(ii σ k b o c t).qZ k=b/\(ii σ k b o c t).off k=o/\(ii σ k b o c t).cap k=c/\(ii σ k b o c t).tl k=t:=by simp[ii]
theorem ki.new {N0 nx:Nat}{σ:Sg}{bu GK:List Value}{h h':Mp}{B:tV}{b o c:Nat}{t:List Value}(g:ki N0 σ bu h nx)(hh:∀p∈h',p∈h)(hB:Yj (nx+1) B)(hG:MN (ii σ nx b o c t) nx B)
 (hv:∀v∈GK,bR (nx+1) v):ki N0 (ii σ nx b o c t) GK ((nx,B)::h') (nx+1):=by
 have a:=nK σ nx b o c t;refine⟨fun i hi=>?_,Nat.le_succ_of_le g.le,fun p hp=>?_,fun p hp=>?_,fun p hp=>?_,hv⟩
 ·obtain⟨a1,a2,_⟩:=a i (Qk hi g.le);rw[<- a1,<- a2];exact g.fix i hi
 ·rcases QC.1 hp with rfl|hp
  ·exact Ql _
  ·exact Nat.lt_succ_of_lt (g.ids p (hh p hp))
 ·rcases QC.1 hp with rfl|hp
  ·exact hG
  ·exact(g.grow p (hh p hp)).ag a (g.ids p (hh p hp))
 ·rcases QC.1 hp with rfl|hp
  ·exact hB
  ·exact(g.cells p (hh p hp)).mono (Qi _)
theorem mX {N0 nx:Nat}{σ:Sg}{bu:List Value}{h h':Mp}{B:tV}{b o c:Nat}{t:List Value}(g:ki N0 σ bu h nx)(hh:∀p∈h',p∈h):
 kW A (ii σ nx b o c t) ((nx,B)::h')=yD (ii σ nx b o c t) nx B++kW A σ h':=by
 have:=Oi (A:=A) (nK σ nx b o c t) (fun p hp=>g.ids p (hh p hp)) (fun p hp=>g.cells p (hh p hp));rw[this];rfl
theorem bR.ptr {k i o:Nat}{s:Option Nat}(hi:i < k):bR k (.pointer (some ⟨i,o,s⟩)):=fun σ τ a=>by
 obtain⟨a1,a2,_⟩:=a i hi;simp only[cQ,qw,a1,a2]
theorem bR.slc {k i o n c:Nat}{s:Option Nat}(hi:i < k):bR k (.slice (some ⟨i,o,s⟩) n c):=fun σ τ a=>by
 obtain⟨a1,a2,a3,_⟩:=a i hi;simp only[bp,qw,Gi,a1,a2,a3]
set_option maxHeartbeats 1600000
variable {A:List kC}
def Gj(σ:Sg)(ch:List PanicEntry):List PanicEntry:=ch.map fun e=>{e with v:=rn σ e.v}
def ov(A:List kC)(P:Program)(N0:Nat)(F:CF):Prop:=∀f args h nx bH,F f args h nx=some bH->∀σ,ki N0 σ args h nx->
 jf P f (args.map (rn σ)) [kW A σ h] (fun v Post=>∃v0 h' aV aF,bH=.val v0 h' aV/\Ag nx σ aF/\nx<=aV/\ki N0 aF [v0] h' aV/\v=rn aF v0/\Post=[kW A aF h'])
  (fun ch Post=>∃Xh h' aV aF,bH=.uk Xh h' aV/\Ag nx σ aF/\nx<=aV/\ki N0 aF (Xh.map (·.v)) h' aV/\ch=Gj aF Xh/\Post=[kW A aF h'])
section
variable {P:Program} {N0 nx n:Nat} {σ:Sg} {Γ:Env} {h:Mp} {rs:List RO} {d:Option Nat} {Z:List PanicEntry->Env->SH->Prop} {K:Env->SH->Prop}
theorem UW {r:R}{v:Value}(g:ki N0 σ (Γ.map (·.2)) h nx)(hp:kd r=true)(hc:okC r=true)(hk:(iN r).all (rZ N0 Γ)=true)(ho:okS (rO N0 Γ) r=true)(hv:kT (rO N0 Γ) r=some v)
 (aM:bR nx v->VO P n rs (ap d (rn σ v) (bS σ Γ)) [kW A σ h] Z K):VO P n (⟨d,none,r⟩::rs) (bS σ Γ) [kW A σ h] Z K:=by
 have mT:=vZ.1 hk;refine nI hp ?_ (v:=rn σ v) ?_ (aM fun τ υ a=>?_)
 ·rw[vZ];exact fun x hx=>(gW g (mT x hx)).1
 ·rw[<- yh (σ:=σ) hc ho hv];exact fT hp fun x hx=>(gW g (mT x hx)).2.1
 ·have e1:=yh (σ:=τ) hc ho hv;have e2:=yh (σ:=υ) hc ho hv;have e3:kT (fun x=>rn τ (rO N0 Γ x)) r=kT (fun x=>rn υ (rO N0 Γ x)) r:=fT hp fun x hx=>(gW g (mT x hx)).2.2 τ υ a
  rw[e1,e2]at e3;exact Qx e3
theorem Pe {x:Operand}{b o:Nat}{v:Value}(g:ki N0 σ (Γ.map (·.2)) h nx)(hx:sN N0 Γ x=some (.pointer (some ⟨b,o,none⟩)))(hr:hK h b o 1=some [v])
 (aM:bR nx v->VO P n rs (ap d (rn σ v) (bS σ Γ)) [kW A σ h] Z K):VO P n (⟨d,none,.pS x⟩::rs) (bS σ Γ) [kW A σ h] Z K:=by
 have oh:=(gS g hx).1;simp only[cQ,qw]at oh;refine wt oh (.among ?_) (aM (mr g hr v Zs));exact eG hr _ Ji
theorem Pf {x:Operand}{b o m:Nat}{us:List Value}(g:ki N0 σ (Γ.map (·.2)) h nx)(hx:sN N0 Γ x=some (.pointer (some ⟨b,o,none⟩)))(hr:hK h b o m=some us)
 (aM:bR nx (.agg us.toArray)->VO P n rs (ap d (rn σ (.agg us.toArray)) (bS σ Γ)) [kW A σ h] Z K):VO P n (⟨d,none,.lx m x⟩::rs) (bS σ Γ) [kW A σ h] Z K:=by
 have oh:=(gS g hx).1;simp only[cQ,qw]at oh;have hk:=aM (bR.agg (mr g hr));have he:rn σ (.agg us.toArray)=.agg (us.map (rn σ)).toArray:=by simp
 rw[he]at hk;refine kX oh (fun a ha=>?_) (by rw[Vz];exact nC hr) hk;simp only[V9,VV,vg];exact eG hr a ha
theorem ui {C:List kC}{B:List kC}(e:B=C++kW A σ h):ao (C::[kW A σ h]) [B]:=by subst e;exact ao.perm Zs
theorem Pd {t:TypeId}{z:List Value}(g:ki N0 σ (Γ.map (·.2)) h nx)(hz:z.all bt=true)
 (aM:∀aF,Ag nx σ aF->ki N0 aF (.pointer (some ⟨nx,0,none⟩)::Γ.map (·.2)) ((nx,.cells z)::h) (nx+1)->VO P n rs (ap d (rn aF (.pointer (some ⟨nx,0,none⟩))) (bS aF Γ)) [kW A aF ((nx,.cells z)::h)] Z K):
 VO P n (⟨d,none,.alloc t z⟩::rs) (bS σ Γ) [kW A σ h] Z K:=by
 refine kN fun b=>?_
 have a:=nK σ nx b 0 0 [];obtain⟨u1,u2,_⟩:=uF σ nx b 0 0 [];have hk:=aM (ii σ nx b 0 0 []) a (g.new (fun p hp=>hp) (fun v hv=>bR.bt (vZ.1 hz v hv)) trivial (fun v hv=>by
  rcases QC.1 hv with rfl|hv
  ·exact bR.ptr (Ql _)
  ·exact(g.bu v hv).mono (Qi _)))
 simp only[cQ,qw,u1,u2]at hk;rw[ss a g.bu];refine VO.imp (ui (B:=kW A (ii σ nx b 0 0 []) ((nx,.cells z)::h)) ?_) hk;rw[mX g (fun p hp=>hp)];simp only[yD,u1,u2,eI hz]
theorem op_box {t:TypeId}{x:Operand}{v:Value}(g:ki N0 σ (Γ.map (·.2)) h nx)(hx:sN N0 Γ x=some v)
 (aM:∀aF,Ag nx σ aF->ki N0 aF (.pointer (some ⟨nx,0,none⟩)::Γ.map (·.2)) ((nx,.cells v.cells.toList)::h) (nx+1)->VO P n rs (ap d (rn aF (.pointer (some ⟨nx,0,none⟩))) (bS aF Γ)) [kW A aF ((nx,.cells v.cells.toList)::h)] Z K):
 VO P n (⟨d,none,.box t x⟩::rs) (bS σ Γ) [kW A σ h] Z K:=by
 obtain⟨oh,hs⟩:=gS g hx;refine kY oh fun b=>?_
 have a:=nK σ nx b 0 0 [];obtain⟨u1,u2,_⟩:=uF σ nx b 0 0 [];have hk:=aM (ii σ nx b 0 0 []) a (g.new (fun p hp=>hp) (fun w hw=>(hs.cells w hw).mono (Qi _)) trivial (fun v hv=>by
  rcases QC.1 hv with rfl|hv
  ·exact bR.ptr (Ql _)
  ·exact(g.bu v hv).mono (Qi _)))
 simp only[cQ,qw,u1,u2]at hk;rw[ss a g.bu];refine VO.imp (ui (B:=kW A (ii σ nx b 0 0 []) ((nx,.cells v.cells.toList)::h)) ?_) hk;rw[mX g (fun p hp=>hp)];simp only[yD,u1,u2];rw[qE,vD]
 congr 2
 exact Q6 fun w hw=>(hs.cells w hw _ _ a.symm)
theorem HC(g:ki N0 σ (Γ.map (·.2)) h nx){ps:List (Nat×Nat×Operand)}(hk:(ps.map (·.2.2)).all (rZ N0 Γ)=true):
 jU (DV (bS σ Γ)) ps=(jU (rO N0 Γ) ps).map fun(a,b,v)=>(a,b,rn σ v):=by
 simp only[jU,Q8];refine Q6 fun p hp=>?_
 obtain⟨a,b,c⟩:=p;have:=(gW g (vZ.1 hk c (QH.2 ⟨_,hp,rfl⟩))).2.1;simp[this]
theorem Ga {k:Nat}:∀{ps:List (Nat×Nat×Value)} {cs out:List Value},(∀v∈cs,bR k v)->(∀p∈ps,bR k p.2.2)->jZ cs ps=some out->∀v∈out,bR k v:=by
 intro ps
 induction ps with
 |nil=>intro cs out hc _ e;simp only[jZ,Qy]at e;subst e;exact hc
 |cons p ps ih=>
  intro cs out hc hp e;obtain⟨o,s,v⟩:=p;simp only[jZ]at e;split at e
  ·refine ih (fun u hu=>?_) (fun q hq=>hp q (by simp[hq])) e;rcases QA.1 hu with hu|hu
   ·rcases QA.1 hu with hu|hu
    ·exact hc u (QI hu)
    ·exact(hp (o,s,v) Zs).cells u hu
   ·exact hc u (List.mem_of_mem_drop hu)
  ·cases e
theorem AL {k:Nat}{z:List Value}(h:z.all bt=true):(kq k z).all bt=true:=by
 rw[vZ]at h|-;intro x hx;simp only[kq,QH,QJ]at hx;obtain⟨i,hi,rfl⟩:=hx;have hz:0 < z.length:=Nat.pos_of_ne_zero fun e=>by rw[e]at hi;simp at hi
 have aO:i % z.length < z.length:=Nat.mod_lt _ hz;rw[getElem!_pos z _ aO];exact h _ (List.getElem_mem aO)
theorem LC {t:TypeId}{len:Nat}{z out:List Value}{ps:List (Nat×Nat×Operand)}(g:ki N0 σ (Γ.map (·.2)) h nx)(hz:z.all bt=true)(hk:(ps.map (·.2.2)).all (rZ N0 Γ)=true)
 (ho:jZ (kq len z) (jU (rO N0 Γ) ps)=some out) (hlen:len < iZ)
 (aM:∀aF,Ag nx σ aF->ki N0 aF (.slice (some ⟨nx,0,none⟩) len len::Γ.map (·.2)) ((nx,.cells out)::h) (nx+1)->VO P n rs (ap d (rn aF (.slice (some ⟨nx,0,none⟩) len len)) (bS aF Γ)) [kW A aF ((nx,.cells out)::h)] Z K):
 VO P n (⟨d,none,.lN t len z ps⟩::rs) (bS σ Γ) [kW A σ h] Z K:=by
 have La:=AL (k:=len) hz;have lZ:∀v∈out,bR nx v:=Ga (fun v hv=>bR.bt (vZ.1 La v hv)) (fun p hp=>by
  simp only[jU,QH]at hp;obtain⟨q,hq,rfl⟩:=hp;exact(gW g (vZ.1 hk _ (QH.2 ⟨q,hq,rfl⟩))).2.2) ho
 refine jE (out:=out.map (rn σ)) ?_ ?_ fun b=>?_
 ·rw[vZ]at hk|-;exact fun x hx=>(gW g (hk x hx)).1
 ·rw[HC g hk];have:=td (σ:=σ) ho;rw[eI La]at this;exact this
 have a:=nK σ nx b 0 0 [];obtain⟨u1,u2,_⟩:=uF σ nx b 0 0 [];have xA:=aM (ii σ nx b 0 0 []) a (g.new (fun p hp=>hp) (fun w hw=>(lZ w hw).mono (Qi _)) trivial (fun v hv=>by
  rcases QC.1 hv with rfl|hv
  ·exact bR.slc (Ql _)
  ·exact(g.bu v hv).mono (Qi _)))
 simp only[bp,qw,Gi,u1,u2,if_pos hlen]at xA;rw[ss a g.bu];refine VO.imp (ui (B:=kW A (ii σ nx b 0 0 []) ((nx,.cells out)::h)) ?_) xA;rw[mX g (fun p hp=>hp)];simp only[yD,u1,u2]
 congr 2
 exact Q6 fun w hw=>(lZ w hw _ _ a.symm)
theorem Pj {x y:Operand}{m b o:Nat}{u:Value}{h':Mp}(g:ki N0 σ (Γ.map (·.2)) h nx)(hx:sN N0 Γ x=some (.pointer (some ⟨b,o,none⟩)))(hy:sN N0 Γ y=some u)(hm:u.cells.toList.length=m)(hw:Je h b o u.cells.toList=some h')
 (aM:ki N0 σ (undef::Γ.map (·.2)) h' nx->VO P n rs (ap d (rn σ undef) (bS σ Γ)) [kW A σ h'] Z K):VO P n (⟨d,none,.store m x y⟩::rs) (bS σ Γ) [kW A σ h] Z K:=by
 have oh:=(gS g hx).1;obtain⟨hy',hs⟩:=gS g hy;simp only[cQ,qw]at oh;have ob:(rn σ u).cells.toList=u.cells.toList.map (rn σ):=by rw[qE,vD]
 have hsc:=hs.cells;generalize u.cells.toList=us at hm hw ob hsc;unfold Je at hw;split at hw
 case h_2=>cases hw
 rename_i k hk;split at hw
 case h_2=>cases hw
 rename_i vs lJ;split at hw
 case h_2=>cases hw
 rename_i hlen;split at hw
 case h_2=>cases hw
 rename_i dT;cases hw;have hle:=iu hlen;obtain⟨tl,t1,t2⟩:=Cc (σ:=σ) (b:=b) lJ;have gq:∀v∈vs,bR nx v:=by
  have:=g.cells _ (ze hk);cases k with
  |cells ws=>cases lJ;exact this
  |grow s ws=>cases lJ;exact this
  |obj q=>cases lJ
 have tQ:∀v∈vs.take o++us++vs.drop (o+us.length),bR nx v:=fun v hv=>by
  rcases QA.1 hv with hv|hv
  ·rcases QA.1 hv with hv|hv
   ·exact gq v (QI hv)
   ·exact hsc v hv
  ·exact gq v (List.mem_of_mem_drop hv)
 have hlen2:(vs.take o++us++vs.drop (o+us.length)).length=vs.length:=by simp;omega
 have xA:=aM ⟨g.fix,g.le,fun p hp=>?_,fun p hp=>?_,fun p hp=>?_,fun v hv=>?_⟩
 ·refine VO.imp (ao.perm (B:=[kA (σ.qZ b) (σ.off b) (vs.map (rn σ)++tl),kW A σ (rL h b)]) ?_) ?_
  ·have:=mW (A:=A) (σ:=σ) hk;rw[t2]at this;simpa using this
  refine Gt (H':=[kA (σ.qZ b) (σ.off b) ((vs.take o++us++vs.drop (o+us.length)).map (rn σ)++tl),kW A σ (rL h b)]) oh hy' ?_ ?_ ?_ ?_
  ·rw[<- hm,<- Array.length_toList,ob,Vz]
  ·rw[ob];exact s6 σ _ dT
  ·rw[ob];refine .cells Zo ru ?_;have e0:σ.off b+o - σ.off b=o:=by omega
   rw[e0,List.take_append_of_le_length ru,Vz,List.drop_append_of_le_length ru];simp[List.map_take,List.map_drop]
  ·have hu:rn σ undef=undef:=dJ rfl;rw[hu]at xA;refine VO.imp (ao.perm ?_) xA;have:=Le (A:=A) (σ:=σ) (c:=Ra k (vs.take o++us++vs.drop (o+us.length))) hk;rw[t1]at this;simpa using this.symm
 ·rcases yq hp with hp|rfl
  ·exact g.ids p hp
  ·exact g.ids (b,k) (ze hk)
 ·rcases yq hp with hp|rfl
  ·exact g.grow p hp
  ·have:=g.grow (b,k) (ze hk);cases k with
   |cells ws=>trivial
   |grow s ws=>cases lJ;simp only[MN,Ra]at this|-;rw[hlen2];exact this
   |obj q=>cases lJ
 ·rcases yq hp with hp|rfl
  ·exact g.cells p hp
  ·cases k with
   |cells ws=>exact tQ
   |grow s ws=>exact tQ
   |obj q=>cases lJ
 ·rcases QC.1 hv with rfl|hv
  ·exact bR.plain rfl
  ·exact g.bu v hv
end
variable {A:List kC}
section
variable {P:Program} {N0 nx n:Nat} {σ:Sg} {Γ:Env} {h:Mp} {rs:List RO} {d:Option Nat} {Z:List PanicEntry->Env->SH->Prop} {K:Env->SH->Prop}
theorem I4 {size:Nat}{sv:Value}{xs:List Value}{h':Mp}(g:ki N0 σ (Γ.map (·.2)) h nx)(E6:0 < size)(e:Ka h size sv=some (xs,h')):
 ∃k sp,jG size (rn σ sv) k (xs.map (rn σ)) sp/\(kW A σ h).Perm (ai (rn σ sv) (xs.map (rn σ)) sp++kW A σ h')/\(∀p∈h',p∈h)/\(∀v∈xs,bR nx v):=by
 unfold Ka at e;split at e
 ·cases e;exact⟨0,[],by simpa using jG.nil,by simp[ai],fun p hp=>hp,fun v hv=>by cases hv⟩
 ·rename_i b o m c;split at e
  case h_2=>cases e
  split at e
  ·rename_i vs hk;split at e
   case h_2=>cases e
   rename_i hb;cases e;simp only[vF]at hb;obtain⟨eC,sR,Ms⟩:=hb;have e1:=yI eC;have e2:=iu sR;have e3:=Cy Ms;have Xu:m*size<=c*size:=Qm _ e2;refine⟨m,(vs.drop (m*size)).map (rn σ),?_,?_,fun p hp=>Ey hp,fun v hv=>g.cells _ (ze hk) v (QI hv)⟩
   ·simp only[bp,qw,Gi,if_pos e3];refine .mk ?_ ?_ e2
    ·rw[Vz,Q4];omega
    ·rw[Vz,Vz,Q4,Vv];omega
   ·refine(mW hk).trans (vW _ ?_);simp only[bp,qw,ai,yD,Qd,<- Q5,QY];exact .refl _
  ·rename_i s vs hk;split at e
   case h_2=>cases e
   rename_i hb;cases e;simp only[vF]at hb;obtain⟨eC,sR,Ms⟩:=hb;have e1:=yI eC;have e2:=yI sR;have e3:=iu Ms;subst e1;have hg:=g.grow _ (ze hk);simp only[MN]at hg;have hC:Gi σ b c=σ.cap b:=by rw[e2,Gi,if_neg (Nat.lt_irrefl _),Qn,Nat.sub_zero]
   refine⟨m,(vs.drop (m*s)).map (rn σ)++σ.tl b,?_,?_,fun p hp=>Ey hp,fun v hv=>g.cells _ (ze hk) v (QI hv)⟩
   ·simp only[bp,qw,hC];refine .mk ?_ ?_ ?_
    ·rw[Vz,Q4];omega
    ·rw[Vt,Vz,Vz,Q4,Vv];omega
    ·have:m*s<=σ.cap b*s:=by omega
     exact Nat.le_of_mul_le_mul_right this E6
   ·refine(mW hk).trans (vW _ ?_);simp only[bp,qw,ai,yD,Qd,<- vf,<- Q5,QY];exact .refl _
  ·cases e
 ·cases e
theorem L2 {size m:Nat}{xv:Value}{ys:List Value}{h':Mp}{bu:List Value}(g:ki N0 σ bu h' nx)(e:WJ h' size xv=some (m,ys)):
 dW (rn σ xv)=some m/\Src (kW A σ h') size m (ys.map (rn σ)) (rn σ xv)/\ys.length=m*size/\∀v∈ys,bR nx v:=by
 unfold WJ at e;split at e
 ·split at e
  case h_2=>cases e
  rename_i l hl;cases e;have hlen:=nC hl;refine⟨by simp[dW],?_,hlen,mr g hl⟩;simp only[bp,qw,Src];exact⟨by rw[Vz,hlen],eG hl⟩
 ·split at e
  case h_2=>cases e
  cases e;exact⟨by simp[dW],by simp[Src],Zs,fun v hv=>by cases hv⟩
 ·rename_i s;split at e
  case h_2=>cases e
  cases e;have pK:(dV s).all bt=true:=by
   rw[vZ];intro x hx;simp only[dV,QH]at hx;obtain⟨c,_,rfl⟩:=hx;rfl
  refine⟨by simp[dW],?_,by simp[dV],fun v hv=>bR.bt (vZ.1 pK v hv)⟩;rw[eI pK];simp only[eJ,Src,dV];rw[QZ Zs]
 ·cases e
theorem LB {t:TypeId}{size bytes m:Nat}{zero xs ys:List Value}{s x:Operand}{sv xv:Value}{h':Mp}(g:ki N0 σ (Γ.map (·.2)) h nx)(hs:sN N0 Γ s=some sv)(hx:sN N0 Γ x=some xv)(ht:Ka h size sv=some (xs,h'))(hy:WJ h' size xv=some (m,ys))
 (dT:ys.all jo=true) (hz:zero.length=size) (hb:bytes≠0) (h1:xs.length+m<=1048576) (h2:bytes<=65536) (E6:0 < size) (h0:xs.length+m≠0)
 (aM:∀aF,Ag nx σ aF->ki N0 aF (.slice (some ⟨nx,0,none⟩) (xs.length / size+m) iZ::Γ.map (·.2)) ((nx,.grow size (xs++ys))::h') (nx+1)->
   VO P n rs (ap d (rn aF (.slice (some ⟨nx,0,none⟩) (xs.length / size+m) iZ)) (bS aF Γ)) [kW A aF ((nx,.grow size (xs++ys))::h')] Z K):
 VO P n (⟨d,none,.append t size bytes zero s x⟩::rs) (bS σ Γ) [kW A σ h] Z K:=by
 obtain⟨k,sp,k1,k2,k3,k4⟩:=I4 g E6 ht;have g':ki N0 σ (Γ.map (·.2)) h' nx:=⟨g.fix,g.le,fun p hp=>g.ids p (k3 p hp),fun p hp=>g.grow p (k3 p hp),fun p hp=>g.cells p (k3 p hp),g.bu⟩;obtain⟨s1,s2,s3,s4⟩:=L2 g' hy;have Mu:=k1.len;rw[Vz]at Mu;have Bd:k<=xs.length:=by rw[Mu];exact Nat.le_mul_of_pos_right _ E6
 have hdiv:xs.length / size=k:=by rw[Mu];exact Nat.mul_div_cancel _ E6
 refine VO.imp (ao.perm (B:=[ai (rn σ sv) (xs.map (rn σ)) sp,kW A σ h']) (by simpa using k2)) ?_;refine jK (gS g hs).1 (gS g hx).1 k1 .here s1 (R:=[kW A σ h']) (by simpa using s2) (by rw[Vz];exact s3) (s6 σ _ dT) hz hb ?_ fun eK bE bF=>?_
 ·have:(2*(k+m)+192)*bytes<=2097344*65536:=Nat.mul_le_mul Zo h2;omega
 obtain⟨b,o,c,rfl,So,oa⟩:=bF.some (by
  rcases Qf (k+m)with e|e
  ·exfalso;have ek:k=0:=by omega
   rw[ek,Qq]at Mu;omega
  ·exact e)
 have a:=nK σ nx b o c bE;obtain⟨u1,u2,u3,u4⟩:=uF σ nx b o c bE;have hk:=aM (ii σ nx b o c bE) a (g.new k3 (fun v hv=>by
  rcases QA.1 hv with hv|hv
  ·exact(k4 v hv).mono (Qi _)
  ·exact(s4 v hv).mono (Qi _)) (by
  simp only[MN,u3,u4];have:((xs.map (rn σ))++(ys.map (rn σ))).length+bE.length=c*size:=oa;simpa using this) (fun v hv=>by
  rcases QC.1 hv with rfl|hv
  ·exact bR.slc (Ql _)
  ·exact(g.bu v hv).mono (Qi _)))
 have hC:Gi (ii σ nx b o c bE) nx iZ=c:=by simp[Gi,u3]
 simp only[bp,qw,u1,u2,hC,Qd,hdiv]at hk;rw[ss a g.bu];refine VO.imp (ui (B:=kW A (ii σ nx b o c bE) ((nx,.grow size (xs++ys))::h')) ?_) hk;rw[mX g k3];simp only[yD,u1,u2,u4,ai]
 congr 2
 rw[Q5]
 congr 1
 congr 1
 ·exact Q6 fun w hw=>(k4 w hw _ _ a.symm)
 ·exact Q6 fun w hw=>(s4 w hw _ _ a.symm)
theorem UU {F:CF}(hF:ov A P N0 F){f:Nat}{xs:List Operand}{args:List Value}{bH:PR}(g:ki N0 σ (Γ.map (·.2)) h nx)(he:KH N0 Γ xs=some args)(hf:F f args h nx=some bH)
 (aM:∀v h' aV aF,bH=.val v h' aV->Ag nx σ aF->nx<=aV->ki N0 aF (v::Γ.map (·.2)) h' aV->VO P n rs (ap d (rn aF v) (bS aF Γ)) [kW A aF h'] Z K)
 (pJ:∀ch h' aV aF,bH=.uk ch h' aV->Ag nx σ aF->nx<=aV->ki N0 aF (ch.map (·.v)) h' aV->Z (Gj aF ch) (bS σ Γ) [kW A aF h']):
 VO P n (⟨d,none,.call f xs⟩::rs) (bS σ Γ) [kW A σ h] Z K:=by
 obtain⟨h1,h2⟩:=YR g he;refine kL (hF f args h nx bH hf σ (g.with h2)) h1 (R:=[]) (by simp[dX]) ?_ ?_
 ·rintro v Post ⟨v0,h',aV,aF,r1,r2,r3,r4,rfl,rfl⟩
  rw[vg,ss r2 g.bu];exact aM v0 h' aV aF r1 r2 r3 (r4.with fun u hu=>by
   rcases QC.1 hu with rfl|hu
   ·exact r4.bu _ Zs
   ·exact(g.bu u hu).mono r3)
 ·rintro ch Post ⟨v0,h',aV,aF,r1,r2,r3,r4,rfl,rfl⟩
  rw[vg];exact pJ v0 h' aV aF r1 r2 r3 r4
end
end Go.V

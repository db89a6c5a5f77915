/-
  The evaluator.
-/
import Derived.Test.YtijnokbblmbpkaaGreatDoorN7
set_option linter.all false
namespace Go.V
open Go
inductive tQ where
 |cells (vs:List Value)
 |grow (size:Nat) (vs:List Value)
 |obj (o:Obj)
abbrev Mp:=List (Nat×tQ)
def rR:Mp->Nat->Option tQ
 |[],_=>none
 |(i,b)::r,k=>match Nat.beq i k with|true=>some b|false=>rR r k
def I0:Mp->Nat->tQ->Mp
 |[],_,_=>[]
 |(i,b)::r,k,c=>match Nat.beq i k with|true=>(i,c)::r|false=>(i,b)::I0 r k c
def rJ:Mp->Nat->Mp
 |[],_=>[]
 |(i,b)::r,k=>match Nat.beq i k with|true=>r|false=>(i,b)::rJ r k
def Xf:tQ->Option (List Value)
 |.cells vs=>some vs
 |.grow _ vs=>some vs
 |.obj _=>none
def RN:tQ->List Value->tQ
 |.cells _,vs=>.cells vs
 |.grow s _,vs=>.grow s vs
 |.obj o,_=>.obj o
def sH(N0:Nat)(Γ:Env):Operand->Option Value
 |.tmp t=>look Γ t
 |.const v=>if oZ v then some v else none
 |.global g=>if Nat.blt g N0 then some (.pointer (some ⟨g,0,none⟩))else none
 |.func f=>some (.func (.func f) #[] #[])
def K1(N0:Nat)(Γ:Env):List Operand->Option (List Value)
 |[]=>some []
 |x::r=>match sH N0 Γ x with
  |some v=>match K1 N0 Γ r with
   |some l=>some (v::l)
   |none=>none
  |none=>none
def rL(N0:Nat)(Γ:Env)(x:Operand):Value:=(sH N0 Γ x).getD undef
def rU(N0:Nat)(Γ:Env)(x:Operand):Bool:=(sH N0 Γ x).isSome
inductive PR where
 |val (v:Value) (h:Mp) (nx:Nat)
 |um (ch:List PanicEntry) (h:Mp) (nx:Nat)
inductive OR where
 |ok (Γ:Env) (h:Mp) (nx:Nat)
 |um (ch:List PanicEntry) (Γ:Env) (h:Mp) (nx:Nat)
abbrev CF:=Nat->List Value->Mp->Nat->Option PR
def gZ(h:Mp)(b o n:Nat):Option (List Value):=
 match rR h b with
 |some k=>match Xf k with
  |some vs=>match Nat.ble (o+n) vs.length with
   |true=>some ((vs.drop o).take n)
   |false=>none
  |none=>none
 |none=>none
def Jj(h:Mp)(b o:Nat)(us:List Value):Option Mp:=
 match rR h b with
 |some k=>match Xf k with
  |some vs=>match Nat.ble (o+us.length) vs.length with
   |true=>match us.all je with
    |true=>some (I0 h b (RN k (vs.take o++us++vs.drop (o+us.length))))
    |false=>none
   |false=>none
  |none=>none
 |none=>none
def Xq(h:Mp)(size:Nat):Value->Option (Nat×List Value)
 |.slice (some ⟨b,o,none⟩) m _=>match gZ h b o (m*size)with
  |some l=>some (m,l)
  |none=>none
 |.slice none m _=>match m with|0=>some (0,[])|_=>none
 |.string s=>match size with|1=>some (s.size,dY s)|_=>none
 |_=>none
def Kv(h:Mp)(size:Nat):Value->Option (List Value×Mp)
 |.slice none 0 0=>some ([],h)
 |.slice (some ⟨b,o,none⟩) n c=>match o with
  |0=>match rR h b with
   |some (.cells vs)=>match Nat.beq vs.length (c*size)&&(Nat.ble n c&&Nat.blt c iV)with
    |true=>some (vs.take (n*size),rJ h b)
    |false=>none
   |some (.grow s vs)=>match Nat.beq s size&&(Nat.beq c iV&&Nat.ble (n*size) vs.length)with
    |true=>some (vs.take (n*size),rJ h b)
    |false=>none
   |_=>none
  |_=>none
 |_=>none
def N4(N0:Nat)(Γ:Env)(d:Nat):Option Operand->Option Nat
 |none=>some d
 |some x=>match sH N0 Γ x with
  |some (.int _ (.ofNat z))=>some z
  |_=>none
def Bo(N0:Nat)(r:R)(Γ:Env)(h:Mp)(nx:Nat):Option PR:=
 match kf r&&(okC r&&((iI r).all (rU N0 Γ)&&okS (rL N0 Γ) r))with
 |true=>match kR (rL N0 Γ) r with
  |some v=>some (.val v h nx)
  |none=>none
 |false=>none
def slcU(N0:Nat)(Γ:Env)(h:Mp)(size:Nat)(lo hi:Option Operand)(b o n c:Nat):Option Value:=
 match rR h b with
 |some (.grow s vs)=>match N4 N0 Γ 0 lo,N4 N0 Γ n hi with
  |some l,some m=>match Nat.beq s size&&(Nat.blt 0 size&&(Nat.beq o ((c - iV)*size)&&(Nat.ble ((c - iV+n)*size) vs.length&&(Nat.ble l m&&(Nat.ble m n&&(Nat.blt l n||Nat.beq l 0))))))with
   |true=>some (.slice (some ⟨b,o+l*size,none⟩) (m - l) (c+l))
   |false=>none
  |_,_=>none
 |_=>none
def zz(N0:Nat)(F:CF)(r:R)(Γ:Env)(h:Mp)(nx:Nat):Option PR:=
 match r with
 |.cj x=>match sH N0 Γ x with
  |some (.pointer (some ⟨b,o,none⟩))=>match gZ h b o 1 with
   |some [v]=>some (.val v h nx)
   |_=>none
  |_=>none
 |.gS n x=>match sH N0 Γ x with
  |some (.pointer (some ⟨b,o,none⟩))=>match gZ h b o n with
   |some us=>some (.val (.agg us.toArray) h nx)
   |none=>none
  |_=>none
 |.alloc t z=>match z.all bx with
  |true=>some (.val (.pointer (some ⟨nx,0,none⟩)) ((nx,.cells z)::h) (nx+1))
  |false=>none
 |.box t x=>match sH N0 Γ x with
  |some v=>some (.val (.pointer (some ⟨nx,0,none⟩)) ((nx,.cells v.cells.toList)::h) (nx+1))
  |none=>none
 |.lJ t len z ps=>match z.all bx&&((ps.map (·.2.2)).all (rU N0 Γ)&&Nat.blt len iV)with
  |true=>match jT (kX len z) (jR (rL N0 Γ) ps)with
   |some out=>some (.val (.slice (some ⟨nx,0,none⟩) len len) ((nx,.cells out)::h) (nx+1))
   |none=>none
  |false=>none
 |.store n x v=>match sH N0 Γ x,sH N0 Γ v with
  |some (.pointer (some ⟨b,o,none⟩)),some u=>match Nat.beq u.cells.toList.length n with
   |true=>match Jj h b o u.cells.toList with
    |some h'=>some (.val undef h' nx)
    |none=>none
   |false=>none
  |_,_=>none
 |.append t size bytes zero s x=>match sH N0 Γ s,sH N0 Γ x with
  |some sv,some xv=>match Kv h size sv with
   |some (xs,h')=>match Xq h' size xv with
    |some (m,ys)=>match ys.all je&&(Nat.beq zero.length size&&(!Nat.beq bytes 0&&(Nat.ble (xs.length+m) 1048576&&(Nat.ble bytes 65536&&(Nat.blt 0 size&&!Nat.beq (xs.length+m) 0)))))with
     |true=>some (.val (.slice (some ⟨nx,0,none⟩) (xs.length / size+m) iV) ((nx,.grow size (xs++ys))::h') (nx+1))
     |false=>none
    |none=>none
   |none=>none
  |_,_=>none
 |.call f xs=>match K1 N0 Γ xs with
  |some args=>F f args h nx
  |none=>none
 |.nW size x lo hi mx=>match mx,sH N0 Γ x with
  |none,some (.slice (some ⟨b,o,none⟩) n c)=>match Nat.blt c iV with
   |true=>Bo N0 (.nW size x lo hi mx) Γ h nx
   |false=>match slcU N0 Γ h size lo hi b o n c with
    |some v=>some (.val v h nx)
    |none=>none
  |_,_=>Bo N0 (.nW size x lo hi mx) Γ h nx
 |r=>Bo N0 r Γ h nx
def Hv(Γ:Env):Option (Nat×Bool)->Option Bool
 |none=>some true
 |some (s,b)=>match look Γ s with
  |some (.bool c)=>some (c==b)
  |some (.tuple vs)=>match vs.toList with
   |[]=>some false
   |_=>none
  |_=>none
def wV(N0:Nat)(F:CF):List RO->Env->Mp->Nat->Option OR
 |[],Γ,h,nx=>some (.ok Γ h nx)
 |x::rs,Γ,h,nx=>match Hv Γ x.guard with
  |none=>none
  |some false=>wV N0 F rs (ak x.dst undef Γ) h nx
  |some true=>match zz N0 F x.op Γ h nx with
   |none=>none
   |some (.um ch h' aT)=>some (.um ch Γ h' aT)
   |some (.val v h' aT)=>wV N0 F rs (ak x.dst v Γ) h' aT
def Om(e:Value->Value->Bool):List Value->List Value->Bool
 |[],[]=>true
 |x::xs,y::ys=>e x y&&Om e xs ys
 |_,_=>false
def K0:Nat->Value->Value->Bool
 |0,_,_=>false
 |k+1,a,b=>match a,b with
  |.bool x,.bool y=>x==y
  |.int i x,.int j y=>decide (i=j)&&decide (x=y)
  |.string x,.string y=>decide (x=y)
  |.pointer none,.pointer none=>true
  |.pointer (some x),.pointer (some y)=>decide (x=y)
  |.slice none n c,.slice none m d=>Nat.beq n m&&Nat.beq c d
  |.slice (some x) n c,.slice (some y) m d=>decide (x=y)&&(Nat.beq n m&&Nat.beq c d)
  |.map none,.map none=>true
  |.map (some x),.map (some y)=>Nat.beq x y
  |.nilFunc,.nilFunc=>true
  |.nilIface,.nilIface=>true
  |.iface t x,.iface u y=>decide (t=u)&&K0 k x y
  |.agg x,.agg y=>Om (K0 k) x.toList y.toList
  |.tuple x,.tuple y=>Om (K0 k) x.toList y.toList
  |.func (.func f) x y,.func (.func g) z w=>decide (f=g)&&(Om (K0 k) x.toList z.toList&&Om (K0 k) y.toList w.toList)
  |_,_=>false
def eqE:Env->Env->Bool
 |[],[]=>true
 |(s,x)::r,(t,y)::q=>Nat.beq s t&&(K0 20 x y&&eqE r q)
 |_,_=>false
def eqM:List MapEntry->List MapEntry->Bool
 |[],[]=>true
 |x::xs,y::ys=>(K0 20 x.key y.key&&K0 20 x.val y.val)&&(Nat.beq x.born y.born&&eqM xs ys)
 |_,_=>false
def eqB:tQ->tQ->Bool
 |.cells x,.cells y=>Om (K0 20) x y
 |.grow n x,.grow m y=>Nat.beq n m&&Om (K0 20) x y
 |.obj (.map x c),.obj (.map y d)=>eqM x.toList y.toList&&Nat.beq c d
 |.obj (.stringIter x c),.obj (.stringIter y d)=>decide (x=y)&&Nat.beq c d
 |_,_=>false
def eqH:Mp->Mp->Bool
 |[],[]=>true
 |(s,x)::r,(t,y)::q=>Nat.beq s t&&(eqB x y&&eqH r q)
 |_,_=>false
def Jz(N0:Nat)(F:CF)(aP:List Nat)(Γ:Env)(h:Mp)(nx:Nat)(Δ:Env)(h1:Mp)(n1:Nat):List (List RO)->Bool
 |[]=>true
 |rs::r=>match wV N0 F rs Γ h nx with
  |some (.ok aw h' aT)=>match eqE (aJ aP aw) Δ&&(Nat.beq aT n1&&eqH h' h1)with
   |true=>Jz N0 F aP Γ h nx Δ h1 n1 r
   |false=>false
  |_=>false
inductive Ex where
 |normal
 |exit (id:Nat)
 |ret
 |um (ch:List PanicEntry)
abbrev IR:=Option (Ex×Env×Mp×Nat)
def EZ(body:Env->Mp->Nat->IR):Nat->Env->Mp->Nat->IR
 |0,_,_,_=>none
 |k+1,Γ,h,nx=>match body Γ h nx with
  |none=>none
  |some (.normal,aw,h',aT)=>EZ body k aw h' aT
  |some r=>some r
def jq(N0:Nat)(F:CF)(L:Nat):IC->Env->Mp->Nat->IR
 |.skip,Γ,h,nx=>some (.normal,Γ,h,nx)
 |.lE rs aP,Γ,h,nx=>match wV N0 F rs Γ h nx with
  |none=>none
  |some (.ok aw h' aT)=>some (.normal,aJ aP aw,h',aT)
  |some (.um ch aw h' aT)=>some (.um ch,aw,h',aT)
 |.draw ri aP,Γ,h,nx=>match ri with
  |[]=>none
  |rs::r=>match wV N0 F rs Γ h nx with
   |some (.ok aw h' aT)=>match r with
    |[]=>some (.normal,aJ aP aw,h',aT)
    |r0::r1=>match Jz N0 F aP Γ h nx (aJ aP aw) h' aT (r0::r1)with
     |true=>some (.normal,aJ aP aw,h',aT)
     |false=>none
   |_=>none
 |.seq a b,Γ,h,nx=>match jq N0 F L a Γ h nx with
  |none=>none
  |some (.normal,aw,h',aT)=>jq N0 F L b aw h' aT
  |some r=>some r
 |.cond c a b,Γ,h,nx=>match sH N0 Γ c with
  |some (.bool true)=>jq N0 F L a Γ h nx
  |some (.bool false)=>jq N0 F L b Γ h nx
  |_=>none
 |.block id a,Γ,h,nx=>match jq N0 F L a Γ h nx with
  |none=>none
  |some (.exit i,aw,h',aT)=>match Nat.beq i id with
   |true=>some (.normal,aw,h',aT)
   |false=>some (.exit i,aw,h',aT)
  |some r=>some r
 |.loop a,Γ,h,nx=>EZ (jq N0 F L a) L Γ h nx
 |.exit id,Γ,h,nx=>some (.exit id,Γ,h,nx)
 |.ret,Γ,h,nx=>some (.ret,Γ,h,nx)
 |.gp ..,_,_,_=>none
 |.scope a,Γ,h,nx=>jq N0 F L a Γ h nx
 |.label _,Γ,h,nx=>some (.normal,Γ,h,nx)
 |.free ..,_,_,_=>none
def yf(Γ:Env)(h:Mp):List RV->Option (List Value)
 |[]=>some []
 |.tmp t::r=>match look Γ t,yf Γ h r with
  |some v,some l=>some (v::l)
  |_,_=>none
 |.bT t::r=>match look Γ t with
  |some (.pointer (some ⟨b,o,none⟩))=>match gZ h b o 1,yf Γ h r with
   |some [v],some l=>some (v::l)
   |_,_=>none
  |_=>none
 |.aS t n::r=>match look Γ t with
  |some (.pointer (some ⟨b,o,none⟩))=>match gZ h b o n,yf Γ h r with
   |some us,some l=>some (.agg us.toArray::l)
   |_,_=>none
  |_=>none
inductive FE where
 |fir (F:aR)
def St:List (Nat×FE)->Nat->Option FE
 |[],_=>none
 |(i,b)::r,k=>match Nat.beq i k with|true=>some b|false=>St r k
def orcTo(a b:CF):CF:=fun f args h nx=>match a f args h nx with
 |some r=>some r
 |none=>b f args h nx
def xg(N0:Nat)(Cd:List (Nat×FE))(Tq:CF)(L:Nat):Nat->CF
 |0,_,_,_,_=>none
 |k+1,f,args,h,nx=>match Tq f args h nx with
  |some r=>some r
  |none=>match St Cd f with
   |none=>none
   |some (.fir R)=>match Nat.ble args.length R.n with
    |false=>none
    |true=>match jq N0 (xg N0 Cd Tq L k) L R.body (aB 0 args) h nx with
     |some (.normal,aw,h',aT)=>match yf aw h' R.bG with
      |some vs=>some (.val (gw vs) h' aT)
      |none=>none
     |some (.ret,aw,h',aT)=>match yf aw h' R.bG with
      |some vs=>some (.val (gw vs) h' aT)
      |none=>none
     |some (.um ch,_,h',aT)=>some (.um ch h' aT)
     |_=>none
def Ag(k:Nat)(σ τ:Sg):Prop:=∀i,i < k->σ.qW i=τ.qW i/\σ.off i=τ.off i/\σ.cap i=τ.cap i/\σ.tl i=τ.tl i
theorem Ag.refl(k:Nat)(σ:Sg):Ag k σ σ:=fun _ _=>⟨rfl,rfl,rfl,rfl⟩
theorem Ag.symm {k:Nat}{σ τ:Sg}(h:Ag k σ τ):Ag k τ σ:=fun i hi=>let⟨a,b,c,d⟩:=h i hi;⟨a.symm,b.symm,c.symm,d.symm⟩
theorem Ag.mono {k l:Nat}{σ τ:Sg}(h:Ag l σ τ)(hk:k<=l):Ag k σ τ:=fun i hi=>h i Zo
theorem Ag.trans {k l:Nat}{σ τ υ:Sg}(h:Ag k σ τ)(g:Ag l τ υ)(hk:k<=l):Ag k σ υ:=fun i hi=>
 let⟨a,b,c,d⟩:=h i hi;let⟨a',b',c',d'⟩:=g i Zo;⟨a.trans a',b.trans b',c.trans c',d.trans d'⟩
def bR(k:Nat)(v:Value):Prop:=∀σ τ,Ag k σ τ->rn σ v=rn τ v
theorem bR.mono {k l:Nat}{v:Value}(h:bR k v)(hk:k<=l):bR l v:=fun σ τ a=>h σ τ (a.mono hk)
theorem bR.plain {k:Nat}{v:Value}(h:oZ v=true):bR k v:=fun σ τ _=>by rw[dN h,dN h]
theorem bR.bx {k:Nat}{v:Value}(h:V.bx v=true):bR k v:=fun σ τ _=>by rw[eG h,eG h]
theorem map_inj {f g:Value->Value}:∀{l:List Value},l.map f=l.map g->∀v∈l,f v=g v:=by
 intro l
 induction l with
 |nil=>intro _ v h;cases h
 |cons x l ih=>
  intro h v hv;simp only[Q3,ve]at h;rcases Q9.1 hv with rfl|hv
  ·exact h.1
  ·exact ih h.2 v hv
theorem bR.cells {k:Nat}{v:Value}(h:bR k v):∀c∈v.cells.toList,bR k c:=fun c hc σ τ a=>by
 have h1:=congrArg (fun u=>(Value.cells u).toList) (h σ τ a);simp only[qE,vE]at h1;exact map_inj h1 c hc
theorem bR.agg {k:Nat}{l:List Value}(h:∀v∈l,bR k v):bR k (.agg l.toArray):=fun σ τ a=>by
 simp only[yg];congr 1;apply vD.1;simp only[vE];exact Q1 fun x hx=>h x hx σ τ a
theorem bR.gw {k:Nat}{l:List Value}(h:∀v∈l,bR k v):bR k (V.gw l):=by
 have ht:bR k (.tuple l.toArray):=fun σ τ a=>by
  simp only[yh];congr 1;apply vD.1;simp only[vE];exact Q1 fun x hx=>h x hx σ τ a
 cases l with
 |nil=>exact ht
 |cons x l=>cases l with
  |nil=>exact h x Zs
  |cons y l=>exact ht
theorem rn_tup(σ:Sg)(l:List Value):rn σ (V.gw l)=V.gw (l.map (rn σ)):=by
 cases l with
 |nil=>simp[V.gw]
 |cons x l=>cases l with
  |nil=>simp[V.gw]
  |cons y l=>simp[V.gw]
def rnO(σ:Sg):Obj->Obj
 |.map es c=>.map (es.map fun e=>{e with key:=rn σ e.key,val:=rn σ e.val}) c
 |o=>o
def zx(σ:Sg)(i:Nat):tQ->List kB
 |.cells vs=>kA (σ.qW i) (σ.off i) (vs.map (rn σ))
 |.grow _ vs=>kA (σ.qW i) (σ.off i) (vs.map (rn σ)++σ.tl i)
 |.obj o=>[.obj (σ.qW i) (rnO σ o)]
def kV(A:List kB)(σ:Sg):Mp->List kB
 |[]=>A
 |p::h=>zx σ p.1 p.2++kV A σ h
variable {A:List kB}
theorem EU {σ:Sg}:∀{h:Mp},(kV A σ h).Perm (A++kV [] σ h):=by
 intro h
 induction h with
 |nil=>simp[kV]
 |cons p h ih=>exact(vU _ ih).trans (ju _ _ _)
def YY(k:Nat):tQ->Prop
 |.cells vs=>∀v∈vs,bR k v
 |.grow _ vs=>∀v∈vs,bR k v
 |.obj o=>∀σ τ,Ag k σ τ->rnO σ o=rnO τ o
theorem YY.mono {k l:Nat}{b:tQ}(h:YY k b)(hk:k<=l):YY l b:=by
 cases b with
 |cells vs=>exact fun v hv=>(h v hv).mono hk
 |grow s vs=>exact fun v hv=>(h v hv).mono hk
 |obj o=>exact fun σ τ a=>h σ τ (a.mono hk)
def NJ(σ:Sg)(i:Nat):tQ->Prop
 |.cells _=>True
 |.grow s vs=>vs.length+(σ.tl i).length=σ.cap i*s
 |.obj _=>σ.off i=0
structure ku (N0:Nat)(σ:Sg)(bz:List Value)(h:Mp)(nx:Nat):Prop where
 fix:∀g,g < N0->σ.qW g=g/\σ.off g=0
 le:N0<=nx
 ids:∀p∈h,p.1 < nx
 grow:∀p∈h,NJ σ p.1 p.2
 cells:∀p∈h,YY nx p.2
 bz:∀v∈bz,bR nx v
theorem ku.with {N0:Nat}{σ:Sg}{bz Gw:List Value}{h:Mp}{nx:Nat}(g:ku N0 σ bz h nx)(hv:∀v∈Gw,bR nx v):ku N0 σ Gw h nx:=⟨g.fix,g.le,g.ids,g.grow,g.cells,hv⟩
theorem Pk {k i:Nat}{σ τ:Sg}{b:tQ}(a:Ag k σ τ)(hi:i < k)(hb:YY k b):zx σ i b=zx τ i b:=by
 obtain⟨a1,a2,a3,a4⟩:=a i hi;cases b with
 |cells vs=>simp only[zx,a1,a2];congr 1;exact Q1 fun v hv=>hb v hv σ τ a
 |grow s vs=>simp only[zx,a1,a2,a4];congr 2;exact Q1 fun v hv=>hb v hv σ τ a
 |obj o=>simp only[zx,a1,hb σ τ a]
theorem Pm {k:Nat}{σ τ:Sg}{h:Mp}(a:Ag k σ τ)(hi:∀p∈h,p.1 < k)(hb:∀p∈h,YY k p.2):kV A σ h=kV A τ h:=by
 induction h with
 |nil=>rfl
 |cons p h ih=>
  simp only[kV];rw[Pk a (hi p Zs) (hb p Zs),ih (fun q hq=>hi q (by simp[hq])) (fun q hq=>hb q (by simp[hq]))]
theorem NJ.ag {k i:Nat}{σ τ:Sg}{b:tQ}(a:Ag k σ τ)(hi:i < k)(h:NJ σ i b):NJ τ i b:=by
 obtain⟨a1,a2,a3,a4⟩:=a i hi;cases b with
 |cells vs=>trivial
 |grow s vs=>simpa only[NJ,<- a3,<- a4]using h
 |obj o=>simpa only[NJ,<- a2]using h
theorem y9 {a b:Nat}(h:Nat.beq a b=true):a=b:=Nat.eq_of_beq_eq_true h
theorem Y9 {a b:Nat}(h:Nat.beq a b=false):a≠b:=Nat.ne_of_beq_eq_false h
theorem im {a b:Nat}(h:Nat.ble a b=true):a<=b:=Qi h
theorem Cl {a b:Nat}(h:Nat.blt a b=true):a < b:=Qi h
theorem zT {h:Mp}{b:Nat}{k:tQ}(e:rR h b=some k):(b,k)∈h:=by
 induction h with
 |nil=>cases e
 |cons p h ih=>
  obtain⟨i,c⟩:=p;simp only[rR]at e;split at e
  ·rename_i hb;cases e;rw[y9 hb];simp
  ·simp[ih e]
theorem Ed {h:Mp}{b:Nat}{p:Nat×tQ}(e:p∈rJ h b):p∈h:=by
 induction h with
 |nil=>cases e
 |cons q h ih=>
  obtain⟨i,c⟩:=q;simp only[rJ]at e;split at e
  ·simp[e]
  ·rcases Q9.1 e with rfl|e
   ·simp
   ·simp[ih e]
theorem yl {h:Mp}{b:Nat}{c:tQ}{p:Nat×tQ}(e:p∈I0 h b c):p∈h∨p=(b,c):=by
 induction h with
 |nil=>cases e
 |cons q h ih=>
  obtain⟨i,d⟩:=q;simp only[I0]at e;split at e
  ·rename_i hb;rcases Q9.1 e with rfl|e
   ·right;rw[y9 hb]
   ·left;simp[e]
  ·rcases Q9.1 e with rfl|e
   ·simp
   ·rcases ih e with h1|h1
    ·left;simp[h1]
    ·exact .inr h1
theorem mW {σ:Sg}{h:Mp}{b:Nat}{k:tQ}(e:rR h b=some k):(kV A σ h).Perm (zx σ b k++kV A σ (rJ h b)):=by
 induction h with
 |nil=>cases e
 |cons p h ih=>
  obtain⟨i,c⟩:=p;simp only[rR]at e;split at e
  ·rename_i hb;cases e;simp only[rJ,hb];rw[y9 hb];exact .refl _
  ·rename_i hb;simp only[rJ,hb];exact(vU _ (ih e)).trans (ju _ _ _)
theorem LC {σ:Sg}{h:Mp}{b:Nat}{k c:tQ}(e:rR h b=some k):(kV A σ (I0 h b c)).Perm (zx σ b c++kV A σ (rJ h b)):=by
 induction h with
 |nil=>cases e
 |cons p h ih=>
  obtain⟨i,d⟩:=p;simp only[rR]at e;split at e
  ·rename_i hb;cases e;simp only[rJ,I0,hb];rw[y9 hb];exact .refl _
  ·rename_i hb;simp only[rJ,I0,hb];exact(vU _ (ih e)).trans (ju _ _ _)
theorem Bx {σ:Sg}{b:Nat}{k:tQ}{vs:List Value}(e:Xf k=some vs):∃tl,(∀us,zx σ b (RN k us)=kA (σ.qW b) (σ.off b) (us.map (rn σ)++tl))/\zx σ b k=kA (σ.qW b) (σ.off b) (vs.map (rn σ)++tl):=by
 cases k with
 |cells ws=>cases e;exact⟨[],fun us=>by simp[zx,RN],by simp[zx]⟩
 |grow s ws=>cases e;exact⟨σ.tl b,fun us=>rfl,rfl⟩
 |obj o=>cases e
theorem o7 {h:Mp}{b o n:Nat}{us:List Value}(e:gZ h b o n=some us):∃k vs,rR h b=some k/\Xf k=some vs/\o+n<=vs.length/\us=(vs.drop o).take n:=by
 unfold gZ at e;split at e
 case h_2=>cases e
 rename_i k hk;split at e
 case h_2=>cases e
 rename_i vs tK;split at e
 case h_2=>cases e
 rename_i hb;cases e;exact⟨k,vs,hk,tK,im hb,rfl⟩
theorem nE {h:Mp}{b o n:Nat}{us:List Value}(e:gZ h b o n=some us):us.length=n:=by
 obtain⟨k,vs,_,_,h1,rfl⟩:=o7 e;simp;omega
theorem my {N0:Nat}{σ:Sg}{bz:List Value}{h:Mp}{nx b o n:Nat}{us:List Value}(g:ku N0 σ bz h nx)(e:gZ h b o n=some us):∀v∈us,bR nx v:=by
 obtain⟨k,vs,h1,h2,_,rfl⟩:=o7 e;have hs:=g.cells _ (zT h1);intro v hv;have hm:v∈vs:=List.mem_of_mem_drop (QF hv);cases k with
 |cells ws=>cases h2;exact hs v hm
 |grow s ws=>cases h2;exact hs v hm
 |obj o=>cases h2
theorem ld {b o i m:Nat}{vs us:List Value}(h:us=(vs.drop i).take m):∀x∈kA b (o+i) us,x∈kA b o vs:=by
 intro x hx;subst h;obtain⟨j,v,hj,rfl⟩:=kH.1 hx;refine kH.2 ⟨i+j,v,?_,by congr 1;omega⟩;simp only[List.getElem?_take,Vd]at hj;split at hj
 ·exact hj
 ·cases hj
theorem eF {σ:Sg}{h:Mp}{b o n:Nat}{us:List Value}(e:gZ h b o n=some us):∀x∈kA (σ.qW b) (σ.off b+o) (us.map (rn σ)),x∈kV A σ h:=by
 obtain⟨k,vs,h1,h2,h3,rfl⟩:=o7 e;obtain⟨tl,_,ht⟩:=Bx (σ:=σ) (b:=b) h2;intro x hx;refine(mW h1).mem_iff.2 (Zw _ ?_);rw[ht];refine ld (m:=n) (i:=o) ?_ x hx;rw[List.drop_append_of_le_length tj,List.take_append_of_le_length tj];simp[List.map_take,List.map_drop]
theorem ID(σ:Sg)(v:Value):je (rn σ v)=je v:=by
 cases v <;> try simp[je]
 ·rename_i a;cases a <;> simp[je]
 ·rename_i a _ _;cases a <;> simp[je]
 ·rename_i a;cases a <;> simp[je]
theorem sW(σ:Sg)(l:List Value)(h:l.all je=true):(l.map (rn σ)).all je=true:=by
 rw[vX]at h|-;intro x hx;obtain⟨y,hy,rfl⟩:=QE.1 hx;rw[ID];exact h y hy
def bS(σ:Sg)(Γ:Env):Env:=Γ.map fun p=>(p.1,rn σ p.2)
theorem iD(σ:Sg)(Γ:Env)(t:Nat):look (bS σ Γ) t=(look Γ t).map (rn σ):=by
 induction Γ with
 |nil=>rfl
 |cons p Γ ih=>
  simp only[bS,Q3,look];by_cases e:p.1=t
  ·simp[e]
  ·simp only[e,if_false];exact ih
theorem xK {Γ:Env}{t:Nat}{v:Value}(h:look Γ t=some v):v∈Γ.map (·.2):=by
 induction Γ with
 |nil=>cases h
 |cons p Γ ih=>
  simp only[look]at h;split at h
  ·cases h;simp
  ·simp[ih h]
theorem Kk(σ:Sg)(d:Option Nat)(v:Value)(Γ:Env):bS σ (ak d v Γ)=ak d (rn σ v) (bS σ Γ):=by cases d <;> rfl
theorem Fu {k:Nat}{d:Option Nat}{v:Value}{Γ:Env}(h:∀u∈v::Γ.map (·.2),bR k u):∀u∈(ak d v Γ).map (·.2),bR k u:=by
 cases d with
 |none=>exact fun u hu=>h u (QA _ hu)
 |some d=>simpa[ak]using h
theorem si(σ:Sg)(k:List Nat)(Γ:Env):bS σ (aJ k Γ)=aJ k (bS σ Γ):=by
 induction k with
 |nil=>rfl
 |cons t k ih=>
  simp only[aJ,iD];cases look Γ t with
  |none=>exact ih
  |some v=>simp only[Qz,bS,Q3];congr 1
theorem o9 {n:Nat}{k:List Nat}{Γ:Env}(h:∀u∈Γ.map (·.2),bR n u):∀u∈(aJ k Γ).map (·.2),bR n u:=by
 induction k with
 |nil=>intro u hu;cases hu
 |cons t k ih=>
  simp only[aJ];split
  ·rename_i v hv;intro u hu;simp only[Q3,Q9]at hu;rcases hu with rfl|hu
   ·exact h _ (xK hv)
   ·exact ih u hu
  ·exact ih
theorem sh {k:Nat}{σ τ:Sg}{Γ:Env}(a:Ag k σ τ)(h:∀u∈Γ.map (·.2),bR k u):bS σ Γ=bS τ Γ:=by
 unfold bS;refine Q1 fun p hp=>?_
 rw[h p.2 (QE.2 ⟨p,hp,rfl⟩) σ τ a]
section
variable {N0 nx:Nat} {σ:Sg} {Γ:Env} {h:Mp}
theorem gM(g:ku N0 σ (Γ.map (·.2)) h nx){x:Operand}{v:Value}(e:sH N0 Γ x=some v):ev (bS σ Γ) x=some (rn σ v)/\bR nx v:=by
 cases x with
 |tmp t=>
  simp only[sH]at e;refine⟨by simp only[ev,iD,e,Qz],g.bz _ (xK e)⟩
 |const u=>
  simp only[sH]at e;split at e
  ·rename_i hp;cases e;exact⟨by simp only[ev,dN hp],bR.plain hp⟩
  ·cases e
 |global i=>
  simp only[sH]at e;split at e
  ·rename_i hi;cases e;obtain⟨f1,f2⟩:=g.fix i (Cl hi);refine⟨by simp only[ev,cP,qw,f1,f2],fun aF τ' a=>?_⟩;obtain⟨a1,a2,_⟩:=a i (Qm (Cl hi) g.le);simp only[cP,qw,a1,a2]
  ·cases e
 |func f=>
  simp only[sH,X1]at e;subst e;exact⟨by simp[ev,rnF],fun aF τ' a=>by simp[rnF]⟩
theorem Zp(g:ku N0 σ (Γ.map (·.2)) h nx):∀{xs:List Operand} {vs:List Value},K1 N0 Γ xs=some vs->gN (bS σ Γ) xs=some (vs.map (rn σ))/\∀v∈vs,bR nx v:=by
 intro xs
 induction xs with
 |nil=>intro vs e;simp only[K1,X1]at e;subst e;exact⟨rfl,fun v hv=>by cases hv⟩
 |cons x xs ih=>
  intro vs e;simp only[K1]at e;split at e
  case h_2=>cases e
  rename_i v hv;split at e
  case h_2=>cases e
  rename_i l hl;cases e;obtain⟨h1,h2⟩:=gM g hv;obtain⟨h3,h4⟩:=ih hl;refine⟨by simp only[gN,h1,h3,Q3],fun u hu=>?_⟩;rcases Q9.1 hu with rfl|hu
  ·exact h2
  ·exact h4 u hu
theorem gP(g:ku N0 σ (Γ.map (·.2)) h nx){x:Operand}(e:rU N0 Γ x=true):known (bS σ Γ) x=true/\Dy (bS σ Γ) x=rn σ (rL N0 Γ x)/\bR nx (rL N0 Γ x):=by
 obtain⟨v,hv⟩:=Qw.1 e;obtain⟨h1,h2⟩:=gM g hv;exact⟨by simp[known,h1],by simp[Dy,rL,h1,hv],by simpa[rL,hv]using h2⟩
end
def ie(σ:Sg)(k b o c:Nat)(t:List Value):Sg:=⟨fun i=>if i=k then b else σ.qW i,fun i=>if i=k then o else σ.off i,fun i=>if i=k then c else σ.cap i,fun i=>if i=k then t else σ.tl i⟩
theorem nJ(σ:Sg)(k b o c:Nat)(t:List Value):Ag k σ (ie σ k b o c t):=fun i hi=>by
 simp only[ie,if_neg (Nat.ne_of_lt hi),and_self]
theorem uE(σ:Sg)(k b o c:Nat)(t:List Value):(ie σ k b o c t).qW k=b/\(ie σ k b o c t).off k=o/\(ie σ k b o c t).cap k=c/\(ie σ k b o c t).tl k=t:=by simp[ie]
theorem ku.new {N0 nx:Nat}{σ:Sg}{bz Gw:List Value}{h h':Mp}{B:tQ}{b o c:Nat}{t:List Value}(g:ku N0 σ bz h nx)(hh:∀p∈h',p∈h)(hB:YY (nx+1) B)(hG:NJ (ie σ nx b o c t) nx B)
 (hv:∀v∈Gw,bR (nx+1) v):ku N0 (ie σ nx b o c t) Gw ((nx,B)::h') (nx+1):=by
 have a:=nJ σ nx b o c t;refine⟨fun i hi=>?_,Nat.le_succ_of_le g.le,fun p hp=>?_,fun p hp=>?_,fun p hp=>?_,hv⟩
 ·obtain⟨a1,a2,_⟩:=a i (Qm hi g.le);rw[<- a1,<- a2];exact g.fix i hi
 ·rcases Q9.1 hp with rfl|hp
  ·exact Qn _
  ·exact Nat.lt_succ_of_lt (g.ids p (hh p hp))
 ·rcases Q9.1 hp with rfl|hp
  ·exact hG
  ·exact(g.grow p (hh p hp)).ag a (g.ids p (hh p hp))
 ·rcases Q9.1 hp with rfl|hp
  ·exact hB
  ·exact(g.cells p (hh p hp)).mono (Qk _)
theorem mX {N0 nx:Nat}{σ:Sg}{bz:List Value}{h h':Mp}{B:tQ}{b o c:Nat}{t:List Value}(g:ku N0 σ bz h nx)(hh:∀p∈h',p∈h):
 kV A (ie σ nx b o c t) ((nx,B)::h')=zx (ie σ nx b o c t) nx B++kV A σ h':=by
 have:=Pm (A:=A) (nJ σ nx b o c t) (fun p hp=>g.ids p (hh p hp)) (fun p hp=>g.cells p (hh p hp));rw[this];rfl
theorem bR.ptr {k i o:Nat}{s:Option Nat}(hi:i < k):bR k (.pointer (some ⟨i,o,s⟩)):=fun σ τ a=>by
 obtain⟨a1,a2,_⟩:=a i hi;simp only[cP,qw,a1,a2]
theorem bR.slc {k i o n c:Nat}{s:Option Nat}(hi:i < k):bR k (.slice (some ⟨i,o,s⟩) n c):=fun σ τ a=>by
 obtain⟨a1,a2,a3,_⟩:=a i hi;simp only[br,qw,F2,a1,a2,a3]
set_option maxHeartbeats 1600000
variable {A:List kB}
def F3(σ:Sg)(ch:List PanicEntry):List PanicEntry:=ch.map fun e=>{e with v:=rn σ e.v}
def ow(A:List kB)(P:Program)(N0:Nat)(F:CF):Prop:=∀f args h nx bG,F f args h nx=some bG->∀σ,ku N0 σ args h nx->
 jb P f (args.map (rn σ)) [kV A σ h] (fun v Post=>∃v0 h' aT aF,bG=.val v0 h' aT/\Ag nx σ aF/\nx<=aT/\ku N0 aF [v0] h' aT/\v=rn aF v0/\Post=[kV A aF h'])
  (fun ch Post=>∃XT h' aT aF,bG=.um XT h' aT/\Ag nx σ aF/\nx<=aT/\ku N0 aF (XT.map (·.v)) h' aT/\ch=F3 aF XT/\Post=[kV A aF h'])
section
variable {P:Program} {N0 nx n:Nat} {σ:Sg} {Γ:Env} {h:Mp} {rs:List RO} {d:Option Nat} {Z:List PanicEntry->Env->SH->Prop} {K:Env->SH->Prop}
theorem WT {r:R}{v:Value}(g:ku N0 σ (Γ.map (·.2)) h nx)(hp:kf r=true)(hc:okC r=true)(hk:(iI r).all (rU N0 Γ)=true)(ho:okS (rL N0 Γ) r=true)(hv:kR (rL N0 Γ) r=some v)
 (aN:bR nx v->VO P n rs (ak d (rn σ v) (bS σ Γ)) [kV A σ h] Z K):VO P n (⟨d,none,r⟩::rs) (bS σ Γ) [kV A σ h] Z K:=by
 have iy:=vX.1 hk;refine iO hp ?_ (v:=rn σ v) ?_ (aN fun τ υ a=>?_)
 ·rw[vX];exact fun x hx=>(gP g (iy x hx)).1
 ·rw[<- yc (σ:=σ) hc ho hv];exact fN hp fun x hx=>(gP g (iy x hx)).2.1
 ·have e1:=yc (σ:=τ) hc ho hv;have e2:=yc (σ:=υ) hc ho hv;have e3:kR (fun x=>rn τ (rL N0 Γ x)) r=kR (fun x=>rn υ (rL N0 Γ x)) r:=fN hp fun x hx=>(gP g (iy x hx)).2.2 τ υ a
  rw[e1,e2]at e3;exact X0 e3
theorem RB {x:Operand}{b o:Nat}{v:Value}(g:ku N0 σ (Γ.map (·.2)) h nx)(hx:sH N0 Γ x=some (.pointer (some ⟨b,o,none⟩)))(hr:gZ h b o 1=some [v])
 (aN:bR nx v->VO P n rs (ak d (rn σ v) (bS σ Γ)) [kV A σ h] Z K):VO P n (⟨d,none,.cj x⟩::rs) (bS σ Γ) [kV A σ h] Z K:=by
 have ob:=(gM g hx).1;simp only[cP,qw]at ob;refine jI ob (.among ?_) (aN (my g hr v Zs));exact eF hr _ Jo
theorem RC {x:Operand}{b o m:Nat}{us:List Value}(g:ku N0 σ (Γ.map (·.2)) h nx)(hx:sH N0 Γ x=some (.pointer (some ⟨b,o,none⟩)))(hr:gZ h b o m=some us)
 (aN:bR nx (.agg us.toArray)->VO P n rs (ak d (rn σ (.agg us.toArray)) (bS σ Γ)) [kV A σ h] Z K):VO P n (⟨d,none,.gS m x⟩::rs) (bS σ Γ) [kV A σ h] Z K:=by
 have ob:=(gM g hx).1;simp only[cP,qw]at ob;have hk:=aN (bR.agg (my g hr));have he:rn σ (.agg us.toArray)=.agg (us.map (rn σ)).toArray:=by simp
 rw[he]at hk;refine kS ob (fun a ha=>?_) (by rw[Vv];exact nE hr) hk;simp only[V6,V7,vd];exact eF hr a ha
theorem uk {C:List kB}{B:List kB}(e:B=C++kV A σ h):aj (C::[kV A σ h]) [B]:=by subst e;exact aj.perm Zs
theorem RA {t:TypeId}{z:List Value}(g:ku N0 σ (Γ.map (·.2)) h nx)(hz:z.all bx=true)
 (aN:∀aF,Ag nx σ aF->ku N0 aF (.pointer (some ⟨nx,0,none⟩)::Γ.map (·.2)) ((nx,.cells z)::h) (nx+1)->VO P n rs (ak d (rn aF (.pointer (some ⟨nx,0,none⟩))) (bS aF Γ)) [kV A aF ((nx,.cells z)::h)] Z K):
 VO P n (⟨d,none,.alloc t z⟩::rs) (bS σ Γ) [kV A σ h] Z K:=by
 refine kM fun b=>?_
 have a:=nJ σ nx b 0 0 [];obtain⟨u1,u2,_⟩:=uE σ nx b 0 0 [];have hk:=aN (ie σ nx b 0 0 []) a (g.new (fun p hp=>hp) (fun v hv=>bR.bx (vX.1 hz v hv)) trivial (fun v hv=>by
  rcases Q9.1 hv with rfl|hv
  ·exact bR.ptr (Qn _)
  ·exact(g.bz v hv).mono (Qk _)))
 simp only[cP,qw,u1,u2]at hk;rw[sh a g.bz];refine VO.imp (uk (B:=kV A (ie σ nx b 0 0 []) ((nx,.cells z)::h)) ?_) hk;rw[mX g (fun p hp=>hp)];simp only[zx,u1,u2,eH hz]
theorem op_box {t:TypeId}{x:Operand}{v:Value}(g:ku N0 σ (Γ.map (·.2)) h nx)(hx:sH N0 Γ x=some v)
 (aN:∀aF,Ag nx σ aF->ku N0 aF (.pointer (some ⟨nx,0,none⟩)::Γ.map (·.2)) ((nx,.cells v.cells.toList)::h) (nx+1)->VO P n rs (ak d (rn aF (.pointer (some ⟨nx,0,none⟩))) (bS aF Γ)) [kV A aF ((nx,.cells v.cells.toList)::h)] Z K):
 VO P n (⟨d,none,.box t x⟩::rs) (bS σ Γ) [kV A σ h] Z K:=by
 obtain⟨ob,hs⟩:=gM g hx;refine kW ob fun b=>?_
 have a:=nJ σ nx b 0 0 [];obtain⟨u1,u2,_⟩:=uE σ nx b 0 0 [];have hk:=aN (ie σ nx b 0 0 []) a (g.new (fun p hp=>hp) (fun w hw=>(hs.cells w hw).mono (Qk _)) trivial (fun v hv=>by
  rcases Q9.1 hv with rfl|hv
  ·exact bR.ptr (Qn _)
  ·exact(g.bz v hv).mono (Qk _)))
 simp only[cP,qw,u1,u2]at hk;rw[sh a g.bz];refine VO.imp (uk (B:=kV A (ie σ nx b 0 0 []) ((nx,.cells v.cells.toList)::h)) ?_) hk;rw[mX g (fun p hp=>hp)];simp only[zx,u1,u2];rw[qE,vE]
 congr 2
 exact Q1 fun w hw=>(hs.cells w hw _ _ a.symm)
theorem Hn(g:ku N0 σ (Γ.map (·.2)) h nx){ps:List (Nat×Nat×Operand)}(hk:(ps.map (·.2.2)).all (rU N0 Γ)=true):
 jR (Dy (bS σ Γ)) ps=(jR (rL N0 Γ) ps).map fun(a,b,v)=>(a,b,rn σ v):=by
 simp only[jR,Q5];refine Q1 fun p hp=>?_
 obtain⟨a,b,c⟩:=p;have:=(gP g (vX.1 hk c (QE.2 ⟨_,hp,rfl⟩))).2.1;simp[this]
theorem Ft {k:Nat}:∀{ps:List (Nat×Nat×Value)} {cs out:List Value},(∀v∈cs,bR k v)->(∀p∈ps,bR k p.2.2)->jT cs ps=some out->∀v∈out,bR k v:=by
 intro ps
 induction ps with
 |nil=>intro cs out hc _ e;simp only[jT,X1]at e;subst e;exact hc
 |cons p ps ih=>
  intro cs out hc hp e;obtain⟨o,s,v⟩:=p;simp only[jT]at e;split at e
  ·refine ih (fun u hu=>?_) (fun q hq=>hp q (by simp[hq])) e;rcases Q7.1 hu with hu|hu
   ·rcases Q7.1 hu with hu|hu
    ·exact hc u (QF hu)
    ·exact(hp (o,s,v) Zs).cells u hu
   ·exact hc u (List.mem_of_mem_drop hu)
  ·cases e
theorem AB {k:Nat}{z:List Value}(h:z.all bx=true):(kX k z).all bx=true:=by
 rw[vX]at h|-;intro x hx;simp only[kX,QE,QG]at hx;obtain⟨i,hi,rfl⟩:=hx;have hz:0 < z.length:=Nat.pos_of_ne_zero fun e=>by rw[e]at hi;simp at hi
 have aI:i % z.length < z.length:=Nat.mod_lt _ hz;rw[getElem!_pos z _ aI];exact h _ (Vn aI)
theorem Mu {t:TypeId}{len:Nat}{z out:List Value}{ps:List (Nat×Nat×Operand)}(g:ku N0 σ (Γ.map (·.2)) h nx)(hz:z.all bx=true)(hk:(ps.map (·.2.2)).all (rU N0 Γ)=true)
 (ho:jT (kX len z) (jR (rL N0 Γ) ps)=some out) (hlen:len < iV)
 (aN:∀aF,Ag nx σ aF->ku N0 aF (.slice (some ⟨nx,0,none⟩) len len::Γ.map (·.2)) ((nx,.cells out)::h) (nx+1)->VO P n rs (ak d (rn aF (.slice (some ⟨nx,0,none⟩) len len)) (bS aF Γ)) [kV A aF ((nx,.cells out)::h)] Z K):
 VO P n (⟨d,none,.lJ t len z ps⟩::rs) (bS σ Γ) [kV A σ h] Z K:=by
 have GZ:=AB (k:=len) hz;have lZ:∀v∈out,bR nx v:=Ft (fun v hv=>bR.bx (vX.1 GZ v hv)) (fun p hp=>by
  simp only[jR,QE]at hp;obtain⟨q,hq,rfl⟩:=hp;exact(gP g (vX.1 hk _ (QE.2 ⟨q,hq,rfl⟩))).2.2) ho
 refine kg (out:=out.map (rn σ)) ?_ ?_ fun b=>?_
 ·rw[vX]at hk|-;exact fun x hx=>(gP g (hk x hx)).1
 ·rw[Hn g hk];have:=sY (σ:=σ) ho;rw[eH GZ]at this;exact this
 have a:=nJ σ nx b 0 0 [];obtain⟨u1,u2,_⟩:=uE σ nx b 0 0 [];have sL:=aN (ie σ nx b 0 0 []) a (g.new (fun p hp=>hp) (fun w hw=>(lZ w hw).mono (Qk _)) trivial (fun v hv=>by
  rcases Q9.1 hv with rfl|hv
  ·exact bR.slc (Qn _)
  ·exact(g.bz v hv).mono (Qk _)))
 simp only[br,qw,F2,u1,u2,if_pos hlen]at sL;rw[sh a g.bz];refine VO.imp (uk (B:=kV A (ie σ nx b 0 0 []) ((nx,.cells out)::h)) ?_) sL;rw[mX g (fun p hp=>hp)];simp only[zx,u1,u2]
 congr 2
 exact Q1 fun w hw=>(lZ w hw _ _ a.symm)
theorem RE {x y:Operand}{m b o:Nat}{u:Value}{h':Mp}(g:ku N0 σ (Γ.map (·.2)) h nx)(hx:sH N0 Γ x=some (.pointer (some ⟨b,o,none⟩)))(hy:sH N0 Γ y=some u)(hm:u.cells.toList.length=m)(hw:Jj h b o u.cells.toList=some h')
 (aN:ku N0 σ (undef::Γ.map (·.2)) h' nx->VO P n rs (ak d (rn σ undef) (bS σ Γ)) [kV A σ h'] Z K):VO P n (⟨d,none,.store m x y⟩::rs) (bS σ Γ) [kV A σ h] Z K:=by
 have ob:=(gM g hx).1;obtain⟨hy',hs⟩:=gM g hy;simp only[cP,qw]at ob;have pB:(rn σ u).cells.toList=u.cells.toList.map (rn σ):=by rw[qE,vE]
 have hsc:=hs.cells;generalize u.cells.toList=us at hm hw pB hsc;unfold Jj at hw;split at hw
 case h_2=>cases hw
 rename_i k hk;split at hw
 case h_2=>cases hw
 rename_i vs tK;split at hw
 case h_2=>cases hw
 rename_i hlen;split at hw
 case h_2=>cases hw
 rename_i gg;cases hw;have hle:=im hlen;obtain⟨tl,t1,t2⟩:=Bx (σ:=σ) (b:=b) tK;have gO:∀v∈vs,bR nx v:=by
  have:=g.cells _ (zT hk);cases k with
  |cells ws=>cases tK;exact this
  |grow s ws=>cases tK;exact this
  |obj q=>cases tK
 have tE:∀v∈vs.take o++us++vs.drop (o+us.length),bR nx v:=fun v hv=>by
  rcases Q7.1 hv with hv|hv
  ·rcases Q7.1 hv with hv|hv
   ·exact gO v (QF hv)
   ·exact hsc v hv
  ·exact gO v (List.mem_of_mem_drop hv)
 have OT:(vs.take o++us++vs.drop (o+us.length)).length=vs.length:=by simp;omega
 have sL:=aN ⟨g.fix,g.le,fun p hp=>?_,fun p hp=>?_,fun p hp=>?_,fun v hv=>?_⟩
 ·refine VO.imp (aj.perm (B:=[kA (σ.qW b) (σ.off b) (vs.map (rn σ)++tl),kV A σ (rJ h b)]) ?_) ?_
  ·have:=mW (A:=A) (σ:=σ) hk;rw[t2]at this;simpa using this
  refine Gi (H':=[kA (σ.qW b) (σ.off b) ((vs.take o++us++vs.drop (o+us.length)).map (rn σ)++tl),kV A σ (rJ h b)]) ob hy' ?_ ?_ ?_ ?_
  ·rw[<- hm,<- Array.length_toList,pB,Vv]
  ·rw[pB];exact sW σ _ gg
  ·rw[pB];refine .cells Zo tj ?_;have e0:σ.off b+o - σ.off b=o:=by omega
   rw[e0,List.take_append_of_le_length tj,Vv,List.drop_append_of_le_length tj];simp[List.map_take,List.map_drop]
  ·have hu:rn σ undef=undef:=dN rfl;rw[hu]at sL;refine VO.imp (aj.perm ?_) sL;have:=LC (A:=A) (σ:=σ) (c:=RN k (vs.take o++us++vs.drop (o+us.length))) hk;rw[t1]at this;simpa using this.symm
 ·rcases yl hp with hp|rfl
  ·exact g.ids p hp
  ·exact g.ids (b,k) (zT hk)
 ·rcases yl hp with hp|rfl
  ·exact g.grow p hp
  ·have:=g.grow (b,k) (zT hk);cases k with
   |cells ws=>trivial
   |grow s ws=>cases tK;simp only[NJ,RN]at this|-;rw[OT];exact this
   |obj q=>cases tK
 ·rcases yl hp with hp|rfl
  ·exact g.cells p hp
  ·cases k with
   |cells ws=>exact tE
   |grow s ws=>exact tE
   |obj q=>cases tK
 ·rcases Q9.1 hv with rfl|hv
  ·exact bR.plain rfl
  ·exact g.bz v hv
end
variable {A:List kB}
section
variable {P:Program} {N0 nx n:Nat} {σ:Sg} {Γ:Env} {h:Mp} {rs:List RO} {d:Option Nat} {Z:List PanicEntry->Env->SH->Prop} {K:Env->SH->Prop}
theorem Jb {size:Nat}{sv:Value}{xs:List Value}{h':Mp}(g:ku N0 σ (Γ.map (·.2)) h nx)(EN:0 < size)(e:Kv h size sv=some (xs,h')):
 ∃k sp,kY size (rn σ sv) k (xs.map (rn σ)) sp/\(kV A σ h).Perm (ai (rn σ sv) (xs.map (rn σ)) sp++kV A σ h')/\(∀p∈h',p∈h)/\(∀v∈xs,bR nx v):=by
 unfold Kv at e;split at e
 ·cases e;exact⟨0,[],by simpa using kY.nil,by simp[ai],fun p hp=>hp,fun v hv=>by cases hv⟩
 ·rename_i b o m c;split at e
  case h_2=>cases e
  split at e
  ·rename_i vs hk;split at e
   case h_2=>cases e
   rename_i hb;cases e;simp only[vF]at hb;obtain⟨eg,sK,Oz⟩:=hb;have e1:=y9 eg;have e2:=im sK;have e3:=Cl Oz;have JW:m*size<=c*size:=Qo _ e2;refine⟨m,(vs.drop (m*size)).map (rn σ),?_,?_,fun p hp=>Ed hp,fun v hv=>g.cells _ (zT hk) v (QF hv)⟩
   ·simp only[br,qw,F2,if_pos e3];refine .mk ?_ ?_ e2
    ·rw[Vv,Vz];omega
    ·rw[Vv,Vv,Vz,Vr];omega
   ·refine(mW hk).trans (vV _ ?_);simp only[br,qw,ai,zx,Qh,<- Q0,QZ];exact .refl _
  ·rename_i s vs hk;split at e
   case h_2=>cases e
   rename_i hb;cases e;simp only[vF]at hb;obtain⟨eg,sK,Oz⟩:=hb;have e1:=y9 eg;have e2:=y9 sK;have e3:=im Oz;subst e1;have hg:=g.grow _ (zT hk);simp only[NJ]at hg;have hC:F2 σ b c=σ.cap b:=by rw[e2,F2,if_neg (Nat.lt_irrefl _),Qp,Nat.sub_zero]
   refine⟨m,(vs.drop (m*s)).map (rn σ)++σ.tl b,?_,?_,fun p hp=>Ed hp,fun v hv=>g.cells _ (zT hk) v (QF hv)⟩
   ·simp only[br,qw,hC];refine .mk ?_ ?_ ?_
    ·rw[Vv,Vz];omega
    ·rw[Vo,Vv,Vv,Vz,Vr];omega
    ·have:m*s<=σ.cap b*s:=by omega
     exact Nat.le_of_mul_le_mul_right this EN
   ·refine(mW hk).trans (vV _ ?_);simp only[br,qw,ai,zx,Qh,<- vZ,<- Q0,QZ];exact .refl _
  ·cases e
 ·cases e
theorem MT {size m:Nat}{xv:Value}{ys:List Value}{h':Mp}{bz:List Value}(g:ku N0 σ bz h' nx)(e:Xq h' size xv=some (m,ys)):
 cR (rn σ xv)=some m/\Src (kV A σ h') size m (ys.map (rn σ)) (rn σ xv)/\ys.length=m*size/\∀v∈ys,bR nx v:=by
 unfold Xq at e;split at e
 ·split at e
  case h_2=>cases e
  rename_i l hl;cases e;have hlen:=nE hl;refine⟨by simp[cR],?_,hlen,my g hl⟩;simp only[br,qw,Src];exact⟨by rw[Vv,hlen],eF hl⟩
 ·split at e
  case h_2=>cases e
  cases e;exact⟨by simp[cR],by simp[Src],Zs,fun v hv=>by cases hv⟩
 ·rename_i s;split at e
  case h_2=>cases e
  cases e;have ii:(dY s).all bx=true:=by
   rw[vX];intro x hx;simp only[dY,QE]at hx;obtain⟨c,_,rfl⟩:=hx;rfl
  refine⟨by simp[cR],?_,by simp[dY],fun v hv=>bR.bx (vX.1 ii v hv)⟩;rw[eH ii];simp only[eI,Src,dY];rw[Qc Zs]
 ·cases e
theorem Mt {t:TypeId}{size bytes m:Nat}{zero xs ys:List Value}{s x:Operand}{sv xv:Value}{h':Mp}(g:ku N0 σ (Γ.map (·.2)) h nx)(hs:sH N0 Γ s=some sv)(hx:sH N0 Γ x=some xv)(ht:Kv h size sv=some (xs,h'))(hy:Xq h' size xv=some (m,ys))
 (gg:ys.all je=true) (hz:zero.length=size) (hb:bytes≠0) (h1:xs.length+m<=1048576) (h2:bytes<=65536) (EN:0 < size) (h0:xs.length+m≠0)
 (aN:∀aF,Ag nx σ aF->ku N0 aF (.slice (some ⟨nx,0,none⟩) (xs.length / size+m) iV::Γ.map (·.2)) ((nx,.grow size (xs++ys))::h') (nx+1)->
   VO P n rs (ak d (rn aF (.slice (some ⟨nx,0,none⟩) (xs.length / size+m) iV)) (bS aF Γ)) [kV A aF ((nx,.grow size (xs++ys))::h')] Z K):
 VO P n (⟨d,none,.append t size bytes zero s x⟩::rs) (bS σ Γ) [kV A σ h] Z K:=by
 obtain⟨k,sp,k1,k2,k3,k4⟩:=Jb g EN ht;have g':ku N0 σ (Γ.map (·.2)) h' nx:=⟨g.fix,g.le,fun p hp=>g.ids p (k3 p hp),fun p hp=>g.grow p (k3 p hp),fun p hp=>g.cells p (k3 p hp),g.bz⟩;obtain⟨s1,s2,s3,s4⟩:=MT g' hy;have HF:=k1.len;rw[Vv]at HF;have tZ:k<=xs.length:=by rw[HF];exact Nat.le_mul_of_pos_right _ EN
 have hdiv:xs.length / size=k:=by rw[HF];exact Nat.mul_div_cancel _ EN
 refine VO.imp (aj.perm (B:=[ai (rn σ sv) (xs.map (rn σ)) sp,kV A σ h']) (by simpa using k2)) ?_;refine j8 (gM g hs).1 (gM g hx).1 k1 .here s1 (R:=[kV A σ h']) (by simpa using s2) (by rw[Vv];exact s3) (sW σ _ gg) hz hb ?_ fun cq aY bh=>?_
 ·have:(2*(k+m)+192)*bytes<=2097344*65536:=Nat.mul_le_mul Zo h2;omega
 obtain⟨b,o,c,rfl,Hy,AU⟩:=bh.some (by
  rcases Nat.eq_zero_or_pos (k+m)with e|e
  ·exfalso;have ek:k=0:=by omega
   rw[ek,Qt]at HF;omega
  ·exact e)
 have a:=nJ σ nx b o c aY;obtain⟨u1,u2,u3,u4⟩:=uE σ nx b o c aY;have hk:=aN (ie σ nx b o c aY) a (g.new k3 (fun v hv=>by
  rcases Q7.1 hv with hv|hv
  ·exact(k4 v hv).mono (Qk _)
  ·exact(s4 v hv).mono (Qk _)) (by
  simp only[NJ,u3,u4];have:((xs.map (rn σ))++(ys.map (rn σ))).length+aY.length=c*size:=AU;simpa using this) (fun v hv=>by
  rcases Q9.1 hv with rfl|hv
  ·exact bR.slc (Qn _)
  ·exact(g.bz v hv).mono (Qk _)))
 have hC:F2 (ie σ nx b o c aY) nx iV=c:=by simp[F2,u3]
 simp only[br,qw,u1,u2,hC,Qh,hdiv]at hk;rw[sh a g.bz];refine VO.imp (uk (B:=kV A (ie σ nx b o c aY) ((nx,.grow size (xs++ys))::h')) ?_) hk;rw[mX g k3];simp only[zx,u1,u2,u4,ai]
 congr 2
 rw[Q0]
 congr 1
 congr 1
 ·exact Q1 fun w hw=>(k4 w hw _ _ a.symm)
 ·exact Q1 fun w hw=>(s4 w hw _ _ a.symm)
theorem WS {F:CF}(hF:ow A P N0 F){f:Nat}{xs:List Operand}{args:List Value}{bG:PR}(g:ku N0 σ (Γ.map (·.2)) h nx)(he:K1 N0 Γ xs=some args)(hf:F f args h nx=some bG)
 (aN:∀v h' aT aF,bG=.val v h' aT->Ag nx σ aF->nx<=aT->ku N0 aF (v::Γ.map (·.2)) h' aT->VO P n rs (ak d (rn aF v) (bS aF Γ)) [kV A aF h'] Z K)
 (pQ:∀ch h' aT aF,bG=.um ch h' aT->Ag nx σ aF->nx<=aT->ku N0 aF (ch.map (·.v)) h' aT->Z (F3 aF ch) (bS σ Γ) [kV A aF h']):
 VO P n (⟨d,none,.call f xs⟩::rs) (bS σ Γ) [kV A σ h] Z K:=by
 obtain⟨h1,h2⟩:=Zp g he;refine kK (hF f args h nx bG hf σ (g.with h2)) h1 (R:=[]) (by simp[cz]) ?_ ?_
 ·rintro v Post ⟨v0,h',aT,aF,r1,r2,r3,r4,rfl,rfl⟩
  rw[vd,sh r2 g.bz];exact aN v0 h' aT aF r1 r2 r3 (r4.with fun u hu=>by
   rcases Q9.1 hu with rfl|hu
   ·exact r4.bz _ Zs
   ·exact(g.bz u hu).mono r3)
 ·rintro ch Post ⟨v0,h',aT,aF,r1,r2,r3,r4,rfl,rfl⟩
  rw[vd];exact pQ v0 h' aT aF r1 r2 r3 r4
end
end Go.V

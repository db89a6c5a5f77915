/-
  Running lowered code on given values: a block of memory is a number of one's own, which a table takes to a real one.
-/
import Derived.Test.YtijnokbblmbpkaaGreatDoorS6
import Derived.Test.YtijnokbblmbpkaaGreatDoorS7
import Derived.Test.YtijnokbblmbpkaaGreatDoorS5
set_option linter.unusedSimpArgs false
set_option linter.unusedVariables false
namespace Go.V
open Go
structure Sg where
 blk:Nat->Nat
 off:Nat->Nat
 cap:Nat->Nat
 tl:Nat->List Value
def BIG:Nat:=18446744073709551616
def rnA(σ:Sg)(a:Addr):Addr:=⟨σ.blk a.block,σ.off a.block+a.off,a.spot⟩
def rnF(σ:Sg):Fn->Fn
 |.yield l=>.yield (σ.blk l)
 |f=>f
def rnC(σ:Sg)(b c:Nat):Nat:=if c < BIG then c else σ.cap b - (c - BIG)
def rn(σ:Sg)(x:Value):Value:=match x with
 |.pointer (some a)=>.pointer (some (rnA σ a))
 |.slice (some a) n c=>.slice (some (rnA σ a)) n (rnC σ a.block c)
 |.map (some r)=>.map (some (σ.blk r))
 |.func f x y=>.func (rnF σ f) (x.attach.map fun⟨v,_⟩=>rn σ v) (y.attach.map fun⟨v,_⟩=>rn σ v)
 |.iface t v=>.iface t (rn σ v)
 |.agg cs=>.agg (cs.attach.map fun⟨v,_⟩=>rn σ v)
 |.tuple cs=>.tuple (cs.attach.map fun⟨v,_⟩=>rn σ v)
 |v=>v
 termination_by SizeOf.sizeOf x
section
variable (σ:Sg)
@[simp] theorem rn_int (k:IntKind) (z:Int):rn σ (.int k z)=.int k z:=by simp[rn]
@[simp] theorem rn_bool (b:Bool):rn σ (.bool b)=.bool b:=by simp[rn]
@[simp] theorem rn_string (s:ByteArray):rn σ (.string s)=.string s:=by simp[rn]
@[simp] theorem rn_float (k:FloatKind) (s:Nat):rn σ (.float k s)=.float k s:=by simp[rn]
@[simp] theorem rn_complex (k:FloatKind) (s t:Nat):rn σ (.complex k s t)=.complex k s t:=by simp[rn]
@[simp] theorem rn_chan (c:Option Nat):rn σ (.chan c)=.chan c:=by simp[rn]
@[simp] theorem rn_ptr0:rn σ (.pointer none)=.pointer none:=by simp[rn]
@[simp] theorem rn_ptr (a:Addr):rn σ (.pointer (some a))=.pointer (some (rnA σ a)):=by simp[rn]
@[simp] theorem rn_slice0 (n c:Nat):rn σ (.slice none n c)=.slice none n c:=by simp[rn]
@[simp] theorem rn_slice (a:Addr) (n c:Nat):rn σ (.slice (some a) n c)=.slice (some (rnA σ a)) n (rnC σ a.block c):=by simp[rn]
@[simp] theorem rn_map0:rn σ (.map none)=.map none:=by simp[rn]
@[simp] theorem rn_map (r:Nat):rn σ (.map (some r))=.map (some (σ.blk r)):=by simp[rn]
@[simp] theorem rn_nilF:rn σ .nilFunc=.nilFunc:=by simp[rn]
@[simp] theorem rn_nilI:rn σ .nilIface=.nilIface:=by simp[rn]
@[simp] theorem rn_iface (t:TypeId) (v:Value):rn σ (.iface t v)=.iface t (rn σ v):=by simp[rn]
@[simp] theorem rn_agg (cs:Array Value):rn σ (.agg cs)=.agg (cs.map (rn σ)):=by simp[rn]
@[simp] theorem rn_tuple (cs:Array Value):rn σ (.tuple cs)=.tuple (cs.map (rn σ)):=by simp[rn]
@[simp] theorem rn_func (f:Fn) (x y:Array Value):rn σ (.func f x y)=.func (rnF σ f) (x.map (rn σ)) (y.map (rn σ)):=by simp[rn]
end
theorem rn_cells(σ:Sg)(v:Value):(rn σ v).cells=v.cells.map (rn σ):=by
 cases v <;> try simp[Value.cells]
 ·rename_i a;cases a <;> simp
 ·rename_i a n c;cases a <;> simp
 ·rename_i a;cases a <;> simp
def plain1:Value->Bool
 |.bool _|.int .. |.float .. |.string _|.pointer none|.slice none _ _|.map none|.nilFunc|.nilIface=>true
 |_=>false
def plainV:Value->Bool
 |.agg cs=>cs.toList.all plain1
 |.tuple cs=>cs.toList.all plain1
 |v=>plain1 v
theorem rn_plain1 {σ:Sg}{v:Value}(h:plain1 v=true):rn σ v=v:=by
 cases v <;> try simp_all [plain1]
 ·rename_i a;cases a <;> simp_all [plain1]
 ·rename_i a n c;cases a <;> simp_all [plain1]
 ·rename_i a;cases a <;> simp_all [plain1]
theorem rn_plains {σ:Sg}{l:List Value}(h:l.all plain1=true):l.map (rn σ)=l:=by
 rw[vX]at h
 conv=>rhs;rw[<- List.map_id l]
 exact Vx fun x hx=>rn_plain1 (h x hx)
theorem rn_plain {σ:Sg}{v:Value}(h:plainV v=true):rn σ v=v:=by
 cases v with
 |agg cs=>simp only[plainV]at h;rw[rn_agg];congr 1;apply vC.1;rw[vD,rn_plains h]
 |tuple cs=>simp only[plainV]at h;rw[rn_tuple];congr 1;apply vC.1;rw[vD,rn_plains h]
 |_=>exact rn_plain1 h
theorem intV_plain {op:BinOp}{k k':IntKind}{a b:Int}{w:Value}(h:intV op k a k' b=some w):plain1 w=true:=by
 unfold intV at h;cases op <;> simp only at h <;> (split at h) <;> first|(cases h;rfl)|cases h
theorem strV_plain {op:BinOp}{a b:ByteArray}{w:Value}(h:strV op a b=some w):plain1 w=true:=by
 unfold strV at h;cases op <;> simp only at h <;> first|(cases h;rfl)|(split at h <;> first|(cases h;rfl)|cases h)|cases h
theorem binV_rn {σ:Sg}{op:BinOp}{u v w:Value}(h:zQ op u v=some w):zQ op (rn σ u) (rn σ v)=some (rn σ w):=by
 unfold zQ at h;split at h
 ·rw[rn_plain1 (intV_plain h)];simpa[zQ]using h
 ·rw[rn_plain1 (strV_plain h)];simpa[zQ]using h
 ·cases h
theorem isNil_rn {σ:Sg}{k:NK}{u:Value}{b:Bool}(h:isNil k u=some b):isNil k (rn σ u)=some b:=by
 unfold isNil at h;split at h <;> first|(cases h;done)|skip
 ·rename_i a;cases a <;> simpa[isNil]using h
 ·rename_i a;cases a <;> simpa[isNil]using h
 ·rename_i a _ _;cases a <;> simpa[isNil]using h
 all_goals simpa[isNil]using h
theorem scalEq_rn {σ:Sg}{k:SK}{u v:Value}{b:Bool}(h:scalEq k u v=some b):scalEq k (rn σ u) (rn σ v)=some b:=by
 unfold scalEq at h;split at h <;> first|(cases h;done)|simpa[scalEq]using h
theorem aggEq_rn {σ:Sg}:∀{ks:List SK} {xs ys:List Value} {b:Bool},aggEq ks xs ys=some b->aggEq ks (xs.map (rn σ)) (ys.map (rn σ))=some b:=by
 intro ks
 induction ks with
 |nil=>intro xs ys b h;simpa[aggEq]using h
 |cons k ks ih=>
  intro xs ys b h;cases xs with
  |nil=>simp[aggEq]at h
  |cons x xs=>
   cases ys with
   |nil=>simp[aggEq]at h
   |cons y ys=>
    simp only[aggEq]at h;split at h
    ·rename_i a c h1 h2;simp only[Vy,aggEq,scalEq_rn h1,ih h2];exact h
    ·cases h
theorem putParts_rn {σ:Sg}:∀{ps:List (Nat×Nat×Value)} {cs out:List Value},jT cs ps=some out->
 jT (cs.map (rn σ)) (ps.map fun(a,b,v)=>(a,b,rn σ v))=some (out.map (rn σ)):=by
 intro ps
 induction ps with
 |nil=>intro cs out h;simp only[jT,Qo]at h;subst h;rfl
 |cons p ps ih=>
  intro cs out h;obtain⟨o,s,v⟩:=p;simp only[jT]at h;split at h
  ·rename_i hc;have:=ih h;simp only[Vy,jT,rn_cells,Array.size_map,Vp,if_pos hc];simpa[Vw,List.map_take,List.map_drop]using this
  ·cases h
theorem bound_rn {σ:Sg}{v:Value}{y k:Nat}(h:bound v y=some k):bound (rn σ v) y=some k:=by
 unfold bound at h;split at h
 ·simpa[bound]using h
 ·cases h
theorem boundO_rn {σ:Sg}{v:Option Value}{y k:Nat}{d:Option Nat}(h:ju y d v=some k):ju y d (v.map (rn σ))=some k:=by
 cases v with
 |none=>exact h
 |some v=>exact bound_rn h
theorem bounds_rn {σ:Sg}{n c:Nat}{lo hi mx:Option Value}{r:Nat×Nat×Nat}(h:zC n c lo hi mx=some r):zC n c (lo.map (rn σ)) (hi.map (rn σ)) (mx.map (rn σ))=some r:=by
 unfold zC at h|-;simp only[Qh]at h|-;obtain⟨m,h1,hh,h2,l,h3,h4⟩:=h;exact⟨m,boundO_rn h1,hh,by simpa using boundO_rn h2,l,boundO_rn h3,h4⟩
theorem getElem_map_rn {σ:Sg}{cs:Array Value}{i:Nat}{v:Value}(h:cs[i]? =some v):(cs.map (rn σ))[i]? =some (rn σ v):=by
 rw[Array.getElem?_map,h];rfl
def okC:R->Bool
 |.build z _=>z.all plain1
 |.tassert _ z _ _=>plainV z
 |.slcA n _ _ _ _=>Nat.blt n BIG
 |.clos f _ _=>match f with|.yield _=>false|_=>true
 |_=>true
def unkS:Value->Bool
 |.slice (some _) _ c=>!Nat.blt c BIG
 |_=>false
def okS(ρ:Operand->Value):R->Bool
 |.slcL _ x _ _ _=>!unkS (ρ x)
 |.cap x=>!unkS (ρ x)
 |.nilck x=>match ρ x with|.pointer (some ⟨_,_,none⟩)=>true|_=>false
 |_=>true
theorem pureV_rn {σ:Sg}{ρ:Operand->Value}{r:R}{v:Value}(hc:okC r=true)(ho:okS ρ r=true)(h:kS ρ r=some v):kS (fun x=>rn σ (ρ x)) r=some (rn σ v):=by
 cases r <;> simp only[kS]at h|- <;> first|(cases h;done)|skip
 case mv x=>cases h;rfl
 case pick c a b=>
  split at h
  ·rename_i t ht;cases h;simp only[ht,rn_bool];cases t <;> rfl
  ·cases h
 case bin op x y=>exact binV_rn h
 case eqb neq x y=>
  split at h
  ·rename_i a b ha hb;cases h;simp only[ha,hb,rn_bool]
  ·cases h
 case eqnil neq k x=>
  simp only[Qk]at h;obtain⟨b,h1,rfl⟩:=h;rw[isNil_rn h1];simp
 case eqagg neq ks x y=>
  split at h
  ·rename_i a b ha hb;split at h
   ·rename_i hs;simp only[Qk]at h;obtain⟨c,h1,rfl⟩:=h;simp only[ha,hb,rn_agg,Array.size_map,if_pos hs,vD,aggEq_rn h1];simp
   ·cases h
  ·cases h
 case un op x=>
  cases op <;> simp only at h|-
  all_goals first|(cases h;done)|(split at h <;> first|(cases h;done)|(rename_i hx;cases h;simp only[hx,rn_bool,rn_int]))
 case conv k x=>
  split at h
  ·rename_i hx;cases h;simp only[hx,rn_int]
  ·cases h
 case cvs x=>
  split at h
  ·rename_i hx;cases h;simp only[hx,rn_string]
  ·cases h
 case mkif t x=>cases h;simp
 case clos f a b=>
  cases h;have hf:rnF σ f=f:=by cases f <;> simp_all [okC,rnF]
  simp[Vz,Function.comp_def,hf]
 case ext x i=>
  split at h
  ·rename_i vs hx;simp only[hx,rn_tuple];exact getElem_map_rn h
  ·cases h
 case build z ps=>
  simp only[Qk]at h;obtain⟨l,h1,rfl⟩:=h;have:=putParts_rn (σ:=σ) h1;rw[rn_plains hc]at this;have e:jP (fun x=>rn σ (ρ x)) ps=(jP ρ ps).map fun(a,b,v)=>(a,b,rn σ v):=by simp[jP,Vz,Function.comp_def]
  rw[e,this];simp
 case nilck x=>
  split at h
  ·rename_i a ha;cases h;simp only[ha,rn_ptr]
  ·cases h
 case fld off x=>
  split at h
  ·rename_i b o hx;cases h;simp only[hx,rn_ptr,rnA,QT]
  ·cases h
 case fldV off size agg x=>
  split at h
  ·rename_i cs hx;simp only[hx,rn_agg];exact zCR
  ·cases h
 case idxA len size x i=>
  split at h
  ·rename_i b o k z hx hi;split at h
   ·rename_i hb;cases h;simp only[hx,hi,rn_ptr,rnA,rn_int,if_pos hb,QT]
   ·cases h
  ·cases h
 case idxL size x i=>
  split at h
  ·rename_i b o len c k z hx hi;split at h
   ·rename_i hb;cases h;simp only[hx,hi,rn_ptr,rn_slice,rnA,rn_int,if_pos hb,QT]
   ·cases h
  ·cases h
 case idxS x i=>
  split at h
  ·rename_i s k z hx hi;split at h
   ·rename_i hb;simp only[Qk]at h;obtain⟨b,h1,rfl⟩:=h;simp only[hx,hi,rn_string,rn_int,if_pos hb,h1,Qm]
   ·cases h
  ·cases h
 case idxV len size agg x i=>
  split at h
  ·rename_i cs k z hx hi;split at h
   ·rename_i hb;simp only[hx,hi,rn_agg,rn_int,if_pos hb];exact zCR
   ·cases h
  ·cases h
 case slcS x lo hi=>
  split at h
  ·rename_i s hx;simp only[Qk]at h;obtain⟨⟨l,hh,m⟩,h1,rfl⟩:=h;have:=bounds_rn (σ:=σ) h1;simp only[Option.map_map,Ql]at this;simp only[hx,rn_string];rw[show(lo.map fun x=>rn σ (ρ x))=lo.map (rn σ ∘ ρ)from rfl,show(hi.map fun x=>rn σ (ρ x))=hi.map (rn σ ∘ ρ)from rfl,this];rfl
  ·cases h
 case slcL size x lo hi mx=>
  split at h
  ·rename_i b o len c hx;simp only[Qk]at h;obtain⟨⟨l,hh,m⟩,h1,rfl⟩:=h;have hcb:c < BIG:=by
    simp only[okS,hx,unkS,Bool.not_not]at ho;exact QV ho
   have hm:m - l < BIG:=by
    have hle:m<=c:=by
     simp only[zC,Qh]at h1;obtain⟨m',g1,h',g2,l',g3,g4⟩:=h1;cases g4;cases hmx:mx.map ρ with
     |none=>rw[hmx]at g1;simp only[ju,Qo]at g1;omega
     |some u=>
      rw[hmx]at g1;simp only[ju,bound]at g1;split at g1
      ·split at g1
       ·rename_i hz;cases g1;omega
       ·cases g1
      ·cases g1
    omega
   have:=bounds_rn (σ:=σ) h1;simp only[Option.map_map]at this;simp only[hx,rn_slice,rnA,rnC,if_pos hcb,if_pos hm];rw[show(lo.map fun x=>rn σ (ρ x))=lo.map (rn σ ∘ ρ)from rfl,show(hi.map fun x=>rn σ (ρ x))=hi.map (rn σ ∘ ρ)from rfl,show(mx.map fun x=>rn σ (ρ x))=mx.map (rn σ ∘ ρ)from rfl,this];simp only[Qm];split <;> simp only[QT]
  ·rename_i len c hx;simp only[Qk]at h;obtain⟨⟨l,hh,m⟩,h1,rfl⟩:=h;have:=bounds_rn (σ:=σ) h1;simp only[Option.map_map]at this;simp only[hx,rn_slice0];rw[show(lo.map fun x=>rn σ (ρ x))=lo.map (rn σ ∘ ρ)from rfl,show(hi.map fun x=>rn σ (ρ x))=hi.map (rn σ ∘ ρ)from rfl,show(mx.map fun x=>rn σ (ρ x))=mx.map (rn σ ∘ ρ)from rfl,this];rfl
  ·cases h
 case slcA len size x lo hi=>
  split at h
  ·rename_i b o hx;simp only[Qk]at h;obtain⟨⟨l,hh,m⟩,h1,rfl⟩:=h;have:=bounds_rn (σ:=σ) h1;simp only[Option.map_map,Ql]at this;have hm:m - l < BIG:=by
    have hcb:len < BIG:=QV hc;have hle:m<=len:=by
     simp only[zC,Qh]at h1;obtain⟨m',g1,h',g2,l',g3,g4⟩:=h1;cases g4;simp only[ju,Qo]at g1;omega
    omega
   simp only[hx,rn_slice,rn_ptr,rnA,rnC,if_pos hm];rw[show(lo.map fun x=>rn σ (ρ x))=lo.map (rn σ ∘ ρ)from rfl,show(hi.map fun x=>rn σ (ρ x))=hi.map (rn σ ∘ ρ)from rfl,this];simp only[Qm];split <;> simp only[QT]
  ·cases h
 case lenS x=>
  split at h
  ·rename_i hx;cases h;simp only[hx,rn_string,rn_int]
  ·cases h
 case lenL x=>
  split at h
  ·rename_i a k c hx;cases h;cases a <;> simp only[hx,rn_slice,rn_slice0,rn_int]
  ·cases h
 case cap x=>
  split at h
  ·rename_i a k c hx;cases h;cases a with
   |none=>simp only[hx,rn_slice0,rn_int]
   |some a=>
    have hcb:c < BIG:=by
     simp only[okS,hx,unkS,Bool.not_not]at ho;exact QV ho
    simp only[hx,rn_slice,rnC,if_pos hcb,rn_int]
  ·cases h
 case min2 x y=>
  split at h
  ·rename_i hx hy;cases h;simp only[hx,hy,rn_int]
  ·cases h
 case max2 x y=>
  split at h
  ·rename_i hx hy;cases h;simp only[hx,hy,rn_int]
  ·cases h
 case tassert t z ok x=>
  simp only[okC]at hc;split at h
  ·rename_i hx;split at h
   ·rename_i hok;cases h;simp[hx,hok,rn_plain hc]
   ·cases h
  ·rename_i u w hx;split at h
   ·rename_i hu;cases h;simp only[hx,rn_iface,if_pos hu];split <;> simp
   ·rename_i hu;split at h
    ·rename_i hok;cases h;simp[hx,if_neg hu,hok,rn_plain hc]
    ·cases h
  ·cases h
end Go.V
namespace Go.V
open Go
def okRcv(r:R):Bool:=kY r||jA r||isNew r||(match r with|.store .. =>true|_=>false)
def isRcv(o:Oper):Bool:=match o.op with
 |.call c=>(match c.callee with|.builtin .recover=>true|_=>false)&&o.guard.isNone
 |_=>false
def lowRcv(P:Program)(n:Nat)(kp:Nat->List Nat)(od:Nat->List (List Nat)):Code->Option (Nat×List RO×IC)
 |.seq (.region _ ops false) c=>match ops.toList with
  |o1::os=>if isRcv o1 then match o1.dst,zJ P n ops os,wU P n kp od c with
   |some d,some rs,some y=>if d < n/\rs.all (fun r=>okRcv r.op)=true then some (d,rs,y)else none
   |_,_,_=>none else none
  |[]=>none
 |_=>none
structure RIR where
 n:Nat
 res:List RV
 d:Nat
 rs:List RO
 post:IC
def lowFR(P:Program)(kp:Nat->List Nat)(od:Nat->List (List Nat))(f:Nat):Option RIR:=
 match P.funcs[f]? with
 |none=>none
 |some fn=>match fn.body with
  |none=>none
  | some c => if fn.name != "runtime.NumGoroutine" then
     match lowRcv P fn.ntmps kp od c,wY P fn.results.toList with
     |some (d,rs,y),some r=>some ⟨fn.ntmps,r,d,rs,y⟩
     |_,_=>none
    else none
def FunDR(P:Program)(f:Nat)(args:List Value)(u u':FrameMode)(Pre:SH)(Q:SH->Prop):Prop:=
 ji P f=true/\∀F w,Sat w (Pre.flatten++F)->CallsDIn (VFc none) 0 P f args.toArray u w fun e u2 w'=>u2=u'/\∃v Post,e=.returned v/\Q Post/\Sat w' (Post.flatten++F)/\kg w w'
inductive Rcv:FrameMode->Value->FrameMode->Prop where
 |none:Rcv .returning .nilIface .returning
 |some {v:Value}:Rcv (.panicking [{v:=v,recovered:=false}]) v (.panicking [{v:=v,recovered:=true}])
section
variable {P:Program} {n m:Nat} {ops:Array Oper} {Q:Exit->Act->List Frame->World->Prop} {cs:List Frame}
theorem run_storeO {o:Oper}{t:TypeId}{x y:Operand}(h:o.op=.store t x y){ρ:Operand->Value}{w:World}:(∃w',(execOp ρ o).run P w=.ok .skip w')∨(∃e w',(execOp ρ o).run P w=.halt e w'):=by
 simp only[execOp,h];rw[Sem.run_bind];cases hh:(Instr.storeAt t (ρ x) (ρ y)).run P w with
 |ok v w'=>exact .inl ⟨w',rfl⟩
 |halt e w'=>exact .inr ⟨e,w',rfl⟩
theorem opsS_pure:∀(l:List (RO×Oper)) (idx:List Nat),idx.map (fun i=>ops[i]?)=l.map (fun x=>some x.2)->(∀x∈l,okRcv x.1.op=true/\lowRO P n ops x.2=some x.1)->
 ∀(a:Act) (w:World),wpR P (fun _ _ _=>False) (fun a' w'=>Q .normal a' cs w') l a w->wpOpsSIn (VFc none) m P ops Q idx a cs w:=by
 intro l
 induction l with
 |nil=>
  intro idx hi _ a w h;obtain rfl:idx=[]:=by simpa using hi
  exact h
 |cons x l ih=>
  intro idx hi hx a w h;cases idx with
  |nil=>simp at hi
  |cons i idx=>
   simp only[Vy,ve]at hi;obtain⟨hi1,hi2⟩:=hi;obtain⟨hp,hlow⟩:=hx x Zs;obtain⟨g1,g2,g3,g4⟩:=jE hlow;have ih':=ih idx hi2 (fun y hy=>hx y (by simp[hy]));simp only[wpOpsSIn,hi1];refine⟨fun _ _=>trivial,?_⟩;rw[g4 a];have h':jq P (fun _ _ _=>False) x (wpR P (fun _ _ _=>False) (fun a' w'=>Q .normal a' cs w') l) a w:=h;unfold jq at h';by_cases hw:j8 x.1.guard a=true
   ·rw[if_pos hw]at h'|-;by_cases hpu:kY x.1.op=true
    ·rw[if_pos hpu]at h';obtain⟨v,e,hn⟩:=h';have hrun:(execOp a.eval x.2).run P w=.ok (.value v) w:=pure_sound (w:=w) (zP a) g1 e;rw[hrun];rw[g2]at hn;exact ih' _ _ hn
    ·by_cases hre:jA x.1.op=true
     ·rw[if_neg hpu,if_pos hre]at h';obtain⟨s,v,e,er,hn⟩:=h';have hrun:(execOp a.eval x.2).run P w=.ok (.value v) w:=mem_sound (zP a) g1 e (er w (.refl w));rw[hrun];rw[g2]at hn;exact ih' _ _ hn
     ·rw[if_neg hpu,if_neg hre]at h';obtain⟨hnew,hv⟩:=h';by_cases hnw:isNew x.1.op=true
      ·obtain⟨u,w',hrun,_⟩:=hnew hnw;simp only[wpV,hrun,jb]at hv;rw[hrun];exact ih' _ _ hv
      ·have hst:∃k y z,x.1.op=.store k y z:=by
        simp only[okRcv,vO]at hp;rcases hp with((h|h)|h)|h
        ·exact absurd h hpu
        ·exact absurd h hre
        ·exact absurd h hnw
        ·split at h
         ·exact⟨_,_,_,by assumption⟩
         ·cases h
       obtain⟨k,y,z,hst⟩:=hst;have hop:∃t,x.2.op=.store t y z:=by
        rw[hst]at g1;generalize x.2=oo at g1|-;obtain⟨dst,op,ty,pos,after,guard⟩:=oo;simp only at g1|-;cases op
        case store t y' z'=>
         simp only[kz,Qk]at g1;obtain⟨i,_,g1⟩:=g1;cases g1;exact⟨_,rfl⟩
        all_goals (exfalso;try simp only[kz]at g1)
        all_goals (repeat' split at g1)
        all_goals first
         |(cases g1;done)
         |(simp only[Qk]at g1;obtain⟨_,_,g1⟩:=g1;cases g1;done)
       obtain⟨t,hop⟩:=hop;rcases run_storeO (P:=P) hop (ρ:=a.eval) (w:=w)with⟨w',hrun⟩|⟨e,w',hrun⟩
       ·simp only[wpV,hrun,jb]at hv;rw[hrun];exact ih' _ _ hv
       ·simp only[wpV,hrun]at hv;cases e <;> exact hv.elim
   ·rw[if_neg hw]at h'|-;rw[g2]at h';exact ih' _ _ h'
end
theorem FunDR.intro {P:Program}{kp:Nat->List Nat}{od:Nat->List (List Nat)}{f:Nat}{F:RIR}{args:List Value}{Pre:SH}{u u':FrameMode}{rv:Value}{Q:SH->Prop}(hl:lowFR P kp od f=some F)(hn:args.length<=F.n)(hu:Rcv u rv u')
 (h:VO P F.n F.rs ((F.d,rv)::argsEnv 0 args) Pre (fun _ _ _=>False) fun Γ' H'=>VCz P F.n F.post Γ' H' (endQ F.res fun _ Post=>Q Post)):FunDR P f args u u' Pre Q:=by
 unfold lowFR at hl;split at hl
 ·cases hl
 rename_i fn hfn;split at hl
 ·cases hl
 rename_i c hc;split at hl
 case isFalse=>cases hl
 rename_i hname;split at hl
 case h_2=>cases hl
 rename_i d rs y r hb hr;cases hl;refine⟨by simp only[ji,hfn,hname,hc];rfl,fun FF w hs=>?_⟩;unfold lowRcv at hb;split at hb
 case h_2=>cases hb
 rename_i id ops c2;split at hb
 case h_2=>cases hb
 rename_i o1 os hops;split at hb
 case isFalse=>cases hb
 rename_i hrcv;split at hb
 case h_2=>cases hb
 rename_i d' rs' y' hd1 hd2 hd3;split at hb
 case isFalse=>cases hb
 rename_i hcond;cases hb;obtain⟨hdn,hall⟩:=hcond;refine callsDIn_of_wpSIn hfn hc trivial (fun c₀ cs hmode=>?_);have hsz:ops.size=os.length+1:=by rw[<- Array.length_toList,hops];rfl
 refine wpSIn_seq (wpSIn_region ?_);rw[hsz,List.range_succ_eq_map];have h0:ops[0]? =some o1:=by rw[<- vB,hops];rfl
 unfold isRcv at hrcv;split at hrcv
 case h_2=>cases hrcv
 rename_i cl hcl;simp only[vF]at hrcv;obtain⟨hcal,hg⟩:=hrcv;have hcal':cl.callee=.builtin .recover:=by
  split at hcal
  ·assumption
  ·cases hcal
 have hg':o1.guard=none:=by simpa using hg
 obtain⟨a0,ha0⟩:∃a0:Act,a0={tmps:=args.toArray++Array.replicate (fn.ntmps - args.toArray.size) undef,defers:=[]}:=⟨_,rfl⟩;rw[<- ha0];have hagree:jn fn.ntmps (argsEnv 0 args) a0:=by
  rw[ha0];refine⟨?_,fun t v e=>?_⟩
  ·simp at hn|-;omega
  ·exact zAQ
 have hdef:a0.defers=[]:=by rw[ha0]
 simp only[wpOpsSIn,h0];refine⟨fun _ _=>trivial,?_⟩;have hw:Region.wanted o1 (yielded ops a0.tmps)=true:=by simp[Region.wanted,hg']
 rw[if_pos hw];have hrun:(execOp a0.eval o1).run P w=.ok .recover w:=by
  simp[execOp,hcl,resolve,hcal',invoke,builtin]
 rw[hrun];have hag1:=hagree.put hdn rv;have hl2:zJ P fn.ntmps ops os=some rs:=hd2;obtain⟨hlen,hget⟩:=js hl2;have key:∀cs',(∃u2,cs'={c₀ with mode:=u2}::cs/\u2=u')->wpOpsSIn (VFc none) 0 P ops (Exit.thenS (c2.wpSIn (VFc none) 0 P (bodyPostS P fn c₀ cs fun e u2 w'=>u2=u'/\∃v Post,e=.returned v/\Q Post/\Sat w' (Post.flatten++FF)/\kg w w')) (bodyPostS P fn c₀ cs fun e u2 w'=>u2=u'/\∃v Post,e=.returned v/\Q Post/\Sat w' (Post.flatten++FF)/\kg w w')) (List.map Nat.succ (List.range os.length)) (a0.put o1.dst rv) cs' w:=by
  rintro cs' ⟨u2,rfl,rfl⟩
  refine opsS_pure (n:=fn.ntmps) (rs.zip os) _ ?_ ?_ _ _ ?_
  ·apply vm;intro i;simp only[Ve];by_cases hi:i < os.length
   ·rw[List.getElem?_range hi];have hz:(rs.zip os)[i]? =some (rs[i]'Zo,os[i]):=by
     rw[Zg Zam];simp
    rw[hz];simp only[Qm];rw[<- vB,hops];simp[hi]
   ·rw[Vb (by simpa using hi),Vb Zam];rfl
  ·intro x hx;obtain⟨i,hi⟩:=Vg hx;have hil:=(Vd.1 hi).1;simp at hil;have e:(rs.zip os)[i]? =some (rs[i]'Zo,os[i]'Zo):=by
    rw[Zg Zam];simp
   rw[e]at hi;cases hi;refine⟨?_,hget i _ _ (Zg Zo) (Zg Zo)⟩;exact vX.1 hall _ (List.getElem_mem _)
  ·rw[hd1];refine h (rs.zip os) ⟨by rw[List.map_fst_zip];omega,fun x hx=>?_⟩ _ w FF _ _ hag1 hs (fun a2 w2 Γ2 H2 q k1 k2 k3 k4=>?_) (fun _ _ _ _ _ q=>q.elim)
   ·obtain⟨i,hi⟩:=Vg hx;have hil:=(Vd.1 hi).1;simp at hil;have e:(rs.zip os)[i]? =some (rs[i]'Zo,os[i]'Zo):=by
     rw[Zg Zam];simp
    rw[e]at hi;cases hi;exact⟨ops,hget i _ _ (Zg Zo) (Zg Zo)⟩
   ·show c2.wpSIn _ _ _ _ a2 _ w2;refine wpSIn_of_wpIn rfl ?_;refine q none kp od c2 hd3 a2 w2 FF _ k1 k3 (fun e a3 w3 Γ3 H3 q3 j1 j2 j3 j4=>?_);obtain⟨he,vs,Post,e1,e2,e3⟩:=q3;have hdd:a3.defers=[]:=by rw[j2,k2,jV,hdef]
    have hb:a3.defers=[]/\∃u2',({c₀ with mode:=u2}::cs:List Frame)={c₀ with mode:=u2'}::cs/\∃v,(results fn a3.tmps).run P w3=.ok v w3/\(u2'=u2/\∃v' Post,(Ending.returned v)=.returned v'/\Q Post/\Sat w3 (Post.flatten++FF)/\kg w w3):=
     ⟨hdd,u2,rfl,_,run_results j3 hr j1 e1,rfl,_,Post,rfl,e3,j3.imp e2,k4.trans j4⟩
    rcases he with rfl|rfl <;> exact hb
 cases hu with
 |none=>
  have hrd:recoverD (c₀::cs)=none:=by simp[recoverD,hmode]
  simp only[hrd];refine key _ ⟨.returning,?_,rfl⟩;have:c₀={c₀ with mode:=.returning}:=by cases c₀;simp_all
  rw[<- this]
 |some=>
  have hrd:recoverD (c₀::cs)=some (rv,{c₀ with mode:=.panicking [{v:=rv,recovered:=true}]}::cs):=by simp[recoverD,hmode]
  simp only[hrd];exact key _ ⟨_,rfl,rfl⟩
end Go.V
namespace Go.V
open Go
def endDP(P:Program)(g:Nat)(caps:List Value)(res:List RV)(Q:Value->SH->Prop):Exit->Env->SH->Prop
 |.panic ch,Γ,H=>∃Pre R Q2 u',FunDR P g caps (.panicking ch) u' Pre Q2/\settle u'=.returning/\Spl H Pre R/\∀Post,Q2 Post->endQ res Q .ret Γ (Post++R)
 |e,Γ,H=>(e=.normal∨e=.ret)/\∃Pre R Q2,FunDR P g caps .returning .returning Pre Q2/\Spl H Pre R/\∀Post,Q2 Post->endQ res Q .ret Γ (Post++R)
def VDP(P:Program)(n:Nat)(res:List RV)(dr:DR)(post:IC)(Q:Value->SH->Prop):List IC->Env->SH->Prop
 |[],Γ,H=>∃vs,evs Γ dr.caps=some vs/\VC P n post ((dr.d,.func (.func dr.g) #[] vs.toArray)::Γ) H (endDP P dr.g vs res Q)
 |x::l,Γ,H=>VC P n x Γ H (thenQ (fun Γ' H'=>VDP P n res dr post Q l Γ' H') (endQ res Q))
section
variable {P:Program} {n:Nat} {fn:Func} {tmps:Array Value} {FF:List kC} {w0:World}
theorem vdp_sound {kp:Nat->List Nat}{od:Nat->List (List Nat)}{r:List RV}{Q:Value->SH->Prop}(hr:wY P fn.results.toList=some r):∀(l:List IC) (c:Code) (dr:DR) (y:IC),lowD P n kp od c=some (l,dr,y)->
 ∀Γ H a w X,VDP P n r dr y Q l Γ H->jn n Γ a->Sat w (H.flatten++(FF++marks X))->a.defers=X.map coll->kg w0 w->
 c.wpIn (VFc none) 0 P (bodyPostM (VFc none) 0 P fn (fun e w'=>∃v Post,e=.returned v/\Q v Post/\Sat w' (Post.flatten++FF)/\kg w0 w')) a w:=by
 intro l
 induction l with
 |nil=>
  intro c dr y hl Γ H a w X hv ha hs hd hk;unfold lowD at hl;split at hl
  case h_2=>cases hl
  rename_i p q;split at hl
  case h_2=>
   split at hl <;> cases hl
  rename_i x hx;simp only[Qk]at hl;obtain⟨y',hy,he⟩:=hl;cases he;obtain⟨id,ops,o1,o2,cl,rfl,hops,h1,h2,hcal,hargs,hg,hdst⟩:=lowDef_inv hx;obtain⟨vs,hvs,hpost⟩:=hv;refine wpIn_seq (wpIn_region_list ?_);rw[hops];obtain⟨g1,g2,g3,g4⟩:=jE h1;have hv1:kS a.eval (.clos (.func dr.g) [] dr.caps)=some (.func (.func dr.g) #[] vs.toArray):=by
   simp[kS,ha.evs hvs]
  have hrun:(execOp a.eval o1).run P w=.ok (.value (.func (.func dr.g) #[] vs.toArray)) w:=pure_sound (w:=w) (zP a) g1 hv1;have ha1:=ha.putE g3 (.func (.func dr.g) #[] vs.toArray);simp only at ha1 g2;simp only[wpListIn,g4 a,j8,if_true];refine⟨fun _ _=>trivial,?_⟩;rw[Oper.semAt_none,hrun];show(if Region.wanted o2 (yielded ops (a.put o1.dst _).tmps)then _ else _);rw[<- g2];have hw:Region.wanted o2 (yielded ops (a.put (some dr.d) (.func (.func dr.g) #[] vs.toArray)).tmps)=true:=by simp[Region.wanted,hg]
  rw[if_pos hw];have hev:(a.put (some dr.d) (.func (.func dr.g) #[] vs.toArray)).eval (.tmp dr.d)=.func (.func dr.g) #[] vs.toArray:=ha1.ev (by simp[V.ev,V.putE,V.look]);have hdef:(execOp (a.put (some dr.d) (.func (.func dr.g) #[] vs.toArray)).eval o2).run P w=.ok (.defer {target:=.fn (.func dr.g) vs.toArray,args:=#[]}) w:=by
   simp[execOp,h2,resolve,hcal,hargs,hev,Deferred.ofValue]
  refine⟨fun _ _=>trivial,?_⟩;rw[Oper.semAt_none,hdef,Oper.uponIn_defer,hdst];show q.wpIn _ _ _ _ _ w;have hputd:(a.put (some dr.d) (.func (.func dr.g) #[] vs.toArray)).defers=a.defers:=jV ..;refine hpost none kp od _ hy _ w (FF++marks X) _ (fun l e=>by cases e) ⟨ha1.size,ha1.slots⟩ hs (fun e a' w' Γ' H' Y q k1 k2 k3 k4=>?_);have hdefs:a'.defers=Y.map coll++({target:=.fn (.func dr.g) vs.toArray,args:=#[]}::X.map coll):=by
   rw[k2];show _++({target:=.fn (.func dr.g) vs.toArray,args:=#[]}::(a.put (some dr.d) (.func (.func dr.g) #[] vs.toArray)).defers)=_;rw[hputd,hd]
  have go:∀(u u':FrameMode) (Pre Rr:SH) (Q2:SH->Prop),u≠.run->settle u'=.returning->FunDR P dr.g vs u u' Pre Q2->Spl H' Pre Rr->(∀Post,Q2 Post->endQ r Q .ret Γ' (Post++Rr))->
   LeavesInM (VFc none) 0 P fn a'.tmps (fun e w'=>∃v Post,e=.returned v/\Q v Post/\Sat w' (Post.flatten++FF)/\kg w0 w') a'.defers u w':=by
   intro u u' Pre Rr Q2 hu hset hfd hspl hfin;rw[hdefs];refine leaves_marksU (w0:=w0) (FF:=FF++marks X) hu Y w' k3 (hk.trans k4) (fun w2 s2 c2=>?_);refine⟨hu,.inr ⟨Zs,.func dr.g,vs.toArray,dr.g,vs.toArray,rfl,?_,fun _ _=>trivial,?_⟩⟩
   ·simp[invoke,wz hfd.1]
   ·have hs2:Sat w2 (Pre.flatten++(Rr.flatten++(FF++marks X))):=by
     rw[<- vZ];exact s2.perm (hspl.append_right _)
    refine(hfd.2 (Rr.flatten++(FF++marks X)) w2 hs2).mono ?_
    rintro e2 u2 w3 ⟨rfl,v,Post,rfl,hq2,hs3,hk3⟩
    show LeavesInM _ _ _ _ _ _ (X.map coll) (settle u2) w3;rw[hset];refine leaves_end hr (hfin Post hq2) k1 ?_ (c2.trans hk3);rw[vy,vZ];exact hs3
  cases e with
  |normal=>
   exact zDS
  |ret=>
   exact zDS
  |panic ch=>
   obtain⟨Pre,Rr,Q2,u',hfd,hset,hspl,hfin⟩:=q;exact go (.panicking ch) u' Pre Rr Q2 Zs hset hfd hspl hfin
  |exit id=>exact absurd q.1 Zs
  |goto l=>exact absurd q.1 Zs
  |outgrown=>exact absurd q.1 Zs
 |cons x l ih=>
  intro c dr y hl Γ H a w X hv ha hs hd hk;unfold lowD at hl;split at hl
  case h_2=>cases hl
  rename_i p q;split at hl
  ·simp only[Qk]at hl;obtain⟨y',hy,he⟩:=hl;cases he
  split at hl
  case h_2=>cases hl
  rename_i x' l' d' y' hx hq;cases hl;refine wpIn_seq (hv none kp od _ hx a w (FF++marks X) _ (fun l e=>by cases e) ha hs (fun e a' w' Γ' H' Y q k1 k2 k3 k4=>?_));have hdefs:a'.defers=(Y++X).map coll:=by rw[k2,hd];simp
  cases e <;> first
   |exact ih _ _ _ hq Γ' H' a' w' (Y++X) q k1 k3.marks hdefs (hk.trans k4)
   |(obtain⟨he,_⟩:=q;simp at he;done)
   |(show LeavesInM _ _ _ _ _ _ a'.defers _ w';rw[hdefs];exact leaves_end hr q k1 k3.marks (hk.trans k4))
end
theorem Fun.introDP {P:Program}{kp:Nat->List Nat}{od:Nat->List (List Nat)}{f:Nat}{F:DIR}{args:List Value}{Pre:SH}{Q:Value->SH->Prop}(hl:lowFD P kp od f=some F)(hn:args.length<=F.n)
 (h:VDP P F.n F.res F.dr F.post Q F.pre (argsEnv 0 args) Pre):Fun P f args Pre Q:=by
 unfold lowFD at hl;split at hl
 ·cases hl
 rename_i fn hfn;split at hl
 ·cases hl
 rename_i c hc;split at hl
 case isFalse=>cases hl
 rename_i hname;split at hl
 case h_2=>cases hl
 rename_i l d y r hb hr;cases hl;refine⟨by simp only[ji,hfn,hname,hc];rfl,fun FF w hs=>?_⟩;refine(callsIn_wide (n:=0)).1 (callsIn_of_wp_marks hfn hc trivial (vdp_sound hr l c d y hb _ _ _ w [] h ⟨?_,fun t v e=>?_⟩ (by simpa[V.marks]using hs) rfl (.refl w)))
 ·simp at hn|-;omega
 ·exact zAQ
end Go.V
namespace Go.V
open Go
section
variable {ops:Array Oper}
theorem coverEx1 {both:Bool}{rs:List (RO×Oper)}{orders:List (List Nat)}(hlen:rs.length=ops.size)
 (hc:coverG both rs ops orders=true) (t:Nat):∃o∈orders,o.Perm (jd ops ops.size t (Array.replicate ops.size false))/\(jd ops ops.size t (Array.replicate ops.size false)).Nodup/\
   o.Pairwise (fun x y=>indep (rs.getD y default) (rs.getD x default)=true∨[x,y].Sublist (jd ops ops.size t (Array.replicate ops.size false))):=by
 simp only[coverG,vF]at hc;obtain⟨⟨⟨hb,hd⟩,ho⟩,hp⟩:=hc;have hu:unl ops (Array.replicate ops.size false)=List.range ops.size:=by
  exact zAZ
 obtain⟨s1,s2,_⟩:=sched_spec hb ops.size t (Array.replicate ops.size false) Zs (by rw[hu];simp);generalize hl:jd ops ops.size t (Array.replicate ops.size false)=l at s1 s2|-;have hanc:∀{x y:Nat},y < ops.size->x∈(ancs ops).getD y []->Bef l x y:=fun hy hx=>hl ▸ anc_bef hb (QW _) (ancs_sound hx) hy
 have hmem:∀i,i∈l↔i < ops.size:=fun i=>by rw[s2,hu];simp
 generalize hdd:clash both rs (ancs ops) ops.size=d at hd hp;have hdlt:∀x∈d,x < ops.size:=by
  exact zCF
 have hsp:(l.filter (d.contains ·)).Perm d:=by
  exact zB7
 have hall:=vX.1 hp _ (mem_perms hsp);simp only[vO,vK,vY]at hall;have hresp:zE (fun x y=>!((ancs ops).getD x []).contains y) (l.filter (d.contains ·))=true:=by
  exact zAD
 rcases hall with hall|⟨o,hom,hpo⟩
 ·rw[hresp]at hall;cases hall
 have ho':=vX.1 ho o hom;simp only[vF,beq_iff_eq,vX,decide_eq_true_eq]at ho';obtain⟨⟨o1,o2⟩,o3⟩:=ho';have hperm:o.Perm l:=by
  exact zAI
 refine⟨o,hom,hperm,s1,?_⟩
 ·exact zAN
theorem coverEx {rs:List (RO×Oper)}{orders:List (List Nat)}(hlen:rs.length=ops.size)
 (hc:coverB rs ops orders=true) (t:Nat):∃o∈orders,o.Perm (jd ops ops.size t (Array.replicate ops.size false))/\(jd ops ops.size t (Array.replicate ops.size false)).Nodup/\
   o.Pairwise (fun x y=>indep (rs.getD y default) (rs.getD x default)=true∨[x,y].Sublist (jd ops ops.size t (Array.replicate ops.size false))):=by
 unfold coverB at hc;rcases vP.1 hc with hc|hc
 ·exact coverEx1 hlen hc t
 ·exact coverEx1 hlen hc t
theorem sub_left {x y c:Nat}{l1 l2:List Nat}(hn:(l1++c::l2).Nodup)(hx:x∈l1)(hy:y∈l1)(h:[x,y].Sublist (l1++c::l2)):[x,y].Sublist l1:=by
 rw[List.sublist_append_iff]at h;obtain⟨a,b,e,ha,hb⟩:=h;have hd:=(QE.1 hn).2.2;have hb0:b=[]:=by
  cases b with
  |nil=>rfl
  |cons z b=>
   have hz:z∈[x,y]:=by rw[e];simp
   have hz1:z∈l1:=by simp only[Q4,List.not_mem_nil,or_false]at hz;rcases hz with rfl|rfl <;> assumption
   exact absurd rfl (hd z hz1 z (hb.subset Zs))
 subst hb0;rw[vd]at e;rw[e];exact ha
theorem pan_reorder {P:Program}{n:Nat}{X:Nat->RO×Oper}{Z:Exit->Act->World->Prop}{Q:Act->World->Prop}{c:Nat}{l1 l2 o:List Nat}(hp:o.Perm (l1++c::l2))(hn:(l1++c::l2).Nodup)(hg:∀i∈l1++c::l2,Good P n ops (X i))
 (hpw:o.Pairwise (fun x y=>indep (X y) (X x)=true∨[x,y].Sublist (l1++c::l2))) {a:Act} {w:World}
 (h:wpR P w7 (wpR P Z (fun _ _=>False) [X c]) ((o.filter (l1.contains ·)).map X) a w):wpR P Z Q ((l1++c::l2).map X) a w:=by
 have hn1:=(QE.1 hn).1;have hno:o.Nodup:=hp.nodup_iff.2 hn;have hp1:(o.filter (l1.contains ·)).Perm l1:=by
  refine(QJ (hno.filter _) hn1).2 fun x=>?_
  simp only[Q7,vg,hp.mem_iff];exact⟨fun h=>h.2,fun h=>⟨by simp[h],h⟩⟩
 have h1:=reorder (P:=P) (n:=n) (ops:=ops) l1 _ hp1 hn1 (fun i hi=>hg i (Zw _ hi)) ((hpw.filter _).imp_of_mem fun {x y} hx hy h=>by
  rcases h with h|h
  ·exact .inl h
  ·simp only[Q7,vg]at hx hy;exact .inr (sub_left hn hx.2 hy.2 h)) h
 have h2:wpR P Z (wpR P Z (fun _ _=>False) [X c]) (l1.map X) a w:=wpR_zmono h1;rw[Vw,Vy];have app:∀(u v:List (RO×Oper)) (a:Act) (w:World),wpR P Z (wpR P Z Q v) u a w->wpR P Z Q (u++v) a w:=by
  intro u v
  induction u with
  |nil=>intro a w h;exact h
  |cons x u ih=>intro a w h;exact wpR1_mono (fun a w h=>ih a w h) h
 refine app _ _ _ _ (wpR_mono (fun a w hc=>?_) h2);exact wpR1_mono (fun a w (hf:False)=>hf.elim) hc
end
end Go.V
namespace Go.V
open Go
def roLooks(x:RO):List Nat:=guardTmps x.guard++opTmps (rOps x.op)
def sels(need cd:List Nat):List Nat->List (RO×Bool)->List (List RO)
 |_,[]=>[[]]
 |skip,(x,late)::r=>
  (if(kY x.op||!late)&&!(kY x.op||jA x.op)||(roLooks x).all (fun t=>!skip.contains t&&!(late&&cd.contains t))&&(kY x.op||!late)then(sels need cd skip r).map (x::·)else [])++
  (if late||kY x.op&&(optl x.dst).all (fun d=>!need.contains d)then sels need cd (optl x.dst++skip) r else [])
where
 optl (d:Option Nat):List Nat:=d.toList
theorem mem_sels {need cd:List Nat}(p:Nat->Bool)(X:Nat->RO)(late:Nat->Bool):∀(o:List Nat) (skip:List Nat),
 (∀i∈o,p i=true->(kY (X i).op||!late i)=true)->
 (∀i∈o,p i=false->late i=false->kY (X i).op=true)->
 (∀i∈o,p i=false->late i=false->∀d,(X i).dst=some d->d∉need)->
 (∀i∈o,p i=true->(kY (X i).op||jA (X i).op)=true->∀t∈roLooks (X i),t∉skip/\(late i=true->t∉cd))->
 o.Pairwise (fun i j=>p i=false->p j=true->(kY (X j).op||jA (X j).op)=true->∀d,(X i).dst=some d->d∉roLooks (X j))->
 (o.filter p).map X∈sels need cd skip (o.map fun i=>(X i,late i)):=by
 intro o
 induction o with
 |nil=>intro skip _ _ _ _ _;simp[sels]
 |cons i o ih=>
  intro skip h1 h2 h3 h4 h5;rw[List.pairwise_cons]at h5;simp only[Vy,sels,Q1];cases hp:p i with
  |true=>
   left;have hr:=h1 i Zs hp;rw[if_pos,List.filter_cons_of_pos hp,Vy]
   ·exact Q9.2 ⟨_,ih skip (fun j hj=>h1 j (by simp[hj])) (fun j hj=>h2 j (by simp[hj])) (fun j hj=>h3 j (by simp[hj])) (fun j hj=>h4 j (by simp[hj])) h5.2,rfl⟩
   ·cases hq:(kY (X i).op||jA (X i).op)with
    |false=>simp[hr]
    |true=>
     have:=h4 i Zs hp hq;rw[hr];simp only[Bool.not_true,Bool.and_false,vJ,Bool.and_true,vX,vK];intro t ht;have:=this t ht;cases hl:late i <;> simp_all
  |false=>
   right;rw[if_pos,List.filter_cons_of_neg (by simp[hp])]
   ·refine ih _ (fun j hj=>h1 j (by simp[hj])) (fun j hj=>h2 j (by simp[hj])) (fun j hj=>h3 j (by simp[hj])) (fun j hj pj q t ht=>⟨fun hm=>?_,(h4 j (by simp[hj]) pj q t ht).2⟩) h5.2;rcases Q1.1 hm with hm|hm
    ·have hd:(X i).dst=some t:=by simpa[sels.optl]using hm
     exact h5.1 j hj hp pj q t hd ht
    ·exact(h4 j (by simp[hj]) pj q t ht).1 hm
   ·cases hl:late i with
    |true=>rfl
    |false=>
     have hr:=h2 i Zs hp hl;rw[hr];simp only[vR,vJ,vX,vK];intro d hd;have hd':(X i).dst=some d:=by simpa[sels.optl]using hd
     have:=h3 i Zs hp hl d hd';simpa using this
end Go.V
namespace Go.V
open Go
theorem indep_parts {x y:RO×Oper}(h:indep x y=true):apart1 x y=true/\apart1 y x=true/\(kY x.1.op||kY y.1.op||(jA x.1.op&&jA y.1.op)||(isNew x.1.op&&jA y.1.op))=true:=by
 simp only[indep,vF]at h;exact⟨h.1.1,h.1.2,h.2⟩
theorem VC.draw_pan {P:Program}{n:Nat}{Γ:Env}{H:SH}{Q:Exit->Env->SH->Prop}{rss:List (List RO)}{keep:List Nat}
 (h:∀rs∈rss,∃pre d f xs post,rs=pre++⟨d,none,.call f xs⟩::post/\∀S∈sels (opTmps xs) d.toList [] (pre.map (fun x=>(x,false))++post.map (fun x=>(x,true))),
   VO P n S Γ H (fun _ _ _=>False) fun Γ' H'=>VO P n [⟨d,none,.call f xs⟩] Γ' H' (fun ch _ H''=>Q (.panic ch) [] H'') (fun _ _=>False)):VC P n (.draw rss keep) Γ H Q:=by
 intro ρ kp od code hl a w F QQ hr ha hs hh;obtain⟨id,ops,rs,rfl,h1,hm,hc,rfl,rfl⟩:=jW hl;have hlen:=(js h1).1;refine wpIn_region_draw (fun t=>?_);have hsched:Region.schedule (P.follows .mixedOrders) ops t=jd ops ops.size t (Array.replicate ops.size false):=by simp[Region.schedule,hm,Region.linearise,jd]
 rw[hsched];have hu:unl ops (Array.replicate ops.size false)=List.range ops.size:=by
  exact zAZ
 have hback:wQ ops=true:=by
  exact zDX
 have hmem:=(sched_spec hback ops.size t (Array.replicate ops.size false) Zs (by rw[hu];simp)).2.1;refine wpR_sound (P:=P) (ρ:=ρ) (n:=n) (ops:=ops) (X:=fun i=>(rs.zip ops.toList).getD i default) (QQ:=QQ) (fun i hi=>?_) _ a _ (fun i hi=>by rw[hmem,hu]at hi;simpa using hi) ?_
 ·exact zCX
 obtain⟨o,hom,hperm,hnd,hpw⟩:=coverEx (rs:=rs.zip ops.toList) (by simp[hlen]) hc t;obtain⟨pre,d,f,xs,post,e,hS⟩:=h (o.map fun i=>rs.getD i default) (Q9.2 ⟨o,hom,rfl⟩);have hlt:∀i∈o,i < ops.size:=fun i hi=>by have:=hperm.mem_iff.1 hi;rw[hmem,hu]at this;simpa using this
 generalize jd ops ops.size t (Array.replicate ops.size false)=l at hperm hnd hpw hmem|-;obtain⟨o1,oc,rfl,e1,e2⟩:=List.map_eq_append_iff.1 e;obtain⟨ci,o2,rfl,e3,e4⟩:=List.map_eq_cons_iff.1 e2;obtain⟨l1,l2,rfl⟩:=List.append_of_mem (hperm.mem_iff.1 (show ci∈o1++ci::o2 by simp));have hno:(o1++ci::o2).Nodup:=hperm.nodup_iff.2 hnd;refine pan_reorder (n:=n) (ops:=ops) (o:=o1++ci::o2) hperm hnd (fun i hi=>?_) hpw ?_
 ·obtain⟨g1,g2,g3⟩:=wd h1 (hlt i (hperm.mem_iff.2 hi));exact Good.of_low g3
 have hfst:∀i∈o1++ci::o2,((rs.zip ops.toList).getD i default).1=rs.getD i default:=fun i hi=>(wd h1 (hlt i hi)).2.1
 have hpc:l1.contains ci=false:=by
  have:=(QE.1 hnd).2.2;cases hc1:l1.contains ci with
  |false=>rfl
  |true=>exact absurd rfl (this ci (vg.1 hc1) ci Zs)
 have hfil:(o1++ci::o2).filter (l1.contains ·)=(o1++o2).filter (l1.contains ·):=by
  simp only[vp,vq,hpc,vI,↓reduceIte]
 have hdj:∀i∈o1,i∉o2:=fun i h1 h2=>(QE.1 hno).2.2 i h1 i (by simp[h2]) rfl
 have hmap:(o1++o2).map (fun i=>(rs.getD i default,o2.contains i))=pre.map (fun x=>(x,false))++post.map (fun x=>(x,true)):=by
  rw[<- e1,<- e4,Vw,Vz,Vz]
  congr 1
  ·refine Vx fun i hi=>?_
   simp[hdj i hi]
  ·refine Vx fun i hi=>?_
   simp[hi]
 have hsel:((o1++o2).filter (l1.contains ·)).map (fun i=>rs.getD i default)∈sels (opTmps xs) d.toList [] (pre.map (fun x=>(x,false))++post.map (fun x=>(x,true))):=by
  rw[<- hmap];have hXc:((rs.zip ops.toList).getD ci default).1=⟨d,none,.call f xs⟩:=by rw[hfst ci Zs,e3]
  have hlow:kz P ((rs.zip ops.toList).getD ci default).2.op=some (.call f xs):=by
   obtain⟨g1,g2,g3⟩:=wd h1 (hlt ci Zs);have:=(jE g3).1;rw[hXc]at this;exact this
  have hndl:∀x∈l1,x∉ci::l2:=fun x h1 h2=>(QE.1 hnd).2.2 x h1 x h2 rfl
  have ncl:ci∉l1:=fun h=>by simp[h]at hpc
  have subL:∀{x y:Nat},[x,y].Sublist (l1++ci::l2)->y∈ci::l1->x∈l1:=by
   intro x y hxy hy;have hb:=sub_bef hnd hxy;by_cases hx:x∈l1
   ·exact hx
   ·exfalso;have:=hb.2.2;rw[List.idxOf_append,if_neg hx]at this;rcases Q4.1 hy with rfl|hy
    ·rw[List.idxOf_append,if_neg ncl]at this;have h0:List.idxOf y (y::l2)=0:=List.idxOf_cons_self;omega
    ·have h2:=List.idxOf_lt_length_of_mem hy;rw[List.idxOf_append,if_pos hy]at this;omega
  have hp1:=List.pairwise_append.1 hpw;have hp2:=List.pairwise_cons.1 hp1.2.1;refine mem_sels (l1.contains ·) (fun i=>rs.getD i default) (fun i=>o2.contains i) (o1++o2) [] ?_ ?_ ?_ ?_ ?_
  ·intro i hi hp;have hp:=vg.1 hp;by_cases h2:i∈o2
   ·have hA:=indep_parts ((hp2.1 i h2).resolve_right fun q=>ncl (subL q (by simp[hp])));have h3:=hA.2.2;rw[hXc,hfst i (by simp[h2])]at h3;have h4:kY (rs.getD i default).op=true:=by simpa[kY,jA]using h3
    show(kY (rs.getD i default).op||!o2.contains i)=true;rw[h4];rfl
   ·show(kY (rs.getD i default).op||!o2.contains i)=true;simp[h2]
  ·intro i hi hp hl;have h2:i∈o1:=by
    rcases Q1.1 hi with h|h
    ·exact h
    ·simp[h]at hl
   have hp:i∉l1:=fun h=>by simp[h]at hp
   have hB:=indep_parts ((hp1.2.2 i h2 ci Zs).resolve_right fun q=>hp (subL q Zs));have h3:=hB.2.2;rw[hXc,hfst i (by simp[h2])]at h3;simp[kY,jA,isNew]at h3;exact h3
  ·intro i hi hp hl dd hd hm;have h2:i∈o1:=by
    rcases Q1.1 hi with h|h
    ·exact h
    ·simp[h]at hl
   have hp:i∉l1:=fun h=>by simp[h]at hp
   have hB:=indep_parts ((hp1.2.2 i h2 ci Zs).resolve_right fun q=>hp (subL q Zs));refine(ww hB.2.1 dd (by rw[hfst i (by simp[h2])];exact hd)).1 ?_;obtain⟨c,hc1,hc2,hc3,_⟩:=low_call hlow;unfold looks;rw[hXc,hc1];simp only[kY,jA,vQ,vI,↓reduceIte,guardTmps,QD,Op.operands,Call.operands,hc2,Array.toList_append,hc3];unfold opTmps at hm|-;rw[List.filterMap_append];exact Q3 _ hm
  ·intro i hi hp hq tt ht;refine⟨Zs,fun hl=>?_⟩;have hp:=vg.1 hp;have h2:i∈o2:=vg.1 hl;have hA:=indep_parts ((hp2.1 i h2).resolve_right fun q=>ncl (subL q (by simp[hp])));intro hd;have hd':d=some tt:=by simpa using hd
   have:=(ww hA.2.1 tt (by rw[hXc];exact hd')).1;unfold looks at this;rw[hfst i (by simp[h2])]at this;simp only[hq,↓reduceIte]at this;exact this ht
  ·have hpw2:(o1++o2).Pairwise (fun x y=>indep ((rs.zip ops.toList).getD y default) ((rs.zip ops.toList).getD x default)=true∨[x,y].Sublist (l1++ci::l2)):=hpw.sublist (List.Sublist.append_left (QN _ _) _);refine hpw2.imp_of_mem fun {i j} hi hj h pi pj hq dd hd hm=>?_
   have pj:=vg.1 pj;have pi:i∉l1:=fun h=>by simp[h]at pi
   have mem:∀{x:Nat},x∈o1++o2->x∈o1++ci::o2:=fun {x} h=>by
    rcases Q1.1 h with h|h <;> simp[h]
   have hA:=indep_parts (h.resolve_right fun q=>pi (subL q (by simp[pj])));have:=(ww hA.2.1 dd (by rw[hfst i (mem hi)];exact hd)).1;unfold looks at this;rw[hfst j (mem hj)]at this;simp only[hq,↓reduceIte]at this;exact this hm
 rw[hfil];refine hS _ hsel _ ⟨?_,?_⟩ a {w with drawn:=w.drawn+1} F _ _ ha (hs.drawn _) (fun a' w' Γ' H' q g1 g2 g3 g4=>?_) (fun _ _ _ _ _ q=>q.elim)
 ·rw[Vz];refine Vx fun i hi=>hfst i ?_
  exact zDL
 ·intro x hx;obtain⟨i,hi,rfl⟩:=Q9.1 hx;have hi':i∈o1++ci::o2:=by
   exact zDL
  obtain⟨g1,g2,g3⟩:=wd h1 (hlt i hi');exact⟨ops,g3⟩
 ·refine q [(rs.zip ops.toList).getD ci default] ⟨?_,?_⟩ a' w' F _ _ g1 g3 (fun _ _ _ _ q=>q.elim) (fun ch a2 w2 Γ2 H2 q2 k1 k2 k3 k4=>hh (.panic ch) a2 w2 [] H2 [] q2 ⟨k1.size,fun t v e=>by cases e⟩ (by rw[k2,g2];rfl) k3.nomarks (((kg.refl w).drawn _).trans (g4.trans k4)))
  ·show [((rs.zip ops.toList).getD ci default).1]=_;rw[hfst ci Zs,e3]
  ·intro x hx;rw[QC.1 hx];obtain⟨g1,g2,g3⟩:=wd h1 (hlt ci Zs);exact⟨ops,g3⟩
end Go.V
namespace Go.V
open Go
inductive Blk where
 |cells (vs:List Value)
 |grow (size:Nat) (vs:List Value)
 |obj (o:Obj)
abbrev Mp:=List (Nat×Blk)
def getB:Mp->Nat->Option Blk
 |[],_=>none
 |(i,b)::r,k=>match Nat.beq i k with|true=>some b|false=>getB r k
def setB:Mp->Nat->Blk->Mp
 |[],_,_=>[]
 |(i,b)::r,k,c=>match Nat.beq i k with|true=>(i,c)::r|false=>(i,b)::setB r k c
def delB:Mp->Nat->Mp
 |[],_=>[]
 |(i,b)::r,k=>match Nat.beq i k with|true=>r|false=>(i,b)::delB r k
def rowB:Blk->Option (List Value)
 |.cells vs=>some vs
 |.grow _ vs=>some vs
 |.obj _=>none
def putB:Blk->List Value->Blk
 |.cells _,vs=>.cells vs
 |.grow s _,vs=>.grow s vs
 |.obj o,_=>.obj o
def evS(N0:Nat)(Γ:Env):Operand->Option Value
 |.tmp t=>look Γ t
 |.const v=>if plainV v then some v else none
 |.global g=>if Nat.blt g N0 then some (.pointer (some ⟨g,0,none⟩))else none
 |.func f=>some (.func (.func f) #[] #[])
def evSs(N0:Nat)(Γ:Env):List Operand->Option (List Value)
 |[]=>some []
 |x::r=>match evS N0 Γ x with
  |some v=>match evSs N0 Γ r with
   |some l=>some (v::l)
   |none=>none
  |none=>none
def evSD(N0:Nat)(Γ:Env)(x:Operand):Value:=(evS N0 Γ x).getD undef
def knownS(N0:Nat)(Γ:Env)(x:Operand):Bool:=(evS N0 Γ x).isSome
inductive PR where
 |val (v:Value) (h:Mp) (nx:Nat)
 |pan (ch:List PanicEntry) (h:Mp) (nx:Nat)
inductive OR where
 |ok (Γ:Env) (h:Mp) (nx:Nat)
 |pan (ch:List PanicEntry) (Γ:Env) (h:Mp) (nx:Nat)
abbrev CF:=Nat->List Value->Mp->Nat->Option PR
def readN(h:Mp)(b o n:Nat):Option (List Value):=
 match getB h b with
 |some k=>match rowB k with
  |some vs=>match Nat.ble (o+n) vs.length with
   |true=>some ((vs.drop o).take n)
   |false=>none
  |none=>none
 |none=>none
def writeN(h:Mp)(b o:Nat)(us:List Value):Option Mp:=
 match getB h b with
 |some k=>match rowB k with
  |some vs=>match Nat.ble (o+us.length) vs.length with
   |true=>match us.all jc with
    |true=>some (setB h b (putB k (vs.take o++us++vs.drop (o+us.length))))
    |false=>none
   |false=>none
  |none=>none
 |none=>none
def srcE(h:Mp)(size:Nat):Value->Option (Nat×List Value)
 |.slice (some ⟨b,o,none⟩) m _=>match readN h b o (m*size)with
  |some l=>some (m,l)
  |none=>none
 |.slice none m _=>match m with|0=>some (0,[])|_=>none
 |.string s=>match size with|1=>some (s.size,sBytes s)|_=>none
 |_=>none
def takeE(h:Mp)(size:Nat):Value->Option (List Value×Mp)
 |.slice none 0 0=>some ([],h)
 |.slice (some ⟨b,o,none⟩) n c=>match o with
  |0=>match getB h b with
   |some (.cells vs)=>match Nat.beq vs.length (c*size)&&(Nat.ble n c&&Nat.blt c BIG)with
    |true=>some (vs.take (n*size),delB h b)
    |false=>none
   |some (.grow s vs)=>match Nat.beq s size&&(Nat.beq c BIG&&Nat.ble (n*size) vs.length)with
    |true=>some (vs.take (n*size),delB h b)
    |false=>none
   |_=>none
  |_=>none
 |_=>none
def bndE(N0:Nat)(Γ:Env)(d:Nat):Option Operand->Option Nat
 |none=>some d
 |some x=>match evS N0 Γ x with
  |some (.int _ (.ofNat z))=>some z
  |_=>none
def pureE(N0:Nat)(r:R)(Γ:Env)(h:Mp)(nx:Nat):Option PR:=
 match kY r&&(okC r&&((rOps r).all (knownS N0 Γ)&&okS (evSD N0 Γ) r))with
 |true=>match kS (evSD N0 Γ) r with
  |some v=>some (.val v h nx)
  |none=>none
 |false=>none
def slcU(N0:Nat)(Γ:Env)(h:Mp)(size:Nat)(lo hi:Option Operand)(b o n c:Nat):Option Value:=
 match getB h b with
 |some (.grow s vs)=>match bndE N0 Γ 0 lo,bndE N0 Γ n hi with
  |some l,some m=>match Nat.beq s size&&(Nat.blt 0 size&&(Nat.beq o ((c - BIG)*size)&&(Nat.ble ((c - BIG+n)*size) vs.length&&(Nat.ble l m&&(Nat.ble m n&&(Nat.blt l n||Nat.beq l 0))))))with
   |true=>some (.slice (some ⟨b,o+l*size,none⟩) (m - l) (c+l))
   |false=>none
  |_,_=>none
 |_=>none
def zb(N0:Nat)(F:CF)(r:R)(Γ:Env)(h:Mp)(nx:Nat):Option PR:=
 match r with
 |.load1 x=>match evS N0 Γ x with
  |some (.pointer (some ⟨b,o,none⟩))=>match readN h b o 1 with
   |some [v]=>some (.val v h nx)
   |_=>none
  |_=>none
 |.loadN n x=>match evS N0 Γ x with
  |some (.pointer (some ⟨b,o,none⟩))=>match readN h b o n with
   |some us=>some (.val (.agg us.toArray) h nx)
   |none=>none
  |_=>none
 |.alloc t z=>match z.all plain1 with
  |true=>some (.val (.pointer (some ⟨nx,0,none⟩)) ((nx,.cells z)::h) (nx+1))
  |false=>none
 |.box t x=>match evS N0 Γ x with
  |some v=>some (.val (.pointer (some ⟨nx,0,none⟩)) ((nx,.cells v.cells.toList)::h) (nx+1))
  |none=>none
 |.bslice t len z ps=>match z.all plain1&&((ps.map (·.2.2)).all (knownS N0 Γ)&&Nat.blt len BIG)with
  |true=>match jT (kf len z) (jP (evSD N0 Γ) ps)with
   |some out=>some (.val (.slice (some ⟨nx,0,none⟩) len len) ((nx,.cells out)::h) (nx+1))
   |none=>none
  |false=>none
 |.store n x v=>match evS N0 Γ x,evS N0 Γ v with
  |some (.pointer (some ⟨b,o,none⟩)),some u=>match Nat.beq u.cells.toList.length n with
   |true=>match writeN h b o u.cells.toList with
    |some h'=>some (.val undef h' nx)
    |none=>none
   |false=>none
  |_,_=>none
 |.append t size bytes zero s x=>match evS N0 Γ s,evS N0 Γ x with
  |some sv,some xv=>match takeE h size sv with
   |some (xs,h')=>match srcE h' size xv with
    |some (m,ys)=>match ys.all jc&&(Nat.beq zero.length size&&(!Nat.beq bytes 0&&(Nat.ble (xs.length+m) 1048576&&(Nat.ble bytes 65536&&(Nat.blt 0 size&&!Nat.beq (xs.length+m) 0)))))with
     |true=>some (.val (.slice (some ⟨nx,0,none⟩) (xs.length / size+m) BIG) ((nx,.grow size (xs++ys))::h') (nx+1))
     |false=>none
    |none=>none
   |none=>none
  |_,_=>none
 |.call f xs=>match evSs N0 Γ xs with
  |some args=>F f args h nx
  |none=>none
 |.slcL size x lo hi mx=>match mx,evS N0 Γ x with
  |none,some (.slice (some ⟨b,o,none⟩) n c)=>match Nat.blt c BIG with
   |true=>pureE N0 (.slcL size x lo hi mx) Γ h nx
   |false=>match slcU N0 Γ h size lo hi b o n c with
    |some v=>some (.val v h nx)
    |none=>none
  |_,_=>pureE N0 (.slcL size x lo hi mx) Γ h nx
 |r=>pureE N0 r Γ h nx
def guardE(Γ:Env):Option (Nat×Bool)->Option Bool
 |none=>some true
 |some (s,b)=>match look Γ s with
  |some (.bool c)=>some (c==b)
  |some (.tuple vs)=>match vs.toList with
   |[]=>some false
   |_=>none
  |_=>none
def wJ(N0:Nat)(F:CF):List RO->Env->Mp->Nat->Option OR
 |[],Γ,h,nx=>some (.ok Γ h nx)
 |x::rs,Γ,h,nx=>match guardE Γ x.guard with
  |none=>none
  |some false=>wJ N0 F rs (putE x.dst undef Γ) h nx
  |some true=>match zb N0 F x.op Γ h nx with
   |none=>none
   |some (.pan ch h' nx')=>some (.pan ch Γ h' nx')
   |some (.val v h' nx')=>wJ N0 F rs (putE x.dst v Γ) h' nx'
def eqL(e:Value->Value->Bool):List Value->List Value->Bool
 |[],[]=>true
 |x::xs,y::ys=>e x y&&eqL e xs ys
 |_,_=>false
def eqV:Nat->Value->Value->Bool
 |0,_,_=>false
 |k+1,a,b=>match a,b with
  |.bool x,.bool y=>x==y
  |.int i x,.int j y=>decide (i=j)&&decide (x=y)
  |.string x,.string y=>decide (x=y)
  |.pointer none,.pointer none=>true
  |.pointer (some x),.pointer (some y)=>decide (x=y)
  |.slice none n c,.slice none m d=>Nat.beq n m&&Nat.beq c d
  |.slice (some x) n c,.slice (some y) m d=>decide (x=y)&&(Nat.beq n m&&Nat.beq c d)
  |.map none,.map none=>true
  |.map (some x),.map (some y)=>Nat.beq x y
  |.nilFunc,.nilFunc=>true
  |.nilIface,.nilIface=>true
  |.iface t x,.iface u y=>decide (t=u)&&eqV k x y
  |.agg x,.agg y=>eqL (eqV k) x.toList y.toList
  |.tuple x,.tuple y=>eqL (eqV k) x.toList y.toList
  |.func (.func f) x y,.func (.func g) z w=>decide (f=g)&&(eqL (eqV k) x.toList z.toList&&eqL (eqV k) y.toList w.toList)
  |_,_=>false
def eqE:Env->Env->Bool
 |[],[]=>true
 |(s,x)::r,(t,y)::q=>Nat.beq s t&&(eqV 20 x y&&eqE r q)
 |_,_=>false
def eqM:List MapEntry->List MapEntry->Bool
 |[],[]=>true
 |x::xs,y::ys=>(eqV 20 x.key y.key&&eqV 20 x.val y.val)&&(Nat.beq x.born y.born&&eqM xs ys)
 |_,_=>false
def eqB:Blk->Blk->Bool
 |.cells x,.cells y=>eqL (eqV 20) x y
 |.grow n x,.grow m y=>Nat.beq n m&&eqL (eqV 20) x y
 |.obj (.map x c),.obj (.map y d)=>eqM x.toList y.toList&&Nat.beq c d
 |.obj (.stringIter x c),.obj (.stringIter y d)=>decide (x=y)&&Nat.beq c d
 |_,_=>false
def eqH:Mp->Mp->Bool
 |[],[]=>true
 |(s,x)::r,(t,y)::q=>Nat.beq s t&&(eqB x y&&eqH r q)
 |_,_=>false
def drawE(N0:Nat)(F:CF)(keep:List Nat)(Γ:Env)(h:Mp)(nx:Nat)(Δ:Env)(h1:Mp)(n1:Nat):List (List RO)->Bool
 |[]=>true
 |rs::r=>match wJ N0 F rs Γ h nx with
  |some (.ok Γ' h' nx')=>match eqE (restr keep Γ') Δ&&(Nat.beq nx' n1&&eqH h' h1)with
   |true=>drawE N0 F keep Γ h nx Δ h1 n1 r
   |false=>false
  |_=>false
inductive Ex where
 |normal
 |exit (id:Nat)
 |ret
 |pan (ch:List PanicEntry)
abbrev IR:=Option (Ex×Env×Mp×Nat)
def loopE(body:Env->Mp->Nat->IR):Nat->Env->Mp->Nat->IR
 |0,_,_,_=>none
 |k+1,Γ,h,nx=>match body Γ h nx with
  |none=>none
  |some (.normal,Γ',h',nx')=>loopE body k Γ' h' nx'
  |some r=>some r
def jl(N0:Nat)(F:CF)(L:Nat):IC->Env->Mp->Nat->IR
 |.skip,Γ,h,nx=>some (.normal,Γ,h,nx)
 |.reg rs keep,Γ,h,nx=>match wJ N0 F rs Γ h nx with
  |none=>none
  |some (.ok Γ' h' nx')=>some (.normal,restr keep Γ',h',nx')
  |some (.pan ch Γ' h' nx')=>some (.pan ch,Γ',h',nx')
 |.draw rss keep,Γ,h,nx=>match rss with
  |[]=>none
  |rs::r=>match wJ N0 F rs Γ h nx with
   |some (.ok Γ' h' nx')=>match r with
    |[]=>some (.normal,restr keep Γ',h',nx')
    |r0::r1=>match drawE N0 F keep Γ h nx (restr keep Γ') h' nx' (r0::r1)with
     |true=>some (.normal,restr keep Γ',h',nx')
     |false=>none
   |_=>none
 |.seq a b,Γ,h,nx=>match jl N0 F L a Γ h nx with
  |none=>none
  |some (.normal,Γ',h',nx')=>jl N0 F L b Γ' h' nx'
  |some r=>some r
 |.cond c a b,Γ,h,nx=>match evS N0 Γ c with
  |some (.bool true)=>jl N0 F L a Γ h nx
  |some (.bool false)=>jl N0 F L b Γ h nx
  |_=>none
 |.block id a,Γ,h,nx=>match jl N0 F L a Γ h nx with
  |none=>none
  |some (.exit i,Γ',h',nx')=>match Nat.beq i id with
   |true=>some (.normal,Γ',h',nx')
   |false=>some (.exit i,Γ',h',nx')
  |some r=>some r
 |.loop a,Γ,h,nx=>loopE (jl N0 F L a) L Γ h nx
 |.exit id,Γ,h,nx=>some (.exit id,Γ,h,nx)
 |.ret,Γ,h,nx=>some (.ret,Γ,h,nx)
 |.rangef ..,_,_,_=>none
 |.scope a,Γ,h,nx=>jl N0 F L a Γ h nx
 |.label _,Γ,h,nx=>some (.normal,Γ,h,nx)
 |.free ..,_,_,_=>none
def resE(Γ:Env)(h:Mp):List RV->Option (List Value)
 |[]=>some []
 |.tmp t::r=>match look Γ t,resE Γ h r with
  |some v,some l=>some (v::l)
  |_,_=>none
 |.cell1 t::r=>match look Γ t with
  |some (.pointer (some ⟨b,o,none⟩))=>match readN h b o 1,resE Γ h r with
   |some [v],some l=>some (v::l)
   |_,_=>none
  |_=>none
 |.cellN t n::r=>match look Γ t with
  |some (.pointer (some ⟨b,o,none⟩))=>match readN h b o n,resE Γ h r with
   |some us,some l=>some (.agg us.toArray::l)
   |_,_=>none
  |_=>none
inductive FE where
 |fir (F:FIR)
def tabF:List (Nat×FE)->Nat->Option FE
 |[],_=>none
 |(i,b)::r,k=>match Nat.beq i k with|true=>some b|false=>tabF r k
def orcTo(a b:CF):CF:=fun f args h nx=>match a f args h nx with
 |some r=>some r
 |none=>b f args h nx
def evalF(N0:Nat)(tab:List (Nat×FE))(orc:CF)(L:Nat):Nat->CF
 |0,_,_,_,_=>none
 |k+1,f,args,h,nx=>match orc f args h nx with
  |some r=>some r
  |none=>match tabF tab f with
   |none=>none
   |some (.fir R)=>match Nat.ble args.length R.n with
    |false=>none
    |true=>match jl N0 (evalF N0 tab orc L k) L R.body (argsEnv 0 args) h nx with
     |some (.normal,Γ',h',nx')=>match resE Γ' h' R.res with
      |some vs=>some (.val (tup vs) h' nx')
      |none=>none
     |some (.ret,Γ',h',nx')=>match resE Γ' h' R.res with
      |some vs=>some (.val (tup vs) h' nx')
      |none=>none
     |some (.pan ch,_,h',nx')=>some (.pan ch h' nx')
     |_=>none
end Go.V

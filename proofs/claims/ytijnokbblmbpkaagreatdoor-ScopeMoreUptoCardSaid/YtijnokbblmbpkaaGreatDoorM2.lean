/-
  Operations with their types resolved: what each computes, and that the model's operation does just that.
-/
import Derived.Test.YtijnokbblmbpkaaGreatDoorM1
import GoSem.Dispatch
import Derived.Laws.Strings
import Derived.Laws.StructEq
set_option linter.all false
namespace Go.V
open Go
inductive SK where
 |int|str|bool
 deriving DecidableEq,Repr
inductive NK where
 |ptr|map|slice|func|iface
 deriving DecidableEq,Repr
inductive R where
 |mv (x:Operand)
 |pick (c a b:Operand)
 |bin (op:BinOp) (x y:Operand)
 |eqb (neq:Bool) (x y:Operand)
 |Cm (neq:Bool) (k:NK) (x:Operand)
 |Cl (neq:Bool) (ks:List SK) (x y:Operand)
 |un (op:UnOp) (x:Operand)
 |conv (k:IntKind) (x:Operand)
 |cvs (x:Operand)
 |GU (t:TypeId) (x:Operand)
 |AR (f:Fn) (first captured:List Operand)
 |ext (x:Operand) (i:Nat)
 |build (zero:List Value) (parts:List (Nat×Nat×Operand))
 |tD (x:Operand)
 |fld (off:Nat) (x:Operand)
 |IK (off size:Nat) (agg:Bool) (x:Operand)
 |Mi (len size:Nat) (x i:Operand)
 |Jb (size:Nat) (x i:Operand)
 |uA (x i:Operand)
 |Jc (len size:Nat) (agg:Bool) (x i:Operand)
 |JS (x:Operand) (lo hi:Option Operand)
 |rj (size:Nat) (x:Operand) (lo hi mx:Option Operand)
 |JR (len size:Nat) (x:Operand) (lo hi:Option Operand)
 |D3 (x:Operand)
 |Jj (x:Operand)
 |cap (x:Operand)
 |min2 (x y:Operand)
 |max2 (x y:Operand)
 |gD (t:TypeId) (zero:Value) (ok:Bool) (x:Operand)
 |qE (x:Operand)
 |iB (n:Nat) (x:Operand)
 |Ru (m:Operand)
 |lookup (k:SK) (zero:Value) (ok:Bool) (m key:Operand)
 |entry (it:Operand)
 |b2s (x:Operand)
 |alloc (t:TypeId) (zero:List Value)
 |box (t:TypeId) (x:Operand)
 |gM (t:TypeId) (len:Nat) (zero:List Value) (parts:List (Nat×Nat×Operand))
 |oF
 |Ei (t:TypeId) (size bytes:Nat) (zero:List Value) (l c:Operand)
 |Sz (x:Operand)
 |Sy (x:Operand)
 |s2b (t:TypeId) (x:Operand)
 |store (n:Nat) (x v:Operand)
 |yk (k:SK) (m key v:Operand)
 |delete (k:SK) (m key:Operand)
 |T6 (op:BinOp) (t:TypeId) (x y:Operand)
 |GM (t:TypeId) (ok:Bool) (m key:Operand)
 |updt (t:TypeId) (m key v:Operand)
 |ment (t:TypeId) (m key:Operand)
 |mst (t:TypeId) (m s v:Operand)
 |append (t:TypeId) (size bytes:Nat) (zero:List Value) (s x:Operand)
 |grow (t:TypeId) (size bytes:Nat) (zero:List Value) (s x:Operand)
 |copy (size:Nat) (d s:Operand)
 |clr (zero:List Value) (x:Operand)
 |next (it:Operand) (isString:Bool)
 |call (f:Nat) (args:List Operand)
 |pT (x:Operand) (args:List Operand)
 |pnc (x:Operand)
def nw:TypeDesc->Option SK
 |.int _=>some .int
 |.string=>some .str
 |.bool=>some .bool
 |_=>none
def wE(P:Program)(f:Nat):Bool:=
 match P.funcs[f]? with
 | some fn => fn.name != "runtime.NumGoroutine" && fn.body.isSome
 |none=>false
def scalars(P:Program):List Field->Nat->Option (List SK)
 |[],_=>some []
 | f :: r, off => if f.offset = off ∧ f.name ≠ "_" then
     match(P.underlying f.type).bind nw,scalars P r (off+1)with
     |some k,some l=>some (k::l)
     |_,_=>none
   else none
def placesOf(P:Program)(fs:List Field):List (Nat×Nat):=fs.map fun f=>(f.offset,P.cellsOf f.type)
def fC(place:Nat->Option (Nat×Nat)):List (Nat×Operand)->Option (List (Nat×Nat×Operand))
 |[]=>some []
 |(i,x)::r=>match place i,fC place r with
  |some (off,size),some l=>some ((off,size,x)::l)
  |_,_=>none
def zeroOf(P:Program)(t:TypeId):Option (List Value):=((P.info? t).bind (·.zero)).map (·.cells.toList)
def nO:TypeDesc->Operand->Option NK
 |.pointer _,.const (.pointer none)=>some .ptr
 |.map _ _,.const (.map none)=>some .map
 |.slice _,.const (.slice none 0 0)=>some .slice
 |.func ..,.const .nilFunc=>some .func
 |.interface _,.const .nilIface=>some .iface
 |_,_=>none
def Ze:TypeDesc->Bool
 |.pointer _=>true
 |_=>false
def Jh(P:Program):List TypeId->Bool
 |u::_=>match P.underlying u with|some (.int _)=>true|_=>false
 |[]=>false
def P5(P:Program):List TypeId->Bool
 |u::_=>match P.underlying u with|some (.slice _)|some .string=>true|_=>false
 |[]=>false
def j7(P:Program):Op->Option R
 |.move x|.assign x=>some (.mv x)
 |.pick c a b=>some (.pick c a b)
 |.alloc t=>(zeroOf P t).map (R.alloc t)
 |.box t x=>some (.box t x)
 |.load t a=>match P.underlying t,P.info? t with
  |some (.struct _),some i=>some (.iB i.size a)
  |some (.array _ _),some i=>some (.iB i.size a)
  |some _,some _=>some (.qE a)
  |_,_=>none
 |.store t a x=>(P.info? t).map fun i=>.store i.size a x
 |.nilCheck x=>some (.tD x)
 |.binOp op t x y _=>
  match P.underlying t with
  |some (.int _)=>some (.bin op x y)
  |some .string=>some (.bin op x y)
  |some .bool=>match op with|.eql=>some (.eqb false x y)|.neq=>some (.eqb true x y)|_=>none
  |some (.struct fs)=>
   if P.eqGuardType P.depth t=false/\P.stoodInHeld t=false then
    match op,scalars P fs.toList 0 with
    |.eql,some ks=>some (.Cl false ks x y)
    |.neq,some ks=>some (.Cl true ks x y)
    |.eql,none=>some (.T6 .eql t x y)
    |.neq,none=>some (.T6 .neq t x y)
    |_,_=>none
   else none
  |some d=>
   match op,nO d y with
   |.eql,some k=>some (.Cm false k x)
   |.neq,some k=>some (.Cm true k x)
   |.eql,none=>if Ze d then some (.T6 .eql t x y)else none
   |.neq,none=>if Ze d then some (.T6 .neq t x y)else none
   |_,_=>none
  |_=>none
 |.unOp op _ x=>some (.un op x)
 |.convert s d x=>match P.underlying s,P.underlying d with
  |some (.int _),some (.int k)=>some (.conv k x)
  |some .string,some .string=>some (.cvs x)
  |some .string,some (.slice e)=>match P.underlying e with|some (.int .u8)=>some (.s2b e x)|_=>none
  |some (.slice e),some .string=>match P.underlying e with|some (.int .u8)=>some (.b2s x)|_=>none
  |_,_=>none
 |.makeInterface t x=>match P.underlying t with
  |some (.interface _)|none=>none
  |some _=>some (.GU t x)
 |.makeFunc fn f c=>some (.AR fn f.toList c.toList)
 |.makeMap t r=>match P.underlying t with
  |some (.map _ _)=>match r with|none=>some .oF|some (.const (.int _ _))=>some .oF|_=>none
  |_=>none
 |.makeSlice t l c=>match P.underlying t with
  |some (.slice e)=>match P.info? e,zeroOf P e with|some i,some z=>some (.Ei e i.size i.bytes z l c)|_,_=>none
  |_=>none
 |.extract x i=>some (.ext x i)
 |.build t parts=>match P.underlying t,zeroOf P t with
  |some (.struct fs),some z=>if fs.toList.all (fun f=>(P.info? f.type).isSome)then(fC (fun i=>(placesOf P fs.toList)[i]?) parts.toList).map (R.build z)else none
  |some (.array _ e),some z=>match P.info? e with|some j=>(fC (fun i=>some (i*j.size,j.size)) parts.toList).map (R.build z)|none=>none
  |_,_=>none
 |.buildSlice t len parts=>match P.underlying t with
  |some (.slice e)=>match P.info? e,zeroOf P e with
   |some i,some z=>if len*i.size<=2 ^ 24/\z.length=i.size then(fC (fun j=>some (j*i.size,i.size)) parts.toList).map (R.gM e len z)else none
   |_,_=>none
  |_=>none
 |.fieldAddr s x f=>match P.underlying s with
  |some (.struct fs)=>match fs[f]? with
   |some fd=>match P.info? fd.type with|some i=>if i.size=0 then none else some (.fld fd.offset x)|none=>none
   |none=>none
  |_=>none
 |.field s x f=>match P.underlying s with
  |some (.struct fs)=>match fs[f]? with
   |some fd=>match P.underlying fd.type,P.info? fd.type with
    |some (.struct _),some i=>some (.IK fd.offset i.size true x)
    |some (.array _ _),some i=>some (.IK fd.offset i.size true x)
    |some _,some i=>some (.IK fd.offset i.size false x)
    |_,_=>none
   |none=>none
  |_=>none
 |.indexAddr t x i=>match P.underlying t with
  |some (.array n e)=>(P.info? e).map fun j=>.Mi n j.size x i
  |some (.slice e)=>(P.info? e).map fun j=>.Jb j.size x i
  |_=>none
 |.index t x i=>match P.underlying t with
  |some .string=>some (.uA x i)
  |some (.array n e)=>match P.underlying e,P.info? e with
    |some (.struct _),some j=>some (.Jc n j.size true x i)
    |some (.array _ _),some j=>some (.Jc n j.size true x i)
    |some _,some j=>some (.Jc n j.size false x i)
    |_,_=>none
  |_=>none
 |.slice t x lo hi mx=>match P.underlying t with
  |some .string=>if mx.isNone then some (.JS x lo hi)else none
  |some (.slice e)=>(P.info? e).map fun j=>.rj j.size x lo hi mx
  |some (.array n e)=>if mx.isNone then(P.info? e).map fun j=>.JR n j.size x lo hi else none
  |_=>none
 |.lookup t m k ok=>match P.underlying t with
  |some (.map kt e)=>match(P.underlying kt).bind nw,(P.info? e).bind (·.zero)with
   |some sk,some z=>some (.lookup sk z ok m k)
   |none,some _=>some (.GM t ok m k)
   |_,_=>none
  |_=>none
 |.mapUpdate t m k v|.insert t m k v=>match P.underlying t with
  |some (.map kt _)=>match(P.underlying kt).bind nw with
   |some sk=>some (.yk sk m k v)
   |none=>some (.updt t m k v)
  |_=>none
 |.mapEntry t m k=>some (.ment t m k)
 |.entryStore t m s v=>some (.mst t m s v)
 |.range t x=>match P.underlying t with
  |some .string=>some (.Sz x)
  |some (.map _ _)=>some (.Sy x)
  |_=>none
 |.next it s=>some (.next it s)
 |.panic x=>some (.pnc x)
 |.entry it=>some (.entry it)
 |.typeAssert x _ t ok=>match P.underlying t with
  |some (.interface _)|none=>none
  |some _=>((P.info? t).bind (·.zero)).map fun z=>.gD t z ok x
 |.call c=>match c.callee with
  |.value (.func f)=>if wE P f then some (.call f c.args.toList)else none
  |.value x=>some (.pT x c.args.toList)
  |.builtin .len=>match c.args.toList,c.argTypes.toList with
   |[x],[t]=>match P.underlying t with
    |some .string=>some (.D3 x)
    |some (.slice _)=>some (.Jj x)
    |some (.map _ _)=>some (.Ru x)
    |_=>none
   |_,_=>none
  |.builtin .cap=>match c.args.toList,c.argTypes.toList with
   |[x],[t]=>match P.underlying t with|some (.slice _)=>some (.cap x)|_=>none
   |_,_=>none
  |.builtin .min=>match c.args.toList with|[x,y]=>some (.min2 x y)|_=>none
  |.builtin .max=>match c.args.toList with|[x,y]=>some (.max2 x y)|_=>none
  |.builtin .append=>match c.args.toList,c.argTypes.toList with
   |[s,x],t::xt=>match P.underlying t with
    |some (.slice e)=>match P.info? e,zeroOf P e with
     |some i,some z=>if P5 P xt then some (.append e i.size i.bytes z s x)else if Jh P xt then some (.grow e i.size i.bytes z s x)else none
     |_,_=>none
    |_=>none
   |_,_=>none
  |.builtin .copy=>match c.args.toList,c.argTypes.toList with
   |[d,s],t::_=>match P.underlying t with
    |some (.slice e)=>(P.info? e).map fun i=>.copy i.size d s
    |_=>none
   |_,_=>none
  |.builtin .clear=>match c.args.toList,c.argTypes.toList with
   |[x],[t]=>match P.underlying t with
    |some (.slice e)=>(zeroOf P e).map fun z=>.clr z x
    |_=>none
   |_,_=>none
  |.builtin .delete=>match c.args.toList,c.argTypes.toList with
   |[m,k],t::_=>match P.underlying t with
    |some (.map kt _)=>((P.underlying kt).bind nw).map fun sk=>.delete sk m k
    |_=>none
   |_,_=>none
  |_=>none
 |_=>none
def mX(op:BinOp)(k:IntKind)(a:Int)(k':IntKind)(b:Int):Option Value:=
 match op with
 |.shl=>if b < 0 then none else some (.int k (k.wrap (a*2 ^ (min b.toNat k.bits))))
 |.shr=>if b < 0 then none else some (.int k (a.fdiv (2 ^ (min b.toNat k.bits))))
 |.add=>if k=k' then some (.int k (k.wrap (a+b)))else none
 |.sub=>if k=k' then some (.int k (k.wrap (a - b)))else none
 |.mul=>if k=k' then some (.int k (k.wrap (a*b)))else none
 |.quo=>if k=k'/\b≠0 then some (.int k (k.wrap (a.tdiv b)))else none
 |.rem=>if k=k'/\b≠0 then some (.int k (a.tmod b))else none
 |.and=>if k=k' then some (.int k (k.wrap (BitVec.ofInt k.bits a&&&BitVec.ofInt k.bits b).toNat))else none
 |.or=>if k=k' then some (.int k (k.wrap (BitVec.ofInt k.bits a|||BitVec.ofInt k.bits b).toNat))else none
 |.xor=>if k=k' then some (.int k (k.wrap (BitVec.ofInt k.bits a ^^^ BitVec.ofInt k.bits b).toNat))else none
 |.andNot=>if k=k' then some (.int k (k.wrap (BitVec.ofInt k.bits a&&&~~~ BitVec.ofInt k.bits b).toNat))else none
 |.eql=>if k=k' then some (.bool (decide (a=b)))else none
 |.neq=>if k=k' then some (.bool (!decide (a=b)))else none
 |.lss=>if k=k' then some (.bool (decide (a < b)))else none
 |.leq=>if k=k' then some (.bool (decide (a<=b)))else none
 |.gtr=>if k=k' then some (.bool (decide (b < a)))else none
 |.geq=>if k=k' then some (.bool (decide (b<=a)))else none
def S8(op:BinOp)(x y:ByteArray):Option Value:=
 match op with
 |.add=>if(x.size+y.size:Nat)<=9223372036854775807 then some (.string (x++y))else none
 |.eql=>some (.bool (decide (x=y)))
 |.neq=>some (.bool (!decide (x=y)))
 |.lss=>some (.bool (Op.bytesLess x.toList y.toList))
 |.leq=>some (.bool (Op.bytesLess x.toList y.toList||decide (x=y)))
 |.gtr=>some (.bool !(Op.bytesLess x.toList y.toList||decide (x=y)))
 |.geq=>some (.bool !(Op.bytesLess x.toList y.toList))
 |_=>none
def zt(op:BinOp):Value->Value->Option Value
 |.int k a,.int k' b=>mX op k a k' b
 |.string x,.string y=>S8 op x y
 |_,_=>none
def isNil:NK->Value->Option Bool
 |.ptr,.pointer a=>some a.isNone
 |.map,.map a=>some a.isNone
 |.slice,.slice a _ _=>some a.isNone
 |.func,.nilFunc=>some true
 |.func,.func .. =>some false
 |.iface,.nilIface=>some true
 |.iface,.iface .. =>some false
 |_,_=>none
def pC:SK->Value->Value->Option Bool
 |.int,.int k a,.int k' b=>if k=k' then some (decide (a=b))else none
 |.str,.string a,.string b=>some (decide (a=b))
 |.bool,.bool a,.bool b=>some (a==b)
 |_,_,_=>none
def fX:List SK->List Value->List Value->Option Bool
 |[],_,_=>some true
 |k::ks,x::xs,y::ys=>match pC k x y,fX ks xs ys with
  |some a,some b=>some (a&&b)
  |_,_=>none
 |_,_,_=>none
def jX:List Value->List (Nat×Nat×Value)->Option (List Value)
 |cs,[]=>some cs
 |cs,(off,size,v)::r=>
  if v.cells.size=size/\off+size<=cs.length then jX (cs.take off++v.cells.toList++cs.drop (off+size)) r else none
def jW(ρ:Operand->Value)(l:List (Nat×Nat×Operand)):List (Nat×Nat×Value):=l.map fun(o,s,x)=>(o,s,ρ x)
def bound(x:Value)(y:Nat):Option Nat:=match x with
 |.int _ i=>if 0<=i/\i<=y then some i.toNat else none
 |_=>none
def wP(y:Nat)(d:Option Nat):Option Value->Option Nat
 |some v=>bound v y
 |none=>d
def zj(len cap:Nat)(lo hi mx:Option Value):Option (Nat×Nat×Nat):=
 (wP cap (some cap) mx).bind fun m=>(wP m (if mx.isSome then none else some len) hi).bind fun h=>(wP h (some 0) lo).bind fun l=>some (l,h,m)
def kW(ρ:Operand->Value):R->Option Value
 |.mv x=>some (ρ x)
 |.pick c a b=>match ρ c with|.bool t=>some (if t then ρ a else ρ b)|_=>none
 |.bin op x y=>zt op (ρ x) (ρ y)
 |.eqb neq x y=>match ρ x,ρ y with|.bool a,.bool b=>some (.bool (if neq then !(a==b)else a==b))|_,_=>none
 |.Cm neq k x=>(isNil k (ρ x)).map fun b=>.bool (if neq then !b else b)
 |.Cl neq ks x y=>match ρ x,ρ y with
  |.agg a,.agg b=>if a.size=ks.length/\b.size=ks.length then(fX ks a.toList b.toList).map fun r=>.bool (if neq then !r else r)else none
  |_,_=>none
 |.un .not x=>match ρ x with|.bool b=>some (.bool !b)|_=>none
 |.un .neg x=>match ρ x with|.int k n=>some (.int k (k.wrap (0 - n)))|_=>none
 |.un .xor x=>match ρ x with|.int k n=>some (.int k (k.wrap (BitVec.ofInt k.bits (if k.signed then -1 else k.max) ^^^ BitVec.ofInt k.bits n).toNat))|_=>none
 |.un .plus _=>none
 |.conv k x=>match ρ x with|.int _ n=>some (.int k (k.wrap n))|_=>none
 |.cvs x=>match ρ x with|.string s=>some (.string s)|_=>none
 |.GU t x=>some (.iface t (ρ x))
 |.AR f first captured=>some (.func f (first.map ρ).toArray (captured.map ρ).toArray)
 |.ext x i=>match ρ x with|.tuple vs=>vs[i]?|_=>none
 |.build zero parts=>(jX zero (jW ρ parts)).map fun l=>.agg l.toArray
 |.tD x=>match ρ x with
  |.pointer (some a)=>some (.pointer (some a))
  |_=>none
 |.fld off x=>match ρ x with|.pointer (some ⟨b,o,none⟩)=>some (.pointer (some ⟨b,o+off,none⟩))|_=>none
 |.IK off size agg x=>match ρ x with
  |.agg cs=>if agg then some (.agg (cs.extract off (off+size)))else cs[off]?
  |_=>none
 |.Mi len size x i=>match ρ x,ρ i with
  |.pointer (some ⟨b,o,none⟩),.int _ n=>if 0<=n/\n < len then some (.pointer (some ⟨b,o+n.toNat*size,none⟩))else none
  |_,_=>none
 |.Jb size x i=>match ρ x,ρ i with
  |.slice (some ⟨b,o,none⟩) len _,.int _ n=>if 0<=n/\n < len then some (.pointer (some ⟨b,o+n.toNat*size,none⟩))else none
  |_,_=>none
 |.uA x i=>match ρ x,ρ i with
  |.string s,.int _ n=>if 0<=n then(s[n.toNat]?).map fun b=>.int .u8 b.toNat else none
  |_,_=>none
 |.Jc len size agg x i=>match ρ x,ρ i with
  |.agg cs,.int _ n=>if 0<=n/\n < len then(if agg then some (.agg (cs.extract (n.toNat*size) (n.toNat*size+size)))else cs[n.toNat*size]?)else none
  |_,_=>none
 |.JS x lo hi=>match ρ x with
  |.string s=>(zj s.size s.size (lo.map ρ) (hi.map ρ) none).map fun(l,h,_)=>.string (s.extract l h)
  |_=>none
 |.rj size x lo hi mx=>match ρ x with
  |.slice (some ⟨b,o,none⟩) len cap=>(zj len cap (lo.map ρ) (hi.map ρ) (mx.map ρ)).map fun(l,h,m)=>.slice (some ⟨b,if m=l then o else o+l*size,none⟩) (h - l) (m - l)
  |.slice none len cap=>(zj len cap (lo.map ρ) (hi.map ρ) (mx.map ρ)).map fun(l,h,m)=>.slice none (h - l) (m - l)
  |_=>none
 |.JR n size x lo hi=>match ρ x with
  |.pointer (some ⟨b,o,none⟩)=>(zj n n (lo.map ρ) (hi.map ρ) none).map fun(l,h,m)=>.slice (some ⟨b,if m=l then o else o+l*size,none⟩) (h - l) (m - l)
  |_=>none
 |.D3 x=>match ρ x with|.string s=>some (.int .i64 s.size)|_=>none
 |.Jj x=>match ρ x with|.slice _ n _=>some (.int .i64 n)|_=>none
 |.cap x=>match ρ x with|.slice _ _ n=>some (.int .i64 n)|_=>none
 |.min2 x y=>match ρ x,ρ y with|.int k a,.int _ b=>some (.int k (if b < a then b else a))|_,_=>none
 |.max2 x y=>match ρ x,ρ y with|.int k a,.int _ b=>some (.int k (if b > a then b else a))|_,_=>none
 |.gD t zero ok x=>match ρ x with
  |.nilIface=>if ok then some (.tuple #[zero,.bool false])else none
  |.iface u v=>if u=t then some (if ok then .tuple #[v,.bool true]else v)else if ok then some (.tuple #[zero,.bool false])else none
  |_=>none
 |_=>none
section
variable {P:Program} {ρ:Operand->Value} {w:World} {v:Value} {xo:Operand}
theorem kE {t:TypeId}{d:TypeDesc}(h:P.underlying t=some d):(underlying t).run P w=.ok d w:=by simp[underlying,h]
theorem wR {t:TypeId}{i:TypeInfo}(h:P.info? t=some i):(typeInfo t).run P w=.ok i w:=by simp[typeInfo,h]
theorem kZ {t:TypeId}{i:TypeInfo}(h:P.info? t=some i):(sizeOf t).run P w=.ok i.size w:=by simp[sizeOf,wR h]
theorem JV(a b:ByteArray):(a.toList==b.toList)=decide (a=b):=by
 rw[ByteArray.toList_eq,ByteArray.toList_eq,vJ];simp only[beq_iff_eq,decide_eq_true_eq];constructor
 ·intro h;cases a;cases b;simp only[ByteArray.mk.injEq];exact vC.1 h
 ·rintro rfl;rfl
theorem SL {op:BinOp}{t:TypeId}{k k':IntKind}{a b:Int}(h:mX op k a k' b=some v):(Go.binOp op t (.int k a) (.int k' b)).run P w=.ok v w:=by
 cases op <;> simp only[mX]at h <;> split at h <;> first|(cases h;done)|skip
 all_goals (cases h;rename_i hc)
 case quo|rem=>obtain⟨rfl,h0⟩:=hc;simp[Go.binOp,Op.intDiv,h0]
 case shl|shr=>simp[Go.binOp,Op.shift,hc]
 all_goals (subst hc;simp[Go.binOp,Op.intArith,Op.intBits,Op.intCmp])
 all_goals (rw[vJ];simp)
theorem SQ {op:BinOp}{t:TypeId}{a b:ByteArray}(h:S8 op a b=some v):(Go.binOp op t (.string a) (.string b)).run P w=.ok v w:=by
 cases op <;> simp only[S8]at h <;> first|(cases h;done)|skip
 case add=>
  split at h <;> cases h;rename_i hc;have:¬(((a.size+b.size:Nat):Int) > IntKind.i64.max):=by
   have:IntKind.i64.max=9223372036854775807:=by decide
   rw[this];omega
  simp only[Go.binOp,Op.stringOp,this,if_false,Sem.run_pure]
 all_goals (cases h;simp[Go.binOp,Op.stringOp,JV])
theorem SJ {op:BinOp}{t:TypeId}{x y:Value}(h:zt op x y=some v):(Go.binOp op t x y).run P w=.ok v w:=by
 cases x <;> cases y <;> first|(simp[zt]at h;done)|exact SL h|exact SQ h
theorem fJ {op:BinOp}{t:TypeId}{x y:Operand}{a b:Value}(h1:¬(a=.nilIface/\b=.nilIface))(h2:∀c d,¬(a=.agg c/\b=.agg d)):
 (eqGuard op t x y a b).run P w=.ok () w:=by
 cases op <;> simp only[eqGuard] <;> first|(simp;done)|skip
 all_goals (cases a <;> cases b <;> first|(exact absurd ⟨rfl,rfl⟩ h1)|(exact absurd ⟨rfl,rfl⟩ (h2 _ _))|simp)
theorem lV {t:TypeId}{cs:Array Value}{off:Nat}{d:TypeDesc}{k:SK}(h:P.underlying t=some d)(hk:nw d=some k)(hv:cs[off]? =some v):(part t cs off).run P w=.ok v w:=by
 cases d <;> simp[nw]at hk <;> simp[part,isAgg,kE h,hv]
theorem da {t:TypeId}{n:Nat}{x y:Value}{r:Bool}{d:TypeDesc}{k:SK}(h:P.underlying t=some d)(hk:nw d=some k)(hs:pC k x y=some r):
 (Op.equalIn (n+1) t x y).run P w=.ok r w:=by
 cases d <;> simp[nw]at hk <;> subst hk <;> cases x <;> simp[pC]at hs <;> cases y <;> simp at hs
 ·subst hs;simp[Op.equalIn,kE h]
 ·obtain⟨rfl,rfl⟩:=hs;simp[Op.equalIn,kE h];rw[vJ];simp
 ·subst hs;simp[Op.equalIn,kE h,beq_toListBytes,JV]
theorem Et {n:Nat}{xs ys:Array Value}:∀(fs:List Field) (ks:List SK) (off:Nat) (r:Bool),scalars P fs off=some ks->
 fX ks (xs.toList.drop off) (ys.toList.drop off)=some r->(Op.eqFields (n+1) xs ys fs).run P w=.ok r w:=by
 intro fs
 induction fs with
 |nil=>intro ks off r h1 h2;simp[scalars]at h1;subst h1;simp[fX]at h2;subst h2;simp[Op.eqFields]
 |cons f fs ih=>
  intro ks off r h1 h2;simp only[scalars]at h1;split at h1
  case isFalse=>simp at h1
  rename_i hf;obtain⟨rfl,bZ⟩:=hf;split at h1
  case h_2=>simp at h1
  rename_i k l hk hl;simp at h1;subst h1;obtain⟨d,hd,Gj⟩:=Qx.1 hk;cases hx:xs.toList.drop f.offset with
  |nil=>rw[hx]at h2;simp[fX]at h2
  |cons x xr=>
  cases hy:ys.toList.drop f.offset with
  |nil=>rw[hx,hy]at h2;simp[fX]at h2
  |cons y yr=>
  rw[hx,hy]at h2;simp only[fX]at h2;have ex:xs[f.offset]? =some x:=by have:=congrArg (·[0]?) hx;simpa using this
  have ey:ys[f.offset]? =some y:=by have:=congrArg (·[0]?) hy;simpa using this
  have dx:xs.toList.drop (f.offset+1)=xr:=by have:=congrArg (List.drop 1) hx;simpa using this
  have dy:ys.toList.drop (f.offset+1)=yr:=by have:=congrArg (List.drop 1) hy;simpa using this
  split at h2
  case h_2=>simp at h2
  rename_i a b ha hb;simp at h2;subst h2;simp only[Op.eqFields,ne_eq,bZ,not_false_eq_true,if_true,Sem.run_bind,lV hd Gj ex,lV hd Gj ey,da hd Gj ha,Result.andThen_ok];cases a
  ·simp
  ·have:=ih l (f.offset+1) b hl (by rw[dx,dy];exact hb);simpa using this
theorem Ah(place:Nat->Option (Nat×Nat)):∀(parts:List (Nat×Operand)) (l:List (Nat×Nat×Operand)) (cs:List Value) (out:List Value),fC place parts=some l->
 jX cs (jW ρ l)=some out->Instr.fill place cs.toArray (parts.map fun(i,x)=>(i,ρ x))=some out.toArray:=by
 intro parts
 induction parts with
 |nil=>intro l cs out h1 h2;simp[fC]at h1;subst h1;simp[jW,jX]at h2;subst h2;simp[Instr.fill]
 |cons p parts ih=>
  obtain⟨i,x⟩:=p;intro l cs out h1 h2;simp only[fC]at h1;split at h1
  case h_2=>simp at h1
  rename_i off size r hp hr;simp at h1;subst h1;simp only[jW,QC,jX]at h2;split at h2
  case isFalse=>simp at h2
  rename_i hc;obtain⟨h3,h4⟩:=hc;have:=ih r _ out hr h2;simp only[QC,Instr.fill,hp];have gk:¬((ρ x).cells.size≠size∨off+(ρ x).cells.size > cs.toArray.size):=by
   simp;omega
  have hcond':(decide ((ρ x).cells.size≠size)||decide (off+(ρ x).cells.size > cs.toArray.size))=false:=by
   simp;omega
  have hfold:∀(vs:List Value) (k:Nat) (c:List Value),off+k+vs.length<=c.length->
   (vs.zipIdx k).foldl (fun(cs:Array Value) (p:Value×Nat)=>cs.setIfInBounds (off+p.2) p.1) c.toArray=(c.take (off+k)++vs++c.drop (off+k+vs.length)).toArray:=by
   intro vs
   induction vs with
   |nil=>intro k c hk;simp
   |cons v vs ihv=>
    intro k c hk;simp only[List.zipIdx_cons,Vg,List.setIfInBounds_toArray];rw[ihv (k+1) (c.set (off+k) v) (by simp at hk|-;omega)]
    congr 1
    simp at hk;apply V0;intro j;simp only[Vi,List.getElem?_take,Vo,Vy,Q9,Q7,Vw,Vz,List.getElem?_cons]
    grind
  have DF:((ρ x).cells.zipIdx.foldl (fun(cs:Array Value) (p:Value×Nat)=>cs.setIfInBounds (off+p.2) p.1) cs.toArray)=(cs.take off++(ρ x).cells.toList++cs.drop (off+size)).toArray:=by
   have:=hfold (ρ x).cells.toList 0 cs pJ;simp only[Qj,Array.length_toList,h3]at this;rw[<- this,<- Array.foldl_toList,Array.toList_zipIdx]
  simp only[hcond',vL,if_false];rw[DF];exact this
theorem run_sliceBound {x:Value}{y n:Nat}{c:BoundsCode}(h:bound x y=some n):(Instr.sliceBound x y c).run P w=.ok n w:=by
 cases x <;> simp[bound]at h;obtain⟨⟨h1,h2⟩,rfl⟩:=h;simp[Instr.sliceBound,asIntOf,h1,h2]
theorem zw {b:Bool}{len cap:Nat}{lo hi mx:Option Value}{r:Nat×Nat×Nat}(h:zj len cap lo hi mx=some r):(Instr.sliceBounds b len cap lo hi mx).run P w=.ok r w:=by
 simp only[zj,Qx]at h;obtain⟨m,hm,hh,Wh,l,hl,h⟩:=h;cases h;have hb:∀{y n:Nat} {d:Option Nat} {v:Value} {c:BoundsCode},wP y d (some v)=some n->(Instr.sliceBound v y c).run P w=.ok n w:=fun h=>run_sliceBound h
 simp only[Instr.sliceBounds];cases mx <;> cases hi <;> cases lo
 all_goals first
  |(simp[wP]at Wh;done)
  |skip
 ·simp[wP]at hm Wh hl;subst hm Wh hl;simp
 ·simp[wP]at hm Wh;subst hm Wh;simp[hb hl]
 ·simp[wP]at hm hl;subst hm hl;simp[hb Wh]
 ·simp[wP]at hm;subst hm;simp[hb hl,hb Wh]
 ·simp[wP]at hl;subst hl;simp[hb hm,hb Wh]
 ·simp[hb hl,hb hm,hb Wh]
theorem fW(b o n:Nat):(⟨b,o,none⟩:Addr).add n=⟨b,o+n,none⟩:=by
 by_cases h:n=0 <;> simp[Addr.add,h]
theorem Db {op:BinOp}{t:TypeId}{x:Value}{y:Operand}{neq b:Bool}{k:NK}{d:TypeDesc}(hd:P.underlying t=some d)(Mb:op=if neq then .neq else .eql)(hx:isNil k x=some b)
 (hy:nO d y=some k):∃u,y=.const u/\(eqGuard op t xo y x u).run P w=.ok () w/\(Go.binOp op t x u).run P w=.ok (.bool (if neq then !b else b)) w:=by
 have key:∀u,y=.const u->(Op.equal t x u).run P w=.ok b w:=by
  rintro u rfl
  show(Op.equalIn (9999+1) t x u).run P w=_;generalize 9999=n;cases d <;> try (simp[nO]at hy;done)
  all_goals (simp only[nO]at hy;split at hy <;> try (cases hy;done))
  all_goals simp_all only[TypeDesc.pointer.injEq,TypeDesc.slice.injEq,TypeDesc.map.injEq,TypeDesc.func.injEq,TypeDesc.interface.injEq,reduceCtorEq,X4,Operand.const.injEq]
  all_goals subst_vars
  all_goals (cases x <;> simp[isNil]at hx)
  all_goals first
   |(subst hx;simp[Op.equalIn,kE hd];done)
   |(rename_i a;cases a <;> simp at hx <;> subst hx <;> simp[Op.equalIn,kE hd];done)
   |(rename_i a _ _;cases a <;> simp at hx <;> subst hx <;> simp[Op.equalIn,kE hd];done)
 subst Mb;cases d <;> try (simp[nO]at hy;done)
 all_goals (simp only[nO]at hy;split at hy <;> try (cases hy;done))
 all_goals simp_all only[TypeDesc.pointer.injEq,TypeDesc.slice.injEq,TypeDesc.map.injEq,TypeDesc.func.injEq,TypeDesc.interface.injEq,reduceCtorEq,X4,Operand.const.injEq]
 all_goals subst_vars
 all_goals (refine⟨_,rfl,?_,?_⟩)
 all_goals (have key':=key _ rfl;cases x <;> simp[isNil]at hx)
 all_goals first
  |(cases neq <;> simp[eqGuard];done)
  |(cases neq <;> simp[Go.binOp,key'];done)
end
section
variable {P:Program} {ρ:Operand->Value} {w:World} {v:Value} {r:R}
theorem gI {t:TypeId}{z:List Value}(h:zeroOf P t=some z):∃i u,P.info? t=some i/\i.zero=some u/\u.cells.toList=z:=by
 simp only[zeroOf,X0,Qx]at h;obtain⟨u,⟨i,h1,h2⟩,h3⟩:=h;exact⟨i,u,h1,h2,h3⟩
theorem kb {t:TypeId}{i:TypeInfo}{u:Value}(h:P.info? t=some i)(hz:i.zero=some u):(zeroValue t).run P w=.ok u w:=by
 simp[zeroValue,wR h,hz]
theorem run_places(fs:List Field)(au:∀f∈fs,∃j,P.info? f.type=some j):(fs.mapM fun f=>do pure (f.offset,<- sizeOf f.type):Sem (List (Nat×Nat))).run P w=.ok (placesOf P fs) w:=by
 induction fs with
 |nil=>simp[placesOf]
 |cons f fs ih=>
  obtain⟨j,hj⟩:=au f Zs;have:=ih (fun g hg=>au g (by simp[hg]));simp only[List.mapM_cons,Sem.run_bind,kZ hj,Result.andThen_ok,Sem.run_pure,this];simp[placesOf,Program.cellsOf,hj]
theorem dN {t:TypeId}{d:TypeDesc}(h:P.underlying t=some d):(isAgg t).run P w=.ok (match d with|.struct _|.array _ _=>true|_=>false) w:=by
 cases d <;> simp[isAgg,kE h]
set_option maxHeartbeats 1000000 in
theorem pz {o:Oper}(aO:∀u,ρ (.const u)=u)(hl:j7 P o.op=some r)(hv:kW ρ r=some v):(execOp ρ o).run P w=.ok (.value v) w:=by
 obtain⟨dst,op,type,pos,after,guard⟩:=o;simp only at hl;cases op
 case move x=>simp[j7]at hl;subst hl;simp[kW]at hv;subst hv;simp[execOp]
 case assign x=>simp[j7]at hl;subst hl;simp[kW]at hv;subst hv;simp[execOp]
 case pick c a b=>
  simp[j7]at hl;subst hl;simp only[kW]at hv;split at hv <;> simp at hv;subst hv;rename_i t ht;simp[execOp,ht,asBool]
 case nilCheck x=>
  simp[j7]at hl;subst hl;simp only[kW]at hv;split at hv <;> simp at hv;subst hv;rename_i a ha;simp[execOp,ha]
 case extract x i=>
  simp[j7]at hl;subst hl;simp only[kW]at hv;split at hv <;> try (cases hv;done)
  rename_i vs ma;simp[execOp,Instr.extract,ma,hv]
 case makeFunc fn f c=>
  simp[j7]at hl;subst hl;simp[kW]at hv;subst hv;obtain⟨f⟩:=f;obtain⟨c⟩:=c;simp[execOp,Instr.makeFunc]
 case makeInterface t x=>
  simp only[j7]at hl;split at hl <;> try (cases hl;done)
  rename_i d hni hd;cases hl;simp[kW]at hv;subst hv;have:(Instr.makeInterface t (ρ x)).run P w=.ok (.iface t (ρ x)) w:=by
   cases d <;> simp_all [Instr.makeInterface,underlying]
  simp[execOp,this]
 case unOp op t x=>
  simp[j7]at hl;subst hl;cases op <;> simp only[kW]at hv <;> try (cases hv;done)
  all_goals (split at hv <;> try (cases hv;done))
  all_goals (cases hv;rename_i hn;simp[execOp,Op.unary,hn,Op.intArith,Op.intBits])
 case convert s d x=>
  simp only[j7]at hl;split at hl <;> try (cases hl;done)
  ·rename_i hs hd;cases hl;simp only[kW]at hv;split at hv <;> cases hv;rename_i n hn;simp[execOp,Go.convert,kE hs,kE hd,hn,Conv.intToInt]
  ·rename_i hs hd;cases hl;simp only[kW]at hv;split at hv <;> cases hv;rename_i n hn;simp[execOp,Go.convert,kE hs,kE hd,hn]
  ·split at hl <;> cases hl <;> simp[kW]at hv
  ·split at hl <;> cases hl <;> simp[kW]at hv
 case binOp op t x y yt=>
  have fin:∀{u:Value},(Go.binOp op t (ρ x) (ρ y)).run P w=.ok u w->(eqGuard op t x y (ρ x) (ρ y)).run P w=.ok () w->(execOp ρ ⟨dst,.binOp op t x y yt,type,pos,after,guard⟩).run P w=.ok (.value u) w:=by
   intro u h1 h2;simp[execOp,h1,h2]
  have bin:zt op (ρ x) (ρ y)=some v->(execOp ρ ⟨dst,.binOp op t x y yt,type,pos,after,guard⟩).run P w=.ok (.value v) w:=by
   intro h;refine fin (SJ h) (fJ ?_ ?_)
   ·rintro⟨h1,h2⟩;rw[h1,h2]at h;simp[zt]at h
   ·rintro c d ⟨h1,h2⟩;rw[h1,h2]at h;simp[zt]at h
  simp only[j7]at hl;split at hl
  ·cases hl;exact bin hv
  ·cases hl;exact bin hv
  ·rename_i hd;split at hl <;> cases hl
   all_goals
    simp only[kW]at hv;split at hv <;> cases hv;rename_i a b ha hb;refine fin ?_ (fJ (by simp[ha]) (by simp[ha]));have:(Op.equal t (.bool a) (.bool b)).run P w=.ok (a==b) w:=da (n:=9999) hd rfl rfl;simp[ha,hb,Go.binOp,this]
  ·rename_i fs hd;split at hl <;> try (cases hl;done)
   rename_i hg;obtain⟨hg,l7⟩:=hg;have hfo:P.underlying t=some (.struct (P.fieldsOf t)):=by simp[Program.fieldsOf,hd]
   have Gl:P.fieldsOf t=fs:=by simp[Program.fieldsOf,hd]
   split at hl <;> cases hl
   case h_3=>simp[kW]at hv
   case h_4=>simp[kW]at hv
   all_goals
    rename_i ks AX;simp only[kW]at hv;split at hv <;> try (cases hv;done)
    rename_i a b ha hb;split at hv <;> try (cases hv;done)
    simp only[X0]at hv;obtain⟨q,hq,rfl⟩:=hv;have hr:(Op.equal t (.agg a) (.agg b)).run P w=.ok q w:=by
     show(Op.equalIn (9999+1) t (.agg a) (.agg b)).run P w=_;rw[run_equalIn_struct w 9999 t a b hfo l7,Gl];exact Et (n:=9998) fs.toList ks 0 q AX (by simpa using hq)
    refine fin ?_ ?_
    ·simp[ha,hb,Go.binOp,hr]
    ·rw[ha,hb];exact run_eqGuard_agg w _ t x y a b hg
  ·rename_i d _ _ _ _ hd;split at hl
   case h_3=>split at hl <;> first|(cases hl;done)|(cases hl;simp[kW]at hv;done)
   case h_4=>split at hl <;> first|(cases hl;done)|(cases hl;simp[kW]at hv;done)
   case h_5=>cases hl
   all_goals
    cases hl;rename_i k hk;simp only[kW,X0]at hv;obtain⟨b,hb,rfl⟩:=hv
   ·obtain⟨u,rfl,h1,h2⟩:=Db (w:=w) (xo:=x) (op:=.eql) (neq:=false) hd rfl hb hk;exact fin (by rw[aO];exact h2) (by rw[aO];exact h1)
   ·obtain⟨u,rfl,h1,h2⟩:=Db (w:=w) (xo:=x) (op:=.neq) (neq:=true) hd rfl hb hk;exact fin (by rw[aO];exact h2) (by rw[aO];exact h1)
  ·cases hl
 case fieldAddr s x f=>
  simp only[j7]at hl;split at hl <;> try (cases hl;done)
  rename_i fs hs;split at hl <;> try (cases hl;done)
  rename_i fd hf;split at hl <;> try (cases hl;done)
  rename_i i hi;split at hl <;> cases hl;rename_i hz;simp only[kW]at hv;split at hv <;> cases hv;rename_i b o hx;have h1:(fieldPlace ⟨b,o,none⟩ fd).run P w=.ok ⟨b,o+fd.offset,none⟩ w:=by
   simp[fieldPlace,kZ hi,hz,fW]
  simp[execOp,Instr.fieldAt,kE hs,hf,hx,Instr.sureAddr,h1]
 case field s x f=>
  simp only[j7]at hl;split at hl <;> try (cases hl;done)
  rename_i fs hs;split at hl <;> try (cases hl;done)
  rename_i fd hf;split at hl <;> cases hl
  ·rename_i _ j hu hj;exact zCV
  ·rename_i _ _ j hu hj;exact zCV
  ·rename_i d j h1 h2 hu hj;simp only[kW]at hv;split at hv <;> try (cases hv;done)
   rename_i cs hx;simp at hv;have:(isAgg fd.type).run P w=.ok false w:=by rw[dN hu];cases d <;> simp_all
   simp[execOp,Instr.field,kE hs,hf,hx,asAgg,part,this,hv]
 case indexAddr t x i=>
  simp only[j7]at hl;split at hl <;> try (cases hl;done)
  ·rename_i n e hs;simp only[X0]at hl;obtain⟨j,hj,rfl⟩:=hl;simp only[kW]at hv;split at hv <;> try (cases hv;done)
   rename_i b o k m hx hi;split at hv <;> cases hv;rename_i hb;simp[execOp,Instr.indexAt,kE hs,hx,hi,asIntOf,Instr.sureAddr,hb,kZ hj,fW]
  ·rename_i e hs;simp only[X0]at hl;obtain⟨j,hj,rfl⟩:=hl;simp only[kW]at hv;split at hv <;> try (cases hv;done)
   rename_i b o n c k m hx hi;split at hv <;> cases hv;rename_i hb;simp[execOp,Instr.indexAt,kE hs,hx,hi,asIntOf,hb,kZ hj,fW]
 case index t x i=>
  simp only[j7]at hl;split at hl <;> try (cases hl;done)
  ·rename_i hs;cases hl;simp only[kW]at hv;split at hv <;> try (cases hv;done)
   rename_i s k m hx hi;split at hv <;> try (cases hv;done)
   rename_i h0;simp only[X0]at hv;obtain⟨b,hb,rfl⟩:=hv;simp[execOp,Instr.index,kE hs,hx,hi,asIntOf,h0,hb]
  ·rename_i n e hs;split at hl <;> cases hl
   ·rename_i _ j hu hj;exact zC9
   ·rename_i _ _ j hu hj;exact zC9
   ·rename_i d j h1 h2 hu hj;simp only[kW]at hv;split at hv <;> try (cases hv;done)
    rename_i cs k m hx hi;split at hv <;> try (cases hv;done)
    rename_i hb;simp at hv;have:(isAgg e).run P w=.ok false w:=by rw[dN hu];cases d <;> simp_all
    simp[execOp,Instr.index,kE hs,hx,hi,asIntOf,hb,kZ hj,part,this,hv]
 case slice t x lo hi mx=>
  simp only[j7]at hl;split at hl <;> try (cases hl;done)
  ·rename_i hs;split at hl <;> cases hl;rename_i NG;obtain rfl:mx=none:=by simpa using NG
   simp only[kW]at hv;split at hv <;> try (cases hv;done)
   rename_i s hx;simp only[X0]at hv;obtain⟨⟨l,h,m⟩,hb,rfl⟩:=hv;simp[execOp,Instr.sliceAt,Instr.slice,kE hs,hx,zw hb]
  ·rename_i e hs;simp only[X0]at hl;obtain⟨j,hj,rfl⟩:=hl;simp only[kW]at hv;split at hv <;> try (cases hv;done)
   ·rename_i b o len cap hx;simp only[X0]at hv;obtain⟨⟨l,h,m⟩,hb,rfl⟩:=hv;simp only[execOp,Instr.sliceAt,Instr.slice,Sem.run_bind,kE hs,hx,zw hb,kZ hj,Result.andThen_ok,Sem.run_pure,fW,X2];by_cases e:m=l <;> simp[e]
   ·rename_i len cap hx;simp only[X0]at hv;obtain⟨⟨l,h,m⟩,hb,rfl⟩:=hv;simp[execOp,Instr.sliceAt,Instr.slice,kE hs,hx,zw hb,kZ hj]
  ·rename_i n e hs;split at hl <;> try (cases hl;done)
   rename_i NG;obtain rfl:mx=none:=by simpa using NG
   simp only[X0]at hl;obtain⟨j,hj,rfl⟩:=hl;simp only[kW]at hv;split at hv <;> try (cases hv;done)
   rename_i b o hx;simp only[X0]at hv;obtain⟨⟨l,h,m⟩,hb,rfl⟩:=hv;simp only[execOp,Instr.sliceAt,Sem.run_bind,kE hs,hx,Instr.sureAddr,zw hb,kZ hj,Result.andThen_ok,Sem.run_pure,fW,X1];by_cases e:m=l <;> simp[e]
 case build t parts=>
  simp only[j7]at hl;split at hl <;> try (cases hl;done)
  ·rename_i fs z hs hz;split at hl <;> try (cases hl;done)
   rename_i au;simp only[X0]at hl;obtain⟨l,hlp,rfl⟩:=hl;obtain⟨i,u,hi,hu,rfl⟩:=gI hz;simp only[kW,X0]at hv;obtain⟨out,ho,rfl⟩:=hv;have oC:(fs.mapM fun f=>do pure (f.offset,<- sizeOf f.type):Sem (Array (Nat×Nat))).run P w=.ok (placesOf P fs.toList).toArray w:=by
    rw[Array.mapM_eq_mapM_toList];simp only[Sem.run_map];rw[run_places fs.toList (fun f hf=>by
     have:=ve.1 au f hf;exact Qz.1 this)]
    simp
   have mN:=Ah (ρ:=ρ) (fun i=>(placesOf P fs.toList)[i]?) parts.toList l u.cells.toList out hlp ho;have hpe:(fun i:Nat=>(placesOf P fs.toList).toArray[i]?)=fun i:Nat=>(placesOf P fs.toList)[i]?:=by funext i;simp
   have xW:(parts.map fun p=>(p.1,ρ p.2)).toList=parts.toList.map fun p=>(p.1,ρ p.2):=by simp
   simp only[Array.toArray_toList]at mN;have:(Instr.build t (parts.map fun p=>(p.1,ρ p.2))).run P w=.ok (.agg out.toArray) w:=by
    simp only[Instr.build,Sem.run_bind,kb hi hu,Result.andThen_ok,kE hs,oC,xW];rw[hpe];simp[mN]
   simp[execOp,this]
  ·rename_i n e z hs hz;split at hl <;> try (cases hl;done)
   rename_i j hj;simp only[X0]at hl;obtain⟨l,hlp,rfl⟩:=hl;obtain⟨i,u,hi,hu,rfl⟩:=gI hz;simp only[kW,X0]at hv;obtain⟨out,ho,rfl⟩:=hv;have mN:=Ah (ρ:=ρ) (fun i=>some (i*j.size,j.size)) parts.toList l u.cells.toList out hlp ho;have xW:(parts.map fun p=>(p.1,ρ p.2)).toList=parts.toList.map fun p=>(p.1,ρ p.2):=by simp
   simp only[Array.toArray_toList]at mN;have:(Instr.build t (parts.map fun p=>(p.1,ρ p.2))).run P w=.ok (.agg out.toArray) w:=by
    simp only[Instr.build,Sem.run_bind,kb hi hu,Result.andThen_ok,kE hs,kZ hj,xW];simp[mN]
   simp[execOp,this]
 case typeAssert x xt t ok=>
  simp only[j7]at hl;split at hl <;> try (cases hl;done)
  rename_i d hni hd;simp only[X0,Qx]at hl;obtain⟨z,⟨i,hi,hz⟩,rfl⟩:=hl;simp only[kW]at hv;split at hv <;> try (cases hv;done)
  ·rename_i hx;split at hv <;> cases hv;rename_i aP;have:(Instr.typeAssert .nilIface xt t true).run P w=.ok (.tuple #[z,.bool false]) w:=by
    cases d <;> simp_all [Instr.typeAssert,kb hi hz,underlying]
   simp[execOp,hx,aP,this]
  ·rename_i u y hx;split at hv
   ·rename_i hut;cases hv;have:(Instr.typeAssert (.iface u y) xt t ok).run P w=.ok (if ok=true then .tuple #[y,.bool true]else y) w:=by
     cases d <;> simp_all [Instr.typeAssert,underlying]
    simp[execOp,hx,this]
   ·rename_i hut;split at hv <;> cases hv;rename_i aP;have:(Instr.typeAssert (.iface u y) xt t true).run P w=.ok (.tuple #[z,.bool false]) w:=by
     cases d <;> simp_all [Instr.typeAssert,kb hi hz,underlying]
    simp[execOp,hx,aP,this]
 case call c=>
  obtain⟨callee,args,Oh⟩:=c;obtain⟨args⟩:=args;obtain⟨Oh⟩:=Oh;have fin:∀{b:Builtin} {s:Sem Value},callee=.builtin b->(∀cs,Go.builtin b Oh.toArray type cs (args.map ρ).toArray=(do pure (.value (<- s))))->s.run P w=.ok v w->
   (execOp ρ ⟨dst,.call ⟨callee,args.toArray,Oh.toArray⟩,type,pos,after,guard⟩).run P w=.ok (.value v) w:=by
   rintro b s rfl h1 h2
   simp[execOp,resolve,invoke,h1,h2]
  simp only[j7]at hl;split at hl
  ·split at hl <;> cases hl;simp[kW]at hv
  ·cases hl;simp[kW]at hv
  ·split at hl <;> try (cases hl;done)
   rename_i x t;split at hl <;> cases hl <;> simp only[kW]at hv <;> try (cases hv;done)
   all_goals (rename_i hd;split at hv <;> cases hv)
   all_goals (rename_i hx;refine fin (s:=Builtin.len_ #[t] type #[ρ x]) rfl (fun cs=>by simp[Go.builtin]) ?_)
   ·simp[Builtin.len_,kE hd,hx,goInt]
   ·simp[Builtin.len_,kE hd,hx,goInt]
  ·split at hl <;> try (cases hl;done)
   rename_i x t;split at hl <;> cases hl <;> simp only[kW]at hv <;> try (cases hv;done)
   all_goals (rename_i hd;split at hv <;> cases hv)
   all_goals (rename_i hx;refine fin (s:=Builtin.cap_ #[t] type #[ρ x]) rfl (fun cs=>by simp[Go.builtin]) ?_)
   ·simp[Builtin.cap_,kE hd,hx,goInt]
  ·split at hl <;> cases hl;rename_i x y;simp only[kW]at hv;split at hv <;> cases hv;rename_i hx hy;refine fin (s:=Builtin.min_ Oh.toArray type #[ρ x,ρ y]) rfl (fun cs=>by simp[Go.builtin]) ?_;simp[Builtin.min_,Builtin.min2,hx,hy]
  ·split at hl <;> cases hl;rename_i x y;simp only[kW]at hv;split at hv <;> cases hv;rename_i hx hy;refine fin (s:=Builtin.max_ Oh.toArray type #[ρ x,ρ y]) rfl (fun cs=>by simp[Go.builtin]) ?_;simp[Builtin.max_,Builtin.max2,hx,hy]
  all_goals (repeat' split at hl)
  all_goals first
   |(cases hl;done)
   |(cases hl;simp[kW]at hv;done)
   |(simp only[X0]at hl;obtain⟨_,_,rfl⟩:=hl;simp[kW]at hv;done)
 all_goals (try simp only[j7]at hl)
 all_goals (repeat' split at hl)
 all_goals first
  |(cases hl;done)
  |(cases hl;simp[kW]at hv;done)
  |(simp only[X0]at hl;obtain⟨_,_,rfl⟩:=hl;simp[kW]at hv;done)
end
end Go.V

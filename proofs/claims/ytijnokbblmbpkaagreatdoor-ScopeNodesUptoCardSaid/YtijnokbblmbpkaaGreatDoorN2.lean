/-
  Operations with their types resolved: what each computes, and that the model's operation does just that.
-/
import Derived.Test.YtijnokbblmbpkaaGreatDoorN1
import GoSem.Dispatch
import Derived.Laws.Strings
import Derived.Laws.StructEq
set_option linter.all false
namespace Go.V
open Go
inductive SK where
 |int|str|bool
 deriving DecidableEq,Repr
inductive NK where
 |ptr|map|slice|func|iface
 deriving DecidableEq,Repr
inductive R where
 |mv (x:Operand)
 |pick (c a b:Operand)
 |bin (op:BinOp) (x y:Operand)
 |eqb (neq:Bool) (x y:Operand)
 |AR (neq:Bool) (k:NK) (x:Operand)
 |AQ (neq:Bool) (ks:List SK) (x y:Operand)
 |un (op:UnOp) (x:Operand)
 |conv (k:IntKind) (x:Operand)
 |cvs (x:Operand)
 |E2 (t:TypeId) (x:Operand)
 |yZ (f:Fn) (first captured:List Operand)
 |ext (x:Operand) (i:Nat)
 |build (zero:List Value) (parts:List (Nat×Nat×Operand))
 |sU (x:Operand)
 |JF (off:Nat) (x:Operand)
 |Hr (off size:Nat) (agg:Bool) (x:Operand)
 |Lv (len size:Nat) (x i:Operand)
 |xA (size:Nat) (x i:Operand)
 |Lw (x i:Operand)
 |HZ (len size:Nat) (agg:Bool) (x i:Operand)
 |I4 (x:Operand) (lo hi:Option Operand)
 |nW (size:Nat) (x:Operand) (lo hi mx:Option Operand)
 |I3 (len size:Nat) (x:Operand) (lo hi:Option Operand)
 |Pu (x:Operand)
 |EW (x:Operand)
 |cap (x:Operand)
 |min2 (x y:Operand)
 |max2 (x y:Operand)
 |fS (t:TypeId) (zero:Value) (ok:Bool) (x:Operand)
 |cj (x:Operand)
 |gS (n:Nat) (x:Operand)
 |P5 (m:Operand)
 |lookup (k:SK) (zero:Value) (ok:Bool) (m key:Operand)
 |entry (it:Operand)
 |b2s (x:Operand)
 |alloc (t:TypeId) (zero:List Value)
 |box (t:TypeId) (x:Operand)
 |lJ (t:TypeId) (len:Nat) (zero:List Value) (parts:List (Nat×Nat×Operand))
 |og
 |C5 (t:TypeId) (size bytes:Nat) (zero:List Value) (l c:Operand)
 |RW (x:Operand)
 |RT (x:Operand)
 |s2b (t:TypeId) (x:Operand)
 |store (n:Nat) (x v:Operand)
 |xP (k:SK) (m key v:Operand)
 |delete (k:SK) (m key:Operand)
 |S0 (op:BinOp) (t:TypeId) (x y:Operand)
 |EY (t:TypeId) (ok:Bool) (m key:Operand)
 |updt (t:TypeId) (m key v:Operand)
 |ment (t:TypeId) (m key:Operand)
 |mst (t:TypeId) (m s v:Operand)
 |append (t:TypeId) (size bytes:Nat) (zero:List Value) (s x:Operand)
 |grow (t:TypeId) (size bytes:Nat) (zero:List Value) (s x:Operand)
 |copy (size:Nat) (d s:Operand)
 |clr (zero:List Value) (x:Operand)
 |next (it:Operand) (isString:Bool)
 |call (f:Nat) (args:List Operand)
 |pK (x:Operand) (args:List Operand)
 |pnc (x:Operand)
def mL:TypeDesc->Option SK
 |.int _=>some .int
 |.string=>some .str
 |.bool=>some .bool
 |_=>none
def jo(P:Program)(f:Nat):Bool:=
 match P.funcs[f]? with
 | some fn => fn.name != "runtime.NumGoroutine" && fn.body.isSome
 |none=>false
def scalars(P:Program):List Field->Nat->Option (List SK)
 |[],_=>some []
 | f :: r, off => if f.offset = off ∧ f.name ≠ "_" then
     match(P.underlying f.type).bind mL,scalars P r (off+1)with
     |some k,some l=>some (k::l)
     |_,_=>none
   else none
def placesOf(P:Program)(fs:List Field):List (Nat×Nat):=fs.map fun f=>(f.offset,P.cellsOf f.type)
def ff(place:Nat->Option (Nat×Nat)):List (Nat×Operand)->Option (List (Nat×Nat×Operand))
 |[]=>some []
 |(i,x)::r=>match place i,ff place r with
  |some (off,size),some l=>some ((off,size,x)::l)
  |_,_=>none
def zeroOf(P:Program)(t:TypeId):Option (List Value):=((P.info? t).bind (·.zero)).map (·.cells.toList)
def ni:TypeDesc->Operand->Option NK
 |.pointer _,.const (.pointer none)=>some .ptr
 |.map _ _,.const (.map none)=>some .map
 |.slice _,.const (.slice none 0 0)=>some .slice
 |.func ..,.const .nilFunc=>some .func
 |.interface _,.const .nilIface=>some .iface
 |_,_=>none
def Yt:TypeDesc->Bool
 |.pointer _=>true
 |_=>false
def H8(P:Program):List TypeId->Bool
 |u::_=>match P.underlying u with|some (.int _)=>true|_=>false
 |[]=>false
def Po(P:Program):List TypeId->Bool
 |u::_=>match P.underlying u with|some (.slice _)|some .string=>true|_=>false
 |[]=>false
def kz(P:Program):Op->Option R
 |.move x|.assign x=>some (.mv x)
 |.pick c a b=>some (.pick c a b)
 |.alloc t=>(zeroOf P t).map (R.alloc t)
 |.box t x=>some (.box t x)
 |.load t a=>match P.underlying t,P.info? t with
  |some (.struct _),some i=>some (.gS i.size a)
  |some (.array _ _),some i=>some (.gS i.size a)
  |some _,some _=>some (.cj a)
  |_,_=>none
 |.store t a x=>(P.info? t).map fun i=>.store i.size a x
 |.nilCheck x=>some (.sU x)
 |.binOp op t x y _=>
  match P.underlying t with
  |some (.int _)=>some (.bin op x y)
  |some .string=>some (.bin op x y)
  |some .bool=>match op with|.eql=>some (.eqb false x y)|.neq=>some (.eqb true x y)|_=>none
  |some (.struct fs)=>
   if P.eqGuardType P.depth t=false/\P.stoodInHeld t=false then
    match op,scalars P fs.toList 0 with
    |.eql,some ks=>some (.AQ false ks x y)
    |.neq,some ks=>some (.AQ true ks x y)
    |.eql,none=>some (.S0 .eql t x y)
    |.neq,none=>some (.S0 .neq t x y)
    |_,_=>none
   else none
  |some d=>
   match op,ni d y with
   |.eql,some k=>some (.AR false k x)
   |.neq,some k=>some (.AR true k x)
   |.eql,none=>if Yt d then some (.S0 .eql t x y)else none
   |.neq,none=>if Yt d then some (.S0 .neq t x y)else none
   |_,_=>none
  |_=>none
 |.unOp op _ x=>some (.un op x)
 |.convert s d x=>match P.underlying s,P.underlying d with
  |some (.int _),some (.int k)=>some (.conv k x)
  |some .string,some .string=>some (.cvs x)
  |some .string,some (.slice e)=>match P.underlying e with|some (.int .u8)=>some (.s2b e x)|_=>none
  |some (.slice e),some .string=>match P.underlying e with|some (.int .u8)=>some (.b2s x)|_=>none
  |_,_=>none
 |.makeInterface t x=>match P.underlying t with
  |some (.interface _)|none=>none
  |some _=>some (.E2 t x)
 |.makeFunc fn f c=>some (.yZ fn f.toList c.toList)
 |.makeMap t r=>match P.underlying t with
  |some (.map _ _)=>match r with|none=>some .og|some (.const (.int _ _))=>some .og|_=>none
  |_=>none
 |.makeSlice t l c=>match P.underlying t with
  |some (.slice e)=>match P.info? e,zeroOf P e with|some i,some z=>some (.C5 e i.size i.bytes z l c)|_,_=>none
  |_=>none
 |.extract x i=>some (.ext x i)
 |.build t parts=>match P.underlying t,zeroOf P t with
  |some (.struct fs),some z=>if fs.toList.all (fun f=>(P.info? f.type).isSome)then(ff (fun i=>(placesOf P fs.toList)[i]?) parts.toList).map (R.build z)else none
  |some (.array _ e),some z=>match P.info? e with|some j=>(ff (fun i=>some (i*j.size,j.size)) parts.toList).map (R.build z)|none=>none
  |_,_=>none
 |.buildSlice t len parts=>match P.underlying t with
  |some (.slice e)=>match P.info? e,zeroOf P e with
   |some i,some z=>if len*i.size<=2 ^ 24/\z.length=i.size then(ff (fun j=>some (j*i.size,i.size)) parts.toList).map (R.lJ e len z)else none
   |_,_=>none
  |_=>none
 |.fieldAddr s x f=>match P.underlying s with
  |some (.struct fs)=>match fs[f]? with
   |some fd=>match P.info? fd.type with|some i=>if i.size=0 then none else some (.JF fd.offset x)|none=>none
   |none=>none
  |_=>none
 |.field s x f=>match P.underlying s with
  |some (.struct fs)=>match fs[f]? with
   |some fd=>match P.underlying fd.type,P.info? fd.type with
    |some (.struct _),some i=>some (.Hr fd.offset i.size true x)
    |some (.array _ _),some i=>some (.Hr fd.offset i.size true x)
    |some _,some i=>some (.Hr fd.offset i.size false x)
    |_,_=>none
   |none=>none
  |_=>none
 |.indexAddr t x i=>match P.underlying t with
  |some (.array n e)=>(P.info? e).map fun j=>.Lv n j.size x i
  |some (.slice e)=>(P.info? e).map fun j=>.xA j.size x i
  |_=>none
 |.index t x i=>match P.underlying t with
  |some .string=>some (.Lw x i)
  |some (.array n e)=>match P.underlying e,P.info? e with
    |some (.struct _),some j=>some (.HZ n j.size true x i)
    |some (.array _ _),some j=>some (.HZ n j.size true x i)
    |some _,some j=>some (.HZ n j.size false x i)
    |_,_=>none
  |_=>none
 |.slice t x lo hi mx=>match P.underlying t with
  |some .string=>if mx.isNone then some (.I4 x lo hi)else none
  |some (.slice e)=>(P.info? e).map fun j=>.nW j.size x lo hi mx
  |some (.array n e)=>if mx.isNone then(P.info? e).map fun j=>.I3 n j.size x lo hi else none
  |_=>none
 |.lookup t m k ok=>match P.underlying t with
  |some (.map kt e)=>match(P.underlying kt).bind mL,(P.info? e).bind (·.zero)with
   |some sk,some z=>some (.lookup sk z ok m k)
   |none,some _=>some (.EY t ok m k)
   |_,_=>none
  |_=>none
 |.mapUpdate t m k v|.insert t m k v=>match P.underlying t with
  |some (.map kt _)=>match(P.underlying kt).bind mL with
   |some sk=>some (.xP sk m k v)
   |none=>some (.updt t m k v)
  |_=>none
 |.mapEntry t m k=>some (.ment t m k)
 |.entryStore t m s v=>some (.mst t m s v)
 |.range t x=>match P.underlying t with
  |some .string=>some (.RW x)
  |some (.map _ _)=>some (.RT x)
  |_=>none
 |.next it s=>some (.next it s)
 |.panic x=>some (.pnc x)
 |.entry it=>some (.entry it)
 |.typeAssert x _ t ok=>match P.underlying t with
  |some (.interface _)|none=>none
  |some _=>((P.info? t).bind (·.zero)).map fun z=>.fS t z ok x
 |.call c=>match c.callee with
  |.value (.func f)=>if jo P f then some (.call f c.args.toList)else none
  |.value x=>some (.pK x c.args.toList)
  |.builtin .len=>match c.args.toList,c.argTypes.toList with
   |[x],[t]=>match P.underlying t with
    |some .string=>some (.Pu x)
    |some (.slice _)=>some (.EW x)
    |some (.map _ _)=>some (.P5 x)
    |_=>none
   |_,_=>none
  |.builtin .cap=>match c.args.toList,c.argTypes.toList with
   |[x],[t]=>match P.underlying t with|some (.slice _)=>some (.cap x)|_=>none
   |_,_=>none
  |.builtin .min=>match c.args.toList with|[x,y]=>some (.min2 x y)|_=>none
  |.builtin .max=>match c.args.toList with|[x,y]=>some (.max2 x y)|_=>none
  |.builtin .append=>match c.args.toList,c.argTypes.toList with
   |[s,x],t::xt=>match P.underlying t with
    |some (.slice e)=>match P.info? e,zeroOf P e with
     |some i,some z=>if Po P xt then some (.append e i.size i.bytes z s x)else if H8 P xt then some (.grow e i.size i.bytes z s x)else none
     |_,_=>none
    |_=>none
   |_,_=>none
  |.builtin .copy=>match c.args.toList,c.argTypes.toList with
   |[d,s],t::_=>match P.underlying t with
    |some (.slice e)=>(P.info? e).map fun i=>.copy i.size d s
    |_=>none
   |_,_=>none
  |.builtin .clear=>match c.args.toList,c.argTypes.toList with
   |[x],[t]=>match P.underlying t with
    |some (.slice e)=>(zeroOf P e).map fun z=>.clr z x
    |_=>none
   |_,_=>none
  |.builtin .delete=>match c.args.toList,c.argTypes.toList with
   |[m,k],t::_=>match P.underlying t with
    |some (.map kt _)=>((P.underlying kt).bind mL).map fun sk=>.delete sk m k
    |_=>none
   |_,_=>none
  |_=>none
 |_=>none
def mh(op:BinOp)(k:IntKind)(a:Int)(k':IntKind)(b:Int):Option Value:=
 match op with
 |.shl=>if b < 0 then none else some (.int k (k.wrap (a*2 ^ (min b.toNat k.bits))))
 |.shr=>if b < 0 then none else some (.int k (a.fdiv (2 ^ (min b.toNat k.bits))))
 |.add=>if k=k' then some (.int k (k.wrap (a+b)))else none
 |.sub=>if k=k' then some (.int k (k.wrap (a - b)))else none
 |.mul=>if k=k' then some (.int k (k.wrap (a*b)))else none
 |.quo=>if k=k'/\b≠0 then some (.int k (k.wrap (a.tdiv b)))else none
 |.rem=>if k=k'/\b≠0 then some (.int k (a.tmod b))else none
 |.and=>if k=k' then some (.int k (k.wrap (BitVec.ofInt k.bits a&&&BitVec.ofInt k.bits b).toNat))else none
 |.or=>if k=k' then some (.int k (k.wrap (BitVec.ofInt k.bits a|||BitVec.ofInt k.bits b).toNat))else none
 |.xor=>if k=k' then some (.int k (k.wrap (BitVec.ofInt k.bits a ^^^ BitVec.ofInt k.bits b).toNat))else none
 |.andNot=>if k=k' then some (.int k (k.wrap (BitVec.ofInt k.bits a&&&~~~ BitVec.ofInt k.bits b).toNat))else none
 |.eql=>if k=k' then some (.bool (decide (a=b)))else none
 |.neq=>if k=k' then some (.bool (!decide (a=b)))else none
 |.lss=>if k=k' then some (.bool (decide (a < b)))else none
 |.leq=>if k=k' then some (.bool (decide (a<=b)))else none
 |.gtr=>if k=k' then some (.bool (decide (b < a)))else none
 |.geq=>if k=k' then some (.bool (decide (b<=a)))else none
def I7(op:BinOp)(x y:ByteArray):Option Value:=
 match op with
 |.add=>if(x.size+y.size:Nat)<=9223372036854775807 then some (.string (x++y))else none
 |.eql=>some (.bool (decide (x=y)))
 |.neq=>some (.bool (!decide (x=y)))
 |.lss=>some (.bool (Op.bytesLess x.toList y.toList))
 |.leq=>some (.bool (Op.bytesLess x.toList y.toList||decide (x=y)))
 |.gtr=>some (.bool !(Op.bytesLess x.toList y.toList||decide (x=y)))
 |.geq=>some (.bool !(Op.bytesLess x.toList y.toList))
 |_=>none
def zF(op:BinOp):Value->Value->Option Value
 |.int k a,.int k' b=>mh op k a k' b
 |.string x,.string y=>I7 op x y
 |_,_=>none
def isNil:NK->Value->Option Bool
 |.ptr,.pointer a=>some a.isNone
 |.map,.map a=>some a.isNone
 |.slice,.slice a _ _=>some a.isNone
 |.func,.nilFunc=>some true
 |.func,.func .. =>some false
 |.iface,.nilIface=>some true
 |.iface,.iface .. =>some false
 |_,_=>none
def pb:SK->Value->Value->Option Bool
 |.int,.int k a,.int k' b=>if k=k' then some (decide (a=b))else none
 |.str,.string a,.string b=>some (decide (a=b))
 |.bool,.bool a,.bool b=>some (a==b)
 |_,_,_=>none
def fF:List SK->List Value->List Value->Option Bool
 |[],_,_=>some true
 |k::ks,x::xs,y::ys=>match pb k x y,fF ks xs ys with
  |some a,some b=>some (a&&b)
  |_,_=>none
 |_,_,_=>none
def jT:List Value->List (Nat×Nat×Value)->Option (List Value)
 |cs,[]=>some cs
 |cs,(off,size,v)::r=>
  if v.cells.size=size/\off+size<=cs.length then jT (cs.take off++v.cells.toList++cs.drop (off+size)) r else none
def jR(ρ:Operand->Value)(l:List (Nat×Nat×Operand)):List (Nat×Nat×Value):=l.map fun(o,s,x)=>(o,s,ρ x)
def bound(x:Value)(y:Nat):Option Nat:=match x with
 |.int _ i=>if 0<=i/\i<=y then some i.toNat else none
 |_=>none
def jr(y:Nat)(d:Option Nat):Option Value->Option Nat
 |some v=>bound v y
 |none=>d
def z5(len cap:Nat)(lo hi mx:Option Value):Option (Nat×Nat×Nat):=
 (jr cap (some cap) mx).bind fun m=>(jr m (if mx.isSome then none else some len) hi).bind fun h=>(jr h (some 0) lo).bind fun l=>some (l,h,m)
def kR(ρ:Operand->Value):R->Option Value
 |.mv x=>some (ρ x)
 |.pick c a b=>match ρ c with|.bool t=>some (if t then ρ a else ρ b)|_=>none
 |.bin op x y=>zF op (ρ x) (ρ y)
 |.eqb neq x y=>match ρ x,ρ y with|.bool a,.bool b=>some (.bool (if neq then !(a==b)else a==b))|_,_=>none
 |.AR neq k x=>(isNil k (ρ x)).map fun b=>.bool (if neq then !b else b)
 |.AQ neq ks x y=>match ρ x,ρ y with
  |.agg a,.agg b=>if a.size=ks.length/\b.size=ks.length then(fF ks a.toList b.toList).map fun r=>.bool (if neq then !r else r)else none
  |_,_=>none
 |.un .not x=>match ρ x with|.bool b=>some (.bool !b)|_=>none
 |.un .neg x=>match ρ x with|.int k n=>some (.int k (k.wrap (0 - n)))|_=>none
 |.un .xor x=>match ρ x with|.int k n=>some (.int k (k.wrap (BitVec.ofInt k.bits (if k.signed then -1 else k.max) ^^^ BitVec.ofInt k.bits n).toNat))|_=>none
 |.un .plus _=>none
 |.conv k x=>match ρ x with|.int _ n=>some (.int k (k.wrap n))|_=>none
 |.cvs x=>match ρ x with|.string s=>some (.string s)|_=>none
 |.E2 t x=>some (.iface t (ρ x))
 |.yZ f first captured=>some (.func f (first.map ρ).toArray (captured.map ρ).toArray)
 |.ext x i=>match ρ x with|.tuple vs=>vs[i]?|_=>none
 |.build zero parts=>(jT zero (jR ρ parts)).map fun l=>.agg l.toArray
 |.sU x=>match ρ x with
  |.pointer (some a)=>some (.pointer (some a))
  |_=>none
 |.JF off x=>match ρ x with|.pointer (some ⟨b,o,none⟩)=>some (.pointer (some ⟨b,o+off,none⟩))|_=>none
 |.Hr off size agg x=>match ρ x with
  |.agg cs=>if agg then some (.agg (cs.extract off (off+size)))else cs[off]?
  |_=>none
 |.Lv len size x i=>match ρ x,ρ i with
  |.pointer (some ⟨b,o,none⟩),.int _ n=>if 0<=n/\n < len then some (.pointer (some ⟨b,o+n.toNat*size,none⟩))else none
  |_,_=>none
 |.xA size x i=>match ρ x,ρ i with
  |.slice (some ⟨b,o,none⟩) len _,.int _ n=>if 0<=n/\n < len then some (.pointer (some ⟨b,o+n.toNat*size,none⟩))else none
  |_,_=>none
 |.Lw x i=>match ρ x,ρ i with
  |.string s,.int _ n=>if 0<=n then(s[n.toNat]?).map fun b=>.int .u8 b.toNat else none
  |_,_=>none
 |.HZ len size agg x i=>match ρ x,ρ i with
  |.agg cs,.int _ n=>if 0<=n/\n < len then(if agg then some (.agg (cs.extract (n.toNat*size) (n.toNat*size+size)))else cs[n.toNat*size]?)else none
  |_,_=>none
 |.I4 x lo hi=>match ρ x with
  |.string s=>(z5 s.size s.size (lo.map ρ) (hi.map ρ) none).map fun(l,h,_)=>.string (s.extract l h)
  |_=>none
 |.nW size x lo hi mx=>match ρ x with
  |.slice (some ⟨b,o,none⟩) len cap=>(z5 len cap (lo.map ρ) (hi.map ρ) (mx.map ρ)).map fun(l,h,m)=>.slice (some ⟨b,if m=l then o else o+l*size,none⟩) (h - l) (m - l)
  |.slice none len cap=>(z5 len cap (lo.map ρ) (hi.map ρ) (mx.map ρ)).map fun(l,h,m)=>.slice none (h - l) (m - l)
  |_=>none
 |.I3 n size x lo hi=>match ρ x with
  |.pointer (some ⟨b,o,none⟩)=>(z5 n n (lo.map ρ) (hi.map ρ) none).map fun(l,h,m)=>.slice (some ⟨b,if m=l then o else o+l*size,none⟩) (h - l) (m - l)
  |_=>none
 |.Pu x=>match ρ x with|.string s=>some (.int .i64 s.size)|_=>none
 |.EW x=>match ρ x with|.slice _ n _=>some (.int .i64 n)|_=>none
 |.cap x=>match ρ x with|.slice _ _ n=>some (.int .i64 n)|_=>none
 |.min2 x y=>match ρ x,ρ y with|.int k a,.int _ b=>some (.int k (if b < a then b else a))|_,_=>none
 |.max2 x y=>match ρ x,ρ y with|.int k a,.int _ b=>some (.int k (if b > a then b else a))|_,_=>none
 |.fS t zero ok x=>match ρ x with
  |.nilIface=>if ok then some (.tuple #[zero,.bool false])else none
  |.iface u v=>if u=t then some (if ok then .tuple #[v,.bool true]else v)else if ok then some (.tuple #[zero,.bool false])else none
  |_=>none
 |_=>none
section
variable {P:Program} {ρ:Operand->Value} {w:World} {v:Value} {xo:Operand}
theorem kC {t:TypeId}{d:TypeDesc}(h:P.underlying t=some d):(underlying t).run P w=.ok d w:=by simp[underlying,h]
theorem w9 {t:TypeId}{i:TypeInfo}(h:P.info? t=some i):(typeInfo t).run P w=.ok i w:=by simp[typeInfo,h]
theorem kZ {t:TypeId}{i:TypeInfo}(h:P.info? t=some i):(sizeOf t).run P w=.ok i.size w:=by simp[sizeOf,w9 h]
theorem I9(a b:ByteArray):(a.toList==b.toList)=decide (a=b):=by
 rw[ByteArray.toList_eq,ByteArray.toList_eq,Bool.eq_iff_iff];simp only[beq_iff_eq,decide_eq_true_eq];constructor
 ·intro h;cases a;cases b;simp only[ByteArray.mk.injEq];exact vD.1 h
 ·rintro rfl;rfl
theorem R6 {op:BinOp}{t:TypeId}{k k':IntKind}{a b:Int}(h:mh op k a k' b=some v):(Go.binOp op t (.int k a) (.int k' b)).run P w=.ok v w:=by
 cases op <;> simp only[mh]at h <;> split at h <;> first|(cases h;done)|skip
 all_goals (cases h;rename_i hc)
 case quo|rem=>obtain⟨rfl,h0⟩:=hc;simp[Go.binOp,Op.intDiv,h0]
 case shl|shr=>simp[Go.binOp,Op.shift,hc]
 all_goals (subst hc;simp[Go.binOp,Op.intArith,Op.intBits,Op.intCmp])
 all_goals (rw[Bool.eq_iff_iff];simp)
theorem R8 {op:BinOp}{t:TypeId}{a b:ByteArray}(h:I7 op a b=some v):(Go.binOp op t (.string a) (.string b)).run P w=.ok v w:=by
 cases op <;> simp only[I7]at h <;> first|(cases h;done)|skip
 case add=>
  split at h <;> cases h;rename_i hc;have:¬(((a.size+b.size:Nat):Int) > IntKind.i64.max):=by
   have:IntKind.i64.max=9223372036854775807:=by decide
   rw[this];omega
  simp only[Go.binOp,Op.stringOp,this,if_false,Sem.run_pure]
 all_goals (cases h;simp[Go.binOp,Op.stringOp,I9])
theorem R4 {op:BinOp}{t:TypeId}{x y:Value}(h:zF op x y=some v):(Go.binOp op t x y).run P w=.ok v w:=by
 cases x <;> cases y <;> first|(simp[zF]at h;done)|exact R6 h|exact R8 h
theorem fq {op:BinOp}{t:TypeId}{x y:Operand}{a b:Value}(h1:¬(a=.nilIface/\b=.nilIface))(h2:∀c d,¬(a=.agg c/\b=.agg d)):
 (eqGuard op t x y a b).run P w=.ok () w:=by
 cases op <;> simp only[eqGuard] <;> first|(simp;done)|skip
 all_goals (cases a <;> cases b <;> first|(exact absurd ⟨rfl,rfl⟩ h1)|(exact absurd ⟨rfl,rfl⟩ (h2 _ _))|simp)
theorem lj {t:TypeId}{cs:Array Value}{off:Nat}{d:TypeDesc}{k:SK}(h:P.underlying t=some d)(hk:mL d=some k)(hv:cs[off]? =some v):(part t cs off).run P w=.ok v w:=by
 cases d <;> simp[mL]at hk <;> simp[part,isAgg,kC h,hv]
theorem cQ {t:TypeId}{n:Nat}{x y:Value}{r:Bool}{d:TypeDesc}{k:SK}(h:P.underlying t=some d)(hk:mL d=some k)(hs:pb k x y=some r):
 (Op.equalIn (n+1) t x y).run P w=.ok r w:=by
 cases d <;> simp[mL]at hk <;> subst hk <;> cases x <;> simp[pb]at hs <;> cases y <;> simp at hs
 ·subst hs;simp[Op.equalIn,kC h]
 ·obtain⟨rfl,rfl⟩:=hs;simp[Op.equalIn,kC h];rw[Bool.eq_iff_iff];simp
 ·subst hs;simp[Op.equalIn,kC h,beq_toListBytes,I9]
theorem Dj {n:Nat}{xs ys:Array Value}:∀(fs:List Field) (ks:List SK) (off:Nat) (r:Bool),scalars P fs off=some ks->
 fF ks (xs.toList.drop off) (ys.toList.drop off)=some r->(Op.eqFields (n+1) xs ys fs).run P w=.ok r w:=by
 intro fs
 induction fs with
 |nil=>intro ks off r h1 h2;simp[scalars]at h1;subst h1;simp[fF]at h2;subst h2;simp[Op.eqFields]
 |cons f fs ih=>
  intro ks off r h1 h2;simp only[scalars]at h1;split at h1
  case isFalse=>simp at h1
  rename_i hf;obtain⟨rfl,cF⟩:=hf;split at h1
  case h_2=>simp at h1
  rename_i k l hk hl;simp at h1;subst h1;obtain⟨d,hd,Eu⟩:=Qu.1 hk;cases hx:xs.toList.drop f.offset with
  |nil=>rw[hx]at h2;simp[fF]at h2
  |cons x xr=>
  cases hy:ys.toList.drop f.offset with
  |nil=>rw[hx,hy]at h2;simp[fF]at h2
  |cons y yr=>
  rw[hx,hy]at h2;simp only[fF]at h2;have ex:xs[f.offset]? =some x:=by have:=congrArg (·[0]?) hx;simpa using this
  have ey:ys[f.offset]? =some y:=by have:=congrArg (·[0]?) hy;simpa using this
  have dx:xs.toList.drop (f.offset+1)=xr:=by have:=congrArg (List.drop 1) hx;simpa using this
  have dy:ys.toList.drop (f.offset+1)=yr:=by have:=congrArg (List.drop 1) hy;simpa using this
  split at h2
  case h_2=>simp at h2
  rename_i a b ha hb;simp at h2;subst h2;simp only[Op.eqFields,ne_eq,cF,not_false_eq_true,if_true,Sem.run_bind,lj hd Eu ex,lj hd Eu ey,cQ hd Eu ha,Result.andThen_ok];cases a
  ·simp
  ·have:=ih l (f.offset+1) b hl (by rw[dx,dy];exact hb);simpa using this
theorem yi(place:Nat->Option (Nat×Nat)):∀(parts:List (Nat×Operand)) (l:List (Nat×Nat×Operand)) (cs:List Value) (out:List Value),ff place parts=some l->
 jT cs (jR ρ l)=some out->Instr.fill place cs.toArray (parts.map fun(i,x)=>(i,ρ x))=some out.toArray:=by
 intro parts
 induction parts with
 |nil=>intro l cs out h1 h2;simp[ff]at h1;subst h1;simp[jR,jT]at h2;subst h2;simp[Instr.fill]
 |cons p parts ih=>
  obtain⟨i,x⟩:=p;intro l cs out h1 h2;simp only[ff]at h1;split at h1
  case h_2=>simp at h1
  rename_i off size r hp hr;simp at h1;subst h1;simp only[jR,Q3,jT]at h2;split at h2
  case isFalse=>simp at h2
  rename_i hc;obtain⟨h3,h4⟩:=hc;have:=ih r _ out hr h2;simp only[Q3,Instr.fill,hp];have fI:¬((ρ x).cells.size≠size∨off+(ρ x).cells.size > cs.toArray.size):=by
   simp;omega
  have ZO:(decide ((ρ x).cells.size≠size)||decide (off+(ρ x).cells.size > cs.toArray.size))=false:=by
   simp;omega
  have hfold:∀(vs:List Value) (k:Nat) (c:List Value),off+k+vs.length<=c.length->
   (vs.zipIdx k).foldl (fun(cs:Array Value) (p:Value×Nat)=>cs.setIfInBounds (off+p.2) p.1) c.toArray=(c.take (off+k)++vs++c.drop (off+k+vs.length)).toArray:=by
   intro vs
   induction vs with
   |nil=>intro k c hk;simp
   |cons v vs ihv=>
    intro k c hk;simp only[List.zipIdx_cons,List.foldl_cons,List.setIfInBounds_toArray];rw[ihv (k+1) (c.set (off+k) v) (by simp at hk|-;omega)]
    congr 1
    simp at hk;apply vm;intro j;simp only[V9,List.getElem?_take,Vd,Vo,Vz,Vx,Vl,Vp,List.getElem?_cons]
    grind
  have Cy:((ρ x).cells.zipIdx.foldl (fun(cs:Array Value) (p:Value×Nat)=>cs.setIfInBounds (off+p.2) p.1) cs.toArray)=(cs.take off++(ρ x).cells.toList++cs.drop (off+size)).toArray:=by
   have:=hfold (ρ x).cells.toList 0 cs tj;simp only[Qh,Array.length_toList,h3]at this;rw[<- this,<- Array.foldl_toList,Array.toList_zipIdx]
  simp only[ZO,vJ,if_false];rw[Cy];exact this
theorem run_sliceBound {x:Value}{y n:Nat}{c:BoundsCode}(h:bound x y=some n):(Instr.sliceBound x y c).run P w=.ok n w:=by
 cases x <;> simp[bound]at h;obtain⟨⟨h1,h2⟩,rfl⟩:=h;simp[Instr.sliceBound,asIntOf,h1,h2]
theorem zX {b:Bool}{len cap:Nat}{lo hi mx:Option Value}{r:Nat×Nat×Nat}(h:z5 len cap lo hi mx=some r):(Instr.sliceBounds b len cap lo hi mx).run P w=.ok r w:=by
 simp only[z5,Qu]at h;obtain⟨m,hm,hh,UB,l,hl,h⟩:=h;cases h;have hb:∀{y n:Nat} {d:Option Nat} {v:Value} {c:BoundsCode},jr y d (some v)=some n->(Instr.sliceBound v y c).run P w=.ok n w:=fun h=>run_sliceBound h
 simp only[Instr.sliceBounds];cases mx <;> cases hi <;> cases lo
 all_goals first
  |(simp[jr]at UB;done)
  |skip
 ·simp[jr]at hm UB hl;subst hm UB hl;simp
 ·simp[jr]at hm UB;subst hm UB;simp[hb hl]
 ·simp[jr]at hm hl;subst hm hl;simp[hb UB]
 ·simp[jr]at hm;subst hm;simp[hb hl,hb UB]
 ·simp[jr]at hl;subst hl;simp[hb hm,hb UB]
 ·simp[hb hl,hb hm,hb UB]
theorem eu(b o n:Nat):(⟨b,o,none⟩:Addr).add n=⟨b,o+n,none⟩:=by
 by_cases h:n=0 <;> simp[Addr.add,h]
theorem Bz {op:BinOp}{t:TypeId}{x:Value}{y:Operand}{neq b:Bool}{k:NK}{d:TypeDesc}(hd:P.underlying t=some d)(Lq:op=if neq then .neq else .eql)(hx:isNil k x=some b)
 (hy:ni d y=some k):∃u,y=.const u/\(eqGuard op t xo y x u).run P w=.ok () w/\(Go.binOp op t x u).run P w=.ok (.bool (if neq then !b else b)) w:=by
 have key:∀u,y=.const u->(Op.equal t x u).run P w=.ok b w:=by
  rintro u rfl
  show(Op.equalIn (9999+1) t x u).run P w=_;generalize 9999=n;cases d <;> try (simp[ni]at hy;done)
  all_goals (simp only[ni]at hy;split at hy <;> try (cases hy;done))
  all_goals simp_all only[TypeDesc.pointer.injEq,TypeDesc.slice.injEq,TypeDesc.map.injEq,TypeDesc.func.injEq,TypeDesc.interface.injEq,reduceCtorEq,X1,Operand.const.injEq]
  all_goals subst_vars
  all_goals (cases x <;> simp[isNil]at hx)
  all_goals first
   |(subst hx;simp[Op.equalIn,kC hd];done)
   |(rename_i a;cases a <;> simp at hx <;> subst hx <;> simp[Op.equalIn,kC hd];done)
   |(rename_i a _ _;cases a <;> simp at hx <;> subst hx <;> simp[Op.equalIn,kC hd];done)
 subst Lq;cases d <;> try (simp[ni]at hy;done)
 all_goals (simp only[ni]at hy;split at hy <;> try (cases hy;done))
 all_goals simp_all only[TypeDesc.pointer.injEq,TypeDesc.slice.injEq,TypeDesc.map.injEq,TypeDesc.func.injEq,TypeDesc.interface.injEq,reduceCtorEq,X1,Operand.const.injEq]
 all_goals subst_vars
 all_goals (refine⟨_,rfl,?_,?_⟩)
 all_goals (have key':=key _ rfl;cases x <;> simp[isNil]at hx)
 all_goals first
  |(cases neq <;> simp[eqGuard];done)
  |(cases neq <;> simp[Go.binOp,key'];done)
end
section
variable {P:Program} {ρ:Operand->Value} {w:World} {v:Value} {r:R}
theorem fX {t:TypeId}{z:List Value}(h:zeroOf P t=some z):∃i u,P.info? t=some i/\i.zero=some u/\u.cells.toList=z:=by
 simp only[zeroOf,Qx,Qu]at h;obtain⟨u,⟨i,h1,h2⟩,h3⟩:=h;exact⟨i,u,h1,h2,h3⟩
theorem ke {t:TypeId}{i:TypeInfo}{u:Value}(h:P.info? t=some i)(hz:i.zero=some u):(zeroValue t).run P w=.ok u w:=by
 simp[zeroValue,w9 h,hz]
theorem run_places(fs:List Field)(ap:∀f∈fs,∃j,P.info? f.type=some j):(fs.mapM fun f=>do pure (f.offset,<- sizeOf f.type):Sem (List (Nat×Nat))).run P w=.ok (placesOf P fs) w:=by
 induction fs with
 |nil=>simp[placesOf]
 |cons f fs ih=>
  obtain⟨j,hj⟩:=ap f Zs;have:=ih (fun g hg=>ap g (by simp[hg]));simp only[List.mapM_cons,Sem.run_bind,kZ hj,Result.andThen_ok,Sem.run_pure,this];simp[placesOf,Program.cellsOf,hj]
theorem dH {t:TypeId}{d:TypeDesc}(h:P.underlying t=some d):(isAgg t).run P w=.ok (match d with|.struct _|.array _ _=>true|_=>false) w:=by
 cases d <;> simp[isAgg,kC h]
set_option maxHeartbeats 1000000 in
theorem o6 {o:Oper}(aG:∀u,ρ (.const u)=u)(hl:kz P o.op=some r)(hv:kR ρ r=some v):(execOp ρ o).run P w=.ok (.value v) w:=by
 obtain⟨dst,op,type,pos,after,guard⟩:=o;simp only at hl;cases op
 case move x=>simp[kz]at hl;subst hl;simp[kR]at hv;subst hv;simp[execOp]
 case assign x=>simp[kz]at hl;subst hl;simp[kR]at hv;subst hv;simp[execOp]
 case pick c a b=>
  simp[kz]at hl;subst hl;simp only[kR]at hv;split at hv <;> simp at hv;subst hv;rename_i t ht;simp[execOp,ht,asBool]
 case nilCheck x=>
  simp[kz]at hl;subst hl;simp only[kR]at hv;split at hv <;> simp at hv;subst hv;rename_i a ha;simp[execOp,ha]
 case extract x i=>
  simp[kz]at hl;subst hl;simp only[kR]at hv;split at hv <;> try (cases hv;done)
  rename_i vs tK;simp[execOp,Instr.extract,tK,hv]
 case makeFunc fn f c=>
  simp[kz]at hl;subst hl;simp[kR]at hv;subst hv;obtain⟨f⟩:=f;obtain⟨c⟩:=c;simp[execOp,Instr.makeFunc]
 case makeInterface t x=>
  simp only[kz]at hl;split at hl <;> try (cases hl;done)
  rename_i d hni hd;cases hl;simp[kR]at hv;subst hv;have:(Instr.makeInterface t (ρ x)).run P w=.ok (.iface t (ρ x)) w:=by
   cases d <;> simp_all [Instr.makeInterface,underlying]
  simp[execOp,this]
 case unOp op t x=>
  simp[kz]at hl;subst hl;cases op <;> simp only[kR]at hv <;> try (cases hv;done)
  all_goals (split at hv <;> try (cases hv;done))
  all_goals (cases hv;rename_i hn;simp[execOp,Op.unary,hn,Op.intArith,Op.intBits])
 case convert s d x=>
  simp only[kz]at hl;split at hl <;> try (cases hl;done)
  ·rename_i hs hd;cases hl;simp only[kR]at hv;split at hv <;> cases hv;rename_i n hn;simp[execOp,Go.convert,kC hs,kC hd,hn,Conv.intToInt]
  ·rename_i hs hd;cases hl;simp only[kR]at hv;split at hv <;> cases hv;rename_i n hn;simp[execOp,Go.convert,kC hs,kC hd,hn]
  ·split at hl <;> cases hl <;> simp[kR]at hv
  ·split at hl <;> cases hl <;> simp[kR]at hv
 case binOp op t x y yt=>
  have fin:∀{u:Value},(Go.binOp op t (ρ x) (ρ y)).run P w=.ok u w->(eqGuard op t x y (ρ x) (ρ y)).run P w=.ok () w->(execOp ρ ⟨dst,.binOp op t x y yt,type,pos,after,guard⟩).run P w=.ok (.value u) w:=by
   intro u h1 h2;simp[execOp,h1,h2]
  have bin:zF op (ρ x) (ρ y)=some v->(execOp ρ ⟨dst,.binOp op t x y yt,type,pos,after,guard⟩).run P w=.ok (.value v) w:=by
   intro h;refine fin (R4 h) (fq ?_ ?_)
   ·rintro⟨h1,h2⟩;rw[h1,h2]at h;simp[zF]at h
   ·rintro c d ⟨h1,h2⟩;rw[h1,h2]at h;simp[zF]at h
  simp only[kz]at hl;split at hl
  ·cases hl;exact bin hv
  ·cases hl;exact bin hv
  ·rename_i hd;split at hl <;> cases hl
   all_goals
    simp only[kR]at hv;split at hv <;> cases hv;rename_i a b ha hb;refine fin ?_ (fq (by simp[ha]) (by simp[ha]));have:(Op.equal t (.bool a) (.bool b)).run P w=.ok (a==b) w:=cQ (n:=9999) hd rfl rfl;simp[ha,hb,Go.binOp,this]
  ·rename_i fs hd;split at hl <;> try (cases hl;done)
   rename_i hg;obtain⟨hg,DF⟩:=hg;have hfo:P.underlying t=some (.struct (P.fieldsOf t)):=by simp[Program.fieldsOf,hd]
   have Ev:P.fieldsOf t=fs:=by simp[Program.fieldsOf,hd]
   split at hl <;> cases hl
   case h_3=>simp[kR]at hv
   case h_4=>simp[kR]at hv
   all_goals
    rename_i ks lY;simp only[kR]at hv;split at hv <;> try (cases hv;done)
    rename_i a b ha hb;split at hv <;> try (cases hv;done)
    simp only[Qx]at hv;obtain⟨q,hq,rfl⟩:=hv;have hr:(Op.equal t (.agg a) (.agg b)).run P w=.ok q w:=by
     show(Op.equalIn (9999+1) t (.agg a) (.agg b)).run P w=_;rw[run_equalIn_struct w 9999 t a b hfo DF,Ev];exact Dj (n:=9998) fs.toList ks 0 q lY (by simpa using hq)
    refine fin ?_ ?_
    ·simp[ha,hb,Go.binOp,hr]
    ·rw[ha,hb];exact run_eqGuard_agg w _ t x y a b hg
  ·rename_i d _ _ _ _ hd;split at hl
   case h_3=>split at hl <;> first|(cases hl;done)|(cases hl;simp[kR]at hv;done)
   case h_4=>split at hl <;> first|(cases hl;done)|(cases hl;simp[kR]at hv;done)
   case h_5=>cases hl
   all_goals
    cases hl;rename_i k hk;simp only[kR,Qx]at hv;obtain⟨b,hb,rfl⟩:=hv
   ·obtain⟨u,rfl,h1,h2⟩:=Bz (w:=w) (xo:=x) (op:=.eql) (neq:=false) hd rfl hb hk;exact fin (by rw[aG];exact h2) (by rw[aG];exact h1)
   ·obtain⟨u,rfl,h1,h2⟩:=Bz (w:=w) (xo:=x) (op:=.neq) (neq:=true) hd rfl hb hk;exact fin (by rw[aG];exact h2) (by rw[aG];exact h1)
  ·cases hl
 case fieldAddr s x f=>
  simp only[kz]at hl;split at hl <;> try (cases hl;done)
  rename_i fs hs;split at hl <;> try (cases hl;done)
  rename_i fd hf;split at hl <;> try (cases hl;done)
  rename_i i hi;split at hl <;> cases hl;rename_i hz;simp only[kR]at hv;split at hv <;> cases hv;rename_i b o hx;have h1:(fieldPlace ⟨b,o,none⟩ fd).run P w=.ok ⟨b,o+fd.offset,none⟩ w:=by
   simp[fieldPlace,kZ hi,hz,eu]
  simp[execOp,Instr.fieldAt,kC hs,hf,hx,Instr.sureAddr,h1]
 case field s x f=>
  simp only[kz]at hl;split at hl <;> try (cases hl;done)
  rename_i fs hs;split at hl <;> try (cases hl;done)
  rename_i fd hf;split at hl <;> cases hl
  ·rename_i _ j hu hj;exact zCQ
  ·rename_i _ _ j hu hj;exact zCQ
  ·rename_i d j h1 h2 hu hj;simp only[kR]at hv;split at hv <;> try (cases hv;done)
   rename_i cs hx;simp at hv;have:(isAgg fd.type).run P w=.ok false w:=by rw[dH hu];cases d <;> simp_all
   simp[execOp,Instr.field,kC hs,hf,hx,asAgg,part,this,hv]
 case indexAddr t x i=>
  simp only[kz]at hl;split at hl <;> try (cases hl;done)
  ·rename_i n e hs;simp only[Qx]at hl;obtain⟨j,hj,rfl⟩:=hl;simp only[kR]at hv;split at hv <;> try (cases hv;done)
   rename_i b o k m hx hi;split at hv <;> cases hv;rename_i hb;simp[execOp,Instr.indexAt,kC hs,hx,hi,asIntOf,Instr.sureAddr,hb,kZ hj,eu]
  ·rename_i e hs;simp only[Qx]at hl;obtain⟨j,hj,rfl⟩:=hl;simp only[kR]at hv;split at hv <;> try (cases hv;done)
   rename_i b o n c k m hx hi;split at hv <;> cases hv;rename_i hb;simp[execOp,Instr.indexAt,kC hs,hx,hi,asIntOf,hb,kZ hj,eu]
 case index t x i=>
  simp only[kz]at hl;split at hl <;> try (cases hl;done)
  ·rename_i hs;cases hl;simp only[kR]at hv;split at hv <;> try (cases hv;done)
   rename_i s k m hx hi;split at hv <;> try (cases hv;done)
   rename_i h0;simp only[Qx]at hv;obtain⟨b,hb,rfl⟩:=hv;simp[execOp,Instr.index,kC hs,hx,hi,asIntOf,h0,hb]
  ·rename_i n e hs;split at hl <;> cases hl
   ·rename_i _ j hu hj;exact zC6
   ·rename_i _ _ j hu hj;exact zC6
   ·rename_i d j h1 h2 hu hj;simp only[kR]at hv;split at hv <;> try (cases hv;done)
    rename_i cs k m hx hi;split at hv <;> try (cases hv;done)
    rename_i hb;simp at hv;have:(isAgg e).run P w=.ok false w:=by rw[dH hu];cases d <;> simp_all
    simp[execOp,Instr.index,kC hs,hx,hi,asIntOf,hb,kZ hj,part,this,hv]
 case slice t x lo hi mx=>
  simp only[kz]at hl;split at hl <;> try (cases hl;done)
  ·rename_i hs;split at hl <;> cases hl;rename_i Tb;obtain rfl:mx=none:=by simpa using Tb
   simp only[kR]at hv;split at hv <;> try (cases hv;done)
   rename_i s hx;simp only[Qx]at hv;obtain⟨⟨l,h,m⟩,hb,rfl⟩:=hv;simp[execOp,Instr.sliceAt,Instr.slice,kC hs,hx,zX hb]
  ·rename_i e hs;simp only[Qx]at hl;obtain⟨j,hj,rfl⟩:=hl;simp only[kR]at hv;split at hv <;> try (cases hv;done)
   ·rename_i b o len cap hx;simp only[Qx]at hv;obtain⟨⟨l,h,m⟩,hb,rfl⟩:=hv;simp only[execOp,Instr.sliceAt,Instr.slice,Sem.run_bind,kC hs,hx,zX hb,kZ hj,Result.andThen_ok,Sem.run_pure,eu,Qz];by_cases e:m=l <;> simp[e]
   ·rename_i len cap hx;simp only[Qx]at hv;obtain⟨⟨l,h,m⟩,hb,rfl⟩:=hv;simp[execOp,Instr.sliceAt,Instr.slice,kC hs,hx,zX hb,kZ hj]
  ·rename_i n e hs;split at hl <;> try (cases hl;done)
   rename_i Tb;obtain rfl:mx=none:=by simpa using Tb
   simp only[Qx]at hl;obtain⟨j,hj,rfl⟩:=hl;simp only[kR]at hv;split at hv <;> try (cases hv;done)
   rename_i b o hx;simp only[Qx]at hv;obtain⟨⟨l,h,m⟩,hb,rfl⟩:=hv;simp only[execOp,Instr.sliceAt,Sem.run_bind,kC hs,hx,Instr.sureAddr,zX hb,kZ hj,Result.andThen_ok,Sem.run_pure,eu,Qy];by_cases e:m=l <;> simp[e]
 case build t parts=>
  simp only[kz]at hl;split at hl <;> try (cases hl;done)
  ·rename_i fs z hs hz;split at hl <;> try (cases hl;done)
   rename_i ap;simp only[Qx]at hl;obtain⟨l,Z6,rfl⟩:=hl;obtain⟨i,u,hi,hu,rfl⟩:=fX hz;simp only[kR,Qx]at hv;obtain⟨out,ho,rfl⟩:=hv;have ii:(fs.mapM fun f=>do pure (f.offset,<- sizeOf f.type):Sem (Array (Nat×Nat))).run P w=.ok (placesOf P fs.toList).toArray w:=by
    rw[Array.mapM_eq_mapM_toList];simp only[Sem.run_map];rw[run_places fs.toList (fun f hf=>by
     have:=vX.1 ap f hf;exact Qw.1 this)]
    simp
   have lX:=yi (ρ:=ρ) (fun i=>(placesOf P fs.toList)[i]?) parts.toList l u.cells.toList out Z6 ho;have hpe:(fun i:Nat=>(placesOf P fs.toList).toArray[i]?)=fun i:Nat=>(placesOf P fs.toList)[i]?:=by funext i;simp
   have xx:(parts.map fun p=>(p.1,ρ p.2)).toList=parts.toList.map fun p=>(p.1,ρ p.2):=by simp
   simp only[Array.toArray_toList]at lX;have:(Instr.build t (parts.map fun p=>(p.1,ρ p.2))).run P w=.ok (.agg out.toArray) w:=by
    simp only[Instr.build,Sem.run_bind,ke hi hu,Result.andThen_ok,kC hs,ii,xx];rw[hpe];simp[lX]
   simp[execOp,this]
  ·rename_i n e z hs hz;split at hl <;> try (cases hl;done)
   rename_i j hj;simp only[Qx]at hl;obtain⟨l,Z6,rfl⟩:=hl;obtain⟨i,u,hi,hu,rfl⟩:=fX hz;simp only[kR,Qx]at hv;obtain⟨out,ho,rfl⟩:=hv;have lX:=yi (ρ:=ρ) (fun i=>some (i*j.size,j.size)) parts.toList l u.cells.toList out Z6 ho;have xx:(parts.map fun p=>(p.1,ρ p.2)).toList=parts.toList.map fun p=>(p.1,ρ p.2):=by simp
   simp only[Array.toArray_toList]at lX;have:(Instr.build t (parts.map fun p=>(p.1,ρ p.2))).run P w=.ok (.agg out.toArray) w:=by
    simp only[Instr.build,Sem.run_bind,ke hi hu,Result.andThen_ok,kC hs,kZ hj,xx];simp[lX]
   simp[execOp,this]
 case typeAssert x xt t ok=>
  simp only[kz]at hl;split at hl <;> try (cases hl;done)
  rename_i d hni hd;simp only[Qx,Qu]at hl;obtain⟨z,⟨i,hi,hz⟩,rfl⟩:=hl;simp only[kR]at hv;split at hv <;> try (cases hv;done)
  ·rename_i hx;split at hv <;> cases hv;rename_i aN;have:(Instr.typeAssert .nilIface xt t true).run P w=.ok (.tuple #[z,.bool false]) w:=by
    cases d <;> simp_all [Instr.typeAssert,ke hi hz,underlying]
   simp[execOp,hx,aN,this]
  ·rename_i u y hx;split at hv
   ·rename_i hut;cases hv;have:(Instr.typeAssert (.iface u y) xt t ok).run P w=.ok (if ok=true then .tuple #[y,.bool true]else y) w:=by
     cases d <;> simp_all [Instr.typeAssert,underlying]
    simp[execOp,hx,this]
   ·rename_i hut;split at hv <;> cases hv;rename_i aN;have:(Instr.typeAssert (.iface u y) xt t true).run P w=.ok (.tuple #[z,.bool false]) w:=by
     cases d <;> simp_all [Instr.typeAssert,ke hi hz,underlying]
    simp[execOp,hx,aN,this]
 case call c=>
  obtain⟨callee,args,NZ⟩:=c;obtain⟨args⟩:=args;obtain⟨NZ⟩:=NZ;have fin:∀{b:Builtin} {s:Sem Value},callee=.builtin b->(∀cs,Go.builtin b NZ.toArray type cs (args.map ρ).toArray=(do pure (.value (<- s))))->s.run P w=.ok v w->
   (execOp ρ ⟨dst,.call ⟨callee,args.toArray,NZ.toArray⟩,type,pos,after,guard⟩).run P w=.ok (.value v) w:=by
   rintro b s rfl h1 h2
   simp[execOp,resolve,invoke,h1,h2]
  simp only[kz]at hl;split at hl
  ·split at hl <;> cases hl;simp[kR]at hv
  ·cases hl;simp[kR]at hv
  ·split at hl <;> try (cases hl;done)
   rename_i x t;split at hl <;> cases hl <;> simp only[kR]at hv <;> try (cases hv;done)
   all_goals (rename_i hd;split at hv <;> cases hv)
   all_goals (rename_i hx;refine fin (s:=Builtin.len_ #[t] type #[ρ x]) rfl (fun cs=>by simp[Go.builtin]) ?_)
   ·simp[Builtin.len_,kC hd,hx,goInt]
   ·simp[Builtin.len_,kC hd,hx,goInt]
  ·split at hl <;> try (cases hl;done)
   rename_i x t;split at hl <;> cases hl <;> simp only[kR]at hv <;> try (cases hv;done)
   all_goals (rename_i hd;split at hv <;> cases hv)
   all_goals (rename_i hx;refine fin (s:=Builtin.cap_ #[t] type #[ρ x]) rfl (fun cs=>by simp[Go.builtin]) ?_)
   ·simp[Builtin.cap_,kC hd,hx,goInt]
  ·split at hl <;> cases hl;rename_i x y;simp only[kR]at hv;split at hv <;> cases hv;rename_i hx hy;refine fin (s:=Builtin.min_ NZ.toArray type #[ρ x,ρ y]) rfl (fun cs=>by simp[Go.builtin]) ?_;simp[Builtin.min_,Builtin.min2,hx,hy]
  ·split at hl <;> cases hl;rename_i x y;simp only[kR]at hv;split at hv <;> cases hv;rename_i hx hy;refine fin (s:=Builtin.max_ NZ.toArray type #[ρ x,ρ y]) rfl (fun cs=>by simp[Go.builtin]) ?_;simp[Builtin.max_,Builtin.max2,hx,hy]
  all_goals (repeat' split at hl)
  all_goals first
   |(cases hl;done)
   |(cases hl;simp[kR]at hv;done)
   |(simp only[Qx]at hl;obtain⟨_,_,rfl⟩:=hl;simp[kR]at hv;done)
 all_goals (try simp only[kz]at hl)
 all_goals (repeat' split at hl)
 all_goals first
  |(cases hl;done)
  |(cases hl;simp[kR]at hv;done)
  |(simp only[Qx]at hl;obtain⟨_,_,rfl⟩:=hl;simp[kR]at hv;done)
end
end Go.V

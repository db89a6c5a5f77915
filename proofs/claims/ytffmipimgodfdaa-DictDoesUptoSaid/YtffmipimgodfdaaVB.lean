/-
  Operations with their types resolved: what each computes, and that the model's operation does just that.
-/
import Derived.Test.YtffmipimgodfdaaVA
import GoSem.Dispatch
set_option linter.unusedSimpArgs false
set_option linter.unusedVariables false
namespace Go.V
open Go

/-- The kind of a map's key, a scalar's kind. -/
inductive SK where
  | int | str | bool
  deriving DecidableEq, Repr

/-- The kind of what may be nil. -/
inductive NK where
  | ptr | map | slice | func | iface
  deriving DecidableEq, Repr

inductive R where
  | mv (x : Operand)
  | pick (c a b : Operand)
  | bin (op : BinOp) (x y : Operand)
  | eqb (neq : Bool) (x y : Operand)
  | eqnil (neq : Bool) (k : NK) (x : Operand)
  | eqagg (neq : Bool) (ks : List SK) (x y : Operand)
  | un (op : UnOp) (x : Operand)
  | conv (k : IntKind) (x : Operand)
  | cvs (x : Operand)
  | mkif (t : TypeId) (x : Operand)
  | clos (f : Fn) (first captured : List Operand)
  | ext (x : Operand) (i : Nat)
  | build (zero : List Value) (parts : List (Nat × Nat × Operand))
  | nilck (x : Operand)
  | fld (off : Nat) (x : Operand)
  | fldV (off size : Nat) (agg : Bool) (x : Operand)
  | idxA (len size : Nat) (x i : Operand)
  | idxL (size : Nat) (x i : Operand)
  | idxS (x i : Operand)
  | idxV (len size : Nat) (agg : Bool) (x i : Operand)
  | slcS (x : Operand) (lo hi : Option Operand)
  | slcL (size : Nat) (x : Operand) (lo hi mx : Option Operand)
  | slcA (len size : Nat) (x : Operand) (lo hi : Option Operand)
  | lenS (x : Operand)
  | lenL (x : Operand)
  | cap (x : Operand)
  | min2 (x y : Operand)
  | max2 (x y : Operand)
  | tassert (t : TypeId) (zero : Value) (ok : Bool) (x : Operand)
  | load1 (x : Operand)
  | loadN (n : Nat) (x : Operand)
  | mlen (m : Operand)
  | lookup (k : SK) (zero : Value) (ok : Bool) (m key : Operand)
  | entry (it : Operand)
  | b2s (x : Operand)
  | alloc (t : TypeId) (zero : List Value)
  | box (t : TypeId) (x : Operand)
  | bslice (t : TypeId) (len : Nat) (zero : List Value) (parts : List (Nat × Nat × Operand))
  | mkmap
  | mkslice (t : TypeId) (size bytes : Nat) (zero : List Value) (l c : Operand)
  | rangeS (x : Operand)
  | rangeM (x : Operand)
  | s2b (t : TypeId) (x : Operand)
  | store (n : Nat) (x v : Operand)
  | mapupd (k : SK) (m key v : Operand)
  | delete (k : SK) (m key : Operand)
  | append (t : TypeId) (size bytes : Nat) (zero : List Value) (s x : Operand)
  | grow (t : TypeId) (size bytes : Nat) (zero : List Value) (s x : Operand)
  | copy (size : Nat) (d s : Operand)
  | next (it : Operand) (isString : Bool)
  | call (f : Nat) (args : List Operand)
  | callv (x : Operand) (args : List Operand)

def skOf : TypeDesc → Option SK
  | .int _ => some .int
  | .string => some .str
  | .bool => some .bool
  | _ => none

def callable (P : Program) (f : Nat) : Bool :=
  match P.funcs[f]? with
  | some fn => fn.name != "runtime.NumGoroutine" && fn.body.isSome
  | none => false

/-- A struct's fields as a row of scalars, each at its own place. -/
def scalars (P : Program) : List Field → Nat → Option (List SK)
  | [], _ => some []
  | f :: r, off => if f.offset = off ∧ f.name ≠ "_" then
      match (P.underlying f.type).bind skOf, scalars P r (off + 1) with
      | some k, some l => some (k :: l)
      | _, _ => none
    else none

def placesOf (P : Program) (fs : List Field) : List (Nat × Nat) := fs.map fun f => (f.offset, P.cellsOf f.type)

def lowParts (place : Nat → Option (Nat × Nat)) : List (Nat × Operand) → Option (List (Nat × Nat × Operand))
  | [] => some []
  | (i, x) :: r => match place i, lowParts place r with
    | some (off, size), some l => some ((off, size, x) :: l)
    | _, _ => none

def zeroOf (P : Program) (t : TypeId) : Option (List Value) := ((P.info? t).bind (·.zero)).map (·.cells.toList)

def nilKind : TypeDesc → Operand → Option NK
  | .pointer _, .const (.pointer none) => some .ptr
  | .map _ _, .const (.map none) => some .map
  | .slice _, .const (.slice none 0 0) => some .slice
  | .func .., .const .nilFunc => some .func
  | .interface _, .const .nilIface => some .iface
  | _, _ => none

def isIntL (P : Program) : List TypeId → Bool
  | u :: _ => match P.underlying u with | some (.int _) => true | _ => false
  | [] => false

def isSeq (P : Program) : List TypeId → Bool
  | u :: _ => match P.underlying u with | some (.slice _) | some .string => true | _ => false
  | [] => false

def lowOp (P : Program) : Op → Option R
  | .move x | .assign x => some (.mv x)
  | .pick c a b => some (.pick c a b)
  | .alloc t => (zeroOf P t).map (R.alloc t)
  | .box t x => some (.box t x)
  | .load t a => match P.underlying t, P.info? t with
    | some (.struct _), some i => some (.loadN i.size a)
    | some (.array _ _), some i => some (.loadN i.size a)
    | some _, some _ => some (.load1 a)
    | _, _ => none
  | .store t a x => (P.info? t).map fun i => .store i.size a x
  | .nilCheck x => some (.nilck x)
  | .binOp op t x y _ =>
    match P.underlying t with
    | some (.int _) => some (.bin op x y)
    | some .string => some (.bin op x y)
    | some .bool => match op with | .eql => some (.eqb false x y) | .neq => some (.eqb true x y) | _ => none
    | some (.struct fs) =>
      if P.eqGuardType P.depth t = false ∧ P.stoodInHeld t = false then
        match op, scalars P fs.toList 0 with
        | .eql, some ks => some (.eqagg false ks x y)
        | .neq, some ks => some (.eqagg true ks x y)
        | _, _ => none
      else none
    | some d =>
      match op, nilKind d y with
      | .eql, some k => some (.eqnil false k x)
      | .neq, some k => some (.eqnil true k x)
      | _, _ => none
    | _ => none
  | .unOp op _ x => some (.un op x)
  | .convert s d x => match P.underlying s, P.underlying d with
    | some (.int _), some (.int k) => some (.conv k x)
    | some .string, some .string => some (.cvs x)
    | some .string, some (.slice e) => match P.underlying e with | some (.int .u8) => some (.s2b e x) | _ => none
    | some (.slice e), some .string => match P.underlying e with | some (.int .u8) => some (.b2s x) | _ => none
    | _, _ => none
  | .makeInterface t x => match P.underlying t with
    | some (.interface _) | none => none
    | some _ => some (.mkif t x)
  | .makeFunc fn f c => some (.clos fn f.toList c.toList)
  | .makeMap t r => match P.underlying t with
    | some (.map _ _) => match r with | none => some .mkmap | some (.const (.int _ _)) => some .mkmap | _ => none
    | _ => none
  | .makeSlice t l c => match P.underlying t with
    | some (.slice e) => match P.info? e, zeroOf P e with | some i, some z => some (.mkslice e i.size i.bytes z l c) | _, _ => none
    | _ => none
  | .extract x i => some (.ext x i)
  | .build t parts => match P.underlying t, zeroOf P t with
    | some (.struct fs), some z => if fs.toList.all (fun f => (P.info? f.type).isSome) then (lowParts (fun i => (placesOf P fs.toList)[i]?) parts.toList).map (R.build z) else none
    | some (.array _ e), some z => match P.info? e with | some j => (lowParts (fun i => some (i * j.size, j.size)) parts.toList).map (R.build z) | none => none
    | _, _ => none
  | .buildSlice t len parts => match P.underlying t with
    | some (.slice e) => match P.info? e, zeroOf P e with
      | some i, some z => if len * i.size ≤ 2 ^ 24 ∧ z.length = i.size then (lowParts (fun j => some (j * i.size, i.size)) parts.toList).map (R.bslice e len z) else none
      | _, _ => none
    | _ => none
  | .fieldAddr s x f => match P.underlying s with
    | some (.struct fs) => match fs[f]? with
      | some fd => match P.info? fd.type with | some i => if i.size = 0 then none else some (.fld fd.offset x) | none => none
      | none => none
    | _ => none
  | .field s x f => match P.underlying s with
    | some (.struct fs) => match fs[f]? with
      | some fd => match P.underlying fd.type, P.info? fd.type with
        | some (.struct _), some i => some (.fldV fd.offset i.size true x)
        | some (.array _ _), some i => some (.fldV fd.offset i.size true x)
        | some _, some i => some (.fldV fd.offset i.size false x)
        | _, _ => none
      | none => none
    | _ => none
  | .indexAddr t x i => match P.underlying t with
    | some (.array n e) => (P.info? e).map fun j => .idxA n j.size x i
    | some (.slice e) => (P.info? e).map fun j => .idxL j.size x i
    | _ => none
  | .index t x i => match P.underlying t with
    | some .string => some (.idxS x i)
    | some (.array n e) => match P.underlying e, P.info? e with
        | some (.struct _), some j => some (.idxV n j.size true x i)
        | some (.array _ _), some j => some (.idxV n j.size true x i)
        | some _, some j => some (.idxV n j.size false x i)
        | _, _ => none
    | _ => none
  | .slice t x lo hi mx => match P.underlying t with
    | some .string => if mx.isNone then some (.slcS x lo hi) else none
    | some (.slice e) => (P.info? e).map fun j => .slcL j.size x lo hi mx
    | some (.array n e) => if mx.isNone then (P.info? e).map fun j => .slcA n j.size x lo hi else none
    | _ => none
  | .lookup t m k ok => match P.underlying t with
    | some (.map kt e) => match (P.underlying kt).bind skOf, (P.info? e).bind (·.zero) with
      | some sk, some z => some (.lookup sk z ok m k)
      | _, _ => none
    | _ => none
  | .mapUpdate t m k v | .insert t m k v => match P.underlying t with
    | some (.map kt _) => ((P.underlying kt).bind skOf).map fun sk => .mapupd sk m k v
    | _ => none
  | .range t x => match P.underlying t with
    | some .string => some (.rangeS x)
    | some (.map _ _) => some (.rangeM x)
    | _ => none
  | .next it s => some (.next it s)
  | .entry it => some (.entry it)
  | .typeAssert x _ t ok => match P.underlying t with
    | some (.interface _) | none => none
    | some _ => ((P.info? t).bind (·.zero)).map fun z => .tassert t z ok x
  | .call c => match c.callee with
    | .value (.func f) => if callable P f then some (.call f c.args.toList) else none
    | .value x => some (.callv x c.args.toList)
    | .builtin .len => match c.args.toList, c.argTypes.toList with
      | [x], [t] => match P.underlying t with
        | some .string => some (.lenS x)
        | some (.slice _) => some (.lenL x)
        | some (.map _ _) => some (.mlen x)
        | _ => none
      | _, _ => none
    | .builtin .cap => match c.args.toList, c.argTypes.toList with
      | [x], [t] => match P.underlying t with | some (.slice _) => some (.cap x) | _ => none
      | _, _ => none
    | .builtin .min => match c.args.toList with | [x, y] => some (.min2 x y) | _ => none
    | .builtin .max => match c.args.toList with | [x, y] => some (.max2 x y) | _ => none
    | .builtin .append => match c.args.toList, c.argTypes.toList with
      | [s, x], t :: xt => match P.underlying t with
        | some (.slice e) => match P.info? e, zeroOf P e with
          | some i, some z => if isSeq P xt then some (.append e i.size i.bytes z s x) else if isIntL P xt then some (.grow e i.size i.bytes z s x) else none
          | _, _ => none
        | _ => none
      | _, _ => none
    | .builtin .copy => match c.args.toList, c.argTypes.toList with
      | [d, s], t :: _ => match P.underlying t with
        | some (.slice e) => (P.info? e).map fun i => .copy i.size d s
        | _ => none
      | _, _ => none
    | .builtin .delete => match c.args.toList, c.argTypes.toList with
      | [m, k], t :: _ => match P.underlying t with
        | some (.map kt _) => ((P.underlying kt).bind skOf).map fun sk => .delete sk m k
        | _ => none
      | _, _ => none
    | _ => none
  | _ => none

/-! What each computes -/

def bytesLess := Op.bytesLess

/-- A binary operation on two integers of one kind. -/
def intV (op : BinOp) (k : IntKind) (a : Int) (k' : IntKind) (b : Int) : Option Value :=
  match op with
  | .shl => if b < 0 then none else some (.int k (k.wrap (a * 2 ^ (min b.toNat k.bits))))
  | .shr => if b < 0 then none else some (.int k (a.fdiv (2 ^ (min b.toNat k.bits))))
  | .add => if k = k' then some (.int k (k.wrap (a + b))) else none
  | .sub => if k = k' then some (.int k (k.wrap (a - b))) else none
  | .mul => if k = k' then some (.int k (k.wrap (a * b))) else none
  | .quo => if k = k' ∧ b ≠ 0 then some (.int k (k.wrap (a.tdiv b))) else none
  | .rem => if k = k' ∧ b ≠ 0 then some (.int k (a.tmod b)) else none
  | .and => if k = k' then some (.int k (k.wrap (BitVec.ofInt k.bits a &&& BitVec.ofInt k.bits b).toNat)) else none
  | .or => if k = k' then some (.int k (k.wrap (BitVec.ofInt k.bits a ||| BitVec.ofInt k.bits b).toNat)) else none
  | .xor => if k = k' then some (.int k (k.wrap (BitVec.ofInt k.bits a ^^^ BitVec.ofInt k.bits b).toNat)) else none
  | .andNot => if k = k' then some (.int k (k.wrap (BitVec.ofInt k.bits a &&& ~~~ BitVec.ofInt k.bits b).toNat)) else none
  | .eql => if k = k' then some (.bool (decide (a = b))) else none
  | .neq => if k = k' then some (.bool (!decide (a = b))) else none
  | .lss => if k = k' then some (.bool (decide (a < b))) else none
  | .leq => if k = k' then some (.bool (decide (a ≤ b))) else none
  | .gtr => if k = k' then some (.bool (decide (b < a))) else none
  | .geq => if k = k' then some (.bool (decide (b ≤ a))) else none

/-- A binary operation on two strings. -/
def strV (op : BinOp) (x y : ByteArray) : Option Value :=
  match op with
  | .add => if (x.size + y.size : Nat) ≤ 9223372036854775807 then some (.string (x ++ y)) else none
  | .eql => some (.bool (decide (x = y)))
  | .neq => some (.bool (!decide (x = y)))
  | .lss => some (.bool (Op.bytesLess x.toList y.toList))
  | .leq => some (.bool (Op.bytesLess x.toList y.toList || decide (x = y)))
  | .gtr => some (.bool !(Op.bytesLess x.toList y.toList || decide (x = y)))
  | .geq => some (.bool !(Op.bytesLess x.toList y.toList))
  | _ => none

def binV (op : BinOp) : Value → Value → Option Value
  | .int k a, .int k' b => intV op k a k' b
  | .string x, .string y => strV op x y
  | _, _ => none

def isNil : NK → Value → Option Bool
  | .ptr, .pointer a => some a.isNone
  | .map, .map a => some a.isNone
  | .slice, .slice a _ _ => some a.isNone
  | .func, .nilFunc => some true
  | .func, .func .. => some false
  | .iface, .nilIface => some true
  | .iface, .iface .. => some false
  | _, _ => none

/-- Two scalars of a kind, held against each other. -/
def scalEq : SK → Value → Value → Option Bool
  | .int, .int k a, .int k' b => if k = k' then some (decide (a = b)) else none
  | .str, .string a, .string b => some (decide (a = b))
  | .bool, .bool a, .bool b => some (a == b)
  | _, _, _ => none

def aggEq : List SK → List Value → List Value → Option Bool
  | [], _, _ => some true
  | k :: ks, x :: xs, y :: ys => match scalEq k x y, aggEq ks xs ys with
    | some a, some b => some (a && b)
    | _, _ => none
  | _, _, _ => none

def putParts : List Value → List (Nat × Nat × Value) → Option (List Value)
  | cs, [] => some cs
  | cs, (off, size, v) :: r =>
    if v.cells.size = size ∧ off + size ≤ cs.length then putParts (cs.take off ++ v.cells.toList ++ cs.drop (off + size)) r else none

def evParts (ρ : Operand → Value) (l : List (Nat × Nat × Operand)) : List (Nat × Nat × Value) := l.map fun (o, s, x) => (o, s, ρ x)

def isAdd (a : Addr) (n : Nat) : Addr := { a with off := a.off + n }

def bound (x : Value) (y : Nat) : Option Nat := match x with
  | .int _ i => if 0 ≤ i ∧ i ≤ y then some i.toNat else none
  | _ => none

def boundO (y : Nat) (d : Option Nat) : Option Value → Option Nat
  | some v => bound v y
  | none => d

def bounds (len cap : Nat) (lo hi mx : Option Value) : Option (Nat × Nat × Nat) :=
  (boundO cap (some cap) mx).bind fun m => (boundO m (if mx.isSome then none else some len) hi).bind fun h => (boundO h (some 0) lo).bind fun l => some (l, h, m)

/-- The values of what is no more than reckoned. -/
def pureV (ρ : Operand → Value) : R → Option Value
  | .mv x => some (ρ x)
  | .pick c a b => match ρ c with | .bool t => some (if t then ρ a else ρ b) | _ => none
  | .bin op x y => binV op (ρ x) (ρ y)
  | .eqb neq x y => match ρ x, ρ y with | .bool a, .bool b => some (.bool (if neq then !(a == b) else a == b)) | _, _ => none
  | .eqnil neq k x => (isNil k (ρ x)).map fun b => .bool (if neq then !b else b)
  | .eqagg neq ks x y => match ρ x, ρ y with
    | .agg a, .agg b => if a.size = ks.length ∧ b.size = ks.length then (aggEq ks a.toList b.toList).map fun r => .bool (if neq then !r else r) else none
    | _, _ => none
  | .un .not x => match ρ x with | .bool b => some (.bool !b) | _ => none
  | .un .neg x => match ρ x with | .int k n => some (.int k (k.wrap (0 - n))) | _ => none
  | .un .xor x => match ρ x with | .int k n => some (.int k (k.wrap (BitVec.ofInt k.bits (if k.signed then -1 else k.max) ^^^ BitVec.ofInt k.bits n).toNat)) | _ => none
  | .un .plus _ => none
  | .conv k x => match ρ x with | .int _ n => some (.int k (k.wrap n)) | _ => none
  | .cvs x => match ρ x with | .string s => some (.string s) | _ => none
  | .mkif t x => some (.iface t (ρ x))
  | .clos f first captured => some (.func f (first.map ρ).toArray (captured.map ρ).toArray)
  | .ext x i => match ρ x with | .tuple vs => vs[i]? | _ => none
  | .build zero parts => (putParts zero (evParts ρ parts)).map fun l => .agg l.toArray
  | .nilck x => match ρ x with
    | .pointer (some a) => some (.pointer (some a))
    | _ => none
  | .fld off x => match ρ x with | .pointer (some ⟨b, o, none⟩) => some (.pointer (some ⟨b, o + off, none⟩)) | _ => none
  | .fldV off size agg x => match ρ x with
    | .agg cs => if agg then some (.agg (cs.extract off (off + size))) else cs[off]?
    | _ => none
  | .idxA len size x i => match ρ x, ρ i with
    | .pointer (some ⟨b, o, none⟩), .int _ n => if 0 ≤ n ∧ n < len then some (.pointer (some ⟨b, o + n.toNat * size, none⟩)) else none
    | _, _ => none
  | .idxL size x i => match ρ x, ρ i with
    | .slice (some ⟨b, o, none⟩) len _, .int _ n => if 0 ≤ n ∧ n < len then some (.pointer (some ⟨b, o + n.toNat * size, none⟩)) else none
    | _, _ => none
  | .idxS x i => match ρ x, ρ i with
    | .string s, .int _ n => if 0 ≤ n then (s[n.toNat]?).map fun b => .int .u8 b.toNat else none
    | _, _ => none
  | .idxV len size agg x i => match ρ x, ρ i with
    | .agg cs, .int _ n => if 0 ≤ n ∧ n < len then (if agg then some (.agg (cs.extract (n.toNat * size) (n.toNat * size + size))) else cs[n.toNat * size]?) else none
    | _, _ => none
  | .slcS x lo hi => match ρ x with
    | .string s => (bounds s.size s.size (lo.map ρ) (hi.map ρ) none).map fun (l, h, _) => .string (s.extract l h)
    | _ => none
  | .slcL size x lo hi mx => match ρ x with
    | .slice (some ⟨b, o, none⟩) len cap => (bounds len cap (lo.map ρ) (hi.map ρ) (mx.map ρ)).map fun (l, h, m) => .slice (some ⟨b, if m = l then o else o + l * size, none⟩) (h - l) (m - l)
    | .slice none len cap => (bounds len cap (lo.map ρ) (hi.map ρ) (mx.map ρ)).map fun (l, h, m) => .slice none (h - l) (m - l)
    | _ => none
  | .slcA n size x lo hi => match ρ x with
    | .pointer (some ⟨b, o, none⟩) => (bounds n n (lo.map ρ) (hi.map ρ) none).map fun (l, h, m) => .slice (some ⟨b, if m = l then o else o + l * size, none⟩) (h - l) (m - l)
    | _ => none
  | .lenS x => match ρ x with | .string s => some (.int .i64 s.size) | _ => none
  | .lenL x => match ρ x with | .slice _ n _ => some (.int .i64 n) | _ => none
  | .cap x => match ρ x with | .slice _ _ n => some (.int .i64 n) | _ => none
  | .min2 x y => match ρ x, ρ y with | .int k a, .int _ b => some (.int k (if b < a then b else a)) | _, _ => none
  | .max2 x y => match ρ x, ρ y with | .int k a, .int _ b => some (.int k (if b > a then b else a)) | _, _ => none
  | .tassert t zero ok x => match ρ x with
    | .nilIface => if ok then some (.tuple #[zero, .bool false]) else none
    | .iface u v => if u = t then some (if ok then .tuple #[v, .bool true] else v) else if ok then some (.tuple #[zero, .bool false]) else none
    | _ => none
  | _ => none
end Go.V

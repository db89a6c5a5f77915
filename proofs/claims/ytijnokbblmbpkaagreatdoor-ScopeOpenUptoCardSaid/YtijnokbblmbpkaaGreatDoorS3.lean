/-
  What reads, makes or writes memory: its text with the types resolved, and that the model's operation does that.
-/
import Derived.Test.YtijnokbblmbpkaaGreatDoorS2
import Derived.Orders
import Derived.RangeFuncIn
import Derived.RangeFuncLeaves
import Derived.OwnWalkIn
set_option linter.all false
namespace Go.V
open Go
def kq(n:Nat)(zero:List Value):List Value:=(List.range (n*zero.length)).map fun i=>zero[i % zero.length]!
def J3:SK->Value->Value->Option Bool
 |.int,.int k a,.int k' b=>if k=k' then some (a==b)else none
 |.str,.string a,.string b=>some (decide (a=b))
 |.bool,.bool a,.bool b=>some (a==b)
 |_,_,_=>none
def lU(sk:SK)(k:Value):List MapEntry->Nat->Option (Option (Nat×Value))
 |[],_=>some none
 |e::es,i=>
  match J3 sk k e.key with
  |some true=>some (some (i,e.val))
  |some false=>lU sk k es (i+1)
  |none=>none
def wM:Value->Sem (Array MapEntry×Nat)
 |.map none=>pure (#[],0)
 |.map (some r)=>do
  match <- getObj r with
  |.map es c=>pure (es,c)
  | _ => stuck "map"
 | _ => stuck "map"
def ug(ok:Bool)(zero:Value):Option (Nat×Value)->Value
 |some (_,v)=>if ok then .tuple #[v,.bool true]else v
 |none=>if ok then .tuple #[zero,.bool false]else zero
def dW:Value->Option Nat
 |.slice _ n _=>some n
 |.string s=>some s.size
 |_=>none
def wI(ρ:Operand->Value):R->Option (Sem Next)
 |.pS x=>some do let a <- Instr.sureAddr (ρ x);let v <- load a;pure (.value v)
 |.lx n x=>some do let a <- Instr.sureAddr (ρ x);let cs <- loadCells a n;pure (.value (.agg cs))
 |.OS m=>some do let(es,_) <- wM (ρ m);pure (.value (.int .i64 es.size))
 |.lookup sk zero ok m key=>some do
  let(es,_) <- wM (ρ m)
  match lU sk (ρ key) es.toList 0 with
  |some r=>pure (.value (ug ok zero r))
  | none => stuck "key"
 |.entry it=>some do let v <- Instr.entry (ρ it);pure (.value v)
 |.b2s x=>some do let v <- Conv.bytesToString (ρ x);pure (.value v)
 |.alloc t zero=>some do let b <- newObj (.cells zero.toArray t);pure (.value (.pointer (some ⟨b,0,none⟩)))
 |.box t x=>some do let b <- newObj (.cells (ρ x).cells t);pure (.value (.pointer (some ⟨b,0,none⟩)))
 |.lN t len zero parts=>some <|match jZ (kq len zero) (jU ρ parts)with
  |some out=>do let b <- newObj (.cells out.toArray t);pure (.value (.slice (some ⟨b,0,none⟩) len len))
  | none => stuck "parts"
 |.oi=>some do let b <- newObj (.map #[] 0);pure (.value (.map (some b)))
 |.Dr t size bytes zero l c=>some <|match ρ l,ρ c with
  |.int _ l,.int _ c=>if 0<=l/\l<=c/\c<=9223372036854775807/\bytes*c<=2 ^ 48 then if zero.length=size then do
    let b <- newObj (.cells (kq c.toNat zero).toArray t);pure (.value (.slice (some ⟨b,0,none⟩) l.toNat c.toNat))
   else stuck "size" else stuck "size"
  | _, _ => stuck "size"
 |.Rh x=>some <|match ρ x with
  |.string s=>do let b <- newObj (.stringIter s 0);pure (.value (.pointer (some ⟨b,0,none⟩)))
  | _ => stuck "string"
 |.Rg x=>some <|match ρ x with
  |.map none=>do let b <- newObj (.mapIter none 0 #[] 0);pure (.value (.pointer (some ⟨b,0,none⟩)))
  |.map (some m)=>do let(_,clock) <- wM (.map (some m));let b <- newObj (.mapIter (some m) clock #[] clock);pure (.value (.pointer (some ⟨b,0,none⟩)))
  | _ => stuck "map"
 |.s2b t x=>some <|match ρ x with
  |.string s=>do let v <- Conv.stringToBytes t s;pure (.value v)
  | _ => stuck "string"
 | .store n x v => some do let a ← Instr.sureAddr (ρ x); if (ρ v).cells.size = n then (do storeCells a (ρ v).cells.toList; pure .skip) else stuck "size"
 |.xV sk m key v=>some <|match ρ m with
  |.map (some r)=>do
   let(es,clock) <- wM (.map (some r))
   match lU sk (ρ key) es.toList 0 with
   |some (some (i,_))=>do
    let key <- Instr.keyThatStays (((es[i]?).map (·.key)).getD (ρ key)) (ρ key)
    setObj r (.map (es.modify i fun e=>{e with key,val:=ρ v}) clock);pure .skip
   |some none=>do setObj r (.map (es.push {key:=ρ key,val:=ρ v,born:=clock}) (clock+1));pure .skip
   | none => stuck "key"
  | _ => stuck "map"
 |.delete sk m key=>some <|match ρ m with
  |.map (some r)=>do
   let(es,clock) <- wM (.map (some r))
   match lU sk (ρ key) es.toList 0 with
   |some (some (i,_))=>do setObj r (.map (es.eraseIdxIfInBounds i) clock);pure (.value (.tuple #[]))
   |some none=>do setObj r (.map es clock);pure (.value (.tuple #[]))
   | none => stuck "key"
  |.map none=>pure (.value (.tuple #[]))
  | _ => stuck "map"
 |.append t size bytes zero s x=>some <|match ρ s,dW (ρ x)with
  |.slice base n c,some m=>
   if n+m<=c then do
    let new <- Builtin.firstCells size m (ρ x)
    if let some a:=base then storeCells (a.add (n*size)) new.toList
    pure (.value (.slice base (n+m) c))
   else if Builtin.nextslicecap (n + m) c * bytes > 2 ^ 48 ∨ bytes = 0 then stuck "size" else do
    let cap <- choose (.appendCap (n+m) c t)
    let old <- Builtin.firstCells size n (ρ s)
    let new <- Builtin.firstCells size m (ρ x)
    let b <- newObj (.cells (old++new++(kq (cap - (n+m)) zero).toArray) t)
    pure (.value (.slice (some ⟨b,0,none⟩) (n+m) cap))
  | _, _ => stuck "append"
 |.grow t size bytes zero s x=>some <|match ρ s,ρ x with
  |.slice base n c,.int _ l=>
   if l < 0 ∨ l * bytes > 2 ^ 48 ∨ IntKind.i64.wrap l ≠ l ∨ size = 0 then stuck "grow" else
   if n+l.toNat<=c then do
    if let some a:=base then storeCells (a.add (n*size)) (kq l.toNat zero)
    pure (.value (.slice base (n+l.toNat) c))
   else if Builtin.nextslicecap (n + l.toNat) c * bytes > 2 ^ 48 ∨ bytes = 0 ∨ ((n + l.toNat : Nat) : Int) > IntKind.i64.max then stuck "size" else do
    let cap <- choose (.appendCap (n+l.toNat) c t)
    let old <- Builtin.firstCells size n (ρ s)
    let b <- newObj (.cells (old++(kq l.toNat zero).toArray++(kq (cap - (n+l.toNat)) zero).toArray) t)
    pure (.value (.slice (some ⟨b,0,none⟩) (n+l.toNat) cap))
  | _, _ => stuck "grow"
 |.copy size d s=>some <|match ρ d,dW (ρ s)with
  |.slice base n _,some m=>do
   let cells <- Builtin.firstCells size (Nat.min m n) (ρ s)
   if let some a:=base then storeCells a cells.toList
   pure (.value (.int .i64 (Nat.min m n)))
  | _, _ => stuck "copy"
 |.clr zero x=>some <|match ρ x with
  |.slice base n _=>do
   if let some a:=base then storeCells a (kq n zero)
   pure (.value (.tuple #[]))
  | _ => stuck "clear"
 |.next it s=>some do let v <- Instr.next (ρ it) s 0;pure (.value v)
 |.Sj op t x y=>some do eqGuard op t x y (ρ x) (ρ y);let v <- Go.binOp op t (ρ x) (ρ y);pure (.value v)
 |.Fj t ok m k=>some do let v <- Instr.lookup t (ρ m) (ρ k) ok;pure (.value v)
 |.updt t m k v=>some do Instr.mapUpdate t (ρ m) (ρ k) (ρ v);pure .skip
 |.abG t m k=>some do let v <- Instr.mapEntry t (ρ m) (ρ k);pure (.value v)
 |.mst t m s v=>some do Instr.entryStore t (ρ m) (ρ s) (ρ v);pure .skip
 |_=>none
section
variable {P:Program} {ρ:Operand->Value} {w w':World} {n:Next} {r:R} {s:Sem Next}
theorem IP {d:TypeDesc}{sk:SK}(h:mD d=some sk)(a b:Value):Instr.sameNow d a b=J3 sk a b:=by
 cases d <;> simp[mD]at h <;> subst h <;> cases a <;> cases b <;> simp[Instr.sameNow,J3];rename_i a b;rw[beq_toListBytes,I2]
theorem HH {d:TypeDesc}{sk:SK}(h:mD d=some sk)(k:Value):∀(es:List MapEntry) (i:Nat),Instr.findNow d k es i=lU sk k es i:=by
 intro es
 induction es with
 |nil=>intro i;rfl
 |cons e es ih=>
  intro i;simp only[Instr.findNow,lU,IP h,ih];split <;> simp_all
theorem yB {t:TypeId}{d:TypeDesc}{sk:SK}(ht:P.underlying t=some d)(h:mD d=some sk)(e:Bool)(v:Value):(Instr.checkKey e 10000 t v).run P w=.ok () w:=by
 show(Instr.checkKey e (9999+1) t v).run P w=_;generalize 9999=n;cases d <;> simp[mD]at h <;> cases v <;> simp[Instr.checkKey,kE ht]
theorem run_findKey {t:TypeId}{d:TypeDesc}{sk:SK}(ht:P.underlying t=some d)(h:mD d=some sk){k:Value}{es:List MapEntry}{r:Option (Nat×Value)}(hf:lU sk k es 0=some r):
 (Instr.findKey t k es).run P w=.ok r w:=by
 simp[Instr.findKey,kE ht,HH h,hf]
theorem Rw {t:TypeId}{sk:SK}(h:(P.underlying t).bind mD=some sk):∃d,P.underlying t=some d/\mD d=some sk:=Qr.1 h
theorem pg(n:Nat)(z:Array Value):(kq n z.toList).toArray=(Array.range (n*z.size)).map (z[·% z.size]!):=by
 apply vC.1;simp only[kq,vD,Array.toList_range,Array.length_toList];apply Q6;intro a _;rw[getElem!_def,getElem!_def];simp
theorem y9(n:Nat)(z:Array Value):(kq n z.toList).toArray=Builtin.zeroCells z n:=by
 rw[pg];rfl
theorem dK {x:Value}{es:Array MapEntry}{c:Nat}(h:(wM x).run P w=.ok (es,c) w'):
 w'=w/\((x=.map none/\es=#[]/\c=0)∨∃r,x=.map (some r)/\(getObj r).run P w=.ok (.map es c) w):=by
 unfold wM at h;split at h
 ·simp at h;obtain⟨⟨rfl,rfl⟩,rfl⟩:=h;exact⟨rfl,.inl ⟨rfl,rfl,rfl⟩⟩
 ·rename_i r;simp only[Sem.run_bind]at h;have hw:∀o w1,(getObj r).run P w=.ok o w1->w1=w:=by
   intro o w1 h;simp only[getObj,Sem.run]at h;split at h <;> first|(cases h;done)|(cases h;rfl)
  cases hg:(getObj r).run P w with
  |halt x w1=>rw[hg]at h;simp at h
  |ok o w1=>
   rw[hg]at h;obtain rfl:=hw _ _ hg;simp only[Result.andThen_ok]at h;cases o <;> simp at h;obtain⟨⟨rfl,rfl⟩,rfl⟩:=h;exact⟨rfl,.inr ⟨r,rfl,hg⟩⟩
 ·simp at h
theorem kw {α β:Type}{x:Result α}{f:α->World->Result β}{b:β}{w2:World}(h:x.andThen f=.ok b w2):∃a w1,x=.ok a w1/\f a w1=.ok b w2:=by
 cases x with
 |ok a w1=>exact⟨a,w1,rfl,h⟩
 |halt h w1=>simp at h
theorem kf {α β γ:Type}(x:Result α)(f:α->World->Result β)(g:β->World->Result γ):(x.andThen f).andThen g=x.andThen fun a w=>(f a w).andThen g:=by
 cases x <;> rfl
theorem W0 {t kt e:TypeId}{sk:SK}{d:TypeDesc}{m k v:Operand}
 (hu:P.underlying t=some (.map kt e)) (hd:P.underlying kt=some d) (EW:mD d=some sk) (hr:(match ρ m with
 |.map (some r)=>do
  let(es,clock) <- wM (.map (some r))
  match lU sk (ρ k) es.toList 0 with
  |some (some (i,_))=>do
   let key <- Instr.keyThatStays (((es[i]?).map (·.key)).getD (ρ k)) (ρ k)
   setObj r (.map (es.modify i fun e=>{e with key,val:=ρ v}) clock);pure .skip
  |some none=>do setObj r (.map (es.push {key:=ρ k,val:=ρ v,born:=clock}) (clock+1));pure .skip
  | none => stuck "key"
 | _ => stuck "map" : Sem Next).run P w = .ok n w') : (do Instr.mapUpdate t (ρ m) (ρ k) (ρ v); pure .skip : Sem Next).run P w = .ok n w' := by
 split at hr
 case h_2=>simp at hr
 rename_i q hx;simp only[Sem.run_bind]at hr;obtain⟨⟨es,c⟩,w1,h1,h2⟩:=kw hr;obtain⟨rfl,JN⟩:=dK h1;simp at JN;simp only at h2;split at h2
 ·rename_i i v' hf;exact zDB
 ·rename_i hf;exact zDB
 ·simp at h2
set_option maxHeartbeats 1000000 in
theorem sg {o:Oper}(aK:∀u,ρ (.const u)=u)(hl:kz P o.op=some r)(hs:wI ρ r=some s)(hr:s.run P w=.ok n w'):(execOp ρ o).run P w=.ok n w':=by
 obtain⟨dst,op,type,pos,after,guard⟩:=o;simp only at hl;cases op
 case load t x=>
  simp only[kz]at hl;split at hl <;> cases hl
  ·exact zDE
  ·exact zDE
  ·rename_i d j h1 h2 hu hj;simp only[wI,Qy]at hs;subst hs;have ha:∀w,(isAgg t).run P w=.ok false w:=by intro w;rw[dD hu];cases d <;> simp_all
   simpa[execOp,Instr.loadAt,loadVar,ha]using hr
 case store t x v=>
  simp only[kz,Qu]at hl;obtain⟨i,hi,rfl⟩:=hl;simp only[wI,Qy]at hs;subst hs;simp only[Sem.run_bind]at hr;obtain⟨a,w1,h1,h2⟩:=kw hr;split at h2
  ·rename_i hz;simp only[execOp,Instr.storeAt,storeVar,Sem.run_bind,h1,Result.andThen_ok,kZ hi,hz];simpa[hz]using h2
  ·simp at h2
 case alloc t=>
  simp only[kz,Qu]at hl;obtain⟨z,hz,rfl⟩:=hl;obtain⟨i,u,hi,hu,rfl⟩:=gg hz;simp only[wI,Qy]at hs;subst hs;simpa[execOp,Instr.alloc,kb hi hu,newVar,newRow]using hr
 case box t x=>
  simp only[kz,Qy]at hl;subst hl;simp only[wI,Qy]at hs;subst hs;simpa[execOp,Instr.box,newVar,newRow]using hr
 case buildSlice t len parts=>
  simp only[kz]at hl;split at hl <;> try (cases hl;done)
  rename_i e hu;split at hl <;> try (cases hl;done)
  rename_i i z hi hz;split at hl <;> try (cases hl;done)
  rename_i hle;obtain⟨h24,hzl⟩:=hle;simp only[Qu]at hl;obtain⟨l,ZB,rfl⟩:=hl;obtain⟨i',u,cj,og,rfl⟩:=gg hz;rw[hi]at cj;cases cj;simp only[wI,Qy]at hs;subst hs;split at hr
  case h_2=>simp at hr
  rename_i out ho;have lY:=yn (ρ:=ρ) (fun j=>some (j*i.size,i.size)) parts.toList l _ out ZB ho;have xE:(parts.map fun p=>(p.1,ρ p.2)).toList=parts.toList.map fun p=>(p.1,ρ p.2):=by simp
  have eu:u.cells.size=i.size:=by simpa using hzl
  rw[pg,eu]at lY;have hb:(Instr.buildSlice t len (parts.map fun p=>(p.1,ρ p.2))).run P w=((newObj (.cells out.toArray e)).run P w).andThen fun b w=>.ok (.slice (some ⟨b,0,none⟩) len len) w:=by
   simp only[Instr.buildSlice,Sem.run_bind,kE hu,Result.andThen_ok,kZ hi,show ¬(len*i.size > 2 ^ 24) by omega,if_false,xE];by_cases h0:len*i.size=0
   ·have e1:(Array.range (len*i.size)).map (u.cells[·% i.size]!)=(Array.range (len*i.size)).map ((#[]:Array Value)[·% (#[]:Array Value).size]!):=by rw[h0];simp
    rw[e1]at lY;simp only[if_pos h0,Sem.run_bind,Sem.run_pure,Result.andThen_ok];rw[lY];simp[newRow]
   ·rw[<- eu]at lY;simp only[if_neg h0,Sem.run_bind,kb hi og,Sem.run_pure,Result.andThen_ok];rw[<- eu,lY];simp[newRow]
  simp only[execOp,Sem.run_bind,hb];simpa[kf]using hr
 case makeMap t h=>
  simp only[kz]at hl;split at hl <;> try (cases hl;done)
  rename_i k e hu;split at hl <;> cases hl
  ·simp only[wI,Qy]at hs;subst hs;simpa[execOp,Instr.makeMap,kf]using hr
  ·simp only[wI,Qy]at hs;subst hs;simpa[execOp,Instr.makeMap,kf,kE hu,aK,asInt,asIntOf]using hr
 case makeSlice t l c=>
  simp only[kz]at hl;split at hl <;> try (cases hl;done)
  rename_i e hu;split at hl <;> cases hl;rename_i i z hi hz;obtain⟨i',u,cj,og,rfl⟩:=gg hz;rw[hi]at cj;cases cj;simp only[wI,Qy]at hs;subst hs;split at hr
  case h_2=>simp at hr
  rename_i kl l' kc c' tM KU;split at hr
  case isFalse=>simp at hr
  rename_i hb;obtain⟨b1,b2,b3,b4⟩:=hb;split at hr
  case isFalse=>simp at hr
  rename_i hzl;have wl:IntKind.i64.wrap l'=l':=by
   exact zDX
  have wc:IntKind.i64.wrap c'=c':=by
   exact zDX
  have eo:((decide (c' < 0)||decide ((i.bytes:Int)*c' > 2 ^ 48))||decide (l' < 0)||decide (l' > c'))=false:=by
   simp;omega
  have eu:u.cells.size=i.size:=by simpa using hzl
  have hm:(Instr.makeSlice t (ρ l) (ρ c)).run P w=((newObj (.cells (kq c'.toNat u.cells.toList).toArray e)).run P w).andThen fun b w=>.ok (.slice (some ⟨b,0,none⟩) l'.toNat c'.toNat) w:=by
   simp only[Instr.makeSlice,Sem.run_bind,kE hu,Result.andThen_ok,tM,KU,asInt,asIntOf,Sem.run_pure,wL hi,wl,wc,eo,vK,if_false,run_askRoom,kZ hi];rw[pg,eu];by_cases h0:c'.toNat*i.size=0
   ·simp only[if_pos h0,Sem.run_bind,Sem.run_pure,Result.andThen_ok];have e0:Array.range (c'.toNat*i.size)=#[]:=by rw[h0];rfl
    simp only[e0];simp[newRow]
   ·simp only[if_neg h0,Sem.run_bind,kb hi og,Sem.run_pure,Result.andThen_ok];simp[newRow,eu]
  simp only[execOp,Sem.run_bind,hm];simpa[kf]using hr
 case lookup t m k ok=>
  simp only[kz]at hl;split at hl <;> try (cases hl;done)
  rename_i kt e hu;split at hl <;> cases hl
  case h_2=>
   exact zBK
  rename_i sk z E7 hz;obtain⟨d,hd,EW⟩:=Rw E7;obtain⟨i,hi,hiz⟩:=Qr.1 hz;simp only[wI,Qy]at hs;subst hs;simp only[Sem.run_bind]at hr;obtain⟨⟨es,c⟩,w1,h1,h2⟩:=kw hr;obtain⟨rfl,hx⟩:=dK h1;simp only at h2;split at h2
  case h_2=>simp at h2
  rename_i r hf;have hl:(Instr.lookup t (ρ m) (ρ k) ok).run P w1=.ok (ug ok z r) w1:=by
   rcases hx with⟨hx,rfl,rfl⟩|⟨q,hx,hq⟩
   ·rw[hx];simp only[Instr.lookup,Sem.run_bind,kE hu,Result.andThen_ok,Sem.run_pure,yB hd EW,run_findKey hd EW hf];exact zE6
   ·rw[hx];simp only[Instr.lookup,Sem.run_bind,kE hu,Result.andThen_ok,Sem.run_pure,yB hd EW,hq,run_findKey hd EW hf];exact zE6
  simp only[execOp,Sem.run_bind,hl,Result.andThen_ok];exact h2
 case mapUpdate t m k v=>
  simp only[kz]at hl;split at hl <;> try (cases hl;done)
  rename_i kt e hu;split at hl <;> cases hl
  case h_2=>
   exact zBK
  exact zDU
 case insert t m k v=>
  simp only[kz]at hl;split at hl <;> try (cases hl;done)
  rename_i kt e hu;split at hl <;> cases hl
  case h_2=>
   exact zBK
  exact zDU
 case mapEntry t m k=>
  simp only[kz,Qy]at hl;subst hl;exact zBK
 case entryStore t m s v=>
  simp only[kz,Qy]at hl;subst hl;exact zBK
 case range t x=>
  simp only[kz]at hl;split at hl <;> cases hl
  ·rename_i hu;simp only[wI,Qy]at hs;subst hs;split at hr
   case h_2=>simp at hr
   rename_i s hx;simpa[execOp,Instr.range,kE hu,hx,kf]using hr
  ·rename_i k e hu;simp only[wI,Qy]at hs;subst hs;split at hr
   ·rename_i hx;simpa[execOp,Instr.range,kE hu,hx,kf]using hr
   ·rename_i q hx;simp only[Sem.run_bind]at hr;obtain⟨⟨es,c⟩,w1,h1,h2⟩:=kw hr;obtain⟨rfl,JN⟩:=dK h1;simp at JN;simpa[execOp,Instr.range,kE hu,hx,kf,JN]using h2
   ·simp at hr
 case next it s=>
  simp only[kz,Qy]at hl;subst hl;simp only[wI,Qy]at hs;subst hs;have:Instr.next (ρ it) s type=Instr.next (ρ it) s 0:=rfl;simpa[execOp,this]using hr
 case entry it=>
  simp only[kz,Qy]at hl;subst hl;exact zBK
 case convert s d x=>
  simp only[kz]at hl;split at hl <;> try (cases hl;done)
  ·cases hl;simp[wI]at hs
  ·cases hl;simp[wI]at hs
  ·rename_i e C5 hud;split at hl <;> cases hl;rename_i hue;simp only[wI,Qy]at hs;subst hs;split at hr
   case h_2=>simp at hr
   rename_i b hx;simpa[execOp,Go.convert,kE C5,kE hud,hx,kE hue]using hr
  ·rename_i e C5 hud;split at hl <;> cases hl;rename_i hue;simp only[wI,Qy]at hs;subst hs;simp only[Sem.run_bind]at hr;obtain⟨b,w1,h1,h2⟩:=kw hr;have:(Go.convert s d (ρ x)).run P w=.ok b w1:=by
    cases hx:ρ x with
    |slice a n c=>rw[hx]at h1;simpa[Go.convert,kE C5,kE hud,kE hue]using h1
    |_=>rw[hx]at h1;simp[Conv.bytesToString]at h1
   simpa[execOp,this]using h2
 case call c=>
  obtain⟨callee,args,MZ⟩:=c;obtain⟨args⟩:=args;obtain⟨MZ⟩:=MZ;simp only[kz]at hl;split at hl
  ·split at hl <;> cases hl;simp[wI]at hs
  ·cases hl;simp[wI]at hs
  ·split at hl <;> try (cases hl;done)
   rename_i x t;split at hl <;> cases hl <;> simp only[wI]at hs <;> try (cases hs;done)
   rename_i k e hu;simp only[Qy]at hs;subst hs;simp only[Sem.run_bind]at hr;obtain⟨⟨es,c⟩,w1,h1,h2⟩:=kw hr;obtain⟨rfl,hx⟩:=dK h1;rcases hx with⟨hx,rfl,rfl⟩|⟨q,hx,hq⟩
   ·simpa[execOp,resolve,invoke,Go.builtin,Builtin.len_,kE hu,hx,goInt]using h2
   ·simpa[execOp,resolve,invoke,Go.builtin,Builtin.len_,kE hu,hx,hq,goInt]using h2
  ·split at hl <;> try (cases hl;done)
   split at hl <;> cases hl <;> simp[wI]at hs
  ·split at hl <;> cases hl;simp[wI]at hs
  ·split at hl <;> cases hl;simp[wI]at hs
  ·split at hl <;> try (cases hl;done)
   rename_i sx x t xt;split at hl <;> try (cases hl;done)
   rename_i e hu;split at hl <;> try (cases hl;done)
   rename_i i z hi hz;split at hl
   case isFalse=>
    split at hl
    case isFalse=>cases hl
    rename_i hq;cases hl;obtain⟨i',u,cj,og,rfl⟩:=gg hz;rw[hi]at cj;cases cj;obtain⟨ut,xr,k,hxt,hut⟩:∃ut xr k,xt=ut::xr/\P.underlying ut=some (.int k):=by
     cases xt with
     |nil=>simp[Ig]at hq
     |cons ut xr=>
      simp only[Ig]at hq;split at hq
      ·rename_i k h;exact⟨ut,xr,k,rfl,h⟩
      ·cases hq
    subst hxt;simp only[wI,Qy]at hs;subst hs;split at hr
    case h_2=>simp at hr
    rename_i base n0 c0 k0 l N3 Ty;split at hr
    case isTrue=>simp at hr
    rename_i gp;have hb0:¬l < 0:=fun h=>gp (.inl h)
    have eC:¬(l*i.bytes > 2 ^ 48):=fun h=>gp (.inr (.inl h))
    have sR:IntKind.i64.wrap l=l:=Classical.byContradiction fun h=>gp (.inr (.inr (.inl h)))
    have eu:i.size≠0:=fun h=>gp (.inr (.inr (.inr h)))
    have Y0:∀(n:Nat) (w:World),(if n*i.size=0 then pure #[]else do pure (Builtin.zeroCells (<- zeroValue e).cells n):Sem (Array Value)).run P w=.ok (kq n u.cells.toList).toArray w:=by
     intro n w;by_cases h0:n*i.size=0
     ·obtain rfl:n=0:=by
       rcases Nat.mul_eq_zero.1 h0 with h|h
       ·exact h
       ·exact absurd h eu
      simp[kq]
     ·simp[h0,kb hi og,y9]
    have Y3:(asInt (.int k0 l)).run P w=.ok l w:=by simp[asInt,asIntOf]
    simp only[execOp,resolve,invoke,Go.builtin,Sem.run_bind,List.map_toArray,Q7,Q9,Sem.run_pure,Result.andThen_ok];simp only[Builtin.append_,Vr,Vh,Vg,Sem.run_bind,kE hu,kE hut,Result.andThen_ok,N3,Ty,Y3,Sem.run_pure,kZ hi,if_true,sR];simp only[hb0,if_false,Sem.run_bind,wL hi,Result.andThen_ok,eC,Sem.run_pure,Bool.not_true,vK];by_cases hle:n0+l.toNat<=c0
    ·simp only[hle,if_true,Sem.run_bind]at hr|-;rw[Y0];cases base <;> simpa[kf]using hr
    ·simp only[hle,if_false]at hr|-;split at hr
     case isTrue=>simp at hr
     rename_i eo;have g1:¬(Builtin.nextslicecap (n0+l.toNat) c0*i.bytes > 2 ^ 48):=fun h=>eo (.inl h)
     have g2:¬(((n0+l.toNat:Nat):Int) > IntKind.i64.max):=fun h=>eo (.inr (.inr h))
     simp only[Sem.run_bind,wL hi,Result.andThen_ok,g2,false_and,g1,if_false,run_askRoom];simp only[Sem.run_bind]at hr;rw[<- N3];simp only[Y0,Result.andThen_ok];simpa[kf,newRow,kb hi og,<- y9]using hr
   cases hl;rename_i hq;obtain⟨i',u,cj,og,rfl⟩:=gg hz;rw[hi]at cj;cases cj;obtain⟨ut,xr,hxt,hseq⟩:∃ut xr,xt=ut::xr/\((∃e',P.underlying ut=some (.slice e'))∨P.underlying ut=some .string):=by
    cases xt with
    |nil=>simp[Ol]at hq
    |cons ut xr=>
     refine⟨ut,xr,rfl,?_⟩;simp only[Ol]at hq;split at hq
     ·rename_i e' h;exact .inl ⟨e',h⟩
     ·rename_i h;exact .inr h
     ·cases hq
   subst hxt;simp only[wI,Qy]at hs;subst hs;split at hr
   case h_2=>simp at hr
   rename_i base n0 c0 m0 N3 Ty;have hlen:(Builtin.lenOf (ρ x)).run P w=.ok m0 w:=by
    cases hx:ρ x <;> rw[hx]at Ty <;> simp[dW]at Ty <;> subst Ty <;> simp[Builtin.lenOf]
   have hz:(do pure ((<- underlying ut) matches .int _):Sem Bool).run P w=.ok false w:=by
    rcases hseq with⟨e',h⟩|h <;> simp[kE h]
   have Y0:Builtin.append_ (t::ut::xr).toArray type #[ρ sx,ρ x]=Builtin.append_ (t::ut::xr).toArray type #[ρ sx,ρ x]:=rfl;simp only[execOp,resolve,invoke,Go.builtin,Sem.run_bind,List.map_toArray,Q7,Q9,Sem.run_pure,Result.andThen_ok];simp only[Builtin.append_,Vr,Vh,Vg,Sem.run_bind,kE hu,Result.andThen_ok,N3,kZ hi];simp only[Sem.run_bind,Sem.run_pure]at hz;have hfirst:∀n:Nat,(if(!false)=true then Builtin.firstCells i.size n (ρ x)else if n*i.size=0 then pure #[]else do pure (Builtin.zeroCells (<- zeroValue e).cells n):Sem (Array Value))=Builtin.firstCells i.size n (ρ x):=fun _=>rfl
   rcases hseq with⟨e',hut⟩|hut
   all_goals
    simp only[kE hut,Result.andThen_ok,Sem.run_pure,vK,if_false,Sem.run_bind,hlen];by_cases hle:n0+m0<=c0
    ·simp only[hle,if_true,Sem.run_bind]at hr|-;simp only[vN,if_true];cases base <;> simpa[kf]using hr
    ·simp only[hle,if_false]at hr|-;split at hr
     case isTrue=>simp at hr
     rename_i eo;have eC:¬(Builtin.nextslicecap (n0+m0) c0*i.bytes > 2 ^ 48):=fun h=>eo (.inl h)
     have sR:¬(i.bytes=0):=fun h=>eo (.inr h)
     simp only[Sem.run_bind,wL hi,Result.andThen_ok,false_or,sR,and_false,eC,if_false,vN,if_true,run_askRoom,kb hi og,<- y9];simp only[Sem.run_bind]at hr;rw[<- N3];simpa[kf,newRow,kb hi og,<- y9]using hr
  ·split at hl <;> try (cases hl;done)
   rename_i dx sx t xt;split at hl <;> try (cases hl;done)
   rename_i e hu;simp only[Qu]at hl;obtain⟨i,hi,rfl⟩:=hl;simp only[wI,Qy]at hs;subst hs;split at hr
   case h_2=>simp at hr
   rename_i base n0 c0 m0 hdx Ty;have hlen:(Builtin.lenOf (ρ sx)).run P w=.ok m0 w:=by
    cases hx:ρ sx <;> rw[hx]at Ty <;> simp[dW]at Ty <;> subst Ty <;> simp[Builtin.lenOf]
   simp only[execOp,resolve,invoke,Go.builtin,Sem.run_bind,List.map_toArray,Q7,Q9,Sem.run_pure,Result.andThen_ok];simp only[Builtin.copy_,Vr,Vh,Vg,Sem.run_bind,kE hu,Result.andThen_ok,hdx,kZ hi,hlen];simp only[Sem.run_bind]at hr;cases base <;> simpa[kf,goInt]using hr
  ·split at hl <;> try (cases hl;done)
   rename_i cx t;split at hl <;> try (cases hl;done)
   rename_i e hu;simp only[Qu]at hl;obtain⟨z,hz,rfl⟩:=hl;obtain⟨i',u,cj,og,rfl⟩:=gg hz;simp only[wI,Qy]at hs;subst hs;split at hr
   case h_2=>simp at hr
   rename_i base n0 c0 hcx;simp only[execOp,resolve,invoke,Go.builtin,Sem.run_bind,List.map_toArray,Q7,Q9,Sem.run_pure,Result.andThen_ok];simp only[Builtin.clear_,Vr,Vh,Sem.run_bind,kE hu,Result.andThen_ok,hcx];cases base with
   |none=>simpa using hr
   |some a=>
    cases n0 with
    |zero=>simpa[kq,storeCells]using hr
    |succ m=>simpa[kb cj og,<- y9,kf]using hr
  ·split at hl <;> try (cases hl;done)
   rename_i mx kx t xt;split at hl <;> try (cases hl;done)
   rename_i kt e hu;simp only[Qu]at hl;obtain⟨sk,E7,rfl⟩:=hl;obtain⟨d,hd,EW⟩:=Rw E7;simp only[wI,Qy]at hs;subst hs;simp only[execOp,resolve,invoke,Go.builtin,Sem.run_bind,List.map_toArray,Q7,Q9,Sem.run_pure,Result.andThen_ok];simp only[Builtin.delete_,Vr,Vh,Vg,Sem.run_bind,kE hu,Result.andThen_ok];split at hr
   ·rename_i q hx;simp only[Sem.run_bind]at hr;obtain⟨⟨es,c⟩,w1,h1,h2⟩:=kw hr;obtain⟨rfl,JN⟩:=dK h1;simp at JN;simp only at h2;split at h2
    ·rename_i j v' hf;exact zDW
    ·rename_i hf;exact zDW
    ·simp at h2
   ·rename_i hx;simp only[hx,Sem.run_bind,yB hd EW,Result.andThen_ok];simpa using hr
   ·simp at hr
  ·cases hl
 case binOp op t x y yt=>
  simp only[kz]at hl
  repeat' split at hl
  all_goals first
   |(cases hl;done)
   |(cases hl;simp[wI]at hs;done)
   |(cases hl;simp only[wI,Qy]at hs;subst hs;simpa[execOp,kf]using hr)
 all_goals (try simp only[kz]at hl)
 all_goals (repeat' split at hl)
 all_goals first
  |(cases hl;done)
  |(cases hl;simp[wI]at hs;done)
  |(simp only[Qu]at hl;obtain⟨_,_,rfl⟩:=hl;simp[wI]at hs;done)
end
section
variable {P:Program} {ρ:Operand->Value} {H:List kC} {K:Next->List kC->Prop}
theorem j7(b:Nat)(us vs:List Value):∀o,kA b o (us++vs)=kA b o us++kA b (o+us.length) vs:=by
 induction us with
 |nil=>intro o;simp[kA]
 |cons u us ih=>intro o;simp only[vj,kA,ih,Vu];congr 3;omega
theorem DP {b o:Nat}{K:Array Value->List kC->Prop}:∀(vs:List Value) (i:Nat) (acc:Array Value),(∀x∈kA b (o+i) vs,x∈H)->K (acc++vs.toArray) H->
 aG P (loadCellsFrom ⟨b,o,none⟩ i vs.length acc) H K:=by
 intro vs
 induction vs with
 |nil=>intro i acc _ h;exact aG.pure (by simpa using h)
 |cons v vs ih=>
  intro i acc hm h;simp only[Vu,loadCellsFrom,fI];refine aG.bind (aG.load (v:=v) (hm _ Ji) ?_);refine ih (i+1) (acc.push v) (fun x hx=>hm x (by simp only[kA,QC];exact .inr hx)) ?_;have:acc.push v++vs.toArray=acc++(v::vs).toArray:=by simp
  rw[this];exact h
theorem aG.loadCells {b o n:Nat}{vs:List Value}{K:Array Value->List kC->Prop}(hn:vs.length=n)(hm:∀x∈kA b o vs,x∈H)(h:K vs.toArray H):aG P (Go.loadCells ⟨b,o,none⟩ n) H K:=by
 subst hn;exact DP vs 0 #[] (by simpa using hm) (by simpa using h)
theorem AB {b o:Nat}{K:Unit->List kC->Prop}:∀(vs us:List Value) (i:Nat) (L:List kC),vs.length=us.length->(∀v∈vs,jo v=true)->
 (∀L',L'.Perm (kA b (o+i) vs++L)->K () L')->∀M:List kC,M.Perm (kA b (o+i) us++L)->aG P (storeCells ⟨b,o,none⟩ vs i) M K:=by
 intro vs
 induction vs with
 |nil=>
  intro us i L hl _ h M hM;cases us <;> simp at hl;exact aG.pure (h M (by simpa[kA]using hM))
 |cons v vs ih=>
  intro us i L hl dT h M hM;cases us with
  |nil=>simp at hl
  |cons u us=>
   simp only[storeCells,fI];refine aG.perm hM (aG.bind ?_);simp only[kA,vj];refine aG.store (dT v Zs) ?_;refine ih us (i+1) (.cell b (o+i) v::L) (by simpa using hl) (fun x hx=>dT x (by simp[hx])) (fun L' hL'=>h L' ?_) _ ?_
   ·refine hL'.trans ?_;simp only[kA,vj,Qc];exact QT
   ·simp only[Qc];exact QT.symm
theorem aG.storeCells {b o:Nat}{vs us:List Value}{R:List kC}{K:Unit->List kC->Prop}(hl:vs.length=us.length)(dT:∀v∈vs,jo v=true)
 (h:K () (kA b o vs++R)):aG P (Go.storeCells ⟨b,o,none⟩ vs) (kA b o us++R) K:=by
 have:=AB (P:=P) (b:=b) (o:=o) (K:=fun _ L=>L.Perm (kA b o vs++R)) vs us 0 R hl dT (fun L' hL'=>by simpa using hL') (kA b o us++R) Zs;intro F w hs;obtain⟨v,w',H',h1,h2,h3,h4⟩:=this F w hs;exact⟨v,w',_,h1,h,h3.perm (h2.append_right F),h4⟩
def Src(H:List kC)(size n:Nat)(vs:List Value):Value->Prop
 |.slice (some ⟨b,o,none⟩) _ _=>vs.length=n*size/\∀x∈kA b o vs,x∈H
 |.slice none _ _=>vs=[]
 |.string s=>vs=(s.data.toList.take n).map fun c=>.int .u8 c.toNat
 |_=>False
theorem aG.firstCells {size n:Nat}{x:Value}{vs:List Value}{K:Array Value->List kC->Prop}(hx:Src H size n vs x)(h:K vs.toArray H):aG P (Builtin.firstCells size n x) H K:=by
 unfold Src at hx;split at hx
 ·exact aG.loadCells hx.1 hx.2 h
 ·subst hx;exact aG.pure h
 ·rename_i s;subst hx;refine aG.pure ?_;have:(s.extract 0 n).data.map (fun b=>Value.int .u8 b.toNat)=((s.data.toList.take n).map fun c=>Value.int .u8 c.toNat).toArray:=by
   apply vC.1;simp[ByteArray.data_extract,Array.toList_extract]
  rw[this];exact h
 ·exact hx.elim
theorem Ln {n:Nat}{x v:Operand}{b o:Nat}{us:List Value}{R:List kC}(hx:ρ x=.pointer (some ⟨b,o,none⟩))(hn:(ρ v).cells.size=n)(hu:us.length=n)(dT:∀c∈(ρ v).cells.toList,jo c=true)
 (h:K .skip (kA b o (ρ v).cells.toList++R)):
 aG P (do let a ← Instr.sureAddr (ρ x); if (ρ v).cells.size = n then (do storeCells a (ρ v).cells.toList; pure .skip) else stuck "size") (kA b o us ++ R) K := by
 rw[hx];refine aG.bind (aG.pure ?_);rw[if_pos hn];exact aG.bind (aG.storeCells (by simp[hn,hu]) dT (aG.pure h))
theorem Dn {c:Array Value}{t:TypeId}{f:Nat->Next}(h:∀b,K (f b) (kA b 0 c.toList++H)):aG P (do let b <- newObj (.cells c t);pure (f b)) H K:=
 aG.bind (aG.Lv fun b=>aG.pure (h b))
theorem Iv {o:Obj}{f:Nat->Next}(ho:wm o=false)(h:∀b,K (f b) (.obj b o::H)):aG P (do let b <- newObj o;pure (f b)) H K:=
 aG.bind (aG.UD ho fun b=>aG.pure (h b))
theorem Gx {m c:Nat}{es:Array MapEntry}{α:Type}{f:Array MapEntry×Nat->Sem α}{K:α->List kC->Prop}(hm:kC.obj m (.map es c)∈H)(h:aG P (f (es,c)) H K):aG P (wM (.map (some m)) >>=f) H K:=by
 refine aG.bind ?_;unfold wM;exact aG.bind (aG.getObj hm (aG.pure h))
theorem J8(old new:Value){K:Value->List kC->Prop}(h:∀k,k=old∨k=new->K k H):aG P (Instr.keyThatStays old new) H K:=by
 unfold Instr.keyThatStays;split
 ·exact aG.pure (h _ (.inr rfl))
 ·refine aG.bind (aG.choose (fun _=>aG.pure ?_) (fun n=>aG.pure ?_))
  ·exact h _ (.inr rfl)
  ·split
   ·exact h _ (.inr rfl)
   ·exact h _ (.inl rfl)
end
structure RO where
 dst:Option Nat
 guard:Option (Nat×Bool)
 op:R
def dZ(P:Program)(n:Nat)(ops:Array Oper)(o:Oper):Option RO:=
 match kz P o.op with
 |none=>none
 |some r=>
  if o.dst.all (·< n)then
   match o.guard with
   |none=>some ⟨o.dst,none,r⟩
   |some (j,b)=>match(ops[j]?).bind (·.dst)with
    |some s=>some ⟨o.dst,some (s,b),r⟩
    |none=>none
  else none
def jF:R->Bool
 |.pS .. |.lx .. |.OS .. |.lookup .. |.entry .. |.b2s .. |.Sj .. |.Fj .. =>true
 |_=>false
def mf:R->Bool
 |.alloc .. |.box .. |.lN .. |.oi|.s2b .. =>true
 |.append _ _ _ _ (.const (.slice none 0 0)) _=>true
 |_=>false
def Ext(w w':World):Prop:=∀(i:Nat) (o:Obj),w.heap[i]? =some o->w'.heap[i]? =some o
theorem Ext.refl(w:World):Ext w w:=fun _ _ h=>h
theorem Ext.trans {a b c:World}(h:Ext a b)(k:Ext b c):Ext a c:=fun i o e=>k i o (h i o e)
theorem Sat.ext {w w':World}{L:List kC}(h:Sat w L)(e:Ext w w'):Sat w' L:=⟨fun x hx=>by
 have:=h.holds x hx;cases x with
 |cell b off v=>obtain⟨c,t,lo,hi,h1,h2⟩:=this;exact⟨c,t,lo,hi,e _ _ h1,h2⟩
 |obj b o=>exact⟨e _ _ this.1,this.2⟩
 |row b n=>obtain⟨c,t,lo,hi,h1,h2⟩:=this;exact⟨c,t,lo,hi,e _ _ h1,h2⟩
 |own b n=>obtain⟨c,t,lo,hi,h1,h2⟩:=this;exact⟨c,t,lo,hi,e _ _ h1,h2⟩,h.nodup⟩
def kd:R->Bool
 |.mv .. |.pick .. |.bin .. |.eqb .. |.A4 .. |.AZ .. |.un .. |.conv .. |.cvs .. |.Fo .. |.Ab .. |.ext .. |.build .. |.sZ .. |.YT .. |.HI .. |.Lb .. |.H8 .. |.tT .. |.H9 .. |.IY ..
 |.qI .. |.IX .. |.Dc .. |.Ii .. |.cap .. |.min2 .. |.max2 .. |.fX .. =>true
 |_=>false
def jC(g:Option (Nat×Bool))(a:Act):Bool:=
 match g with
 |none=>true
 |some (s,b)=>match a.tmps[s]? with|some (.bool c)=>c==b|_=>false
def wP:Exit->Act->World->Prop:=fun _ _ _=>False
abbrev yZ (ρ:Option Nat):Fence:={fn:=fun _=>True,depth:=none,alive:=false,round:=ρ}
def jl(P:Program)(o:Oper)(a:Act)(next:Act->World->Prop)(Z:Exit->Act->World->Prop):Result Next->Prop
 |.ok (.value v) w'=>next (a.put o.dst v) w'
 |.ok .skip w'=>next (a.put o.dst undef) w'
 |.ok (.enter f args) w'=>Calls P f args w' fun
   |.returned v,om=>next (a.put o.dst v) om
   |.panicked chain,om=>Z (.panic chain) a om
   |.outgrown,_=>False
 |.ok (.round l f tmps assign body) w'=>RoundIn Fence.wide 0 P l f tmps assign body w' fun
   |.returned v,om=>next (a.put o.dst v) om
   |.panicked chain,om=>Z (.panic chain) a om
   |.outgrown,_=>False
 |.halt (.panic v) w'=>Z (.panic [{v,recovered:=false}]) a w'
 |_=>False
def yW(P:Program)(o:Oper)(a:Act)(w:World)(next:Act->World->Prop)(Z:Exit->Act->World->Prop):Prop:=jl P o a next Z ((execOp a.eval o).run P w)
theorem AR {P:Program}{ρ:Option Nat}{n:Nat}{f:FuncId}{args:Array Value}{w:World}{R:Ending->World->Prop}(h:Calls P f args w R):CallsIn (yZ ρ) n P f args w R:=
 ⟨trivial,fun cs _=>let⟨e,w',fr,r,s,x⟩:=h cs;⟨e,w',fr,r,comesIn_wide.2 s,x⟩⟩
theorem RW {P:Program}{ρ:Option Nat}{o:Oper}{a:Act}{next:Act->World->Prop}{Z:Exit->Act->World->Prop}{r:Result Next}(h:jl P o a next Z r):o.uponIn (yZ ρ) 0 P a next Z r:=by
 cases r with
 |ok n w'=>
  cases n <;> simp only[jl]at h <;> simp only[Oper.uponIn] <;> first
   |exact h
   |exact h.elim
   |exact⟨fun h=>by simp at h,AR (Calls.mono h (fun e om he=>by cases e <;> first|exact he|exact he.elim))⟩
   |exact⟨fun h=>by simp at h,RoundIn.mono h (fun e om he=>by cases e <;> first|exact he|exact he.elim)⟩
 |halt x w'=>cases x <;> simp only[jl]at h <;> simp only[Oper.uponIn] <;> exact h
def wpA(P:Program)(Z:Exit->Act->World->Prop)(x:RO×Oper)(next:Act->World->Prop)(a:Act)(w:World):Prop:=
 (mf x.1.op=true->∃u w',(execOp a.eval x.2).run P w=.ok (.value u) w'/\Ext w w')/\yW P x.2 a w next Z
def ju(P:Program)(Z:Exit->Act->World->Prop)(x:RO×Oper)(next:Act->World->Prop)(a:Act)(w:World):Prop:=
 if jC x.1.guard a then
  if kd x.1.op then ∃v,kT a.eval x.1.op=some v/\next (a.put x.1.dst v) w
  else if jF x.1.op then ∃s v,wI a.eval x.1.op=some s/\(∀w',Ext w w'->s.run P w'=.ok (.value v) w')/\next (a.put x.1.dst v) w
  else wpA P Z x next a w
 else next (a.put x.1.dst undef) w
def cp(P:Program)(Z:Exit->Act->World->Prop)(Q:Act->World->Prop):List (RO×Oper)->Act->World->Prop
 |[],a,w=>Q a w
 |x::rest,a,w=>ju P Z x (cp P Z Q rest) a w
section
variable {P:Program} {Z:Exit->Act->World->Prop} {Q Q':Act->World->Prop} {a:Act} {w:World}
theorem yR {o:Oper}{K K':Act->World->Prop}(h:∀a w,K a w->K' a w)(hh:yW P o a w K Z):yW P o a w K' Z:=by
 unfold yW at*;generalize (execOp a.eval o).run P w=r at*;cases r with
 |ok n w'=>
  cases n <;> simp only[jl]at hh|- <;> first
   |exact h _ _ hh
   |exact Calls.mono hh (fun e om he=>by cases e <;> first|exact h _ _ he|exact he)
   |exact RoundIn.mono hh (fun e om he=>by cases e <;> first|exact h _ _ he|exact he)
 |halt x w'=>cases x <;> simp only[jl]at hh|- <;> exact hh
theorem eL {x:RO×Oper}(h:∀a w,Q a w->Q' a w)(hh:ju P Z x Q a w):ju P Z x Q' a w:=by
 unfold ju at*;split
 ·rename_i h1;rw[if_pos h1]at hh;split
  ·rename_i h2;rw[if_pos h2]at hh;obtain⟨v,e,hv⟩:=hh;exact⟨v,e,h _ _ hv⟩
  ·rename_i h2;rw[if_neg h2]at hh;split
   ·rename_i h3;rw[if_pos h3]at hh;obtain⟨s,v,e,e',hv⟩:=hh;exact⟨s,v,e,e',h _ _ hv⟩
   ·rename_i h3;rw[if_neg h3]at hh;exact⟨hh.1,yR h hh.2⟩
 ·rename_i h1;rw[if_neg h1]at hh;exact h _ _ hh
theorem GO {l:List (RO×Oper)}(h:∀a w,Q a w->Q' a w):∀{a w},cp P Z Q l a w->cp P Z Q' l a w:=by
 induction l with
 |nil=>intro a w hh;exact h _ _ hh
 |cons x l ih=>intro a w hh;exact eL (fun a w h=>ih h) hh
theorem Ml {o:Oper}{K:Act->World->Prop}(hh:yW P o a w K wP):yW P o a w K Z:=by
 unfold yW at*;generalize (execOp a.eval o).run P w=r at*;cases r with
 |ok n w'=>
  cases n <;> simp only[jl]at hh|- <;> first
   |exact hh
   |exact Calls.mono hh (fun e om he=>by cases e <;> first|exact he|exact he.elim)
   |exact RoundIn.mono hh (fun e om he=>by cases e <;> first|exact he|exact he.elim)
 |halt x w'=>cases x <;> simp only[jl]at hh|- <;> exact hh.elim
theorem Cq {l:List (RO×Oper)}:∀{a w},cp P wP Q l a w->cp P Z Q l a w:=by
 induction l with
 |nil=>intro a w hh;exact hh
 |cons x l ih=>
  intro a w hh;have h1:ju P wP x (cp P Z Q l) a w:=eL (fun a w h=>ih h) hh;show ju P Z x (cp P Z Q l) a w;unfold ju at*;split
  ·rename_i h2;rw[if_pos h2]at h1;split
   ·rename_i h3;rw[if_pos h3]at h1;exact h1
   ·rename_i h3;rw[if_neg h3]at h1;split
    ·rename_i h4;rw[if_pos h4]at h1;exact h1
    ·rename_i h4;rw[if_neg h4]at h1;exact⟨h1.1,Ml h1.2⟩
  ·rename_i h2;rw[if_neg h2]at h1;exact h1
theorem jI {n:Nat}{ops:Array Oper}{o:Oper}{r:RO}(h:dZ P n ops o=some r):kz P o.op=some r.op/\r.dst=o.dst/\(∀d,r.dst=some d->d < n)/\
 ∀a:Act,Region.wanted o (yielded ops a.tmps)=jC r.guard a:=by
 unfold dZ at h;split at h
 ·cases h
 ·rename_i r' hr;split at h
  case isFalse=>cases h
  rename_i hd;have Xq:∀d,o.dst=some d->d < n:=by intro d e;rw[e]at hd;simpa using hd
  split at h
  ·rename_i hg;cases h;exact⟨hr,rfl,Xq,fun a=>by simp[Region.wanted,hg,jC]⟩
  ·rename_i j b hg;split at h
   case h_2=>cases h
   rename_i s hs;cases h;refine⟨hr,rfl,Xq,fun a=>?_⟩;simp only[Region.wanted,hg,yielded,hs,Option.bind_some,jC];cases a.tmps[s]? with
   |none=>simp
   |some v=>cases v <;> simp
theorem zu(a:Act)(u:Value):a.eval (.const u)=u:=rfl
theorem il {ρ:Option Nat}{n:Nat}{ops:Array Oper}{X:Nat->RO×Oper}{QQ:Exit->Act->World->Prop}(hX:∀i,i < ops.size->ops[i]? =some (X i).2/\dZ P n ops (X i).2=some (X i).1):
 ∀(l:List Nat) (a:Act) (w:World),(∀i∈l,i < ops.size)->cp P QQ (QQ .normal) (l.map X) a w->wpOpsIn (yZ ρ) 0 P ops QQ l a w:=by
 intro l
 induction l with
 |nil=>intro a w _ h;exact h
 |cons i l ih=>
  intro a w hl h;obtain⟨h1,h2⟩:=hX i (hl i Zs);obtain⟨g1,g2,g3,g4⟩:=jI h2;have SD:=fun a w=>ih a w (fun j hj=>hl j (by simp[hj]))
  have nd:∀c,(X i).2.op≠.defer c:=fun c e=>by rw[e]at g1;simp[kz]at g1
  simp only[Q7,cp,ju]at h;simp only[wpOpsIn,h1,g4 a];split
  ·rename_i hw;rw[if_pos hw]at h;refine⟨fun _ _=>trivial,?_⟩;rw[Oper.semAt_plain _ _ _ nd];refine RW ?_;split at h
   ·obtain⟨v,hv,hn⟩:=h;simp only[oW (w:=w) (zu a) g1 hv,jl,<- g2];exact SD _ _ hn
   ·split at h
    ·obtain⟨s,v,hs,hr,hn⟩:=h;simp only[sg (zu a) g1 hs (hr w (.refl w)),jl,<- g2];exact SD _ _ hn
    ·exact yR SD h.2
  ·rename_i hw;rw[if_neg hw]at h;refine⟨fun _ _=>trivial,?_⟩;rw[<- g2];exact SD _ _ h
end
def cE(g:Option (Nat×Bool)):List Nat:=match g with|some (s,_)=>[s]|none=>[]
def nV(x:Option Operand):List Operand:=x.toList
def iN:R->List Operand
 |.mv x|.un _ x|.conv _ x|.cvs x|.Fo _ x|.ext x _|.sZ x|.YT _ x|.HI _ _ _ x|.Dc x|.Ii x|.cap x|.fX _ _ _ x|.A4 _ _ x|.pS x|.lx _ x|.OS x|.entry x|.b2s x=>[x]
 |.pick c a b=>[c,a,b]
 |.bin _ x y|.eqb _ x y|.AZ _ _ x y|.Lb _ _ x y|.H8 _ x y|.tT x y|.H9 _ _ _ x y|.min2 x y|.max2 x y|.lookup _ _ _ x y|.Sj _ _ x y|.Fj _ _ x y=>[x,y]
 |.Ab _ f c=>f++c
 |.build _ ps=>ps.map (·.2.2)
 |.IY x lo hi=>x::(nV lo++nV hi)
 |.qI _ x lo hi mx=>x::(nV lo++nV hi++nV mx)
 |.IX _ _ x lo hi=>x::(nV lo++nV hi)
 |_=>[]
def cO(l:List Operand):List Nat:=l.filterMap fun|.tmp t=>some t|_=>none
def looks(x:RO×Oper):List Nat:=cE x.1.guard++(if kd x.1.op||jF x.1.op then cO (iN x.1.op)else cO x.2.op.operands.toList)
def rB(x y:RO×Oper):Bool:=match x.1.dst with|some d=>!(looks y).contains d&&y.1.dst !=some d|none=>true
def indep(x y:RO×Oper):Bool:=rB x y&&rB y x&&(kd x.1.op||kd y.1.op||(jF x.1.op&&jF y.1.op)||(mf x.1.op&&jF y.1.op))
theorem gX {ρ W9:Operand->Value}{o:Option Operand}(h:∀x∈nV o,ρ x=W9 x):o.map ρ=o.map W9:=by
 cases o with
 |none=>rfl
 |some x=>simp[h x (by simp[nV])]
theorem fT {ρ W9:Operand->Value}{r:R}(hp:kd r=true)(h:∀x∈iN r,ρ x=W9 x):kT ρ r=kT W9 r:=by
 cases r <;> simp only[kd]at hp <;> first|(cases hp;done)|skip
 case Ab f first c=>
  simp only[iN,QA]at h;simp only[kT];rw[Q6 (fun x hx=>h x (.inl hx)),Q6 (fun x hx=>h x (.inr hx))]
 case build z ps=>
  simp only[iN,QH]at h;simp only[kT];have:jU ρ ps=jU W9 ps:=by
   simp only[jU];refine Q6 (fun p hp=>?_);obtain⟨a,b,c⟩:=p;simp[h c ⟨_,hp,rfl⟩]
  rw[this]
 case IY x lo hi=>
  exact zD0
 case qI z x lo hi mx=>
  simp only[iN,QC,QA]at h;simp only[kT,h x (.inl rfl),gX (fun y hy=>h y (.inr (.inl (.inl hy)))),gX (fun y hy=>h y (.inr (.inl (.inr hy)))),gX (fun y hy=>h y (.inr (.inr hy)))]
 case IX n z x lo hi=>
  exact zD0
 case un op x=>cases op <;> simp only[iN,QK,forall_eq]at h <;> simp only[kT,h]
 all_goals (simp only[iN,QC,List.not_mem_nil,or_false,forall_eq_or_imp,forall_eq]at h;simp only[kT,h])
theorem It {ρ W9:Operand->Value}{r:R}(hp:jF r=true)(h:∀x∈iN r,ρ x=W9 x):wI ρ r=wI W9 r:=by
 cases r <;> simp only[jF]at hp <;> first|(cases hp;done)|skip
 all_goals (simp only[iN,QC,List.not_mem_nil,or_false,forall_eq_or_imp,forall_eq]at h;simp only[wI,h])
section
variable {P:Program}
theorem lS {a:Act}{d:Option Nat}{v:Value}{l:List Operand}(h:∀t,d=some t->t∉cO l){x:Operand}(hx:x∈l):(a.put d v).eval x=a.eval x:=by
 refine Act.eval_put (fun t e hxt=>?_);subst hxt;exact h t e (by simp only[cO,List.mem_filterMap];exact⟨_,hx,rfl⟩)
theorem di {a:Act}{d:Option Nat}{v:Value}{g:Option (Nat×Bool)}(h:∀t,d=some t->t∉cE g):jC g (a.put d v)=jC g a:=by
 cases g with
 |none=>rfl
 |some p=>
  obtain⟨s,b⟩:=p;cases d with
  |none=>rfl
  |some t=>
   have ck:t≠s:=fun e=>h t rfl (by simp[cE,e])
   simp[jC,Act.put,vA ck]
def Yv(P:Program)(x:RO×Oper)(a:Act)(w:World)(v:Value):Prop:=
 if jC x.1.guard a then
  if kd x.1.op then kT a.eval x.1.op=some v else ∃s,wI a.eval x.1.op=some s/\∀w',Ext w w'->s.run P w'=.ok (.value v) w'
 else v=undef
theorem wD {Z:Exit->Act->World->Prop}{x:RO×Oper}(hq:(kd x.1.op||jF x.1.op)=true){K:Act->World->Prop}{a:Act}{w:World}:ju P Z x K a w↔∃v,Yv P x a w v/\K (a.put x.1.dst v) w:=by
 unfold ju Yv;split
 ·split
  ·exact Iff.rfl
  ·rename_i hp;have hr:jF x.1.op=true:=by simpa[hp]using hq
   rw[if_pos hr];constructor
   ·rintro⟨s,v,h1,h2,h3⟩;exact⟨v,⟨s,h1,h2⟩,h3⟩
   ·rintro⟨v,⟨s,h1,h2⟩,h3⟩;exact⟨s,v,h1,h2,h3⟩
 ·constructor
  ·intro h;exact⟨_,rfl,h⟩
  ·rintro⟨v,rfl,h⟩;exact h
theorem zJ {x:RO×Oper}{t:Nat}(h:t∉looks x):t∉cE x.1.guard/\((kd x.1.op||jF x.1.op)=true->t∉cO (iN x.1.op))/\((kd x.1.op||jF x.1.op)=false->t∉cO x.2.op.operands.toList):=by
 simp only[looks,QA,not_or]at h;refine⟨h.1,fun e=>?_,fun e=>?_⟩
 ·rw[if_pos e]at h;exact h.2
 ·rw[if_neg (by simp[e])]at h;exact h.2
theorem ox {x:RO×Oper}(hq:(kd x.1.op||jF x.1.op)=true){d:Option Nat}(hd:∀t,d=some t->t∉looks x){a:Act}{w:World}{u v:Value}:Yv P x (a.put d u) w v↔Yv P x a w v:=by
 unfold Yv;rw[di (fun t e=>(zJ (hd t e)).1)];have he:∀y∈iN x.1.op,(a.put d u).eval y=a.eval y:=fun y hy=>lS (fun t e=>(zJ (hd t e)).2.1 hq) hy
 split
 ·split
  ·rename_i hp;rw[fT hp he]
  ·rename_i hp;have hr:jF x.1.op=true:=by simpa[hp]using hq
   rw[It hr he]
 ·exact Iff.rfl
theorem Jh {x:RO×Oper}(hp:kd x.1.op=true){a:Act}{w w':World}{v:Value}:Yv P x a w v↔Yv P x a w' v:=by
 unfold Yv;simp[hp]
theorem Yl {x:RO×Oper}{a:Act}{w w':World}{v:Value}(h:Yv P x a w v)(e:Ext w w'):Yv P x a w' v:=by
 unfold Yv at*;split at h
 ·rename_i hw;rw[if_pos hw];split at h
  ·rename_i hp;rw[if_pos hp];exact h
  ·rename_i hp;rw[if_neg hp];obtain⟨s,h1,h2⟩:=h;exact⟨s,h1,fun w2 e2=>h2 w2 (e.trans e2)⟩
 ·rename_i hw;rw[if_neg hw];exact h
theorem Ym {x:RO×Oper}{a:Act}{w:World}{u v:Value}(h:Yv P x a w u)(k:Yv P x a w v):u=v:=by
 unfold Yv at*;split at h
 ·rename_i hw;rw[if_pos hw]at k;split at h
  ·rename_i hp;rw[if_pos hp]at k;rw[h]at k;cases k;rfl
  ·rename_i hp;rw[if_neg hp]at k;obtain⟨s,h1,h2⟩:=h;obtain⟨s',k1,k2⟩:=k;rw[h1]at k1;cases k1;have h3:=h2 w (.refl w);rw[k2 w (.refl w)]at h3;cases h3;rfl
 ·rename_i hw;rw[if_neg hw]at k;rw[h,k]
end
section
variable {P:Program}
theorem RX {o:Oper}{a:Act}{d:Nat}{u:Value}(hd:o.dst≠some d){K:Act->World->Prop}{r:Result Next}
 (h:jl P o a (fun a' w'=>K (a'.put (some d) u) w') wP r):jl P o (a.put (some d) u) K wP r:=by
 have hc:∀v,(a.put o.dst v).put (some d) u=(a.put (some d) u).put o.dst v:=fun v=>Act.put_comm a v u (fun e h1 h2=>hd (by rw[h1,<- h2]))
 cases r with
 |ok n w'=>
  cases n <;> simp only[jl]at h|-
  case value v=>rw[<- hc];exact h
  case skip=>rw[<- hc];exact h
  case enter f args=>exact Calls.mono h (fun e om he=>by cases e <;> first|(simp only at he|-;rw[<- hc];exact he)|exact he)
  case round l f tmps assign body=>exact RoundIn.mono h (fun e om he=>by cases e <;> first|(simp only at he|-;rw[<- hc];exact he)|exact he)
 |halt x w'=>cases x <;> simp only[jl]at h|- <;> exact h
theorem Mb {o:Oper}{a:Act}{d:Nat}{u:Value}(hd:o.dst≠some d){K:Act->World->Prop}{r:Result Next}
 (h:jl P o (a.put (some d) u) K wP r):jl P o a (fun a' w'=>K (a'.put (some d) u) w') wP r:=by
 have hc:∀v,(a.put o.dst v).put (some d) u=(a.put (some d) u).put o.dst v:=fun v=>Act.put_comm a v u (fun e h1 h2=>hd (by rw[h1,<- h2]))
 cases r with
 |ok n w'=>
  cases n <;> simp only[jl]at h|-
  case value v=>rw[hc];exact h
  case skip=>rw[hc];exact h
  case enter f args=>exact Calls.mono h (fun e om he=>by cases e <;> first|(simp only at he|-;rw[hc];exact he)|exact he)
  case round l f tmps assign body=>exact RoundIn.mono h (fun e om he=>by cases e <;> first|(simp only at he|-;rw[hc];exact he)|exact he)
 |halt x w'=>cases x <;> simp only[jl]at h|- <;> exact h
theorem GI {o:Oper}{a:Act}{K:Act->World->Prop}{r:Result Next}(h:jl P o a K wP r):∃ds v w',K ({a with defers:=ds}.put o.dst v) w':=by
 cases r with
 |ok n w'=>
  cases n <;> simp only[jl]at h
  case value v=>exact⟨a.defers,v,w',h⟩
  case skip=>exact⟨a.defers,undef,w',h⟩
  case enter f args=>
   obtain⟨e,w1,fr,hR,_⟩:=h [];exact zE2
  case round l f tmps assign body=>
   obtain⟨e,w1,hR,_⟩:=h.2 default [] (room_wide _);exact zE2
 |halt x w'=>cases x <;> simp only[jl]at h <;> exact h.elim
theorem EH(a:Act)(ds:List Deferred):({a with defers:=ds}:Act).eval=a.eval:=by funext x;cases x <;> rfl
theorem rq {x:RO×Oper}{a:Act}{ds:List Deferred}{w:World}{v:Value}:Yv P x {a with defers:=ds} w v↔Yv P x a w v:=by
 unfold Yv;rw[EH];have:jC x.1.guard {a with defers:=ds}=jC x.1.guard a:=by cases x.1.guard <;> rfl
 rw[this]
structure Good (P:Program)(n:Nat)(ops:Array Oper)(x:RO×Oper):Prop where
 low:dZ P n ops x.2=some x.1
 aP:∀cs b,x.2.op≠.select cs b
theorem Dk {op:Op}{r:R}(h:kz P op=some r)(cs:Array SelectCase)(b:Bool):op≠.select cs b:=by
 rintro rfl;simp[kz]at h
theorem Good.O7 {n:Nat}{ops:Array Oper}{x:RO×Oper}(h:dZ P n ops x.2=some x.1):Good P n ops x:=⟨h,Dk (jI h).1⟩
theorem zN {x y:RO×Oper}(h:rB x y=true):∀d,x.1.dst=some d->d∉looks y/\y.1.dst≠some d:=by
 intro d e;simp only[rB,e,vF,vM,bne_iff_ne]at h;exact⟨by simpa using h.1,h.2⟩
variable {n:Nat} {ops:Array Oper}
theorem swap {x y:RO×Oper}(gx:Good P n ops x)(gy:Good P n ops y)(h:indep x y=true){K:Act->World->Prop}{a:Act}{w:World}
 (hh:ju P wP y (fun a w=>ju P wP x K a w) a w):ju P wP x (fun a w=>ju P wP y K a w) a w:=by
 simp only[indep,vF]at h;obtain⟨⟨hxy,hyx⟩,hc⟩:=h;have Xf:=zN hxy;have Yt:=zN hyx;have comm:∀(b:Act) (u v:Value),(b.put x.1.dst u).put y.1.dst v=(b.put y.1.dst v).put x.1.dst u:=fun b u v=>Act.put_comm b u v (fun d e=>(Xf d e).2)
 by_cases qx:(kd x.1.op||jF x.1.op)=true
 ·by_cases qy:(kd y.1.op||jF y.1.op)=true
  ·obtain⟨v,hv,h1⟩:=(wD qy).1 hh;obtain⟨u,hu,h2⟩:=(wD qx).1 h1;refine(wD qx).2 ⟨u,(ox qx (fun t e=>(Yt t e).1)).1 hu,(wD qy).2 ⟨v,(ox qy (fun t e=>(Xf t e).1)).2 hv,?_⟩⟩;rw[comm];exact h2
  ·-- x is pure,y acts
   have Rf:(kd y.1.op||jF y.1.op)=false:=by simpa using qy
   have px:kd x.1.op=true:=by
    try simp only[vP,vF]at hc
    simp only[Bool.or_eq_false_iff]at Rf;rcases hc with((h|h)|h)|h
    ·exact h
    ·rw[Rf.1]at h;cases h
    ·rw[Rf.2]at h;cases h.2
    ·rw[Rf.2]at h;cases h.2
   simp only[Bool.or_eq_false_iff]at Rf;by_cases hw:jC y.1.guard a=true
   ·unfold ju at hh;rw[if_pos hw,if_neg (by simp[Rf.1]),if_neg (by simp[Rf.2])]at hh;obtain⟨tQ,hh⟩:=hh
    replace hh:=yR (K':=fun a w=>∃v,Yv P x a w v/\K (a.put x.1.dst v) w) (fun a w h=>(wD qx).1 h) hh
    obtain⟨gl1,gl2,gl3,_⟩:=jI gy.low;obtain⟨ds,v0,w0,u,hu,_⟩:=GI hh;have og:∀w,Yv P x a w u:=fun w=>by
     rw[<- gl2]at hu;have:=(ox qx (fun t e=>(Yt t e).1)).1 hu;exact(Jh px).1 (rq.1 this)
    refine(wD qx).2 ⟨u,og w,?_⟩;have rX:jC y.1.guard (a.put x.1.dst u)=true:=by rw[di (fun t e=>(zJ (Xf t e).1).1)];exact hw
    show ju P wP y K (a.put x.1.dst u) w;unfold ju;rw[if_pos rX,if_neg (by simp[Rf.1]),if_neg (by simp[Rf.2])];have he:execOp (a.put x.1.dst u).eval y.2=execOp a.eval y.2:=
     execOp_congr y.2 gy.aP (fun z hz=>lS (fun t e=>(zJ (Xf t e).1).2.2 (by simp[Rf.1,Rf.2])) (by simpa using hz))
    refine⟨fun e=>by rw[he];exact tQ e,?_⟩;unfold yW at hh|-;rw[he];have step:jl P y.2 a (fun a' w'=>K (a'.put x.1.dst u) w') wP ((execOp a.eval y.2).run P w):=by
     generalize (execOp a.eval y.2).run P w=r at hh;have fin:∀{b:Act} {w':World},(∃ds v,b={a with defers:=ds}.put y.2.dst v)->(∃u',Yv P x b w' u'/\K (b.put x.1.dst u') w')->K (b.put x.1.dst u) w':=by
      rintro b w' ⟨ds,v,rfl⟩ ⟨u',h1,h2⟩
      rw[<- gl2]at h1;have h3:=(ox qx (fun t e=>(Yt t e).1)).1 h1;have h4:=rq.1 h3;rw[Ym (og w') h4];exact h2
     cases r with
     |ok nx w'=>
      cases nx <;> simp only[jl]at hh|-
      case value v=>exact fin ⟨a.defers,v,rfl⟩ hh
      case skip=>exact fin ⟨a.defers,undef,rfl⟩ hh
      case enter f args=>exact Calls.mono hh (fun e om he=>by cases e <;> first|exact fin ⟨a.defers,_,rfl⟩ he|exact he)
      case round l f tmps assign body=>exact RoundIn.mono hh (fun e om he=>by cases e <;> first|exact fin ⟨a.defers,_,rfl⟩ he|exact he)
     |halt z w'=>cases z <;> simp only[jl]at hh|- <;> exact hh
    cases hxd:x.1.dst with
    |none=>rw[hxd]at step;exact step
    |some d=>
     rw[hxd]at step;exact RX (by rw[<- gl2];exact(Xf d hxd).2) step
   ·unfold ju at hh;rw[if_neg hw]at hh;obtain⟨u,hu,h2⟩:=(wD qx).1 hh;refine(wD qx).2 ⟨u,(ox qx (fun t e=>(Yt t e).1)).1 hu,?_⟩;show ju P wP y K (a.put x.1.dst u) w;unfold ju;rw[if_neg (by rw[di (fun t e=>(zJ (Xf t e).1).1)];exact hw),comm];exact h2
 ·-- x acts,y is pure
  have XT:(kd x.1.op||jF x.1.op)=false:=by simpa using qx
  have pq:kd y.1.op=true∨(mf x.1.op=true/\jF y.1.op=true):=by
   try simp only[vP,vF]at hc
   simp only[Bool.or_eq_false_iff]at XT;rcases hc with((h|h)|h)|h
   ·rw[XT.1]at h;cases h
   ·exact .inl h
   ·rw[XT.2]at h;cases h.1
   ·exact .inr h
  have qy:(kd y.1.op||jF y.1.op)=true:=by rcases pq with h|h <;> simp[h]
  simp only[Bool.or_eq_false_iff]at XT;obtain⟨v,hv,h1⟩:=(wD qy).1 hh;have hwe:jC x.1.guard (a.put y.1.dst v)=jC x.1.guard a:=di (fun t e=>(zJ (Yt t e).1).1);unfold ju at h1|-;rw[hwe]at h1;by_cases hw:jC x.1.guard a=true
  ·rw[if_pos hw,if_neg (by simp[XT.1]),if_neg (by simp[XT.2])]at h1|-;obtain⟨gl1,gl2,gl3,_⟩:=jI gx.low;obtain⟨tQ,h1⟩:=h1;unfold yW at h1;have he:execOp (a.put y.1.dst v).eval x.2=execOp a.eval x.2:=
    execOp_congr x.2 gx.aP (fun z hz=>lS (fun t e=>(zJ (Yt t e).1).2.2 (by simp[XT.1,XT.2])) (by simpa using hz))
   rw[he]at h1 tQ;refine⟨tQ,?_⟩;unfold yW;have step:jl P x.2 a (fun a' w'=>K (a'.put y.1.dst v) w') wP ((execOp a.eval x.2).run P w):=by
    cases δ:y.1.dst with
    |none=>rw[δ]at h1;exact h1
    |some d=>
     rw[δ]at h1;exact Mb (by rw[<- gl2];exact(Yt d δ).2) h1
   have fin0:∀{b:Act} {w':World},(∃ds u,b={a with defers:=ds}.put x.2.dst u)->Yv P y a w' v->K (b.put y.1.dst v) w'->ju P wP y K b w':=by
    rintro b w' ⟨ds,u,rfl⟩ hv h2
    refine(wD qy).2 ⟨v,?_,h2⟩;rw[<- gl2];exact(ox qy (fun t e=>(Xf t e).1)).2 (rq.2 hv)
   rcases pq with py|⟨nx,_⟩
   rotate_left
   ·obtain⟨u,w',bB,Zj⟩:=tQ nx;rw[bB]at step|-;exact fin0 ⟨a.defers,u,rfl⟩ (Yl hv Zj) step
   have fin:∀{b:Act} {w':World},(∃ds u,b={a with defers:=ds}.put x.2.dst u)->K (b.put y.1.dst v) w'->ju P wP y K b w':=fun hb h2=>fin0 hb ((Jh py).1 hv) h2
   generalize (execOp a.eval x.2).run P w=r at step;cases r with
   |ok nx w'=>
    cases nx <;> simp only[jl]at step|-
    case value u=>exact fin ⟨a.defers,u,rfl⟩ step
    case skip=>exact fin ⟨a.defers,undef,rfl⟩ step
    case enter f args=>exact Calls.mono step (fun e om he=>by cases e <;> first|exact fin ⟨a.defers,_,rfl⟩ he|exact he)
    case round l f tmps assign body=>exact RoundIn.mono step (fun e om he=>by cases e <;> first|exact fin ⟨a.defers,_,rfl⟩ he|exact he)
   |halt z w'=>cases z <;> simp only[jl]at step|- <;> exact step
  ·rw[if_neg hw]at h1|-;refine(wD qy).2 ⟨v,(ox qy (fun t e=>(Xf t e).1)).2 hv,?_⟩;rw[comm];exact h1
theorem WX {X:Nat->RO×Oper}{Q:Act->World->Prop}(i:Nat)(l2:List Nat)(gi:Good P n ops (X i)):∀(l1:List Nat),(∀j∈l1,Good P n ops (X j)/\indep (X i) (X j)=true)->
 ∀{a w},cp P wP Q ((l1++i::l2).map X) a w->cp P wP Q ((i::(l1++l2)).map X) a w:=by
 intro l1
 induction l1 with
 |nil=>intro _ a w h;exact h
 |cons j l1 ih=>
  intro hj a w h;have h1:ju P wP (X j) (cp P wP Q ((i::(l1++l2)).map X)) a w:=eL (fun a w h=>ih (fun k hk=>hj k (by simp[hk])) h) h;obtain⟨gj,hij⟩:=hj j Zs;exact swap gi gj hij h1
theorem reorder {X:Nat->RO×Oper}{Q:Act->World->Prop}:∀(l o:List Nat),o.Perm l->l.Nodup->(∀i∈l,Good P n ops (X i))->
 o.Pairwise (fun x y=>indep (X y) (X x)=true∨[x,y].Sublist l)->∀{a w},cp P wP Q (o.map X) a w->cp P wP Q (l.map X) a w:=by
 intro l
 induction l with
 |nil=>intro o hp _ _ _ a w h;rw[List.perm_nil.1 hp]at h;exact h
 |cons i l ih=>
  intro o hp hn hg E2 a w h;have hi:i∈o:=hp.mem_iff.2 Zs;obtain⟨o1,o2,rfl⟩:=List.append_of_mem hi;have G5:=QN.1 hn;have hind:∀x∈o1,indep (X i) (X x)=true:=by
   intro x hx;have JN:=(List.pairwise_append.1 E2).2.2 x hx i Zs;rcases JN with h|h
   ·exact h
   ·exfalso;cases h with
    |cons _ h=>exact G5.1 (h.subset Zs)
    |cons_cons _ h=>exact G5.1 (h.subset Zs)
  have h1:=WX i o2 (hg i Zs) o1 (fun x hx=>⟨hg x (hp.mem_iff.1 (by simp[hx])),hind x hx⟩) h;have hp':(o1++o2).Perm l:=by
   have:=(QT (a:=i) (l₁:=o1) (l₂:=o2)).symm.trans hp;exact List.Perm.cons_inv this
  refine eL (fun a w h=>ih (o1++o2) hp' G5.2 (fun j hj=>hg j (by simp[hj])) ?_ h) h1;have iC:(o1++o2).Sublist (o1++i::o2):=List.Sublist.append_left (QW i o2) o1;have hpw':=E2.sublist iC;refine hpw'.imp_of_mem (fun {x y} hx hy h=>?_);rcases h with h|h
  ·exact .inl h
  ·right;have hxi:x≠i:=by rintro rfl;exact G5.1 (hp'.mem_iff.1 hx)
   cases h with
   |cons _ h=>exact h
   |cons_cons _ h=>exact absurd rfl hxi
end
end Go.V

/-
  What reads, makes or writes memory: its text with the types resolved, and that the model's operation does that.
-/
import Derived.Test.YtijnokbblmbpkaaGreatDoorN2
import Derived.Orders
import Derived.RangeFuncIn
import Derived.RangeFuncLeaves
import Derived.OwnWalkIn
set_option linter.all false
namespace Go.V
open Go
def kX(n:Nat)(zero:List Value):List Value:=(List.range (n*zero.length)).map fun i=>zero[i % zero.length]!
def Km:SK->Value->Value->Option Bool
 |.int,.int k a,.int k' b=>if k=k' then some (a==b)else none
 |.str,.string a,.string b=>some (decide (a=b))
 |.bool,.bool a,.bool b=>some (a==b)
 |_,_,_=>none
def lS(sk:SK)(k:Value):List MapEntry->Nat->Option (Option (Nat×Value))
 |[],_=>some none
 |e::es,i=>
  match Km sk k e.key with
  |some true=>some (some (i,e.val))
  |some false=>lS sk k es (i+1)
  |none=>none
def wA:Value->Sem (Array MapEntry×Nat)
 |.map none=>pure (#[],0)
 |.map (some r)=>do
  match <- getObj r with
  |.map es c=>pure (es,c)
  | _ => stuck "map"
 | _ => stuck "map"
def uf(ok:Bool)(zero:Value):Option (Nat×Value)->Value
 |some (_,v)=>if ok then .tuple #[v,.bool true]else v
 |none=>if ok then .tuple #[zero,.bool false]else zero
def cR:Value->Option Nat
 |.slice _ n _=>some n
 |.string s=>some s.size
 |_=>none
def w7(ρ:Operand->Value):R->Option (Sem Next)
 |.cj x=>some do let a <- Instr.sureAddr (ρ x);let v <- load a;pure (.value v)
 |.gS n x=>some do let a <- Instr.sureAddr (ρ x);let cs <- loadCells a n;pure (.value (.agg cs))
 |.P5 m=>some do let(es,_) <- wA (ρ m);pure (.value (.int .i64 es.size))
 |.lookup sk zero ok m key=>some do
  let(es,_) <- wA (ρ m)
  match lS sk (ρ key) es.toList 0 with
  |some r=>pure (.value (uf ok zero r))
  | none => stuck "key"
 |.entry it=>some do let v <- Instr.entry (ρ it);pure (.value v)
 |.b2s x=>some do let v <- Conv.bytesToString (ρ x);pure (.value v)
 |.alloc t zero=>some do let b <- newObj (.cells zero.toArray t);pure (.value (.pointer (some ⟨b,0,none⟩)))
 |.box t x=>some do let b <- newObj (.cells (ρ x).cells t);pure (.value (.pointer (some ⟨b,0,none⟩)))
 |.lJ t len zero parts=>some <|match jT (kX len zero) (jR ρ parts)with
  |some out=>do let b <- newObj (.cells out.toArray t);pure (.value (.slice (some ⟨b,0,none⟩) len len))
  | none => stuck "parts"
 |.og=>some do let b <- newObj (.map #[] 0);pure (.value (.map (some b)))
 |.C5 t size bytes zero l c=>some <|match ρ l,ρ c with
  |.int _ l,.int _ c=>if 0<=l/\l<=c/\c<=9223372036854775807/\bytes*c<=2 ^ 48 then if zero.length=size then do
    let b <- newObj (.cells (kX c.toNat zero).toArray t);pure (.value (.slice (some ⟨b,0,none⟩) l.toNat c.toNat))
   else stuck "size" else stuck "size"
  | _, _ => stuck "size"
 |.RW x=>some <|match ρ x with
  |.string s=>do let b <- newObj (.stringIter s 0);pure (.value (.pointer (some ⟨b,0,none⟩)))
  | _ => stuck "string"
 |.RT x=>some <|match ρ x with
  |.map none=>do let b <- newObj (.mapIter none 0 #[] 0);pure (.value (.pointer (some ⟨b,0,none⟩)))
  |.map (some m)=>do let(_,clock) <- wA (.map (some m));let b <- newObj (.mapIter (some m) clock #[] clock);pure (.value (.pointer (some ⟨b,0,none⟩)))
  | _ => stuck "map"
 |.s2b t x=>some <|match ρ x with
  |.string s=>do let v <- Conv.stringToBytes t s;pure (.value v)
  | _ => stuck "string"
 | .store n x v => some do let a ← Instr.sureAddr (ρ x); if (ρ v).cells.size = n then (do storeCells a (ρ v).cells.toList; pure .skip) else stuck "size"
 |.xP sk m key v=>some <|match ρ m with
  |.map (some r)=>do
   let(es,clock) <- wA (.map (some r))
   match lS sk (ρ key) es.toList 0 with
   |some (some (i,_))=>do
    let key <- Instr.keyThatStays (((es[i]?).map (·.key)).getD (ρ key)) (ρ key)
    setObj r (.map (es.modify i fun e=>{e with key,val:=ρ v}) clock);pure .skip
   |some none=>do setObj r (.map (es.push {key:=ρ key,val:=ρ v,born:=clock}) (clock+1));pure .skip
   | none => stuck "key"
  | _ => stuck "map"
 |.delete sk m key=>some <|match ρ m with
  |.map (some r)=>do
   let(es,clock) <- wA (.map (some r))
   match lS sk (ρ key) es.toList 0 with
   |some (some (i,_))=>do setObj r (.map (es.eraseIdxIfInBounds i) clock);pure (.value (.tuple #[]))
   |some none=>do setObj r (.map es clock);pure (.value (.tuple #[]))
   | none => stuck "key"
  |.map none=>pure (.value (.tuple #[]))
  | _ => stuck "map"
 |.append t size bytes zero s x=>some <|match ρ s,cR (ρ x)with
  |.slice base n c,some m=>
   if n+m<=c then do
    let new <- Builtin.firstCells size m (ρ x)
    if let some a:=base then storeCells (a.add (n*size)) new.toList
    pure (.value (.slice base (n+m) c))
   else if Builtin.nextslicecap (n + m) c * bytes > 2 ^ 48 ∨ bytes = 0 then stuck "size" else do
    let cap <- choose (.appendCap (n+m) c t)
    let old <- Builtin.firstCells size n (ρ s)
    let new <- Builtin.firstCells size m (ρ x)
    let b <- newObj (.cells (old++new++(kX (cap - (n+m)) zero).toArray) t)
    pure (.value (.slice (some ⟨b,0,none⟩) (n+m) cap))
  | _, _ => stuck "append"
 |.grow t size bytes zero s x=>some <|match ρ s,ρ x with
  |.slice base n c,.int _ l=>
   if l < 0 ∨ l * bytes > 2 ^ 48 ∨ IntKind.i64.wrap l ≠ l ∨ size = 0 then stuck "grow" else
   if n+l.toNat<=c then do
    if let some a:=base then storeCells (a.add (n*size)) (kX l.toNat zero)
    pure (.value (.slice base (n+l.toNat) c))
   else if Builtin.nextslicecap (n + l.toNat) c * bytes > 2 ^ 48 ∨ bytes = 0 ∨ ((n + l.toNat : Nat) : Int) > IntKind.i64.max then stuck "size" else do
    let cap <- choose (.appendCap (n+l.toNat) c t)
    let old <- Builtin.firstCells size n (ρ s)
    let b <- newObj (.cells (old++(kX l.toNat zero).toArray++(kX (cap - (n+l.toNat)) zero).toArray) t)
    pure (.value (.slice (some ⟨b,0,none⟩) (n+l.toNat) cap))
  | _, _ => stuck "grow"
 |.copy size d s=>some <|match ρ d,cR (ρ s)with
  |.slice base n _,some m=>do
   let cells <- Builtin.firstCells size (Nat.min m n) (ρ s)
   if let some a:=base then storeCells a cells.toList
   pure (.value (.int .i64 (Nat.min m n)))
  | _, _ => stuck "copy"
 |.clr zero x=>some <|match ρ x with
  |.slice base n _=>do
   if let some a:=base then storeCells a (kX n zero)
   pure (.value (.tuple #[]))
  | _ => stuck "clear"
 |.next it s=>some do let v <- Instr.next (ρ it) s 0;pure (.value v)
 |.S0 op t x y=>some do eqGuard op t x y (ρ x) (ρ y);let v <- Go.binOp op t (ρ x) (ρ y);pure (.value v)
 |.EY t ok m k=>some do let v <- Instr.lookup t (ρ m) (ρ k) ok;pure (.value v)
 |.updt t m k v=>some do Instr.mapUpdate t (ρ m) (ρ k) (ρ v);pure .skip
 |.ment t m k=>some do let v <- Instr.mapEntry t (ρ m) (ρ k);pure (.value v)
 |.mst t m s v=>some do Instr.entryStore t (ρ m) (ρ s) (ρ v);pure .skip
 |_=>none
section
variable {P:Program} {ρ:Operand->Value} {w w':World} {n:Next} {r:R} {s:Sem Next}
theorem IW {d:TypeDesc}{sk:SK}(h:mL d=some sk)(a b:Value):Instr.sameNow d a b=Km sk a b:=by
 cases d <;> simp[mL]at h <;> subst h <;> cases a <;> cases b <;> simp[Instr.sameNow,Km];rename_i a b;rw[beq_toListBytes,I9]
theorem Hq {d:TypeDesc}{sk:SK}(h:mL d=some sk)(k:Value):∀(es:List MapEntry) (i:Nat),Instr.findNow d k es i=lS sk k es i:=by
 intro es
 induction es with
 |nil=>intro i;rfl
 |cons e es ih=>
  intro i;simp only[Instr.findNow,lS,IW h,ih];split <;> simp_all
theorem zt {t:TypeId}{d:TypeDesc}{sk:SK}(ht:P.underlying t=some d)(h:mL d=some sk)(e:Bool)(v:Value):(Instr.checkKey e 10000 t v).run P w=.ok () w:=by
 show(Instr.checkKey e (9999+1) t v).run P w=_;generalize 9999=n;cases d <;> simp[mL]at h <;> cases v <;> simp[Instr.checkKey,kC ht]
theorem run_findKey {t:TypeId}{d:TypeDesc}{sk:SK}(ht:P.underlying t=some d)(h:mL d=some sk){k:Value}{es:List MapEntry}{r:Option (Nat×Value)}(hf:lS sk k es 0=some r):
 (Instr.findKey t k es).run P w=.ok r w:=by
 simp[Instr.findKey,kC ht,Hq h,hf]
theorem Sc {t:TypeId}{sk:SK}(h:(P.underlying t).bind mL=some sk):∃d,P.underlying t=some d/\mL d=some sk:=Qu.1 h
theorem pA(n:Nat)(z:Array Value):(kX n z.toList).toArray=(Array.range (n*z.size)).map (z[·% z.size]!):=by
 apply vD.1;simp only[kX,vE,Array.toList_range,Array.length_toList];apply Q1;intro a _;rw[getElem!_def,getElem!_def];simp
theorem zn(n:Nat)(z:Array Value):(kX n z.toList).toArray=Builtin.zeroCells z n:=by
 rw[pA];rfl
theorem dO {x:Value}{es:Array MapEntry}{c:Nat}(h:(wA x).run P w=.ok (es,c) w'):
 w'=w/\((x=.map none/\es=#[]/\c=0)∨∃r,x=.map (some r)/\(getObj r).run P w=.ok (.map es c) w):=by
 unfold wA at h;split at h
 ·simp at h;obtain⟨⟨rfl,rfl⟩,rfl⟩:=h;exact⟨rfl,.inl ⟨rfl,rfl,rfl⟩⟩
 ·rename_i r;simp only[Sem.run_bind]at h;have hw:∀o w1,(getObj r).run P w=.ok o w1->w1=w:=by
   intro o w1 h;simp only[getObj,Sem.run]at h;split at h <;> first|(cases h;done)|(cases h;rfl)
  cases hg:(getObj r).run P w with
  |halt x w1=>rw[hg]at h;simp at h
  |ok o w1=>
   rw[hg]at h;obtain rfl:=hw _ _ hg;simp only[Result.andThen_ok]at h;cases o <;> simp at h;obtain⟨⟨rfl,rfl⟩,rfl⟩:=h;exact⟨rfl,.inr ⟨r,rfl,hg⟩⟩
 ·simp at h
theorem kw {α β:Type}{x:Result α}{f:α->World->Result β}{b:β}{w2:World}(h:x.andThen f=.ok b w2):∃a w1,x=.ok a w1/\f a w1=.ok b w2:=by
 cases x with
 |ok a w1=>exact⟨a,w1,rfl,h⟩
 |halt h w1=>simp at h
theorem kq {α β γ:Type}(x:Result α)(f:α->World->Result β)(g:β->World->Result γ):(x.andThen f).andThen g=x.andThen fun a w=>(f a w).andThen g:=by
 cases x <;> rfl
theorem XB {t kt e:TypeId}{sk:SK}{d:TypeDesc}{m k v:Operand}
 (hu:P.underlying t=some (.map kt e)) (hd:P.underlying kt=some d) (Eu:mL d=some sk) (hr:(match ρ m with
 |.map (some r)=>do
  let(es,clock) <- wA (.map (some r))
  match lS sk (ρ k) es.toList 0 with
  |some (some (i,_))=>do
   let key <- Instr.keyThatStays (((es[i]?).map (·.key)).getD (ρ k)) (ρ k)
   setObj r (.map (es.modify i fun e=>{e with key,val:=ρ v}) clock);pure .skip
  |some none=>do setObj r (.map (es.push {key:=ρ k,val:=ρ v,born:=clock}) (clock+1));pure .skip
  | none => stuck "key"
 | _ => stuck "map" : Sem Next).run P w = .ok n w') : (do Instr.mapUpdate t (ρ m) (ρ k) (ρ v); pure .skip : Sem Next).run P w = .ok n w' := by
 split at hr
 case h_2=>simp at hr
 rename_i q hx;simp only[Sem.run_bind]at hr;obtain⟨⟨es,c⟩,w1,h1,h2⟩:=kw hr;obtain⟨rfl,J6⟩:=dO h1;simp at J6;simp only at h2;split at h2
 ·rename_i i v' hf;exact zDA
 ·rename_i hf;exact zDA
 ·simp at h2
set_option maxHeartbeats 1000000 in
theorem rZ {o:Oper}(aG:∀u,ρ (.const u)=u)(hl:kz P o.op=some r)(hs:w7 ρ r=some s)(hr:s.run P w=.ok n w'):(execOp ρ o).run P w=.ok n w':=by
 obtain⟨dst,op,type,pos,after,guard⟩:=o;simp only at hl;cases op
 case load t x=>
  simp only[kz]at hl;split at hl <;> cases hl
  ·exact zDD
  ·exact zDD
  ·rename_i d j h1 h2 hu hj;simp only[w7,X1]at hs;subst hs;have ha:∀w,(isAgg t).run P w=.ok false w:=by intro w;rw[dH hu];cases d <;> simp_all
   simpa[execOp,Instr.loadAt,loadVar,ha]using hr
 case store t x v=>
  simp only[kz,Qx]at hl;obtain⟨i,hi,rfl⟩:=hl;simp only[w7,X1]at hs;subst hs;simp only[Sem.run_bind]at hr;obtain⟨a,w1,h1,h2⟩:=kw hr;split at h2
  ·rename_i hz;simp only[execOp,Instr.storeAt,storeVar,Sem.run_bind,h1,Result.andThen_ok,kZ hi,hz];simpa[hz]using h2
  ·simp at h2
 case alloc t=>
  simp only[kz,Qx]at hl;obtain⟨z,hz,rfl⟩:=hl;obtain⟨i,u,hi,hu,rfl⟩:=fX hz;simp only[w7,X1]at hs;subst hs;simpa[execOp,Instr.alloc,ke hi hu,newVar,newRow]using hr
 case box t x=>
  simp only[kz,X1]at hl;subst hl;simp only[w7,X1]at hs;subst hs;simpa[execOp,Instr.box,newVar,newRow]using hr
 case buildSlice t len parts=>
  simp only[kz]at hl;split at hl <;> try (cases hl;done)
  rename_i e hu;split at hl <;> try (cases hl;done)
  rename_i i z hi hz;split at hl <;> try (cases hl;done)
  rename_i hle;obtain⟨h24,Ys⟩:=hle;simp only[Qx]at hl;obtain⟨l,Z6,rfl⟩:=hl;obtain⟨i',u,bO,n9,rfl⟩:=fX hz;rw[hi]at bO;cases bO;simp only[w7,X1]at hs;subst hs;split at hr
  case h_2=>simp at hr
  rename_i out ho;have lX:=yi (ρ:=ρ) (fun j=>some (j*i.size,i.size)) parts.toList l _ out Z6 ho;have xx:(parts.map fun p=>(p.1,ρ p.2)).toList=parts.toList.map fun p=>(p.1,ρ p.2):=by simp
  have gh:u.cells.size=i.size:=by simpa using Ys
  rw[pA,gh]at lX;have hb:(Instr.buildSlice t len (parts.map fun p=>(p.1,ρ p.2))).run P w=((newObj (.cells out.toArray e)).run P w).andThen fun b w=>.ok (.slice (some ⟨b,0,none⟩) len len) w:=by
   simp only[Instr.buildSlice,Sem.run_bind,kC hu,Result.andThen_ok,kZ hi,show ¬(len*i.size > 2 ^ 24) by omega,if_false,xx];by_cases h0:len*i.size=0
   ·have e1:(Array.range (len*i.size)).map (u.cells[·% i.size]!)=(Array.range (len*i.size)).map ((#[]:Array Value)[·% (#[]:Array Value).size]!):=by rw[h0];simp
    rw[e1]at lX;simp only[if_pos h0,Sem.run_bind,Sem.run_pure,Result.andThen_ok];rw[lX];simp[newRow]
   ·rw[<- gh]at lX;simp only[if_neg h0,Sem.run_bind,ke hi n9,Sem.run_pure,Result.andThen_ok];rw[<- gh,lX];simp[newRow]
  simp only[execOp,Sem.run_bind,hb];simpa[kq]using hr
 case makeMap t h=>
  simp only[kz]at hl;split at hl <;> try (cases hl;done)
  rename_i k e hu;split at hl <;> cases hl
  ·simp only[w7,X1]at hs;subst hs;simpa[execOp,Instr.makeMap,kq]using hr
  ·simp only[w7,X1]at hs;subst hs;simpa[execOp,Instr.makeMap,kq,kC hu,aG,asInt,asIntOf]using hr
 case makeSlice t l c=>
  simp only[kz]at hl;split at hl <;> try (cases hl;done)
  rename_i e hu;split at hl <;> cases hl;rename_i i z hi hz;obtain⟨i',u,bO,n9,rfl⟩:=fX hz;rw[hi]at bO;cases bO;simp only[w7,X1]at hs;subst hs;split at hr
  case h_2=>simp at hr
  rename_i kl l' kc c' qZ Le;split at hr
  case isFalse=>simp at hr
  rename_i hb;obtain⟨b1,b2,b3,b4⟩:=hb;split at hr
  case isFalse=>simp at hr
  rename_i Ys;have wl:IntKind.i64.wrap l'=l':=by
   exact zDY
  have wc:IntKind.i64.wrap c'=c':=by
   exact zDY
  have ew:((decide (c' < 0)||decide ((i.bytes:Int)*c' > 2 ^ 48))||decide (l' < 0)||decide (l' > c'))=false:=by
   simp;omega
  have gh:u.cells.size=i.size:=by simpa using Ys
  have hm:(Instr.makeSlice t (ρ l) (ρ c)).run P w=((newObj (.cells (kX c'.toNat u.cells.toList).toArray e)).run P w).andThen fun b w=>.ok (.slice (some ⟨b,0,none⟩) l'.toNat c'.toNat) w:=by
   simp only[Instr.makeSlice,Sem.run_bind,kC hu,Result.andThen_ok,qZ,Le,asInt,asIntOf,Sem.run_pure,w9 hi,wl,wc,ew,vJ,if_false,run_askRoom,kZ hi];rw[pA,gh];by_cases h0:c'.toNat*i.size=0
   ·simp only[if_pos h0,Sem.run_bind,Sem.run_pure,Result.andThen_ok];have e0:Array.range (c'.toNat*i.size)=#[]:=by rw[h0];rfl
    simp only[e0];simp[newRow]
   ·simp only[if_neg h0,Sem.run_bind,ke hi n9,Sem.run_pure,Result.andThen_ok];simp[newRow,gh]
  simp only[execOp,Sem.run_bind,hm];simpa[kq]using hr
 case lookup t m k ok=>
  simp only[kz]at hl;split at hl <;> try (cases hl;done)
  rename_i kt e hu;split at hl <;> cases hl
  case h_2=>
   exact zBL
  rename_i sk z Ad hz;obtain⟨d,hd,Eu⟩:=Sc Ad;obtain⟨i,hi,hiz⟩:=Qu.1 hz;simp only[w7,X1]at hs;subst hs;simp only[Sem.run_bind]at hr;obtain⟨⟨es,c⟩,w1,h1,h2⟩:=kw hr;obtain⟨rfl,hx⟩:=dO h1;simp only at h2;split at h2
  case h_2=>simp at h2
  rename_i r hf;have hl:(Instr.lookup t (ρ m) (ρ k) ok).run P w1=.ok (uf ok z r) w1:=by
   rcases hx with⟨hx,rfl,rfl⟩|⟨q,hx,hq⟩
   ·rw[hx];simp only[Instr.lookup,Sem.run_bind,kC hu,Result.andThen_ok,Sem.run_pure,zt hd Eu,run_findKey hd Eu hf];exact zE5
   ·rw[hx];simp only[Instr.lookup,Sem.run_bind,kC hu,Result.andThen_ok,Sem.run_pure,zt hd Eu,hq,run_findKey hd Eu hf];exact zE5
  simp only[execOp,Sem.run_bind,hl,Result.andThen_ok];exact h2
 case mapUpdate t m k v=>
  simp only[kz]at hl;split at hl <;> try (cases hl;done)
  rename_i kt e hu;split at hl <;> cases hl
  case h_2=>
   exact zBL
  exact zDT
 case insert t m k v=>
  simp only[kz]at hl;split at hl <;> try (cases hl;done)
  rename_i kt e hu;split at hl <;> cases hl
  case h_2=>
   exact zBL
  exact zDT
 case mapEntry t m k=>
  simp only[kz,X1]at hl;subst hl;exact zBL
 case entryStore t m s v=>
  simp only[kz,X1]at hl;subst hl;exact zBL
 case range t x=>
  simp only[kz]at hl;split at hl <;> cases hl
  ·rename_i hu;simp only[w7,X1]at hs;subst hs;split at hr
   case h_2=>simp at hr
   rename_i s hx;simpa[execOp,Instr.range,kC hu,hx,kq]using hr
  ·rename_i k e hu;simp only[w7,X1]at hs;subst hs;split at hr
   ·rename_i hx;simpa[execOp,Instr.range,kC hu,hx,kq]using hr
   ·rename_i q hx;simp only[Sem.run_bind]at hr;obtain⟨⟨es,c⟩,w1,h1,h2⟩:=kw hr;obtain⟨rfl,J6⟩:=dO h1;simp at J6;simpa[execOp,Instr.range,kC hu,hx,kq,J6]using h2
   ·simp at hr
 case next it s=>
  simp only[kz,X1]at hl;subst hl;simp only[w7,X1]at hs;subst hs;have:Instr.next (ρ it) s type=Instr.next (ρ it) s 0:=rfl;simpa[execOp,this]using hr
 case entry it=>
  simp only[kz,X1]at hl;subst hl;exact zBL
 case convert s d x=>
  simp only[kz]at hl;split at hl <;> try (cases hl;done)
  ·cases hl;simp[w7]at hs
  ·cases hl;simp[w7]at hs
  ·rename_i e EQ hud;split at hl <;> cases hl;rename_i hue;simp only[w7,X1]at hs;subst hs;split at hr
   case h_2=>simp at hr
   rename_i b hx;simpa[execOp,Go.convert,kC EQ,kC hud,hx,kC hue]using hr
  ·rename_i e EQ hud;split at hl <;> cases hl;rename_i hue;simp only[w7,X1]at hs;subst hs;simp only[Sem.run_bind]at hr;obtain⟨b,w1,h1,h2⟩:=kw hr;have:(Go.convert s d (ρ x)).run P w=.ok b w1:=by
    cases hx:ρ x with
    |slice a n c=>rw[hx]at h1;simpa[Go.convert,kC EQ,kC hud,kC hue]using h1
    |_=>rw[hx]at h1;simp[Conv.bytesToString]at h1
   simpa[execOp,this]using h2
 case call c=>
  obtain⟨callee,args,NZ⟩:=c;obtain⟨args⟩:=args;obtain⟨NZ⟩:=NZ;simp only[kz]at hl;split at hl
  ·split at hl <;> cases hl;simp[w7]at hs
  ·cases hl;simp[w7]at hs
  ·split at hl <;> try (cases hl;done)
   rename_i x t;split at hl <;> cases hl <;> simp only[w7]at hs <;> try (cases hs;done)
   rename_i k e hu;simp only[X1]at hs;subst hs;simp only[Sem.run_bind]at hr;obtain⟨⟨es,c⟩,w1,h1,h2⟩:=kw hr;obtain⟨rfl,hx⟩:=dO h1;rcases hx with⟨hx,rfl,rfl⟩|⟨q,hx,hq⟩
   ·simpa[execOp,resolve,invoke,Go.builtin,Builtin.len_,kC hu,hx,goInt]using h2
   ·simpa[execOp,resolve,invoke,Go.builtin,Builtin.len_,kC hu,hx,hq,goInt]using h2
  ·split at hl <;> try (cases hl;done)
   split at hl <;> cases hl <;> simp[w7]at hs
  ·split at hl <;> cases hl;simp[w7]at hs
  ·split at hl <;> cases hl;simp[w7]at hs
  ·split at hl <;> try (cases hl;done)
   rename_i sx x t xt;split at hl <;> try (cases hl;done)
   rename_i e hu;split at hl <;> try (cases hl;done)
   rename_i i z hi hz;split at hl
   case isFalse=>
    split at hl
    case isFalse=>cases hl
    rename_i hq;cases hl;obtain⟨i',u,bO,n9,rfl⟩:=fX hz;rw[hi]at bO;cases bO;obtain⟨ut,xr,k,hxt,hut⟩:∃ut xr k,xt=ut::xr/\P.underlying ut=some (.int k):=by
     cases xt with
     |nil=>simp[H8]at hq
     |cons ut xr=>
      simp only[H8]at hq;split at hq
      ·rename_i k h;exact⟨ut,xr,k,rfl,h⟩
      ·cases hq
    subst hxt;simp only[w7,X1]at hs;subst hs;split at hr
    case h_2=>simp at hr
    rename_i base n0 c0 k0 l O5 UF;split at hr
    case isTrue=>simp at hr
    rename_i iw;have hb0:¬l < 0:=fun h=>iw (.inl h)
    have eg:¬(l*i.bytes > 2 ^ 48):=fun h=>iw (.inr (.inl h))
    have sK:IntKind.i64.wrap l=l:=Classical.byContradiction fun h=>iw (.inr (.inr (.inl h)))
    have gh:i.size≠0:=fun h=>iw (.inr (.inr (.inr h)))
    have ZG:∀(n:Nat) (w:World),(if n*i.size=0 then pure #[]else do pure (Builtin.zeroCells (<- zeroValue e).cells n):Sem (Array Value)).run P w=.ok (kX n u.cells.toList).toArray w:=by
     intro n w;by_cases h0:n*i.size=0
     ·obtain rfl:n=0:=by
       rcases Nat.mul_eq_zero.1 h0 with h|h
       ·exact h
       ·exact absurd h gh
      simp[kX]
     ·simp[h0,ke hi n9,zn]
    have ZJ:(asInt (.int k0 l)).run P w=.ok l w:=by simp[asInt,asIntOf]
    simp only[execOp,resolve,invoke,Go.builtin,Sem.run_bind,List.map_toArray,Q3,Q6,Sem.run_pure,Result.andThen_ok];simp only[Builtin.append_,Vm,Vc,Vb,Sem.run_bind,kC hu,kC hut,Result.andThen_ok,O5,UF,ZJ,Sem.run_pure,kZ hi,if_true,sK];simp only[hb0,if_false,Sem.run_bind,w9 hi,Result.andThen_ok,eg,Sem.run_pure,Bool.not_true,vJ];by_cases hle:n0+l.toNat<=c0
    ·simp only[hle,if_true,Sem.run_bind]at hr|-;rw[ZG];cases base <;> simpa[kq]using hr
    ·simp only[hle,if_false]at hr|-;split at hr
     case isTrue=>simp at hr
     rename_i ew;have g1:¬(Builtin.nextslicecap (n0+l.toNat) c0*i.bytes > 2 ^ 48):=fun h=>ew (.inl h)
     have g2:¬(((n0+l.toNat:Nat):Int) > IntKind.i64.max):=fun h=>ew (.inr (.inr h))
     simp only[Sem.run_bind,w9 hi,Result.andThen_ok,g2,false_and,g1,if_false,run_askRoom];simp only[Sem.run_bind]at hr;rw[<- O5];simp only[ZG,Result.andThen_ok];simpa[kq,newRow,ke hi n9,<- zn]using hr
   cases hl;rename_i hq;obtain⟨i',u,bO,n9,rfl⟩:=fX hz;rw[hi]at bO;cases bO;obtain⟨ut,xr,hxt,hseq⟩:∃ut xr,xt=ut::xr/\((∃e',P.underlying ut=some (.slice e'))∨P.underlying ut=some .string):=by
    cases xt with
    |nil=>simp[Po]at hq
    |cons ut xr=>
     refine⟨ut,xr,rfl,?_⟩;simp only[Po]at hq;split at hq
     ·rename_i e' h;exact .inl ⟨e',h⟩
     ·rename_i h;exact .inr h
     ·cases hq
   subst hxt;simp only[w7,X1]at hs;subst hs;split at hr
   case h_2=>simp at hr
   rename_i base n0 c0 m0 O5 UF;have hlen:(Builtin.lenOf (ρ x)).run P w=.ok m0 w:=by
    cases hx:ρ x <;> rw[hx]at UF <;> simp[cR]at UF <;> subst UF <;> simp[Builtin.lenOf]
   have hz:(do pure ((<- underlying ut) matches .int _):Sem Bool).run P w=.ok false w:=by
    rcases hseq with⟨e',h⟩|h <;> simp[kC h]
   have ZG:Builtin.append_ (t::ut::xr).toArray type #[ρ sx,ρ x]=Builtin.append_ (t::ut::xr).toArray type #[ρ sx,ρ x]:=rfl;simp only[execOp,resolve,invoke,Go.builtin,Sem.run_bind,List.map_toArray,Q3,Q6,Sem.run_pure,Result.andThen_ok];simp only[Builtin.append_,Vm,Vc,Vb,Sem.run_bind,kC hu,Result.andThen_ok,O5,kZ hi];simp only[Sem.run_bind,Sem.run_pure]at hz;have hfirst:∀n:Nat,(if(!false)=true then Builtin.firstCells i.size n (ρ x)else if n*i.size=0 then pure #[]else do pure (Builtin.zeroCells (<- zeroValue e).cells n):Sem (Array Value))=Builtin.firstCells i.size n (ρ x):=fun _=>rfl
   rcases hseq with⟨e',hut⟩|hut
   all_goals
    simp only[kC hut,Result.andThen_ok,Sem.run_pure,vJ,if_false,Sem.run_bind,hlen];by_cases hle:n0+m0<=c0
    ·simp only[hle,if_true,Sem.run_bind]at hr|-;simp only[vM,if_true];cases base <;> simpa[kq]using hr
    ·simp only[hle,if_false]at hr|-;split at hr
     case isTrue=>simp at hr
     rename_i ew;have eg:¬(Builtin.nextslicecap (n0+m0) c0*i.bytes > 2 ^ 48):=fun h=>ew (.inl h)
     have sK:¬(i.bytes=0):=fun h=>ew (.inr h)
     simp only[Sem.run_bind,w9 hi,Result.andThen_ok,false_or,sK,and_false,eg,if_false,vM,if_true,run_askRoom,ke hi n9,<- zn];simp only[Sem.run_bind]at hr;rw[<- O5];simpa[kq,newRow,ke hi n9,<- zn]using hr
  ·split at hl <;> try (cases hl;done)
   rename_i dx sx t xt;split at hl <;> try (cases hl;done)
   rename_i e hu;simp only[Qx]at hl;obtain⟨i,hi,rfl⟩:=hl;simp only[w7,X1]at hs;subst hs;split at hr
   case h_2=>simp at hr
   rename_i base n0 c0 m0 hdx UF;have hlen:(Builtin.lenOf (ρ sx)).run P w=.ok m0 w:=by
    cases hx:ρ sx <;> rw[hx]at UF <;> simp[cR]at UF <;> subst UF <;> simp[Builtin.lenOf]
   simp only[execOp,resolve,invoke,Go.builtin,Sem.run_bind,List.map_toArray,Q3,Q6,Sem.run_pure,Result.andThen_ok];simp only[Builtin.copy_,Vm,Vc,Vb,Sem.run_bind,kC hu,Result.andThen_ok,hdx,kZ hi,hlen];simp only[Sem.run_bind]at hr;cases base <;> simpa[kq,goInt]using hr
  ·split at hl <;> try (cases hl;done)
   rename_i cx t;split at hl <;> try (cases hl;done)
   rename_i e hu;simp only[Qx]at hl;obtain⟨z,hz,rfl⟩:=hl;obtain⟨i',u,bO,n9,rfl⟩:=fX hz;simp only[w7,X1]at hs;subst hs;split at hr
   case h_2=>simp at hr
   rename_i base n0 c0 hcx;simp only[execOp,resolve,invoke,Go.builtin,Sem.run_bind,List.map_toArray,Q3,Q6,Sem.run_pure,Result.andThen_ok];simp only[Builtin.clear_,Vm,Vc,Sem.run_bind,kC hu,Result.andThen_ok,hcx];cases base with
   |none=>simpa using hr
   |some a=>
    cases n0 with
    |zero=>simpa[kX,storeCells]using hr
    |succ m=>simpa[ke bO n9,<- zn,kq]using hr
  ·split at hl <;> try (cases hl;done)
   rename_i mx kx t xt;split at hl <;> try (cases hl;done)
   rename_i kt e hu;simp only[Qx]at hl;obtain⟨sk,Ad,rfl⟩:=hl;obtain⟨d,hd,Eu⟩:=Sc Ad;simp only[w7,X1]at hs;subst hs;simp only[execOp,resolve,invoke,Go.builtin,Sem.run_bind,List.map_toArray,Q3,Q6,Sem.run_pure,Result.andThen_ok];simp only[Builtin.delete_,Vm,Vc,Vb,Sem.run_bind,kC hu,Result.andThen_ok];split at hr
   ·rename_i q hx;simp only[Sem.run_bind]at hr;obtain⟨⟨es,c⟩,w1,h1,h2⟩:=kw hr;obtain⟨rfl,J6⟩:=dO h1;simp at J6;simp only at h2;split at h2
    ·rename_i j v' hf;exact zDW
    ·rename_i hf;exact zDW
    ·simp at h2
   ·rename_i hx;simp only[hx,Sem.run_bind,zt hd Eu,Result.andThen_ok];simpa using hr
   ·simp at hr
  ·cases hl
 case binOp op t x y yt=>
  simp only[kz]at hl
  repeat' split at hl
  all_goals first
   |(cases hl;done)
   |(cases hl;simp[w7]at hs;done)
   |(cases hl;simp only[w7,X1]at hs;subst hs;simpa[execOp,kq]using hr)
 all_goals (try simp only[kz]at hl)
 all_goals (repeat' split at hl)
 all_goals first
  |(cases hl;done)
  |(cases hl;simp[w7]at hs;done)
  |(simp only[Qx]at hl;obtain⟨_,_,rfl⟩:=hl;simp[w7]at hs;done)
end
section
variable {P:Program} {ρ:Operand->Value} {H:List kB} {K:Next->List kB->Prop}
theorem kd(b:Nat)(us vs:List Value):∀o,kA b o (us++vs)=kA b o us++kA b (o+us.length) vs:=by
 induction us with
 |nil=>intro o;simp[kA]
 |cons u us ih=>intro o;simp only[vf,kA,ih,Vp];congr 3;omega
theorem Dt {b o:Nat}{K:Array Value->List kB->Prop}:∀(vs:List Value) (i:Nat) (acc:Array Value),(∀x∈kA b (o+i) vs,x∈H)->K (acc++vs.toArray) H->
 az P (loadCellsFrom ⟨b,o,none⟩ i vs.length acc) H K:=by
 intro vs
 induction vs with
 |nil=>intro i acc _ h;exact az.pure (by simpa using h)
 |cons v vs ih=>
  intro i acc hm h;simp only[Vp,loadCellsFrom,eu];refine az.bind (az.load (v:=v) (hm _ Jo) ?_);refine ih (i+1) (acc.push v) (fun x hx=>hm x (by simp only[kA,Q9];exact .inr hx)) ?_;have:acc.push v++vs.toArray=acc++(v::vs).toArray:=by simp
  rw[this];exact h
theorem az.loadCells {b o n:Nat}{vs:List Value}{K:Array Value->List kB->Prop}(hn:vs.length=n)(hm:∀x∈kA b o vs,x∈H)(h:K vs.toArray H):az P (Go.loadCells ⟨b,o,none⟩ n) H K:=by
 subst hn;exact Dt vs 0 #[] (by simpa using hm) (by simpa using h)
theorem Au {b o:Nat}{K:Unit->List kB->Prop}:∀(vs us:List Value) (i:Nat) (L:List kB),vs.length=us.length->(∀v∈vs,je v=true)->
 (∀L',L'.Perm (kA b (o+i) vs++L)->K () L')->∀M:List kB,M.Perm (kA b (o+i) us++L)->az P (storeCells ⟨b,o,none⟩ vs i) M K:=by
 intro vs
 induction vs with
 |nil=>
  intro us i L hl _ h M hM;cases us <;> simp at hl;exact az.pure (h M (by simpa[kA]using hM))
 |cons v vs ih=>
  intro us i L hl gg h M hM;cases us with
  |nil=>simp at hl
  |cons u us=>
   simp only[storeCells,eu];refine az.perm hM (az.bind ?_);simp only[kA,vf];refine az.store (gg v Zs) ?_;refine ih us (i+1) (.cell b (o+i) v::L) (by simpa using hl) (fun x hx=>gg x (by simp[hx])) (fun L' hL'=>h L' ?_) _ ?_
   ·refine hL'.trans ?_;simp only[kA,vf,Qe];exact QR
   ·simp only[Qe];exact QR.symm
theorem az.storeCells {b o:Nat}{vs us:List Value}{R:List kB}{K:Unit->List kB->Prop}(hl:vs.length=us.length)(gg:∀v∈vs,je v=true)
 (h:K () (kA b o vs++R)):az P (Go.storeCells ⟨b,o,none⟩ vs) (kA b o us++R) K:=by
 have:=Au (P:=P) (b:=b) (o:=o) (K:=fun _ L=>L.Perm (kA b o vs++R)) vs us 0 R hl gg (fun L' hL'=>by simpa using hL') (kA b o us++R) Zs;intro F w hs;obtain⟨v,w',H',h1,h2,h3,h4⟩:=this F w hs;exact⟨v,w',_,h1,h,h3.perm (h2.append_right F),h4⟩
def Src(H:List kB)(size n:Nat)(vs:List Value):Value->Prop
 |.slice (some ⟨b,o,none⟩) _ _=>vs.length=n*size/\∀x∈kA b o vs,x∈H
 |.slice none _ _=>vs=[]
 |.string s=>vs=(s.data.toList.take n).map fun c=>.int .u8 c.toNat
 |_=>False
theorem az.firstCells {size n:Nat}{x:Value}{vs:List Value}{K:Array Value->List kB->Prop}(hx:Src H size n vs x)(h:K vs.toArray H):az P (Builtin.firstCells size n x) H K:=by
 unfold Src at hx;split at hx
 ·exact az.loadCells hx.1 hx.2 h
 ·subst hx;exact az.pure h
 ·rename_i s;subst hx;refine az.pure ?_;have:(s.extract 0 n).data.map (fun b=>Value.int .u8 b.toNat)=((s.data.toList.take n).map fun c=>Value.int .u8 c.toNat).toArray:=by
   apply vD.1;simp[ByteArray.data_extract,Array.toList_extract]
  rw[this];exact h
 ·exact hx.elim
theorem LN {n:Nat}{x v:Operand}{b o:Nat}{us:List Value}{R:List kB}(hx:ρ x=.pointer (some ⟨b,o,none⟩))(hn:(ρ v).cells.size=n)(hu:us.length=n)(gg:∀c∈(ρ v).cells.toList,je c=true)
 (h:K .skip (kA b o (ρ v).cells.toList++R)):
 az P (do let a ← Instr.sureAddr (ρ x); if (ρ v).cells.size = n then (do storeCells a (ρ v).cells.toList; pure .skip) else stuck "size") (kA b o us ++ R) K := by
 rw[hx];refine az.bind (az.pure ?_);rw[if_pos hn];exact az.bind (az.storeCells (by simp[hn,hu]) gg (az.pure h))
theorem uh {c:Array Value}{t:TypeId}{f:Nat->Next}(h:∀b,K (f b) (kA b 0 c.toList++H)):az P (do let b <- newObj (.cells c t);pure (f b)) H K:=
 az.bind (az.LX fun b=>az.pure (h b))
theorem Is {o:Obj}{f:Nat->Next}(ho:wT o=false)(h:∀b,K (f b) (.obj b o::H)):az P (do let b <- newObj o;pure (f b)) H K:=
 az.bind (az.Wn ho fun b=>az.pure (h b))
theorem Gl {m c:Nat}{es:Array MapEntry}{α:Type}{f:Array MapEntry×Nat->Sem α}{K:α->List kB->Prop}(hm:kB.obj m (.map es c)∈H)(h:az P (f (es,c)) H K):az P (wA (.map (some m)) >>=f) H K:=by
 refine az.bind ?_;unfold wA;exact az.bind (az.getObj hm (az.pure h))
theorem Kt(old new:Value){K:Value->List kB->Prop}(h:∀k,k=old∨k=new->K k H):az P (Instr.keyThatStays old new) H K:=by
 unfold Instr.keyThatStays;split
 ·exact az.pure (h _ (.inr rfl))
 ·refine az.bind (az.choose (fun _=>az.pure ?_) (fun n=>az.pure ?_))
  ·exact h _ (.inr rfl)
  ·split
   ·exact h _ (.inr rfl)
   ·exact h _ (.inl rfl)
end
structure RO where
 dst:Option Nat
 guard:Option (Nat×Bool)
 op:R
def dJ(P:Program)(n:Nat)(ops:Array Oper)(o:Oper):Option RO:=
 match kz P o.op with
 |none=>none
 |some r=>
  if o.dst.all (·< n)then
   match o.guard with
   |none=>some ⟨o.dst,none,r⟩
   |some (j,b)=>match(ops[j]?).bind (·.dst)with
    |some s=>some ⟨o.dst,some (s,b),r⟩
    |none=>none
  else none
def jE:R->Bool
 |.cj .. |.gS .. |.P5 .. |.lookup .. |.entry .. |.b2s .. |.S0 .. |.EY .. =>true
 |_=>false
def mi:R->Bool
 |.alloc .. |.box .. |.lJ .. |.og|.s2b .. =>true
 |.append _ _ _ _ (.const (.slice none 0 0)) _=>true
 |_=>false
def Ext(w w':World):Prop:=∀(i:Nat) (o:Obj),w.heap[i]? =some o->w'.heap[i]? =some o
theorem Ext.refl(w:World):Ext w w:=fun _ _ h=>h
theorem Ext.trans {a b c:World}(h:Ext a b)(k:Ext b c):Ext a c:=fun i o e=>k i o (h i o e)
theorem Sat.ext {w w':World}{L:List kB}(h:Sat w L)(e:Ext w w'):Sat w' L:=⟨fun x hx=>by
 have:=h.holds x hx;cases x with
 |cell b off v=>obtain⟨c,t,lo,hi,h1,h2⟩:=this;exact⟨c,t,lo,hi,e _ _ h1,h2⟩
 |obj b o=>exact⟨e _ _ this.1,this.2⟩
 |row b n=>obtain⟨c,t,lo,hi,h1,h2⟩:=this;exact⟨c,t,lo,hi,e _ _ h1,h2⟩
 |own b n=>obtain⟨c,t,lo,hi,h1,h2⟩:=this;exact⟨c,t,lo,hi,e _ _ h1,h2⟩,h.nodup⟩
def kf:R->Bool
 |.mv .. |.pick .. |.bin .. |.eqb .. |.AR .. |.AQ .. |.un .. |.conv .. |.cvs .. |.E2 .. |.yZ .. |.ext .. |.build .. |.sU .. |.JF .. |.Hr .. |.Lv .. |.xA .. |.Lw .. |.HZ .. |.I4 ..
 |.nW .. |.I3 .. |.Pu .. |.EW .. |.cap .. |.min2 .. |.max2 .. |.fS .. =>true
 |_=>false
def jD(g:Option (Nat×Bool))(a:Act):Bool:=
 match g with
 |none=>true
 |some (s,b)=>match a.tmps[s]? with|some (.bool c)=>c==b|_=>false
def wD:Exit->Act->World->Prop:=fun _ _ _=>False
abbrev yW (ρ:Option Nat):Fence:={fn:=fun _=>True,depth:=none,alive:=false,round:=ρ}
def jg(P:Program)(o:Oper)(a:Act)(next:Act->World->Prop)(Z:Exit->Act->World->Prop):Result Next->Prop
 |.ok (.value v) w'=>next (a.put o.dst v) w'
 |.ok .skip w'=>next (a.put o.dst undef) w'
 |.ok (.enter f args) w'=>Calls P f args w' fun
   |.returned v,oq=>next (a.put o.dst v) oq
   |.panicked chain,oq=>Z (.panic chain) a oq
   |.outgrown,_=>False
 |.ok (.round l f tmps assign body) w'=>RoundIn Fence.wide 0 P l f tmps assign body w' fun
   |.returned v,oq=>next (a.put o.dst v) oq
   |.panicked chain,oq=>Z (.panic chain) a oq
   |.outgrown,_=>False
 |.halt (.panic v) w'=>Z (.panic [{v,recovered:=false}]) a w'
 |_=>False
def yS(P:Program)(o:Oper)(a:Act)(w:World)(next:Act->World->Prop)(Z:Exit->Act->World->Prop):Prop:=jg P o a next Z ((execOp a.eval o).run P w)
theorem AL {P:Program}{ρ:Option Nat}{n:Nat}{f:FuncId}{args:Array Value}{w:World}{R:Ending->World->Prop}(h:Calls P f args w R):CallsIn (yW ρ) n P f args w R:=
 ⟨trivial,fun cs _=>let⟨e,w',fr,r,s,x⟩:=h cs;⟨e,w',fr,r,comesIn_wide.2 s,x⟩⟩
theorem SE {P:Program}{ρ:Option Nat}{o:Oper}{a:Act}{next:Act->World->Prop}{Z:Exit->Act->World->Prop}{r:Result Next}(h:jg P o a next Z r):o.uponIn (yW ρ) 0 P a next Z r:=by
 cases r with
 |ok n w'=>
  cases n <;> simp only[jg]at h <;> simp only[Oper.uponIn] <;> first
   |exact h
   |exact h.elim
   |exact⟨fun h=>by simp at h,AL (Calls.mono h (fun e oq he=>by cases e <;> first|exact he|exact he.elim))⟩
   |exact⟨fun h=>by simp at h,RoundIn.mono h (fun e oq he=>by cases e <;> first|exact he|exact he.elim)⟩
 |halt x w'=>cases x <;> simp only[jg]at h <;> simp only[Oper.uponIn] <;> exact h
def wpA(P:Program)(Z:Exit->Act->World->Prop)(x:RO×Oper)(next:Act->World->Prop)(a:Act)(w:World):Prop:=
 (mi x.1.op=true->∃u w',(execOp a.eval x.2).run P w=.ok (.value u) w'/\Ext w w')/\yS P x.2 a w next Z
def jx(P:Program)(Z:Exit->Act->World->Prop)(x:RO×Oper)(next:Act->World->Prop)(a:Act)(w:World):Prop:=
 if jD x.1.guard a then
  if kf x.1.op then ∃v,kR a.eval x.1.op=some v/\next (a.put x.1.dst v) w
  else if jE x.1.op then ∃s v,w7 a.eval x.1.op=some s/\(∀w',Ext w w'->s.run P w'=.ok (.value v) w')/\next (a.put x.1.dst v) w
  else wpA P Z x next a w
 else next (a.put x.1.dst undef) w
def eK(P:Program)(Z:Exit->Act->World->Prop)(Q:Act->World->Prop):List (RO×Oper)->Act->World->Prop
 |[],a,w=>Q a w
 |x::rest,a,w=>jx P Z x (eK P Z Q rest) a w
section
variable {P:Program} {Z:Exit->Act->World->Prop} {Q Q':Act->World->Prop} {a:Act} {w:World}
theorem yO {o:Oper}{K K':Act->World->Prop}(h:∀a w,K a w->K' a w)(hh:yS P o a w K Z):yS P o a w K' Z:=by
 unfold yS at*;generalize (execOp a.eval o).run P w=r at*;cases r with
 |ok n w'=>
  cases n <;> simp only[jg]at hh|- <;> first
   |exact h _ _ hh
   |exact Calls.mono hh (fun e oq he=>by cases e <;> first|exact h _ _ he|exact he)
   |exact RoundIn.mono hh (fun e oq he=>by cases e <;> first|exact h _ _ he|exact he)
 |halt x w'=>cases x <;> simp only[jg]at hh|- <;> exact hh
theorem eL {x:RO×Oper}(h:∀a w,Q a w->Q' a w)(hh:jx P Z x Q a w):jx P Z x Q' a w:=by
 unfold jx at*;split
 ·rename_i h1;rw[if_pos h1]at hh;split
  ·rename_i h2;rw[if_pos h2]at hh;obtain⟨v,e,hv⟩:=hh;exact⟨v,e,h _ _ hv⟩
  ·rename_i h2;rw[if_neg h2]at hh;split
   ·rename_i h3;rw[if_pos h3]at hh;obtain⟨s,v,e,e',hv⟩:=hh;exact⟨s,v,e,e',h _ _ hv⟩
   ·rename_i h3;rw[if_neg h3]at hh;exact⟨hh.1,yO h hh.2⟩
 ·rename_i h1;rw[if_neg h1]at hh;exact h _ _ hh
theorem SV {l:List (RO×Oper)}(h:∀a w,Q a w->Q' a w):∀{a w},eK P Z Q l a w->eK P Z Q' l a w:=by
 induction l with
 |nil=>intro a w hh;exact h _ _ hh
 |cons x l ih=>intro a w hh;exact eL (fun a w h=>ih h) hh
theorem Nb {o:Oper}{K:Act->World->Prop}(hh:yS P o a w K wD):yS P o a w K Z:=by
 unfold yS at*;generalize (execOp a.eval o).run P w=r at*;cases r with
 |ok n w'=>
  cases n <;> simp only[jg]at hh|- <;> first
   |exact hh
   |exact Calls.mono hh (fun e oq he=>by cases e <;> first|exact he|exact he.elim)
   |exact RoundIn.mono hh (fun e oq he=>by cases e <;> first|exact he|exact he.elim)
 |halt x w'=>cases x <;> simp only[jg]at hh|- <;> exact hh.elim
theorem Cg {l:List (RO×Oper)}:∀{a w},eK P wD Q l a w->eK P Z Q l a w:=by
 induction l with
 |nil=>intro a w hh;exact hh
 |cons x l ih=>
  intro a w hh;have h1:jx P wD x (eK P Z Q l) a w:=eL (fun a w h=>ih h) hh;show jx P Z x (eK P Z Q l) a w;unfold jx at*;split
  ·rename_i h2;rw[if_pos h2]at h1;split
   ·rename_i h3;rw[if_pos h3]at h1;exact h1
   ·rename_i h3;rw[if_neg h3]at h1;split
    ·rename_i h4;rw[if_pos h4]at h1;exact h1
    ·rename_i h4;rw[if_neg h4]at h1;exact⟨h1.1,Nb h1.2⟩
  ·rename_i h2;rw[if_neg h2]at h1;exact h1
theorem jG {n:Nat}{ops:Array Oper}{o:Oper}{r:RO}(h:dJ P n ops o=some r):kz P o.op=some r.op/\r.dst=o.dst/\(∀d,r.dst=some d->d < n)/\
 ∀a:Act,Region.wanted o (yielded ops a.tmps)=jD r.guard a:=by
 unfold dJ at h;split at h
 ·cases h
 ·rename_i r' hr;split at h
  case isFalse=>cases h
  rename_i hd;have ON:∀d,o.dst=some d->d < n:=by intro d e;rw[e]at hd;simpa using hd
  split at h
  ·rename_i hg;cases h;exact⟨hr,rfl,ON,fun a=>by simp[Region.wanted,hg,jD]⟩
  ·rename_i j b hg;split at h
   case h_2=>cases h
   rename_i s hs;cases h;refine⟨hr,rfl,ON,fun a=>?_⟩;simp only[Region.wanted,hg,yielded,hs,Option.bind_some,jD];cases a.tmps[s]? with
   |none=>simp
   |some v=>cases v <;> simp
theorem zf(a:Act)(u:Value):a.eval (.const u)=u:=rfl
theorem eM {ρ:Option Nat}{n:Nat}{ops:Array Oper}{X:Nat->RO×Oper}{QQ:Exit->Act->World->Prop}(hX:∀i,i < ops.size->ops[i]? =some (X i).2/\dJ P n ops (X i).2=some (X i).1):
 ∀(l:List Nat) (a:Act) (w:World),(∀i∈l,i < ops.size)->eK P QQ (QQ .normal) (l.map X) a w->wpOpsIn (yW ρ) 0 P ops QQ l a w:=by
 intro l
 induction l with
 |nil=>intro a w _ h;exact h
 |cons i l ih=>
  intro a w hl h;obtain⟨h1,h2⟩:=hX i (hl i Zs);obtain⟨g1,g2,g3,g4⟩:=jG h2;have Ti:=fun a w=>ih a w (fun j hj=>hl j (by simp[hj]))
  have nd:∀c,(X i).2.op≠.defer c:=fun c e=>by rw[e]at g1;simp[kz]at g1
  simp only[Q3,eK,jx]at h;simp only[wpOpsIn,h1,g4 a];split
  ·rename_i hw;rw[if_pos hw]at h;refine⟨fun _ _=>trivial,?_⟩;rw[Oper.semAt_plain _ _ _ nd];refine SE ?_;split at h
   ·obtain⟨v,hv,hn⟩:=h;simp only[o6 (w:=w) (zf a) g1 hv,jg,<- g2];exact Ti _ _ hn
   ·split at h
    ·obtain⟨s,v,hs,hr,hn⟩:=h;simp only[rZ (zf a) g1 hs (hr w (.refl w)),jg,<- g2];exact Ti _ _ hn
    ·exact yO Ti h.2
  ·rename_i hw;rw[if_neg hw]at h;refine⟨fun _ _=>trivial,?_⟩;rw[<- g2];exact Ti _ _ h
end
def cC(g:Option (Nat×Bool)):List Nat:=match g with|some (s,_)=>[s]|none=>[]
def nU(x:Option Operand):List Operand:=x.toList
def iI:R->List Operand
 |.mv x|.un _ x|.conv _ x|.cvs x|.E2 _ x|.ext x _|.sU x|.JF _ x|.Hr _ _ _ x|.Pu x|.EW x|.cap x|.fS _ _ _ x|.AR _ _ x|.cj x|.gS _ x|.P5 x|.entry x|.b2s x=>[x]
 |.pick c a b=>[c,a,b]
 |.bin _ x y|.eqb _ x y|.AQ _ _ x y|.Lv _ _ x y|.xA _ x y|.Lw x y|.HZ _ _ _ x y|.min2 x y|.max2 x y|.lookup _ _ _ x y|.S0 _ _ x y|.EY _ _ x y=>[x,y]
 |.yZ _ f c=>f++c
 |.build _ ps=>ps.map (·.2.2)
 |.I4 x lo hi=>x::(nU lo++nU hi)
 |.nW _ x lo hi mx=>x::(nU lo++nU hi++nU mx)
 |.I3 _ _ x lo hi=>x::(nU lo++nU hi)
 |_=>[]
def cN(l:List Operand):List Nat:=l.filterMap fun|.tmp t=>some t|_=>none
def looks(x:RO×Oper):List Nat:=cC x.1.guard++(if kf x.1.op||jE x.1.op then cN (iI x.1.op)else cN x.2.op.operands.toList)
def rB(x y:RO×Oper):Bool:=match x.1.dst with|some d=>!(looks y).contains d&&y.1.dst !=some d|none=>true
def indep(x y:RO×Oper):Bool:=rB x y&&rB y x&&(kf x.1.op||kf y.1.op||(jE x.1.op&&jE y.1.op)||(mi x.1.op&&jE y.1.op))
theorem gW {ρ XJ:Operand->Value}{o:Option Operand}(h:∀x∈nU o,ρ x=XJ x):o.map ρ=o.map XJ:=by
 cases o with
 |none=>rfl
 |some x=>simp[h x (by simp[nU])]
theorem fN {ρ XJ:Operand->Value}{r:R}(hp:kf r=true)(h:∀x∈iI r,ρ x=XJ x):kR ρ r=kR XJ r:=by
 cases r <;> simp only[kf]at hp <;> first|(cases hp;done)|skip
 case yZ f first c=>
  simp only[iI,Q7]at h;simp only[kR];rw[Q1 (fun x hx=>h x (.inl hx)),Q1 (fun x hx=>h x (.inr hx))]
 case build z ps=>
  simp only[iI,QE]at h;simp only[kR];have:jR ρ ps=jR XJ ps:=by
   simp only[jR];refine Q1 (fun p hp=>?_);obtain⟨a,b,c⟩:=p;simp[h c ⟨_,hp,rfl⟩]
  rw[this]
 case I4 x lo hi=>
  exact zD1
 case nW z x lo hi mx=>
  simp only[iI,Q9,Q7]at h;simp only[kR,h x (.inl rfl),gW (fun y hy=>h y (.inr (.inl (.inl hy)))),gW (fun y hy=>h y (.inr (.inl (.inr hy)))),gW (fun y hy=>h y (.inr (.inr hy)))]
 case I3 n z x lo hi=>
  exact zD1
 case un op x=>cases op <;> simp only[iI,QI,forall_eq]at h <;> simp only[kR,h]
 all_goals (simp only[iI,Q9,List.not_mem_nil,or_false,forall_eq_or_imp,forall_eq]at h;simp only[kR,h])
theorem Iq {ρ XJ:Operand->Value}{r:R}(hp:jE r=true)(h:∀x∈iI r,ρ x=XJ x):w7 ρ r=w7 XJ r:=by
 cases r <;> simp only[jE]at hp <;> first|(cases hp;done)|skip
 all_goals (simp only[iI,Q9,List.not_mem_nil,or_false,forall_eq_or_imp,forall_eq]at h;simp only[w7,h])
section
variable {P:Program}
theorem lQ {a:Act}{d:Option Nat}{v:Value}{l:List Operand}(h:∀t,d=some t->t∉cN l){x:Operand}(hx:x∈l):(a.put d v).eval x=a.eval x:=by
 refine Act.eval_put (fun t e hxt=>?_);subst hxt;exact h t e (by simp only[cN,List.mem_filterMap];exact⟨_,hx,rfl⟩)
theorem di {a:Act}{d:Option Nat}{v:Value}{g:Option (Nat×Bool)}(h:∀t,d=some t->t∉cC g):jD g (a.put d v)=jD g a:=by
 cases g with
 |none=>rfl
 |some p=>
  obtain⟨s,b⟩:=p;cases d with
  |none=>rfl
  |some t=>
   have cF:t≠s:=fun e=>h t rfl (by simp[cC,e])
   simp[jD,Act.put,vB cF]
def Yv(P:Program)(x:RO×Oper)(a:Act)(w:World)(v:Value):Prop:=
 if jD x.1.guard a then
  if kf x.1.op then kR a.eval x.1.op=some v else ∃s,w7 a.eval x.1.op=some s/\∀w',Ext w w'->s.run P w'=.ok (.value v) w'
 else v=undef
theorem jw {Z:Exit->Act->World->Prop}{x:RO×Oper}(hq:(kf x.1.op||jE x.1.op)=true){K:Act->World->Prop}{a:Act}{w:World}:jx P Z x K a w↔∃v,Yv P x a w v/\K (a.put x.1.dst v) w:=by
 unfold jx Yv;split
 ·split
  ·exact Iff.rfl
  ·rename_i hp;have hr:jE x.1.op=true:=by simpa[hp]using hq
   rw[if_pos hr];constructor
   ·rintro⟨s,v,h1,h2,h3⟩;exact⟨v,⟨s,h1,h2⟩,h3⟩
   ·rintro⟨v,⟨s,h1,h2⟩,h3⟩;exact⟨s,v,h1,h2,h3⟩
 ·constructor
  ·intro h;exact⟨_,rfl,h⟩
  ·rintro⟨v,rfl,h⟩;exact h
theorem z3 {x:RO×Oper}{t:Nat}(h:t∉looks x):t∉cC x.1.guard/\((kf x.1.op||jE x.1.op)=true->t∉cN (iI x.1.op))/\((kf x.1.op||jE x.1.op)=false->t∉cN x.2.op.operands.toList):=by
 simp only[looks,Q7,not_or]at h;refine⟨h.1,fun e=>?_,fun e=>?_⟩
 ·rw[if_pos e]at h;exact h.2
 ·rw[if_neg (by simp[e])]at h;exact h.2
theorem oy {x:RO×Oper}(hq:(kf x.1.op||jE x.1.op)=true){d:Option Nat}(hd:∀t,d=some t->t∉looks x){a:Act}{w:World}{u v:Value}:Yv P x (a.put d u) w v↔Yv P x a w v:=by
 unfold Yv;rw[di (fun t e=>(z3 (hd t e)).1)];have he:∀y∈iI x.1.op,(a.put d u).eval y=a.eval y:=fun y hy=>lQ (fun t e=>(z3 (hd t e)).2.1 hq) hy
 split
 ·split
  ·rename_i hp;rw[fN hp he]
  ·rename_i hp;have hr:jE x.1.op=true:=by simpa[hp]using hq
   rw[Iq hr he]
 ·exact Iff.rfl
theorem Jn {x:RO×Oper}(hp:kf x.1.op=true){a:Act}{w w':World}{v:Value}:Yv P x a w v↔Yv P x a w' v:=by
 unfold Yv;simp[hp]
theorem Y0 {x:RO×Oper}{a:Act}{w w':World}{v:Value}(h:Yv P x a w v)(e:Ext w w'):Yv P x a w' v:=by
 unfold Yv at*;split at h
 ·rename_i hw;rw[if_pos hw];split at h
  ·rename_i hp;rw[if_pos hp];exact h
  ·rename_i hp;rw[if_neg hp];obtain⟨s,h1,h2⟩:=h;exact⟨s,h1,fun w2 e2=>h2 w2 (e.trans e2)⟩
 ·rename_i hw;rw[if_neg hw];exact h
theorem Y1 {x:RO×Oper}{a:Act}{w:World}{u v:Value}(h:Yv P x a w u)(k:Yv P x a w v):u=v:=by
 unfold Yv at*;split at h
 ·rename_i hw;rw[if_pos hw]at k;split at h
  ·rename_i hp;rw[if_pos hp]at k;rw[h]at k;cases k;rfl
  ·rename_i hp;rw[if_neg hp]at k;obtain⟨s,h1,h2⟩:=h;obtain⟨s',k1,k2⟩:=k;rw[h1]at k1;cases k1;have h3:=h2 w (.refl w);rw[k2 w (.refl w)]at h3;cases h3;rfl
 ·rename_i hw;rw[if_neg hw]at k;rw[h,k]
end
section
variable {P:Program}
theorem SF {o:Oper}{a:Act}{d:Nat}{u:Value}(hd:o.dst≠some d){K:Act->World->Prop}{r:Result Next}
 (h:jg P o a (fun a' w'=>K (a'.put (some d) u) w') wD r):jg P o (a.put (some d) u) K wD r:=by
 have hc:∀v,(a.put o.dst v).put (some d) u=(a.put (some d) u).put o.dst v:=fun v=>Act.put_comm a v u (fun e h1 h2=>hd (by rw[h1,<- h2]))
 cases r with
 |ok n w'=>
  cases n <;> simp only[jg]at h|-
  case value v=>rw[<- hc];exact h
  case skip=>rw[<- hc];exact h
  case enter f args=>exact Calls.mono h (fun e oq he=>by cases e <;> first|(simp only at he|-;rw[<- hc];exact he)|exact he)
  case round l f tmps assign body=>exact RoundIn.mono h (fun e oq he=>by cases e <;> first|(simp only at he|-;rw[<- hc];exact he)|exact he)
 |halt x w'=>cases x <;> simp only[jg]at h|- <;> exact h
theorem M4 {o:Oper}{a:Act}{d:Nat}{u:Value}(hd:o.dst≠some d){K:Act->World->Prop}{r:Result Next}
 (h:jg P o (a.put (some d) u) K wD r):jg P o a (fun a' w'=>K (a'.put (some d) u) w') wD r:=by
 have hc:∀v,(a.put o.dst v).put (some d) u=(a.put (some d) u).put o.dst v:=fun v=>Act.put_comm a v u (fun e h1 h2=>hd (by rw[h1,<- h2]))
 cases r with
 |ok n w'=>
  cases n <;> simp only[jg]at h|-
  case value v=>rw[hc];exact h
  case skip=>rw[hc];exact h
  case enter f args=>exact Calls.mono h (fun e oq he=>by cases e <;> first|(simp only at he|-;rw[hc];exact he)|exact he)
  case round l f tmps assign body=>exact RoundIn.mono h (fun e oq he=>by cases e <;> first|(simp only at he|-;rw[hc];exact he)|exact he)
 |halt x w'=>cases x <;> simp only[jg]at h|- <;> exact h
theorem Gu {o:Oper}{a:Act}{K:Act->World->Prop}{r:Result Next}(h:jg P o a K wD r):∃ds v w',K ({a with defers:=ds}.put o.dst v) w':=by
 cases r with
 |ok n w'=>
  cases n <;> simp only[jg]at h
  case value v=>exact⟨a.defers,v,w',h⟩
  case skip=>exact⟨a.defers,undef,w',h⟩
  case enter f args=>
   obtain⟨e,w1,fr,hR,_⟩:=h [];exact zE4
  case round l f tmps assign body=>
   obtain⟨e,w1,hR,_⟩:=h.2 default [] (room_wide _);exact zE4
 |halt x w'=>cases x <;> simp only[jg]at h <;> exact h.elim
theorem Ei(a:Act)(ds:List Deferred):({a with defers:=ds}:Act).eval=a.eval:=by funext x;cases x <;> rfl
theorem ru {x:RO×Oper}{a:Act}{ds:List Deferred}{w:World}{v:Value}:Yv P x {a with defers:=ds} w v↔Yv P x a w v:=by
 unfold Yv;rw[Ei];have:jD x.1.guard {a with defers:=ds}=jD x.1.guard a:=by cases x.1.guard <;> rfl
 rw[this]
structure Good (P:Program)(n:Nat)(ops:Array Oper)(x:RO×Oper):Prop where
 low:dJ P n ops x.2=some x.1
 aQ:∀cs b,x.2.op≠.select cs b
theorem C2 {op:Op}{r:R}(h:kz P op=some r)(cs:Array SelectCase)(b:Bool):op≠.select cs b:=by
 rintro rfl;simp[kz]at h
theorem Good.Rv {n:Nat}{ops:Array Oper}{x:RO×Oper}(h:dJ P n ops x.2=some x.1):Good P n ops x:=⟨h,C2 (jG h).1⟩
theorem z8 {x y:RO×Oper}(h:rB x y=true):∀d,x.1.dst=some d->d∉looks y/\y.1.dst≠some d:=by
 intro d e;simp only[rB,e,vF,vL,bne_iff_ne]at h;exact⟨by simpa using h.1,h.2⟩
variable {n:Nat} {ops:Array Oper}
theorem swap {x y:RO×Oper}(gx:Good P n ops x)(gy:Good P n ops y)(h:indep x y=true){K:Act->World->Prop}{a:Act}{w:World}
 (hh:jx P wD y (fun a w=>jx P wD x K a w) a w):jx P wD x (fun a w=>jx P wD y K a w) a w:=by
 simp only[indep,vF]at h;obtain⟨⟨GY,hyx⟩,hc⟩:=h;have XP:=z8 GY;have Y8:=z8 hyx;have comm:∀(b:Act) (u v:Value),(b.put x.1.dst u).put y.1.dst v=(b.put y.1.dst v).put x.1.dst u:=fun b u v=>Act.put_comm b u v (fun d e=>(XP d e).2)
 by_cases qx:(kf x.1.op||jE x.1.op)=true
 ·by_cases qy:(kf y.1.op||jE y.1.op)=true
  ·obtain⟨v,hv,h1⟩:=(jw qy).1 hh;obtain⟨u,hu,h2⟩:=(jw qx).1 h1;refine(jw qx).2 ⟨u,(oy qx (fun t e=>(Y8 t e).1)).1 hu,(jw qy).2 ⟨v,(oy qy (fun t e=>(XP t e).1)).2 hv,?_⟩⟩;rw[comm];exact h2
  ·-- x is pure,y acts
   have RS:(kf y.1.op||jE y.1.op)=false:=by simpa using qy
   have px:kf x.1.op=true:=by
    try simp only[vO,vF]at hc
    simp only[Bool.or_eq_false_iff]at RS;rcases hc with((h|h)|h)|h
    ·exact h
    ·rw[RS.1]at h;cases h
    ·rw[RS.2]at h;cases h.2
    ·rw[RS.2]at h;cases h.2
   simp only[Bool.or_eq_false_iff]at RS;by_cases hw:jD y.1.guard a=true
   ·unfold jx at hh;rw[if_pos hw,if_neg (by simp[RS.1]),if_neg (by simp[RS.2])]at hh;obtain⟨tE,hh⟩:=hh
    replace hh:=yO (K':=fun a w=>∃v,Yv P x a w v/\K (a.put x.1.dst v) w) (fun a w h=>(jw qx).1 h) hh
    obtain⟨gl1,gl2,gl3,_⟩:=jG gy.low;obtain⟨ds,v0,w0,u,hu,_⟩:=Gu hh;have n9:∀w,Yv P x a w u:=fun w=>by
     rw[<- gl2]at hu;have:=(oy qx (fun t e=>(Y8 t e).1)).1 hu;exact(Jn px).1 (ru.1 this)
    refine(jw qx).2 ⟨u,n9 w,?_⟩;have rT:jD y.1.guard (a.put x.1.dst u)=true:=by rw[di (fun t e=>(z3 (XP t e).1).1)];exact hw
    show jx P wD y K (a.put x.1.dst u) w;unfold jx;rw[if_pos rT,if_neg (by simp[RS.1]),if_neg (by simp[RS.2])];have he:execOp (a.put x.1.dst u).eval y.2=execOp a.eval y.2:=
     execOp_congr y.2 gy.aQ (fun z hz=>lQ (fun t e=>(z3 (XP t e).1).2.2 (by simp[RS.1,RS.2])) (by simpa using hz))
    refine⟨fun e=>by rw[he];exact tE e,?_⟩;unfold yS at hh|-;rw[he];have step:jg P y.2 a (fun a' w'=>K (a'.put x.1.dst u) w') wD ((execOp a.eval y.2).run P w):=by
     generalize (execOp a.eval y.2).run P w=r at hh;have fin:∀{b:Act} {w':World},(∃ds v,b={a with defers:=ds}.put y.2.dst v)->(∃u',Yv P x b w' u'/\K (b.put x.1.dst u') w')->K (b.put x.1.dst u) w':=by
      rintro b w' ⟨ds,v,rfl⟩ ⟨u',h1,h2⟩
      rw[<- gl2]at h1;have h3:=(oy qx (fun t e=>(Y8 t e).1)).1 h1;have h4:=ru.1 h3;rw[Y1 (n9 w') h4];exact h2
     cases r with
     |ok nx w'=>
      cases nx <;> simp only[jg]at hh|-
      case value v=>exact fin ⟨a.defers,v,rfl⟩ hh
      case skip=>exact fin ⟨a.defers,undef,rfl⟩ hh
      case enter f args=>exact Calls.mono hh (fun e oq he=>by cases e <;> first|exact fin ⟨a.defers,_,rfl⟩ he|exact he)
      case round l f tmps assign body=>exact RoundIn.mono hh (fun e oq he=>by cases e <;> first|exact fin ⟨a.defers,_,rfl⟩ he|exact he)
     |halt z w'=>cases z <;> simp only[jg]at hh|- <;> exact hh
    cases hxd:x.1.dst with
    |none=>rw[hxd]at step;exact step
    |some d=>
     rw[hxd]at step;exact SF (by rw[<- gl2];exact(XP d hxd).2) step
   ·unfold jx at hh;rw[if_neg hw]at hh;obtain⟨u,hu,h2⟩:=(jw qx).1 hh;refine(jw qx).2 ⟨u,(oy qx (fun t e=>(Y8 t e).1)).1 hu,?_⟩;show jx P wD y K (a.put x.1.dst u) w;unfold jx;rw[if_neg (by rw[di (fun t e=>(z3 (XP t e).1).1)];exact hw),comm];exact h2
 ·-- x acts,y is pure
  have YH:(kf x.1.op||jE x.1.op)=false:=by simpa using qx
  have pq:kf y.1.op=true∨(mi x.1.op=true/\jE y.1.op=true):=by
   try simp only[vO,vF]at hc
   simp only[Bool.or_eq_false_iff]at YH;rcases hc with((h|h)|h)|h
   ·rw[YH.1]at h;cases h
   ·exact .inl h
   ·rw[YH.2]at h;cases h.1
   ·exact .inr h
  have qy:(kf y.1.op||jE y.1.op)=true:=by rcases pq with h|h <;> simp[h]
  simp only[Bool.or_eq_false_iff]at YH;obtain⟨v,hv,h1⟩:=(jw qy).1 hh;have hwe:jD x.1.guard (a.put y.1.dst v)=jD x.1.guard a:=di (fun t e=>(z3 (Y8 t e).1).1);unfold jx at h1|-;rw[hwe]at h1;by_cases hw:jD x.1.guard a=true
  ·rw[if_pos hw,if_neg (by simp[YH.1]),if_neg (by simp[YH.2])]at h1|-;obtain⟨gl1,gl2,gl3,_⟩:=jG gx.low;obtain⟨tE,h1⟩:=h1;unfold yS at h1;have he:execOp (a.put y.1.dst v).eval x.2=execOp a.eval x.2:=
    execOp_congr x.2 gx.aQ (fun z hz=>lQ (fun t e=>(z3 (Y8 t e).1).2.2 (by simp[YH.1,YH.2])) (by simpa using hz))
   rw[he]at h1 tE;refine⟨tE,?_⟩;unfold yS;have step:jg P x.2 a (fun a' w'=>K (a'.put y.1.dst v) w') wD ((execOp a.eval x.2).run P w):=by
    cases hyd:y.1.dst with
    |none=>rw[hyd]at h1;exact h1
    |some d=>
     rw[hyd]at h1;exact M4 (by rw[<- gl2];exact(Y8 d hyd).2) h1
   have fin0:∀{b:Act} {w':World},(∃ds u,b={a with defers:=ds}.put x.2.dst u)->Yv P y a w' v->K (b.put y.1.dst v) w'->jx P wD y K b w':=by
    rintro b w' ⟨ds,u,rfl⟩ hv h2
    refine(jw qy).2 ⟨v,?_,h2⟩;rw[<- gl2];exact(oy qy (fun t e=>(XP t e).1)).2 (ru.2 hv)
   rcases pq with py|⟨nx,_⟩
   rotate_left
   ·obtain⟨u,w',bI,ZY⟩:=tE nx;rw[bI]at step|-;exact fin0 ⟨a.defers,u,rfl⟩ (Y0 hv ZY) step
   have fin:∀{b:Act} {w':World},(∃ds u,b={a with defers:=ds}.put x.2.dst u)->K (b.put y.1.dst v) w'->jx P wD y K b w':=fun hb h2=>fin0 hb ((Jn py).1 hv) h2
   generalize (execOp a.eval x.2).run P w=r at step;cases r with
   |ok nx w'=>
    cases nx <;> simp only[jg]at step|-
    case value u=>exact fin ⟨a.defers,u,rfl⟩ step
    case skip=>exact fin ⟨a.defers,undef,rfl⟩ step
    case enter f args=>exact Calls.mono step (fun e oq he=>by cases e <;> first|exact fin ⟨a.defers,_,rfl⟩ he|exact he)
    case round l f tmps assign body=>exact RoundIn.mono step (fun e oq he=>by cases e <;> first|exact fin ⟨a.defers,_,rfl⟩ he|exact he)
   |halt z w'=>cases z <;> simp only[jg]at step|- <;> exact step
  ·rw[if_neg hw]at h1|-;refine(jw qy).2 ⟨v,(oy qy (fun t e=>(XP t e).1)).2 hv,?_⟩;rw[comm];exact h1
theorem Xy {X:Nat->RO×Oper}{Q:Act->World->Prop}(i:Nat)(l2:List Nat)(gi:Good P n ops (X i)):∀(l1:List Nat),(∀j∈l1,Good P n ops (X j)/\indep (X i) (X j)=true)->
 ∀{a w},eK P wD Q ((l1++i::l2).map X) a w->eK P wD Q ((i::(l1++l2)).map X) a w:=by
 intro l1
 induction l1 with
 |nil=>intro _ a w h;exact h
 |cons j l1 ih=>
  intro hj a w h;have h1:jx P wD (X j) (eK P wD Q ((i::(l1++l2)).map X)) a w:=eL (fun a w h=>ih (fun k hk=>hj k (by simp[hk])) h) h;obtain⟨gj,Ey⟩:=hj j Zs;exact swap gi gj Ey h1
theorem reorder {X:Nat->RO×Oper}{Q:Act->World->Prop}:∀(l o:List Nat),o.Perm l->l.Nodup->(∀i∈l,Good P n ops (X i))->
 o.Pairwise (fun x y=>indep (X y) (X x)=true∨[x,y].Sublist l)->∀{a w},eK P wD Q (o.map X) a w->eK P wD Q (l.map X) a w:=by
 intro l
 induction l with
 |nil=>intro o hp _ _ _ a w h;rw[List.perm_nil.1 hp]at h;exact h
 |cons i l ih=>
  intro o hp hn hg HN a w h;have hi:i∈o:=hp.mem_iff.2 Zs;obtain⟨o1,o2,rfl⟩:=List.append_of_mem hi;have JX:=QL.1 hn;have hind:∀x∈o1,indep (X i) (X x)=true:=by
   intro x hx;have J6:=(List.pairwise_append.1 HN).2.2 x hx i Zs;rcases J6 with h|h
   ·exact h
   ·exfalso;cases h with
    |cons _ h=>exact JX.1 (h.subset Zs)
    |cons_cons _ h=>exact JX.1 (h.subset Zs)
  have h1:=Xy i o2 (hg i Zs) o1 (fun x hx=>⟨hg x (hp.mem_iff.1 (by simp[hx])),hind x hx⟩) h;have hp':(o1++o2).Perm l:=by
   have:=(QR (a:=i) (l₁:=o1) (l₂:=o2)).symm.trans hp;exact List.Perm.cons_inv this
  refine eL (fun a w h=>ih (o1++o2) hp' JX.2 (fun j hj=>hg j (by simp[hj])) ?_ h) h1;have eA:(o1++o2).Sublist (o1++i::o2):=List.Sublist.append_left (QX i o2) o1;have hpw':=HN.sublist eA;refine hpw'.imp_of_mem (fun {x y} hx hy h=>?_);rcases h with h|h
  ·exact .inl h
  ·right;have hxi:x≠i:=by rintro rfl;exact JX.1 (hp'.mem_iff.1 hx)
   cases h with
   |cons _ h=>exact h
   |cons_cons _ h=>exact absurd rfl hxi
end
end Go.V

/-
  What reads, makes or writes memory: its text with the types resolved, and that the model's operation does that.
-/
import Derived.Test.YtijnokbblmbpkaaGreatDoorM2
import Derived.Orders
import Derived.RangeFuncIn
import Derived.RangeFuncLeaves
import Derived.OwnWalkIn
set_option linter.all false
namespace Go.V
open Go
def kw(n:Nat)(zero:List Value):List Value:=(List.range (n*zero.length)).map fun i=>zero[i % zero.length]!
def KZ:SK->Value->Value->Option Bool
 |.int,.int k a,.int k' b=>if k=k' then some (a==b)else none
 |.str,.string a,.string b=>some (decide (a=b))
 |.bool,.bool a,.bool b=>some (a==b)
 |_,_,_=>none
def mC(sk:SK)(k:Value):List MapEntry->Nat->Option (Option (Nat×Value))
 |[],_=>some none
 |e::es,i=>
  match KZ sk k e.key with
  |some true=>some (some (i,e.val))
  |some false=>mC sk k es (i+1)
  |none=>none
def wS:Value->Sem (Array MapEntry×Nat)
 |.map none=>pure (#[],0)
 |.map (some r)=>do
  match <- getObj r with
  |.map es c=>pure (es,c)
  | _ => stuck "map"
 | _ => stuck "map"
def uI(ok:Bool)(zero:Value):Option (Nat×Value)->Value
 |some (_,v)=>if ok then .tuple #[v,.bool true]else v
 |none=>if ok then .tuple #[zero,.bool false]else zero
def ej:Value->Option Nat
 |.slice _ n _=>some n
 |.string s=>some s.size
 |_=>none
def wQ(ρ:Operand->Value):R->Option (Sem Next)
 |.qE x=>some do let a <- Instr.sureAddr (ρ x);let v <- load a;pure (.value v)
 |.iB n x=>some do let a <- Instr.sureAddr (ρ x);let cs <- loadCells a n;pure (.value (.agg cs))
 |.Ru m=>some do let(es,_) <- wS (ρ m);pure (.value (.int .i64 es.size))
 |.lookup sk zero ok m key=>some do
  let(es,_) <- wS (ρ m)
  match mC sk (ρ key) es.toList 0 with
  |some r=>pure (.value (uI ok zero r))
  | none => stuck "key"
 |.entry it=>some do let v <- Instr.entry (ρ it);pure (.value v)
 |.b2s x=>some do let v <- Conv.bytesToString (ρ x);pure (.value v)
 |.alloc t zero=>some do let b <- newObj (.cells zero.toArray t);pure (.value (.pointer (some ⟨b,0,none⟩)))
 |.box t x=>some do let b <- newObj (.cells (ρ x).cells t);pure (.value (.pointer (some ⟨b,0,none⟩)))
 |.gM t len zero parts=>some <|match jX (kw len zero) (jW ρ parts)with
  |some out=>do let b <- newObj (.cells out.toArray t);pure (.value (.slice (some ⟨b,0,none⟩) len len))
  | none => stuck "parts"
 |.oF=>some do let b <- newObj (.map #[] 0);pure (.value (.map (some b)))
 |.Ei t size bytes zero l c=>some <|match ρ l,ρ c with
  |.int _ l,.int _ c=>if 0<=l/\l<=c/\c<=9223372036854775807/\bytes*c<=2 ^ 48 then if zero.length=size then do
    let b <- newObj (.cells (kw c.toNat zero).toArray t);pure (.value (.slice (some ⟨b,0,none⟩) l.toNat c.toNat))
   else stuck "size" else stuck "size"
  | _, _ => stuck "size"
 |.Sz x=>some <|match ρ x with
  |.string s=>do let b <- newObj (.stringIter s 0);pure (.value (.pointer (some ⟨b,0,none⟩)))
  | _ => stuck "string"
 |.Sy x=>some <|match ρ x with
  |.map none=>do let b <- newObj (.mapIter none 0 #[] 0);pure (.value (.pointer (some ⟨b,0,none⟩)))
  |.map (some m)=>do let(_,clock) <- wS (.map (some m));let b <- newObj (.mapIter (some m) clock #[] clock);pure (.value (.pointer (some ⟨b,0,none⟩)))
  | _ => stuck "map"
 |.s2b t x=>some <|match ρ x with
  |.string s=>do let v <- Conv.stringToBytes t s;pure (.value v)
  | _ => stuck "string"
 | .store n x v => some do let a ← Instr.sureAddr (ρ x); if (ρ v).cells.size = n then (do storeCells a (ρ v).cells.toList; pure .skip) else stuck "size"
 |.yk sk m key v=>some <|match ρ m with
  |.map (some r)=>do
   let(es,clock) <- wS (.map (some r))
   match mC sk (ρ key) es.toList 0 with
   |some (some (i,_))=>do
    let key <- Instr.keyThatStays (((es[i]?).map (·.key)).getD (ρ key)) (ρ key)
    setObj r (.map (es.modify i fun e=>{e with key,val:=ρ v}) clock);pure .skip
   |some none=>do setObj r (.map (es.push {key:=ρ key,val:=ρ v,born:=clock}) (clock+1));pure .skip
   | none => stuck "key"
  | _ => stuck "map"
 |.delete sk m key=>some <|match ρ m with
  |.map (some r)=>do
   let(es,clock) <- wS (.map (some r))
   match mC sk (ρ key) es.toList 0 with
   |some (some (i,_))=>do setObj r (.map (es.eraseIdxIfInBounds i) clock);pure (.value (.tuple #[]))
   |some none=>do setObj r (.map es clock);pure (.value (.tuple #[]))
   | none => stuck "key"
  |.map none=>pure (.value (.tuple #[]))
  | _ => stuck "map"
 |.append t size bytes zero s x=>some <|match ρ s,ej (ρ x)with
  |.slice base n c,some m=>
   if n+m<=c then do
    let new <- Builtin.firstCells size m (ρ x)
    if let some a:=base then storeCells (a.add (n*size)) new.toList
    pure (.value (.slice base (n+m) c))
   else if Builtin.nextslicecap (n + m) c * bytes > 2 ^ 48 ∨ bytes = 0 then stuck "size" else do
    let cap <- choose (.appendCap (n+m) c t)
    let old <- Builtin.firstCells size n (ρ s)
    let new <- Builtin.firstCells size m (ρ x)
    let b <- newObj (.cells (old++new++(kw (cap - (n+m)) zero).toArray) t)
    pure (.value (.slice (some ⟨b,0,none⟩) (n+m) cap))
  | _, _ => stuck "append"
 |.grow t size bytes zero s x=>some <|match ρ s,ρ x with
  |.slice base n c,.int _ l=>
   if l < 0 ∨ l * bytes > 2 ^ 48 ∨ IntKind.i64.wrap l ≠ l ∨ size = 0 then stuck "grow" else
   if n+l.toNat<=c then do
    if let some a:=base then storeCells (a.add (n*size)) (kw l.toNat zero)
    pure (.value (.slice base (n+l.toNat) c))
   else if Builtin.nextslicecap (n + l.toNat) c * bytes > 2 ^ 48 ∨ bytes = 0 ∨ ((n + l.toNat : Nat) : Int) > IntKind.i64.max then stuck "size" else do
    let cap <- choose (.appendCap (n+l.toNat) c t)
    let old <- Builtin.firstCells size n (ρ s)
    let b <- newObj (.cells (old++(kw l.toNat zero).toArray++(kw (cap - (n+l.toNat)) zero).toArray) t)
    pure (.value (.slice (some ⟨b,0,none⟩) (n+l.toNat) cap))
  | _, _ => stuck "grow"
 |.copy size d s=>some <|match ρ d,ej (ρ s)with
  |.slice base n _,some m=>do
   let cells <- Builtin.firstCells size (Nat.min m n) (ρ s)
   if let some a:=base then storeCells a cells.toList
   pure (.value (.int .i64 (Nat.min m n)))
  | _, _ => stuck "copy"
 |.clr zero x=>some <|match ρ x with
  |.slice base n _=>do
   if let some a:=base then storeCells a (kw n zero)
   pure (.value (.tuple #[]))
  | _ => stuck "clear"
 |.next it s=>some do let v <- Instr.next (ρ it) s 0;pure (.value v)
 |.T6 op t x y=>some do eqGuard op t x y (ρ x) (ρ y);let v <- Go.binOp op t (ρ x) (ρ y);pure (.value v)
 |.GM t ok m k=>some do let v <- Instr.lookup t (ρ m) (ρ k) ok;pure (.value v)
 |.updt t m k v=>some do Instr.mapUpdate t (ρ m) (ρ k) (ρ v);pure .skip
 |.ment t m k=>some do let v <- Instr.mapEntry t (ρ m) (ρ k);pure (.value v)
 |.mst t m s v=>some do Instr.entryStore t (ρ m) (ρ s) (ρ v);pure .skip
 |_=>none
section
variable {P:Program} {ρ:Operand->Value} {w w':World} {n:Next} {r:R} {s:Sem Next}
theorem JK {d:TypeDesc}{sk:SK}(h:nw d=some sk)(a b:Value):Instr.sameNow d a b=KZ sk a b:=by
 cases d <;> simp[nw]at h <;> subst h <;> cases a <;> cases b <;> simp[Instr.sameNow,KZ];rename_i a b;rw[beq_toListBytes,JV]
theorem IJ {d:TypeDesc}{sk:SK}(h:nw d=some sk)(k:Value):∀(es:List MapEntry) (i:Nat),Instr.findNow d k es i=mC sk k es i:=by
 intro es
 induction es with
 |nil=>intro i;rfl
 |cons e es ih=>
  intro i;simp only[Instr.findNow,mC,JK h,ih];split <;> simp_all
theorem yI {t:TypeId}{d:TypeDesc}{sk:SK}(ht:P.underlying t=some d)(h:nw d=some sk)(e:Bool)(v:Value):(Instr.checkKey e 10000 t v).run P w=.ok () w:=by
 show(Instr.checkKey e (9999+1) t v).run P w=_;generalize 9999=n;cases d <;> simp[nw]at h <;> cases v <;> simp[Instr.checkKey,kE ht]
theorem run_findKey {t:TypeId}{d:TypeDesc}{sk:SK}(ht:P.underlying t=some d)(h:nw d=some sk){k:Value}{es:List MapEntry}{r:Option (Nat×Value)}(hf:mC sk k es 0=some r):
 (Instr.findKey t k es).run P w=.ok r w:=by
 simp[Instr.findKey,kE ht,IJ h,hf]
theorem SX {t:TypeId}{sk:SK}(h:(P.underlying t).bind nw=some sk):∃d,P.underlying t=some d/\nw d=some sk:=Qx.1 h
theorem pI(n:Nat)(z:Array Value):(kw n z.toList).toArray=(Array.range (n*z.size)).map (z[·% z.size]!):=by
 apply vC.1;simp only[kw,vD,Array.toList_range,Array.length_toList];apply QB;intro a _;rw[getElem!_def,getElem!_def];simp
theorem yF(n:Nat)(z:Array Value):(kw n z.toList).toArray=Builtin.zeroCells z n:=by
 rw[pI];rfl
theorem dV {x:Value}{es:Array MapEntry}{c:Nat}(h:(wS x).run P w=.ok (es,c) w'):
 w'=w/\((x=.map none/\es=#[]/\c=0)∨∃r,x=.map (some r)/\(getObj r).run P w=.ok (.map es c) w):=by
 unfold wS at h;split at h
 ·simp at h;obtain⟨⟨rfl,rfl⟩,rfl⟩:=h;exact⟨rfl,.inl ⟨rfl,rfl,rfl⟩⟩
 ·rename_i r;simp only[Sem.run_bind]at h;have hw:∀o w1,(getObj r).run P w=.ok o w1->w1=w:=by
   intro o w1 h;simp only[getObj,Sem.run]at h;split at h <;> first|(cases h;done)|(cases h;rfl)
  cases hg:(getObj r).run P w with
  |halt x w1=>rw[hg]at h;simp at h
  |ok o w1=>
   rw[hg]at h;obtain rfl:=hw _ _ hg;simp only[Result.andThen_ok]at h;cases o <;> simp at h;obtain⟨⟨rfl,rfl⟩,rfl⟩:=h;exact⟨rfl,.inr ⟨r,rfl,hg⟩⟩
 ·simp at h
theorem ky {α β:Type}{x:Result α}{f:α->World->Result β}{b:β}{w2:World}(h:x.andThen f=.ok b w2):∃a w1,x=.ok a w1/\f a w1=.ok b w2:=by
 cases x with
 |ok a w1=>exact⟨a,w1,rfl,h⟩
 |halt h w1=>simp at h
theorem ki {α β γ:Type}(x:Result α)(f:α->World->Result β)(g:β->World->Result γ):(x.andThen f).andThen g=x.andThen fun a w=>(f a w).andThen g:=by
 cases x <;> rfl
theorem Yi {t kt e:TypeId}{sk:SK}{d:TypeDesc}{m k v:Operand}
 (hu:P.underlying t=some (.map kt e)) (hd:P.underlying kt=some d) (Gj:nw d=some sk) (hr:(match ρ m with
 |.map (some r)=>do
  let(es,clock) <- wS (.map (some r))
  match mC sk (ρ k) es.toList 0 with
  |some (some (i,_))=>do
   let key <- Instr.keyThatStays (((es[i]?).map (·.key)).getD (ρ k)) (ρ k)
   setObj r (.map (es.modify i fun e=>{e with key,val:=ρ v}) clock);pure .skip
  |some none=>do setObj r (.map (es.push {key:=ρ k,val:=ρ v,born:=clock}) (clock+1));pure .skip
  | none => stuck "key"
 | _ => stuck "map" : Sem Next).run P w = .ok n w') : (do Instr.mapUpdate t (ρ m) (ρ k) (ρ v); pure .skip : Sem Next).run P w = .ok n w' := by
 split at hr
 case h_2=>simp at hr
 rename_i q hx;simp only[Sem.run_bind]at hr;obtain⟨⟨es,c⟩,w1,h1,h2⟩:=ky hr;obtain⟨rfl,KJ⟩:=dV h1;simp at KJ;simp only at h2;split at h2
 ·rename_i i v' hf;exact zDI
 ·rename_i hf;exact zDI
 ·simp at h2
set_option maxHeartbeats 1000000 in
theorem sN {o:Oper}(aO:∀u,ρ (.const u)=u)(hl:j7 P o.op=some r)(hs:wQ ρ r=some s)(hr:s.run P w=.ok n w'):(execOp ρ o).run P w=.ok n w':=by
 obtain⟨dst,op,type,pos,after,guard⟩:=o;simp only at hl;cases op
 case load t x=>
  simp only[j7]at hl;split at hl <;> cases hl
  ·exact zDK
  ·exact zDK
  ·rename_i d j h1 h2 hu hj;simp only[wQ,X4]at hs;subst hs;have ha:∀w,(isAgg t).run P w=.ok false w:=by intro w;rw[dN hu];cases d <;> simp_all
   simpa[execOp,Instr.loadAt,loadVar,ha]using hr
 case store t x v=>
  simp only[j7,X0]at hl;obtain⟨i,hi,rfl⟩:=hl;simp only[wQ,X4]at hs;subst hs;simp only[Sem.run_bind]at hr;obtain⟨a,w1,h1,h2⟩:=ky hr;split at h2
  ·rename_i hz;simp only[execOp,Instr.storeAt,storeVar,Sem.run_bind,h1,Result.andThen_ok,kZ hi,hz];simpa[hz]using h2
  ·simp at h2
 case alloc t=>
  simp only[j7,X0]at hl;obtain⟨z,hz,rfl⟩:=hl;obtain⟨i,u,hi,hu,rfl⟩:=gI hz;simp only[wQ,X4]at hs;subst hs;simpa[execOp,Instr.alloc,kb hi hu,newVar,newRow]using hr
 case box t x=>
  simp only[j7,X4]at hl;subst hl;simp only[wQ,X4]at hs;subst hs;simpa[execOp,Instr.box,newVar,newRow]using hr
 case buildSlice t len parts=>
  simp only[j7]at hl;split at hl <;> try (cases hl;done)
  rename_i e hu;split at hl <;> try (cases hl;done)
  rename_i i z hi hz;split at hl <;> try (cases hl;done)
  rename_i hle;obtain⟨h24,hzl⟩:=hle;simp only[X0]at hl;obtain⟨l,hlp,rfl⟩:=hl;obtain⟨i',u,bQ,oD,rfl⟩:=gI hz;rw[hi]at bQ;cases bQ;simp only[wQ,X4]at hs;subst hs;split at hr
  case h_2=>simp at hr
  rename_i out ho;have mN:=Ah (ρ:=ρ) (fun j=>some (j*i.size,i.size)) parts.toList l _ out hlp ho;have xW:(parts.map fun p=>(p.1,ρ p.2)).toList=parts.toList.map fun p=>(p.1,ρ p.2):=by simp
  have eC:u.cells.size=i.size:=by simpa using hzl
  rw[pI,eC]at mN;have hb:(Instr.buildSlice t len (parts.map fun p=>(p.1,ρ p.2))).run P w=((newObj (.cells out.toArray e)).run P w).andThen fun b w=>.ok (.slice (some ⟨b,0,none⟩) len len) w:=by
   simp only[Instr.buildSlice,Sem.run_bind,kE hu,Result.andThen_ok,kZ hi,show ¬(len*i.size > 2 ^ 24) by omega,if_false,xW];by_cases h0:len*i.size=0
   ·have e1:(Array.range (len*i.size)).map (u.cells[·% i.size]!)=(Array.range (len*i.size)).map ((#[]:Array Value)[·% (#[]:Array Value).size]!):=by rw[h0];simp
    rw[e1]at mN;simp only[if_pos h0,Sem.run_bind,Sem.run_pure,Result.andThen_ok];rw[mN];simp[newRow]
   ·rw[<- eC]at mN;simp only[if_neg h0,Sem.run_bind,kb hi oD,Sem.run_pure,Result.andThen_ok];rw[<- eC,mN];simp[newRow]
  simp only[execOp,Sem.run_bind,hb];simpa[ki]using hr
 case makeMap t h=>
  simp only[j7]at hl;split at hl <;> try (cases hl;done)
  rename_i k e hu;split at hl <;> cases hl
  ·simp only[wQ,X4]at hs;subst hs;simpa[execOp,Instr.makeMap,ki]using hr
  ·simp only[wQ,X4]at hs;subst hs;simpa[execOp,Instr.makeMap,ki,kE hu,aO,asInt,asIntOf]using hr
 case makeSlice t l c=>
  simp only[j7]at hl;split at hl <;> try (cases hl;done)
  rename_i e hu;split at hl <;> cases hl;rename_i i z hi hz;obtain⟨i',u,bQ,oD,rfl⟩:=gI hz;rw[hi]at bQ;cases bQ;simp only[wQ,X4]at hs;subst hs;split at hr
  case h_2=>simp at hr
  rename_i kl l' kc c' rJ H8;split at hr
  case isFalse=>simp at hr
  rename_i hb;obtain⟨b1,b2,b3,b4⟩:=hb;split at hr
  case isFalse=>simp at hr
  rename_i hzl;have wl:IntKind.i64.wrap l'=l':=by
   exact zE4
  have wc:IntKind.i64.wrap c'=c':=by
   exact zE4
  have cE:((decide (c' < 0)||decide ((i.bytes:Int)*c' > 2 ^ 48))||decide (l' < 0)||decide (l' > c'))=false:=by
   simp;omega
  have eC:u.cells.size=i.size:=by simpa using hzl
  have hm:(Instr.makeSlice t (ρ l) (ρ c)).run P w=((newObj (.cells (kw c'.toNat u.cells.toList).toArray e)).run P w).andThen fun b w=>.ok (.slice (some ⟨b,0,none⟩) l'.toNat c'.toNat) w:=by
   simp only[Instr.makeSlice,Sem.run_bind,kE hu,Result.andThen_ok,rJ,H8,asInt,asIntOf,Sem.run_pure,wR hi,wl,wc,cE,vL,if_false,run_askRoom,kZ hi];rw[pI,eC];by_cases h0:c'.toNat*i.size=0
   ·simp only[if_pos h0,Sem.run_bind,Sem.run_pure,Result.andThen_ok];have e0:Array.range (c'.toNat*i.size)=#[]:=by rw[h0];rfl
    simp only[e0];simp[newRow]
   ·simp only[if_neg h0,Sem.run_bind,kb hi oD,Sem.run_pure,Result.andThen_ok];simp[newRow,eC]
  simp only[execOp,Sem.run_bind,hm];simpa[ki]using hr
 case lookup t m k ok=>
  simp only[j7]at hl;split at hl <;> try (cases hl;done)
  rename_i kt e hu;split at hl <;> cases hl
  case h_2=>
   exact zBN
  rename_i sk z Gv hz;obtain⟨d,hd,Gj⟩:=SX Gv;obtain⟨i,hi,hiz⟩:=Qx.1 hz;simp only[wQ,X4]at hs;subst hs;simp only[Sem.run_bind]at hr;obtain⟨⟨es,c⟩,w1,h1,h2⟩:=ky hr;obtain⟨rfl,hx⟩:=dV h1;simp only at h2;split at h2
  case h_2=>simp at h2
  rename_i r hf;have hl:(Instr.lookup t (ρ m) (ρ k) ok).run P w1=.ok (uI ok z r) w1:=by
   rcases hx with⟨hx,rfl,rfl⟩|⟨q,hx,hq⟩
   ·rw[hx];simp only[Instr.lookup,Sem.run_bind,kE hu,Result.andThen_ok,Sem.run_pure,yI hd Gj,run_findKey hd Gj hf];exact zEE
   ·rw[hx];simp only[Instr.lookup,Sem.run_bind,kE hu,Result.andThen_ok,Sem.run_pure,yI hd Gj,hq,run_findKey hd Gj hf];exact zEE
  simp only[execOp,Sem.run_bind,hl,Result.andThen_ok];exact h2
 case mapUpdate t m k v=>
  simp only[j7]at hl;split at hl <;> try (cases hl;done)
  rename_i kt e hu;split at hl <;> cases hl
  case h_2=>
   exact zBN
  exact zE0
 case insert t m k v=>
  simp only[j7]at hl;split at hl <;> try (cases hl;done)
  rename_i kt e hu;split at hl <;> cases hl
  case h_2=>
   exact zBN
  exact zE0
 case mapEntry t m k=>
  simp only[j7,X4]at hl;subst hl;exact zBN
 case entryStore t m s v=>
  simp only[j7,X4]at hl;subst hl;exact zBN
 case range t x=>
  simp only[j7]at hl;split at hl <;> cases hl
  ·rename_i hu;simp only[wQ,X4]at hs;subst hs;split at hr
   case h_2=>simp at hr
   rename_i s hx;simpa[execOp,Instr.range,kE hu,hx,ki]using hr
  ·rename_i k e hu;simp only[wQ,X4]at hs;subst hs;split at hr
   ·rename_i hx;simpa[execOp,Instr.range,kE hu,hx,ki]using hr
   ·rename_i q hx;simp only[Sem.run_bind]at hr;obtain⟨⟨es,c⟩,w1,h1,h2⟩:=ky hr;obtain⟨rfl,KJ⟩:=dV h1;simp at KJ;simpa[execOp,Instr.range,kE hu,hx,ki,KJ]using h2
   ·simp at hr
 case next it s=>
  simp only[j7,X4]at hl;subst hl;simp only[wQ,X4]at hs;subst hs;have:Instr.next (ρ it) s type=Instr.next (ρ it) s 0:=rfl;simpa[execOp,this]using hr
 case entry it=>
  simp only[j7,X4]at hl;subst hl;exact zBN
 case convert s d x=>
  simp only[j7]at hl;split at hl <;> try (cases hl;done)
  ·cases hl;simp[wQ]at hs
  ·cases hl;simp[wQ]at hs
  ·rename_i e x4 hud;split at hl <;> cases hl;rename_i hue;simp only[wQ,X4]at hs;subst hs;split at hr
   case h_2=>simp at hr
   rename_i b hx;simpa[execOp,Go.convert,kE x4,kE hud,hx,kE hue]using hr
  ·rename_i e x4 hud;split at hl <;> cases hl;rename_i hue;simp only[wQ,X4]at hs;subst hs;simp only[Sem.run_bind]at hr;obtain⟨b,w1,h1,h2⟩:=ky hr;have:(Go.convert s d (ρ x)).run P w=.ok b w1:=by
    cases hx:ρ x with
    |slice a n c=>rw[hx]at h1;simpa[Go.convert,kE x4,kE hud,kE hue]using h1
    |_=>rw[hx]at h1;simp[Conv.bytesToString]at h1
   simpa[execOp,this]using h2
 case call c=>
  obtain⟨callee,args,Oh⟩:=c;obtain⟨args⟩:=args;obtain⟨Oh⟩:=Oh;simp only[j7]at hl;split at hl
  ·split at hl <;> cases hl;simp[wQ]at hs
  ·cases hl;simp[wQ]at hs
  ·split at hl <;> try (cases hl;done)
   rename_i x t;split at hl <;> cases hl <;> simp only[wQ]at hs <;> try (cases hs;done)
   rename_i k e hu;simp only[X4]at hs;subst hs;simp only[Sem.run_bind]at hr;obtain⟨⟨es,c⟩,w1,h1,h2⟩:=ky hr;obtain⟨rfl,hx⟩:=dV h1;rcases hx with⟨hx,rfl,rfl⟩|⟨q,hx,hq⟩
   ·simpa[execOp,resolve,invoke,Go.builtin,Builtin.len_,kE hu,hx,goInt]using h2
   ·simpa[execOp,resolve,invoke,Go.builtin,Builtin.len_,kE hu,hx,hq,goInt]using h2
  ·split at hl <;> try (cases hl;done)
   split at hl <;> cases hl <;> simp[wQ]at hs
  ·split at hl <;> cases hl;simp[wQ]at hs
  ·split at hl <;> cases hl;simp[wQ]at hs
  ·split at hl <;> try (cases hl;done)
   rename_i sx x t xt;split at hl <;> try (cases hl;done)
   rename_i e hu;split at hl <;> try (cases hl;done)
   rename_i i z hi hz;split at hl
   case isFalse=>
    split at hl
    case isFalse=>cases hl
    rename_i hq;cases hl;obtain⟨i',u,bQ,oD,rfl⟩:=gI hz;rw[hi]at bQ;cases bQ;obtain⟨ut,xr,k,hxt,hut⟩:∃ut xr k,xt=ut::xr/\P.underlying ut=some (.int k):=by
     cases xt with
     |nil=>simp[Jh]at hq
     |cons ut xr=>
      simp only[Jh]at hq;split at hq
      ·rename_i k h;exact⟨ut,xr,k,rfl,h⟩
      ·cases hq
    subst hxt;simp only[wQ,X4]at hs;subst hs;split at hr
    case h_2=>simp at hr
    rename_i base n0 c0 k0 l Pt Wm;split at hr
    case isTrue=>simp at hr
    rename_i gQ;have hb0:¬l < 0:=fun h=>gQ (.inl h)
    have ep:¬(l*i.bytes > 2 ^ 48):=fun h=>gQ (.inr (.inl h))
    have p7:IntKind.i64.wrap l=l:=Classical.byContradiction fun h=>gQ (.inr (.inr (.inl h)))
    have eC:i.size≠0:=fun h=>gQ (.inr (.inr (.inr h)))
    have happ:∀(n:Nat) (w:World),(if n*i.size=0 then pure #[]else do pure (Builtin.zeroCells (<- zeroValue e).cells n):Sem (Array Value)).run P w=.ok (kw n u.cells.toList).toArray w:=by
     intro n w;by_cases h0:n*i.size=0
     ·obtain rfl:n=0:=by
       rcases Nat.mul_eq_zero.1 h0 with h|h
       ·exact h
       ·exact absurd h eC
      simp[kw]
     ·simp[h0,kb hi oD,yF]
    have hasint:(asInt (.int k0 l)).run P w=.ok l w:=by simp[asInt,asIntOf]
    simp only[execOp,resolve,invoke,Go.builtin,Sem.run_bind,List.map_toArray,QC,QE,Sem.run_pure,Result.andThen_ok];simp only[Builtin.append_,Vx,Vn,Vm,Sem.run_bind,kE hu,kE hut,Result.andThen_ok,Pt,Wm,hasint,Sem.run_pure,kZ hi,if_true,p7];simp only[hb0,if_false,Sem.run_bind,wR hi,Result.andThen_ok,ep,Sem.run_pure,Bool.not_true,vL];by_cases hle:n0+l.toNat<=c0
    ·simp only[hle,if_true,Sem.run_bind]at hr|-;rw[happ];cases base <;> simpa[ki]using hr
    ·simp only[hle,if_false]at hr|-;split at hr
     case isTrue=>simp at hr
     rename_i cE;have g1:¬(Builtin.nextslicecap (n0+l.toNat) c0*i.bytes > 2 ^ 48):=fun h=>cE (.inl h)
     have g2:¬(((n0+l.toNat:Nat):Int) > IntKind.i64.max):=fun h=>cE (.inr (.inr h))
     simp only[Sem.run_bind,wR hi,Result.andThen_ok,g2,false_and,g1,if_false,run_askRoom];simp only[Sem.run_bind]at hr;rw[<- Pt];simp only[happ,Result.andThen_ok];simpa[ki,newRow,kb hi oD,<- yF]using hr
   cases hl;rename_i hq;obtain⟨i',u,bQ,oD,rfl⟩:=gI hz;rw[hi]at bQ;cases bQ;obtain⟨ut,xr,hxt,hseq⟩:∃ut xr,xt=ut::xr/\((∃e',P.underlying ut=some (.slice e'))∨P.underlying ut=some .string):=by
    cases xt with
    |nil=>simp[P5]at hq
    |cons ut xr=>
     refine⟨ut,xr,rfl,?_⟩;simp only[P5]at hq;split at hq
     ·rename_i e' h;exact .inl ⟨e',h⟩
     ·rename_i h;exact .inr h
     ·cases hq
   subst hxt;simp only[wQ,X4]at hs;subst hs;split at hr
   case h_2=>simp at hr
   rename_i base n0 c0 m0 Pt Wm;have hlen:(Builtin.lenOf (ρ x)).run P w=.ok m0 w:=by
    cases hx:ρ x <;> rw[hx]at Wm <;> simp[ej]at Wm <;> subst Wm <;> simp[Builtin.lenOf]
   have hz:(do pure ((<- underlying ut) matches .int _):Sem Bool).run P w=.ok false w:=by
    rcases hseq with⟨e',h⟩|h <;> simp[kE h]
   have happ:Builtin.append_ (t::ut::xr).toArray type #[ρ sx,ρ x]=Builtin.append_ (t::ut::xr).toArray type #[ρ sx,ρ x]:=rfl;simp only[execOp,resolve,invoke,Go.builtin,Sem.run_bind,List.map_toArray,QC,QE,Sem.run_pure,Result.andThen_ok];simp only[Builtin.append_,Vx,Vn,Vm,Sem.run_bind,kE hu,Result.andThen_ok,Pt,kZ hi];simp only[Sem.run_bind,Sem.run_pure]at hz;have hfirst:∀n:Nat,(if(!false)=true then Builtin.firstCells i.size n (ρ x)else if n*i.size=0 then pure #[]else do pure (Builtin.zeroCells (<- zeroValue e).cells n):Sem (Array Value))=Builtin.firstCells i.size n (ρ x):=fun _=>rfl
   rcases hseq with⟨e',hut⟩|hut
   all_goals
    simp only[kE hut,Result.andThen_ok,Sem.run_pure,vL,if_false,Sem.run_bind,hlen];by_cases hle:n0+m0<=c0
    ·simp only[hle,if_true,Sem.run_bind]at hr|-;simp only[vO,if_true];cases base <;> simpa[ki]using hr
    ·simp only[hle,if_false]at hr|-;split at hr
     case isTrue=>simp at hr
     rename_i cE;have ep:¬(Builtin.nextslicecap (n0+m0) c0*i.bytes > 2 ^ 48):=fun h=>cE (.inl h)
     have p7:¬(i.bytes=0):=fun h=>cE (.inr h)
     simp only[Sem.run_bind,wR hi,Result.andThen_ok,false_or,p7,and_false,ep,if_false,vO,if_true,run_askRoom,kb hi oD,<- yF];simp only[Sem.run_bind]at hr;rw[<- Pt];simpa[ki,newRow,kb hi oD,<- yF]using hr
  ·split at hl <;> try (cases hl;done)
   rename_i dx sx t xt;split at hl <;> try (cases hl;done)
   rename_i e hu;simp only[X0]at hl;obtain⟨i,hi,rfl⟩:=hl;simp only[wQ,X4]at hs;subst hs;split at hr
   case h_2=>simp at hr
   rename_i base n0 c0 m0 hdx Wm;have hlen:(Builtin.lenOf (ρ sx)).run P w=.ok m0 w:=by
    cases hx:ρ sx <;> rw[hx]at Wm <;> simp[ej]at Wm <;> subst Wm <;> simp[Builtin.lenOf]
   simp only[execOp,resolve,invoke,Go.builtin,Sem.run_bind,List.map_toArray,QC,QE,Sem.run_pure,Result.andThen_ok];simp only[Builtin.copy_,Vx,Vn,Vm,Sem.run_bind,kE hu,Result.andThen_ok,hdx,kZ hi,hlen];simp only[Sem.run_bind]at hr;cases base <;> simpa[ki,goInt]using hr
  ·split at hl <;> try (cases hl;done)
   rename_i cx t;split at hl <;> try (cases hl;done)
   rename_i e hu;simp only[X0]at hl;obtain⟨z,hz,rfl⟩:=hl;obtain⟨i',u,bQ,oD,rfl⟩:=gI hz;simp only[wQ,X4]at hs;subst hs;split at hr
   case h_2=>simp at hr
   rename_i base n0 c0 hcx;simp only[execOp,resolve,invoke,Go.builtin,Sem.run_bind,List.map_toArray,QC,QE,Sem.run_pure,Result.andThen_ok];simp only[Builtin.clear_,Vx,Vn,Sem.run_bind,kE hu,Result.andThen_ok,hcx];cases base with
   |none=>simpa using hr
   |some a=>
    cases n0 with
    |zero=>simpa[kw,storeCells]using hr
    |succ m=>simpa[kb bQ oD,<- yF,ki]using hr
  ·split at hl <;> try (cases hl;done)
   rename_i mx kx t xt;split at hl <;> try (cases hl;done)
   rename_i kt e hu;simp only[X0]at hl;obtain⟨sk,Gv,rfl⟩:=hl;obtain⟨d,hd,Gj⟩:=SX Gv;simp only[wQ,X4]at hs;subst hs;simp only[execOp,resolve,invoke,Go.builtin,Sem.run_bind,List.map_toArray,QC,QE,Sem.run_pure,Result.andThen_ok];simp only[Builtin.delete_,Vx,Vn,Vm,Sem.run_bind,kE hu,Result.andThen_ok];split at hr
   ·rename_i q hx;simp only[Sem.run_bind]at hr;obtain⟨⟨es,c⟩,w1,h1,h2⟩:=ky hr;obtain⟨rfl,KJ⟩:=dV h1;simp at KJ;simp only at h2;split at h2
    ·rename_i j v' hf;exact zE3
    ·rename_i hf;exact zE3
    ·simp at h2
   ·rename_i hx;simp only[hx,Sem.run_bind,yI hd Gj,Result.andThen_ok];simpa using hr
   ·simp at hr
  ·cases hl
 case binOp op t x y yt=>
  simp only[j7]at hl
  repeat' split at hl
  all_goals first
   |(cases hl;done)
   |(cases hl;simp[wQ]at hs;done)
   |(cases hl;simp only[wQ,X4]at hs;subst hs;simpa[execOp,ki]using hr)
 all_goals (try simp only[j7]at hl)
 all_goals (repeat' split at hl)
 all_goals first
  |(cases hl;done)
  |(cases hl;simp[wQ]at hs;done)
  |(simp only[X0]at hl;obtain⟨_,_,rfl⟩:=hl;simp[wQ]at hs;done)
end
section
variable {P:Program} {ρ:Operand->Value} {H:List kC} {K:Next->List kC->Prop}
theorem j8(b:Nat)(us vs:List Value):∀o,kA b o (us++vs)=kA b o us++kA b (o+us.length) vs:=by
 induction us with
 |nil=>intro o;simp[kA]
 |cons u us ih=>intro o;simp only[vr,kA,ih,Vz];congr 3;omega
theorem EP {b o:Nat}{K:Array Value->List kC->Prop}:∀(vs:List Value) (i:Nat) (acc:Array Value),(∀x∈kA b (o+i) vs,x∈H)->K (acc++vs.toArray) H->
 aK P (loadCellsFrom ⟨b,o,none⟩ i vs.length acc) H K:=by
 intro vs
 induction vs with
 |nil=>intro i acc _ h;exact aK.pure (by simpa using h)
 |cons v vs ih=>
  intro i acc hm h;simp only[Vz,loadCellsFrom,fW];refine aK.bind (aK.load (v:=v) (hm _ Ka) ?_);refine ih (i+1) (acc.push v) (fun x hx=>hm x (by simp only[kA,QH];exact .inr hx)) ?_;have:acc.push v++vs.toArray=acc++(v::vs).toArray:=by simp
  rw[this];exact h
theorem aK.loadCells {b o n:Nat}{vs:List Value}{K:Array Value->List kC->Prop}(hn:vs.length=n)(hm:∀x∈kA b o vs,x∈H)(h:K vs.toArray H):aK P (Go.loadCells ⟨b,o,none⟩ n) H K:=by
 subst hn;exact EP vs 0 #[] (by simpa using hm) (by simpa using h)
theorem Br {b o:Nat}{K:Unit->List kC->Prop}:∀(vs us:List Value) (i:Nat) (L:List kC),vs.length=us.length->(∀v∈vs,js v=true)->
 (∀L',L'.Perm (kA b (o+i) vs++L)->K () L')->∀M:List kC,M.Perm (kA b (o+i) us++L)->aK P (storeCells ⟨b,o,none⟩ vs i) M K:=by
 intro vs
 induction vs with
 |nil=>
  intro us i L hl _ h M hM;cases us <;> simp at hl;exact aK.pure (h M (by simpa[kA]using hM))
 |cons v vs ih=>
  intro us i L hl ed h M hM;cases us with
  |nil=>simp at hl
  |cons u us=>
   simp only[storeCells,fW];refine aK.perm hM (aK.bind ?_);simp only[kA,vr];refine aK.store (ed v Zs) ?_;refine ih us (i+1) (.cell b (o+i) v::L) (by simpa using hl) (fun x hx=>ed x (by simp[hx])) (fun L' hL'=>h L' ?_) _ ?_
   ·refine hL'.trans ?_;simp only[kA,vr,Qi];exact QZ
   ·simp only[Qi];exact QZ.symm
theorem aK.storeCells {b o:Nat}{vs us:List Value}{R:List kC}{K:Unit->List kC->Prop}(hl:vs.length=us.length)(ed:∀v∈vs,js v=true)
 (h:K () (kA b o vs++R)):aK P (Go.storeCells ⟨b,o,none⟩ vs) (kA b o us++R) K:=by
 have:=Br (P:=P) (b:=b) (o:=o) (K:=fun _ L=>L.Perm (kA b o vs++R)) vs us 0 R hl ed (fun L' hL'=>by simpa using hL') (kA b o us++R) Zs;intro F w hs;obtain⟨v,w',H',h1,h2,h3,h4⟩:=this F w hs;exact⟨v,w',_,h1,h,h3.perm (h2.append_right F),h4⟩
def Src(H:List kC)(size n:Nat)(vs:List Value):Value->Prop
 |.slice (some ⟨b,o,none⟩) _ _=>vs.length=n*size/\∀x∈kA b o vs,x∈H
 |.slice none _ _=>vs=[]
 |.string s=>vs=(s.data.toList.take n).map fun c=>.int .u8 c.toNat
 |_=>False
theorem aK.firstCells {size n:Nat}{x:Value}{vs:List Value}{K:Array Value->List kC->Prop}(hx:Src H size n vs x)(h:K vs.toArray H):aK P (Builtin.firstCells size n x) H K:=by
 unfold Src at hx;split at hx
 ·exact aK.loadCells hx.1 hx.2 h
 ·subst hx;exact aK.pure h
 ·rename_i s;subst hx;refine aK.pure ?_;have:(s.extract 0 n).data.map (fun b=>Value.int .u8 b.toNat)=((s.data.toList.take n).map fun c=>Value.int .u8 c.toNat).toArray:=by
   apply vC.1;simp[ByteArray.data_extract,Array.toList_extract]
  rw[this];exact h
 ·exact hx.elim
theorem Mu {n:Nat}{x v:Operand}{b o:Nat}{us:List Value}{R:List kC}(hx:ρ x=.pointer (some ⟨b,o,none⟩))(hn:(ρ v).cells.size=n)(hu:us.length=n)(ed:∀c∈(ρ v).cells.toList,js c=true)
 (h:K .skip (kA b o (ρ v).cells.toList++R)):
 aK P (do let a ← Instr.sureAddr (ρ x); if (ρ v).cells.size = n then (do storeCells a (ρ v).cells.toList; pure .skip) else stuck "size") (kA b o us ++ R) K := by
 rw[hx];refine aK.bind (aK.pure ?_);rw[if_pos hn];exact aK.bind (aK.storeCells (by simp[hn,hu]) ed (aK.pure h))
theorem Ef {c:Array Value}{t:TypeId}{f:Nat->Next}(h:∀b,K (f b) (kA b 0 c.toList++H)):aK P (do let b <- newObj (.cells c t);pure (f b)) H K:=
 aK.bind (aK.MC fun b=>aK.pure (h b))
theorem Jt {o:Obj}{f:Nat->Next}(ho:wz o=false)(h:∀b,K (f b) (.obj b o::H)):aK P (do let b <- newObj o;pure (f b)) H K:=
 aK.bind (aK.Xg ho fun b=>aK.pure (h b))
theorem HF {m c:Nat}{es:Array MapEntry}{α:Type}{f:Array MapEntry×Nat->Sem α}{K:α->List kC->Prop}(hm:kC.obj m (.map es c)∈H)(h:aK P (f (es,c)) H K):aK P (wS (.map (some m)) >>=f) H K:=by
 refine aK.bind ?_;unfold wS;exact aK.bind (aK.getObj hm (aK.pure h))
theorem K4(old new:Value){K:Value->List kC->Prop}(h:∀k,k=old∨k=new->K k H):aK P (Instr.keyThatStays old new) H K:=by
 unfold Instr.keyThatStays;split
 ·exact aK.pure (h _ (.inr rfl))
 ·refine aK.bind (aK.choose (fun _=>aK.pure ?_) (fun n=>aK.pure ?_))
  ·exact h _ (.inr rfl)
  ·split
   ·exact h _ (.inr rfl)
   ·exact h _ (.inl rfl)
end
structure RO where
 dst:Option Nat
 guard:Option (Nat×Bool)
 op:R
def dP(P:Program)(n:Nat)(ops:Array Oper)(o:Oper):Option RO:=
 match j7 P o.op with
 |none=>none
 |some r=>
  if o.dst.all (·< n)then
   match o.guard with
   |none=>some ⟨o.dst,none,r⟩
   |some (j,b)=>match(ops[j]?).bind (·.dst)with
    |some s=>some ⟨o.dst,some (s,b),r⟩
    |none=>none
  else none
def jG:R->Bool
 |.qE .. |.iB .. |.Ru .. |.lookup .. |.entry .. |.b2s .. |.T6 .. |.GM .. =>true
 |_=>false
def mY:R->Bool
 |.alloc .. |.box .. |.gM .. |.oF|.s2b .. =>true
 |.append _ _ _ _ (.const (.slice none 0 0)) _=>true
 |_=>false
def Ext(w w':World):Prop:=∀(i:Nat) (o:Obj),w.heap[i]? =some o->w'.heap[i]? =some o
theorem Ext.refl(w:World):Ext w w:=fun _ _ h=>h
theorem Ext.trans {a b c:World}(h:Ext a b)(k:Ext b c):Ext a c:=fun i o e=>k i o (h i o e)
theorem Sat.ext {w w':World}{L:List kC}(h:Sat w L)(e:Ext w w'):Sat w' L:=⟨fun x hx=>by
 have:=h.holds x hx;cases x with
 |cell b off v=>obtain⟨c,t,lo,hi,h1,h2⟩:=this;exact⟨c,t,lo,hi,e _ _ h1,h2⟩
 |obj b o=>exact⟨e _ _ this.1,this.2⟩
 |row b n=>obtain⟨c,t,lo,hi,h1,h2⟩:=this;exact⟨c,t,lo,hi,e _ _ h1,h2⟩
 |own b n=>obtain⟨c,t,lo,hi,h1,h2⟩:=this;exact⟨c,t,lo,hi,e _ _ h1,h2⟩,h.nodup⟩
def kd:R->Bool
 |.mv .. |.pick .. |.bin .. |.eqb .. |.Cm .. |.Cl .. |.un .. |.conv .. |.cvs .. |.GU .. |.AR .. |.ext .. |.build .. |.tD .. |.fld .. |.IK .. |.Mi .. |.Jb .. |.uA .. |.Jc .. |.JS ..
 |.rj .. |.JR .. |.D3 .. |.Jj .. |.cap .. |.min2 .. |.max2 .. |.gD .. =>true
 |_=>false
def jE(g:Option (Nat×Bool))(a:Act):Bool:=
 match g with
 |none=>true
 |some (s,b)=>match a.tmps[s]? with|some (.bool c)=>c==b|_=>false
def wU:Exit->Act->World->Prop:=fun _ _ _=>False
abbrev AP (ρ:Option Nat):Fence:={fn:=fun _=>True,depth:=none,alive:=false,round:=ρ}
def jo(P:Program)(o:Oper)(a:Act)(next:Act->World->Prop)(Z:Exit->Act->World->Prop):Result Next->Prop
 |.ok (.value v) w'=>next (a.put o.dst v) w'
 |.ok .skip w'=>next (a.put o.dst undef) w'
 |.ok (.enter f args) w'=>Calls P f args w' fun
   |.returned v,oJ=>next (a.put o.dst v) oJ
   |.panicked chain,oJ=>Z (.panic chain) a oJ
   |.outgrown,_=>False
 |.ok (.round l f tmps assign body) w'=>RoundIn Fence.wide 0 P l f tmps assign body w' fun
   |.returned v,oJ=>next (a.put o.dst v) oJ
   |.panicked chain,oJ=>Z (.panic chain) a oJ
   |.outgrown,_=>False
 |.halt (.panic v) w'=>Z (.panic [{v,recovered:=false}]) a w'
 |_=>False
def AL(P:Program)(o:Oper)(a:Act)(w:World)(next:Act->World->Prop)(Z:Exit->Act->World->Prop):Prop:=jo P o a next Z ((execOp a.eval o).run P w)
theorem Cd {P:Program}{ρ:Option Nat}{n:Nat}{f:FuncId}{args:Array Value}{w:World}{R:Ending->World->Prop}(h:Calls P f args w R):CallsIn (AP ρ) n P f args w R:=
 ⟨trivial,fun cs _=>let⟨e,w',fr,r,s,x⟩:=h cs;⟨e,w',fr,r,comesIn_wide.2 s,x⟩⟩
theorem Tm {P:Program}{ρ:Option Nat}{o:Oper}{a:Act}{next:Act->World->Prop}{Z:Exit->Act->World->Prop}{r:Result Next}(h:jo P o a next Z r):o.uponIn (AP ρ) 0 P a next Z r:=by
 cases r with
 |ok n w'=>
  cases n <;> simp only[jo]at h <;> simp only[Oper.uponIn] <;> first
   |exact h
   |exact h.elim
   |exact⟨fun h=>by simp at h,Cd (Calls.mono h (fun e oJ he=>by cases e <;> first|exact he|exact he.elim))⟩
   |exact⟨fun h=>by simp at h,RoundIn.mono h (fun e oJ he=>by cases e <;> first|exact he|exact he.elim)⟩
 |halt x w'=>cases x <;> simp only[jo]at h <;> simp only[Oper.uponIn] <;> exact h
def wpA(P:Program)(Z:Exit->Act->World->Prop)(x:RO×Oper)(next:Act->World->Prop)(a:Act)(w:World):Prop:=
 (mY x.1.op=true->∃u w',(execOp a.eval x.2).run P w=.ok (.value u) w'/\Ext w w')/\AL P x.2 a w next Z
def wA(P:Program)(Z:Exit->Act->World->Prop)(x:RO×Oper)(next:Act->World->Prop)(a:Act)(w:World):Prop:=
 if jE x.1.guard a then
  if kd x.1.op then ∃v,kW a.eval x.1.op=some v/\next (a.put x.1.dst v) w
  else if jG x.1.op then ∃s v,wQ a.eval x.1.op=some s/\(∀w',Ext w w'->s.run P w'=.ok (.value v) w')/\next (a.put x.1.dst v) w
  else wpA P Z x next a w
 else next (a.put x.1.dst undef) w
def cr(P:Program)(Z:Exit->Act->World->Prop)(Q:Act->World->Prop):List (RO×Oper)->Act->World->Prop
 |[],a,w=>Q a w
 |x::rest,a,w=>wA P Z x (cr P Z Q rest) a w
section
variable {P:Program} {Z:Exit->Act->World->Prop} {Q Q':Act->World->Prop} {a:Act} {w:World}
theorem AD {o:Oper}{K K':Act->World->Prop}(h:∀a w,K a w->K' a w)(hh:AL P o a w K Z):AL P o a w K' Z:=by
 unfold AL at*;generalize (execOp a.eval o).run P w=r at*;cases r with
 |ok n w'=>
  cases n <;> simp only[jo]at hh|- <;> first
   |exact h _ _ hh
   |exact Calls.mono hh (fun e oJ he=>by cases e <;> first|exact h _ _ he|exact he)
   |exact RoundIn.mono hh (fun e oJ he=>by cases e <;> first|exact h _ _ he|exact he)
 |halt x w'=>cases x <;> simp only[jo]at hh|- <;> exact hh
theorem eX {x:RO×Oper}(h:∀a w,Q a w->Q' a w)(hh:wA P Z x Q a w):wA P Z x Q' a w:=by
 unfold wA at*;split
 ·rename_i h1;rw[if_pos h1]at hh;split
  ·rename_i h2;rw[if_pos h2]at hh;obtain⟨v,e,hv⟩:=hh;exact⟨v,e,h _ _ hv⟩
  ·rename_i h2;rw[if_neg h2]at hh;split
   ·rename_i h3;rw[if_pos h3]at hh;obtain⟨s,v,e,e',hv⟩:=hh;exact⟨s,v,e,e',h _ _ hv⟩
   ·rename_i h3;rw[if_neg h3]at hh;exact⟨hh.1,AD h hh.2⟩
 ·rename_i h1;rw[if_neg h1]at hh;exact h _ _ hh
theorem HT {l:List (RO×Oper)}(h:∀a w,Q a w->Q' a w):∀{a w},cr P Z Q l a w->cr P Z Q' l a w:=by
 induction l with
 |nil=>intro a w hh;exact h _ _ hh
 |cons x l ih=>intro a w hh;exact eX (fun a w h=>ih h) hh
theorem Np {o:Oper}{K:Act->World->Prop}(hh:AL P o a w K wU):AL P o a w K Z:=by
 unfold AL at*;generalize (execOp a.eval o).run P w=r at*;cases r with
 |ok n w'=>
  cases n <;> simp only[jo]at hh|- <;> first
   |exact hh
   |exact Calls.mono hh (fun e oJ he=>by cases e <;> first|exact he|exact he.elim)
   |exact RoundIn.mono hh (fun e oJ he=>by cases e <;> first|exact he|exact he.elim)
 |halt x w'=>cases x <;> simp only[jo]at hh|- <;> exact hh.elim
theorem Dn {l:List (RO×Oper)}:∀{a w},cr P wU Q l a w->cr P Z Q l a w:=by
 induction l with
 |nil=>intro a w hh;exact hh
 |cons x l ih=>
  intro a w hh;have h1:wA P wU x (cr P Z Q l) a w:=eX (fun a w h=>ih h) hh;show wA P Z x (cr P Z Q l) a w;unfold wA at*;split
  ·rename_i h2;rw[if_pos h2]at h1;split
   ·rename_i h3;rw[if_pos h3]at h1;exact h1
   ·rename_i h3;rw[if_neg h3]at h1;split
    ·rename_i h4;rw[if_pos h4]at h1;exact h1
    ·rename_i h4;rw[if_neg h4]at h1;exact⟨h1.1,Np h1.2⟩
  ·rename_i h2;rw[if_neg h2]at h1;exact h1
theorem jI {n:Nat}{ops:Array Oper}{o:Oper}{r:RO}(h:dP P n ops o=some r):j7 P o.op=some r.op/\r.dst=o.dst/\(∀d,r.dst=some d->d < n)/\
 ∀a:Act,Region.wanted o (yielded ops a.tmps)=jE r.guard a:=by
 unfold dP at h;split at h
 ·cases h
 ·rename_i r' hr;split at h
  case isFalse=>cases h
  rename_i hd;have O4:∀d,o.dst=some d->d < n:=by intro d e;rw[e]at hd;simpa using hd
  split at h
  ·rename_i hg;cases h;exact⟨hr,rfl,O4,fun a=>by simp[Region.wanted,hg,jE]⟩
  ·rename_i j b hg;split at h
   case h_2=>cases h
   rename_i s hs;cases h;refine⟨hr,rfl,O4,fun a=>?_⟩;simp only[Region.wanted,hg,yielded,hs,Option.bind_some,jE];cases a.tmps[s]? with
   |none=>simp
   |some v=>cases v <;> simp
theorem yB(a:Act)(u:Value):a.eval (.const u)=u:=rfl
theorem eY {ρ:Option Nat}{n:Nat}{ops:Array Oper}{X:Nat->RO×Oper}{QQ:Exit->Act->World->Prop}(hX:∀i,i < ops.size->ops[i]? =some (X i).2/\dP P n ops (X i).2=some (X i).1):
 ∀(l:List Nat) (a:Act) (w:World),(∀i∈l,i < ops.size)->cr P QQ (QQ .normal) (l.map X) a w->wpOpsIn (AP ρ) 0 P ops QQ l a w:=by
 intro l
 induction l with
 |nil=>intro a w _ h;exact h
 |cons i l ih=>
  intro a w hl h;obtain⟨h1,h2⟩:=hX i (hl i Zs);obtain⟨g1,g2,g3,g4⟩:=jI h2;have Up:=fun a w=>ih a w (fun j hj=>hl j (by simp[hj]))
  have nd:∀c,(X i).2.op≠.defer c:=fun c e=>by rw[e]at g1;simp[j7]at g1
  simp only[QC,cr,wA]at h;simp only[wpOpsIn,h1,g4 a];split
  ·rename_i hw;rw[if_pos hw]at h;refine⟨fun _ _=>trivial,?_⟩;rw[Oper.semAt_plain _ _ _ nd];refine Tm ?_;split at h
   ·obtain⟨v,hv,hn⟩:=h;simp only[pz (w:=w) (yB a) g1 hv,jo,<- g2];exact Up _ _ hn
   ·split at h
    ·obtain⟨s,v,hs,hr,hn⟩:=h;simp only[sN (yB a) g1 hs (hr w (.refl w)),jo,<- g2];exact Up _ _ hn
    ·exact AD Up h.2
  ·rename_i hw;rw[if_neg hw]at h;refine⟨fun _ _=>trivial,?_⟩;rw[<- g2];exact Up _ _ h
end
def cO(g:Option (Nat×Bool)):List Nat:=match g with|some (s,_)=>[s]|none=>[]
def ot(x:Option Operand):List Operand:=x.toList
def lB:R->List Operand
 |.mv x|.un _ x|.conv _ x|.cvs x|.GU _ x|.ext x _|.tD x|.fld _ x|.IK _ _ _ x|.D3 x|.Jj x|.cap x|.gD _ _ _ x|.Cm _ _ x|.qE x|.iB _ x|.Ru x|.entry x|.b2s x=>[x]
 |.pick c a b=>[c,a,b]
 |.bin _ x y|.eqb _ x y|.Cl _ _ x y|.Mi _ _ x y|.Jb _ x y|.uA x y|.Jc _ _ _ x y|.min2 x y|.max2 x y|.lookup _ _ _ x y|.T6 _ _ x y|.GM _ _ x y=>[x,y]
 |.AR _ f c=>f++c
 |.build _ ps=>ps.map (·.2.2)
 |.JS x lo hi=>x::(ot lo++ot hi)
 |.rj _ x lo hi mx=>x::(ot lo++ot hi++ot mx)
 |.JR _ _ x lo hi=>x::(ot lo++ot hi)
 |_=>[]
def cX(l:List Operand):List Nat:=l.filterMap fun|.tmp t=>some t|_=>none
def looks(x:RO×Oper):List Nat:=cO x.1.guard++(if kd x.1.op||jG x.1.op then cX (lB x.1.op)else cX x.2.op.operands.toList)
def rU(x y:RO×Oper):Bool:=match x.1.dst with|some d=>!(looks y).contains d&&y.1.dst !=some d|none=>true
def indep(x y:RO×Oper):Bool:=rU x y&&rU y x&&(kd x.1.op||kd y.1.op||(jG x.1.op&&jG y.1.op)||(mY x.1.op&&jG y.1.op))
theorem iC {ρ Yr:Operand->Value}{o:Option Operand}(h:∀x∈ot o,ρ x=Yr x):o.map ρ=o.map Yr:=by
 cases o with
 |none=>rfl
 |some x=>simp[h x (by simp[ot])]
theorem gu {ρ Yr:Operand->Value}{r:R}(hp:kd r=true)(h:∀x∈lB r,ρ x=Yr x):kW ρ r=kW Yr r:=by
 cases r <;> simp only[kd]at hp <;> first|(cases hp;done)|skip
 case AR f first c=>
  simp only[lB,QF]at h;simp only[kW];rw[QB (fun x hx=>h x (.inl hx)),QB (fun x hx=>h x (.inr hx))]
 case build z ps=>
  simp only[lB,QM]at h;simp only[kW];have:jW ρ ps=jW Yr ps:=by
   simp only[jW];refine QB (fun p hp=>?_);obtain⟨a,b,c⟩:=p;simp[h c ⟨_,hp,rfl⟩]
  rw[this]
 case JS x lo hi=>
  exact zD7
 case rj z x lo hi mx=>
  simp only[lB,QH,QF]at h;simp only[kW,h x (.inl rfl),iC (fun y hy=>h y (.inr (.inl (.inl hy)))),iC (fun y hy=>h y (.inr (.inl (.inr hy)))),iC (fun y hy=>h y (.inr (.inr hy)))]
 case JR n z x lo hi=>
  exact zD7
 case un op x=>cases op <;> simp only[lB,QR,forall_eq]at h <;> simp only[kW,h]
 all_goals (simp only[lB,QH,List.not_mem_nil,or_false,forall_eq_or_imp,forall_eq]at h;simp only[kW,h])
theorem Jr {ρ Yr:Operand->Value}{r:R}(hp:jG r=true)(h:∀x∈lB r,ρ x=Yr x):wQ ρ r=wQ Yr r:=by
 cases r <;> simp only[jG]at hp <;> first|(cases hp;done)|skip
 all_goals (simp only[lB,QH,List.not_mem_nil,or_false,forall_eq_or_imp,forall_eq]at h;simp only[wQ,h])
section
variable {P:Program}
theorem mu {a:Act}{d:Option Nat}{v:Value}{l:List Operand}(h:∀t,d=some t->t∉cX l){x:Operand}(hx:x∈l):(a.put d v).eval x=a.eval x:=by
 refine Act.eval_put (fun t e hxt=>?_);subst hxt;exact h t e (by simp only[cX,List.mem_filterMap];exact⟨_,hx,rfl⟩)
theorem dD {a:Act}{d:Option Nat}{v:Value}{g:Option (Nat×Bool)}(h:∀t,d=some t->t∉cO g):jE g (a.put d v)=jE g a:=by
 cases g with
 |none=>rfl
 |some p=>
  obtain⟨s,b⟩:=p;cases d with
  |none=>rfl
  |some t=>
   have bZ:t≠s:=fun e=>h t rfl (by simp[cO,e])
   simp[jE,Act.put,vA bZ]
def Yv(P:Program)(x:RO×Oper)(a:Act)(w:World)(v:Value):Prop:=
 if jE x.1.guard a then
  if kd x.1.op then kW a.eval x.1.op=some v else ∃s,wQ a.eval x.1.op=some s/\∀w',Ext w w'->s.run P w'=.ok (.value v) w'
 else v=undef
theorem wL {Z:Exit->Act->World->Prop}{x:RO×Oper}(hq:(kd x.1.op||jG x.1.op)=true){K:Act->World->Prop}{a:Act}{w:World}:wA P Z x K a w↔∃v,Yv P x a w v/\K (a.put x.1.dst v) w:=by
 unfold wA Yv;split
 ·split
  ·exact Iff.rfl
  ·rename_i hp;have hr:jG x.1.op=true:=by simpa[hp]using hq
   rw[if_pos hr];constructor
   ·rintro⟨s,v,h1,h2,h3⟩;exact⟨v,⟨s,h1,h2⟩,h3⟩
   ·rintro⟨v,⟨s,h1,h2⟩,h3⟩;exact⟨s,v,h1,h2,h3⟩
 ·constructor
  ·intro h;exact⟨_,rfl,h⟩
  ·rintro⟨v,rfl,h⟩;exact h
theorem zT {x:RO×Oper}{t:Nat}(h:t∉looks x):t∉cO x.1.guard/\((kd x.1.op||jG x.1.op)=true->t∉cX (lB x.1.op))/\((kd x.1.op||jG x.1.op)=false->t∉cX x.2.op.operands.toList):=by
 simp only[looks,QF,not_or]at h;refine⟨h.1,fun e=>?_,fun e=>?_⟩
 ·rw[if_pos e]at h;exact h.2
 ·rw[if_neg (by simp[e])]at h;exact h.2
theorem oO {x:RO×Oper}(hq:(kd x.1.op||jG x.1.op)=true){d:Option Nat}(hd:∀t,d=some t->t∉looks x){a:Act}{w:World}{u v:Value}:Yv P x (a.put d u) w v↔Yv P x a w v:=by
 unfold Yv;rw[dD (fun t e=>(zT (hd t e)).1)];have he:∀y∈lB x.1.op,(a.put d u).eval y=a.eval y:=fun y hy=>mu (fun t e=>(zT (hd t e)).2.1 hq) hy
 split
 ·split
  ·rename_i hp;rw[gu hp he]
  ·rename_i hp;have hr:jG x.1.op=true:=by simpa[hp]using hq
   rw[Jr hr he]
 ·exact Iff.rfl
theorem J9 {x:RO×Oper}(hp:kd x.1.op=true){a:Act}{w w':World}{v:Value}:Yv P x a w v↔Yv P x a w' v:=by
 unfold Yv;simp[hp]
theorem Z7 {x:RO×Oper}{a:Act}{w w':World}{v:Value}(h:Yv P x a w v)(e:Ext w w'):Yv P x a w' v:=by
 unfold Yv at*;split at h
 ·rename_i hw;rw[if_pos hw];split at h
  ·rename_i hp;rw[if_pos hp];exact h
  ·rename_i hp;rw[if_neg hp];obtain⟨s,h1,h2⟩:=h;exact⟨s,h1,fun w2 e2=>h2 w2 (e.trans e2)⟩
 ·rename_i hw;rw[if_neg hw];exact h
theorem Z8 {x:RO×Oper}{a:Act}{w:World}{u v:Value}(h:Yv P x a w u)(k:Yv P x a w v):u=v:=by
 unfold Yv at*;split at h
 ·rename_i hw;rw[if_pos hw]at k;split at h
  ·rename_i hp;rw[if_pos hp]at k;rw[h]at k;cases k;rfl
  ·rename_i hp;rw[if_neg hp]at k;obtain⟨s,h1,h2⟩:=h;obtain⟨s',k1,k2⟩:=k;rw[h1]at k1;cases k1;have h3:=h2 w (.refl w);rw[k2 w (.refl w)]at h3;cases h3;rfl
 ·rename_i hw;rw[if_neg hw]at k;rw[h,k]
end
section
variable {P:Program}
theorem Tn {o:Oper}{a:Act}{d:Nat}{u:Value}(hd:o.dst≠some d){K:Act->World->Prop}{r:Result Next}
 (h:jo P o a (fun a' w'=>K (a'.put (some d) u) w') wU r):jo P o (a.put (some d) u) K wU r:=by
 have hc:∀v,(a.put o.dst v).put (some d) u=(a.put (some d) u).put o.dst v:=fun v=>Act.put_comm a v u (fun e h1 h2=>hd (by rw[h1,<- h2]))
 cases r with
 |ok n w'=>
  cases n <;> simp only[jo]at h|-
  case value v=>rw[<- hc];exact h
  case skip=>rw[<- hc];exact h
  case enter f args=>exact Calls.mono h (fun e oJ he=>by cases e <;> first|(simp only at he|-;rw[<- hc];exact he)|exact he)
  case round l f tmps assign body=>exact RoundIn.mono h (fun e oJ he=>by cases e <;> first|(simp only at he|-;rw[<- hc];exact he)|exact he)
 |halt x w'=>cases x <;> simp only[jo]at h|- <;> exact h
theorem Nf {o:Oper}{a:Act}{d:Nat}{u:Value}(hd:o.dst≠some d){K:Act->World->Prop}{r:Result Next}
 (h:jo P o (a.put (some d) u) K wU r):jo P o a (fun a' w'=>K (a'.put (some d) u) w') wU r:=by
 have hc:∀v,(a.put o.dst v).put (some d) u=(a.put (some d) u).put o.dst v:=fun v=>Act.put_comm a v u (fun e h1 h2=>hd (by rw[h1,<- h2]))
 cases r with
 |ok n w'=>
  cases n <;> simp only[jo]at h|-
  case value v=>rw[hc];exact h
  case skip=>rw[hc];exact h
  case enter f args=>exact Calls.mono h (fun e oJ he=>by cases e <;> first|(simp only at he|-;rw[hc];exact he)|exact he)
  case round l f tmps assign body=>exact RoundIn.mono h (fun e oJ he=>by cases e <;> first|(simp only at he|-;rw[hc];exact he)|exact he)
 |halt x w'=>cases x <;> simp only[jo]at h|- <;> exact h
theorem HL {o:Oper}{a:Act}{K:Act->World->Prop}{r:Result Next}(h:jo P o a K wU r):∃ds v w',K ({a with defers:=ds}.put o.dst v) w':=by
 cases r with
 |ok n w'=>
  cases n <;> simp only[jo]at h
  case value v=>exact⟨a.defers,v,w',h⟩
  case skip=>exact⟨a.defers,undef,w',h⟩
  case enter f args=>
   obtain⟨e,w1,fr,hR,_⟩:=h [];exact zE9
  case round l f tmps assign body=>
   obtain⟨e,w1,hR,_⟩:=h.2 default [] (room_wide _);exact zE9
 |halt x w'=>cases x <;> simp only[jo]at h <;> exact h.elim
theorem F4(a:Act)(ds:List Deferred):({a with defers:=ds}:Act).eval=a.eval:=by funext x;cases x <;> rfl
theorem rS {x:RO×Oper}{a:Act}{ds:List Deferred}{w:World}{v:Value}:Yv P x {a with defers:=ds} w v↔Yv P x a w v:=by
 unfold Yv;rw[F4];have:jE x.1.guard {a with defers:=ds}=jE x.1.guard a:=by cases x.1.guard <;> rfl
 rw[this]
structure Good (P:Program)(n:Nat)(ops:Array Oper)(x:RO×Oper):Prop where
 low:dP P n ops x.2=some x.1
 aE:∀cs b,x.2.op≠.select cs b
theorem Eb {op:Op}{r:R}(h:j7 P op=some r)(cs:Array SelectCase)(b:Bool):op≠.select cs b:=by
 rintro rfl;simp[j7]at h
theorem Good.Sd {n:Nat}{ops:Array Oper}{x:RO×Oper}(h:dP P n ops x.2=some x.1):Good P n ops x:=⟨h,Eb (jI h).1⟩
theorem zX {x y:RO×Oper}(h:rU x y=true):∀d,x.1.dst=some d->d∉looks y/\y.1.dst≠some d:=by
 intro d e;simp only[rU,e,vF,vN,bne_iff_ne]at h;exact⟨by simpa using h.1,h.2⟩
variable {n:Nat} {ops:Array Oper}
theorem swap {x y:RO×Oper}(gx:Good P n ops x)(gy:Good P n ops y)(h:indep x y=true){K:Act->World->Prop}{a:Act}{w:World}
 (hh:wA P wU y (fun a w=>wA P wU x K a w) a w):wA P wU x (fun a w=>wA P wU y K a w) a w:=by
 simp only[indep,vF]at h;obtain⟨⟨hxy,hyx⟩,hc⟩:=h;have Yx:=zX hxy;have ν:=zX hyx;have comm:∀(b:Act) (u v:Value),(b.put x.1.dst u).put y.1.dst v=(b.put y.1.dst v).put x.1.dst u:=fun b u v=>Act.put_comm b u v (fun d e=>(Yx d e).2)
 by_cases qx:(kd x.1.op||jG x.1.op)=true
 ·by_cases qy:(kd y.1.op||jG y.1.op)=true
  ·obtain⟨v,hv,h1⟩:=(wL qy).1 hh;obtain⟨u,hu,h2⟩:=(wL qx).1 h1;refine(wL qx).2 ⟨u,(oO qx (fun t e=>(ν t e).1)).1 hu,(wL qy).2 ⟨v,(oO qy (fun t e=>(Yx t e).1)).2 hv,?_⟩⟩;rw[comm];exact h2
  ·-- x is pure,y acts
   have Sx:(kd y.1.op||jG y.1.op)=false:=by simpa using qy
   have px:kd x.1.op=true:=by
    try simp only[vR,vF]at hc
    simp only[vQ]at Sx;rcases hc with((h|h)|h)|h
    ·exact h
    ·rw[Sx.1]at h;cases h
    ·rw[Sx.2]at h;cases h.2
    ·rw[Sx.2]at h;cases h.2
   simp only[vQ]at Sx;by_cases hw:jE y.1.guard a=true
   ·unfold wA at hh;rw[if_pos hw,if_neg (by simp[Sx.1]),if_neg (by simp[Sx.2])]at hh;obtain⟨uw,hh⟩:=hh
    replace hh:=AD (K':=fun a w=>∃v,Yv P x a w v/\K (a.put x.1.dst v) w) (fun a w h=>(wL qx).1 h) hh
    obtain⟨gl1,gl2,gl3,_⟩:=jI gy.low;obtain⟨ds,v0,w0,u,hu,_⟩:=HL hh;have oD:∀w,Yv P x a w u:=fun w=>by
     rw[<- gl2]at hu;have:=(oO qx (fun t e=>(ν t e).1)).1 hu;exact(J9 px).1 (rS.1 this)
    refine(wL qx).2 ⟨u,oD w,?_⟩;have sF:jE y.1.guard (a.put x.1.dst u)=true:=by rw[dD (fun t e=>(zT (Yx t e).1).1)];exact hw
    show wA P wU y K (a.put x.1.dst u) w;unfold wA;rw[if_pos sF,if_neg (by simp[Sx.1]),if_neg (by simp[Sx.2])];have he:execOp (a.put x.1.dst u).eval y.2=execOp a.eval y.2:=
     execOp_congr y.2 gy.aE (fun z hz=>mu (fun t e=>(zT (Yx t e).1).2.2 (by simp[Sx.1,Sx.2])) (by simpa using hz))
    refine⟨fun e=>by rw[he];exact uw e,?_⟩;unfold AL at hh|-;rw[he];have step:jo P y.2 a (fun a' w'=>K (a'.put x.1.dst u) w') wU ((execOp a.eval y.2).run P w):=by
     generalize (execOp a.eval y.2).run P w=r at hh;have fin:∀{b:Act} {w':World},(∃ds v,b={a with defers:=ds}.put y.2.dst v)->(∃u',Yv P x b w' u'/\K (b.put x.1.dst u') w')->K (b.put x.1.dst u) w':=by
      rintro b w' ⟨ds,v,rfl⟩ ⟨u',h1,h2⟩
      rw[<- gl2]at h1;have h3:=(oO qx (fun t e=>(ν t e).1)).1 h1;have h4:=rS.1 h3;rw[Z8 (oD w') h4];exact h2
     cases r with
     |ok nx w'=>
      cases nx <;> simp only[jo]at hh|-
      case value v=>exact fin ⟨a.defers,v,rfl⟩ hh
      case skip=>exact fin ⟨a.defers,undef,rfl⟩ hh
      case enter f args=>exact Calls.mono hh (fun e oJ he=>by cases e <;> first|exact fin ⟨a.defers,_,rfl⟩ he|exact he)
      case round l f tmps assign body=>exact RoundIn.mono hh (fun e oJ he=>by cases e <;> first|exact fin ⟨a.defers,_,rfl⟩ he|exact he)
     |halt z w'=>cases z <;> simp only[jo]at hh|- <;> exact hh
    cases hxd:x.1.dst with
    |none=>rw[hxd]at step;exact step
    |some d=>
     rw[hxd]at step;exact Tn (by rw[<- gl2];exact(Yx d hxd).2) step
   ·unfold wA at hh;rw[if_neg hw]at hh;obtain⟨u,hu,h2⟩:=(wL qx).1 hh;refine(wL qx).2 ⟨u,(oO qx (fun t e=>(ν t e).1)).1 hu,?_⟩;show wA P wU y K (a.put x.1.dst u) w;unfold wA;rw[if_neg (by rw[dD (fun t e=>(zT (Yx t e).1).1)];exact hw),comm];exact h2
 ·-- x acts,y is pure
  have ZC:(kd x.1.op||jG x.1.op)=false:=by simpa using qx
  have pq:kd y.1.op=true∨(mY x.1.op=true/\jG y.1.op=true):=by
   try simp only[vR,vF]at hc
   simp only[vQ]at ZC;rcases hc with((h|h)|h)|h
   ·rw[ZC.1]at h;cases h
   ·exact .inl h
   ·rw[ZC.2]at h;cases h.1
   ·exact .inr h
  have qy:(kd y.1.op||jG y.1.op)=true:=by rcases pq with h|h <;> simp[h]
  simp only[vQ]at ZC;obtain⟨v,hv,h1⟩:=(wL qy).1 hh;have hwe:jE x.1.guard (a.put y.1.dst v)=jE x.1.guard a:=dD (fun t e=>(zT (ν t e).1).1);unfold wA at h1|-;rw[hwe]at h1;by_cases hw:jE x.1.guard a=true
  ·rw[if_pos hw,if_neg (by simp[ZC.1]),if_neg (by simp[ZC.2])]at h1|-;obtain⟨gl1,gl2,gl3,_⟩:=jI gx.low;obtain⟨uw,h1⟩:=h1;unfold AL at h1;have he:execOp (a.put y.1.dst v).eval x.2=execOp a.eval x.2:=
    execOp_congr x.2 gx.aE (fun z hz=>mu (fun t e=>(zT (ν t e).1).2.2 (by simp[ZC.1,ZC.2])) (by simpa using hz))
   rw[he]at h1 uw;refine⟨uw,?_⟩;unfold AL;have step:jo P x.2 a (fun a' w'=>K (a'.put y.1.dst v) w') wU ((execOp a.eval x.2).run P w):=by
    cases hyd:y.1.dst with
    |none=>rw[hyd]at h1;exact h1
    |some d=>
     rw[hyd]at h1;exact Nf (by rw[<- gl2];exact(ν d hyd).2) h1
   have fin0:∀{b:Act} {w':World},(∃ds u,b={a with defers:=ds}.put x.2.dst u)->Yv P y a w' v->K (b.put y.1.dst v) w'->wA P wU y K b w':=by
    rintro b w' ⟨ds,u,rfl⟩ hv h2
    refine(wL qy).2 ⟨v,?_,h2⟩;rw[<- gl2];exact(oO qy (fun t e=>(Yx t e).1)).2 (rS.2 hv)
   rcases pq with py|⟨nx,_⟩
   rotate_left
   ·obtain⟨u,w',bB,hext⟩:=uw nx;rw[bB]at step|-;exact fin0 ⟨a.defers,u,rfl⟩ (Z7 hv hext) step
   have fin:∀{b:Act} {w':World},(∃ds u,b={a with defers:=ds}.put x.2.dst u)->K (b.put y.1.dst v) w'->wA P wU y K b w':=fun hb h2=>fin0 hb ((J9 py).1 hv) h2
   generalize (execOp a.eval x.2).run P w=r at step;cases r with
   |ok nx w'=>
    cases nx <;> simp only[jo]at step|-
    case value u=>exact fin ⟨a.defers,u,rfl⟩ step
    case skip=>exact fin ⟨a.defers,undef,rfl⟩ step
    case enter f args=>exact Calls.mono step (fun e oJ he=>by cases e <;> first|exact fin ⟨a.defers,_,rfl⟩ he|exact he)
    case round l f tmps assign body=>exact RoundIn.mono step (fun e oJ he=>by cases e <;> first|exact fin ⟨a.defers,_,rfl⟩ he|exact he)
   |halt z w'=>cases z <;> simp only[jo]at step|- <;> exact step
  ·rw[if_neg hw]at h1|-;refine(wL qy).2 ⟨v,(oO qy (fun t e=>(Yx t e).1)).2 hv,?_⟩;rw[comm];exact h1
theorem Yg {X:Nat->RO×Oper}{Q:Act->World->Prop}(i:Nat)(l2:List Nat)(gi:Good P n ops (X i)):∀(l1:List Nat),(∀j∈l1,Good P n ops (X j)/\indep (X i) (X j)=true)->
 ∀{a w},cr P wU Q ((l1++i::l2).map X) a w->cr P wU Q ((i::(l1++l2)).map X) a w:=by
 intro l1
 induction l1 with
 |nil=>intro _ a w h;exact h
 |cons j l1 ih=>
  intro hj a w h;have h1:wA P wU (X j) (cr P wU Q ((i::(l1++l2)).map X)) a w:=eX (fun a w h=>ih (fun k hk=>hj k (by simp[hk])) h) h;obtain⟨gj,O9⟩:=hj j Zs;exact swap gi gj O9 h1
theorem reorder {X:Nat->RO×Oper}{Q:Act->World->Prop}:∀(l o:List Nat),o.Perm l->l.Nodup->(∀i∈l,Good P n ops (X i))->
 o.Pairwise (fun x y=>indep (X y) (X x)=true∨[x,y].Sublist l)->∀{a w},cr P wU Q (o.map X) a w->cr P wU Q (l.map X) a w:=by
 intro l
 induction l with
 |nil=>intro o hp _ _ _ a w h;rw[List.perm_nil.1 hp]at h;exact h
 |cons i l ih=>
  intro o hp hn hg DP a w h;have hi:i∈o:=hp.mem_iff.2 Zs;obtain⟨o1,o2,rfl⟩:=vp hi;have EZ:=QU.1 hn;have hind:∀x∈o1,indep (X i) (X x)=true:=by
   intro x hx;have KJ:=(List.pairwise_append.1 DP).2.2 x hx i Zs;rcases KJ with h|h
   ·exact h
   ·exfalso;cases h with
    |cons _ h=>exact EZ.1 (h.subset Zs)
    |cons_cons _ h=>exact EZ.1 (h.subset Zs)
  have h1:=Yg i o2 (hg i Zs) o1 (fun x hx=>⟨hg x (hp.mem_iff.1 (by simp[hx])),hind x hx⟩) h;have hp':(o1++o2).Perm l:=by
   have:=(QZ (a:=i) (l₁:=o1) (l₂:=o2)).symm.trans hp;exact List.Perm.cons_inv this
  refine eX (fun a w h=>ih (o1++o2) hp' EZ.2 (fun j hj=>hg j (by simp[hj])) ?_ h) h1;have iZ:(o1++o2).Sublist (o1++i::o2):=List.Sublist.append_left (Qd i o2) o1;have hpw':=DP.sublist iZ;refine hpw'.imp_of_mem (fun {x y} hx hy h=>?_);rcases h with h|h
  ·exact .inl h
  ·right;have hxi:x≠i:=by rintro rfl;exact EZ.1 (hp'.mem_iff.1 hx)
   cases h with
   |cons _ h=>exact h
   |cons_cons _ h=>exact absurd rfl hxi
end
end Go.V

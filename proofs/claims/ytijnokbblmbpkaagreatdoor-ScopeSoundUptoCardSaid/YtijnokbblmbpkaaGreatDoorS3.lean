/-
  What reads, makes or writes memory: its text with the types resolved, and that the model's operation does that.
-/
import Derived.Test.YtijnokbblmbpkaaGreatDoorS2
import Derived.Orders
import Derived.RangeFuncIn
import Derived.RangeFuncLeaves
import Derived.OwnWalkIn
set_option linter.unusedSimpArgs false
set_option linter.unusedVariables false
namespace Go.V
open Go
def kf(n:Nat)(zero:List Value):List Value:=(List.range (n*zero.length)).map fun i=>zero[i % zero.length]!
def sameK:SK->Value->Value->Option Bool
 |.int,.int k a,.int k' b=>if k=k' then some (a==b)else none
 |.str,.string a,.string b=>some (decide (a=b))
 |.bool,.bool a,.bool b=>some (a==b)
 |_,_,_=>none
def findK(sk:SK)(k:Value):List MapEntry->Nat->Option (Option (Nat×Value))
 |[],_=>some none
 |e::es,i=>
  match sameK sk k e.key with
  |some true=>some (some (i,e.val))
  |some false=>findK sk k es (i+1)
  |none=>none
def jy:Value->Sem (Array MapEntry×Nat)
 |.map none=>pure (#[],0)
 |.map (some r)=>do
  match <- getObj r with
  |.map es c=>pure (es,c)
  | _ => stuck "map"
 | _ => stuck "map"
def lookRes(ok:Bool)(zero:Value):Option (Nat×Value)->Value
 |some (_,v)=>if ok then .tuple #[v,.bool true]else v
 |none=>if ok then .tuple #[zero,.bool false]else zero
def seqLen:Value->Option Nat
 |.slice _ n _=>some n
 |.string s=>some s.size
 |_=>none
def jw(ρ:Operand->Value):R->Option (Sem Next)
 |.load1 x=>some do let a <- Instr.sureAddr (ρ x);let v <- load a;pure (.value v)
 |.loadN n x=>some do let a <- Instr.sureAddr (ρ x);let cs <- loadCells a n;pure (.value (.agg cs))
 |.mlen m=>some do let(es,_) <- jy (ρ m);pure (.value (.int .i64 es.size))
 |.lookup sk zero ok m key=>some do
  let(es,_) <- jy (ρ m)
  match findK sk (ρ key) es.toList 0 with
  |some r=>pure (.value (lookRes ok zero r))
  | none => stuck "key"
 |.entry it=>some do let v <- Instr.entry (ρ it);pure (.value v)
 |.b2s x=>some do let v <- Conv.bytesToString (ρ x);pure (.value v)
 |.alloc t zero=>some do let b <- newObj (.cells zero.toArray t);pure (.value (.pointer (some ⟨b,0,none⟩)))
 |.box t x=>some do let b <- newObj (.cells (ρ x).cells t);pure (.value (.pointer (some ⟨b,0,none⟩)))
 |.bslice t len zero parts=>some <|match jT (kf len zero) (jP ρ parts)with
  |some out=>do let b <- newObj (.cells out.toArray t);pure (.value (.slice (some ⟨b,0,none⟩) len len))
  | none => stuck "parts"
 |.mkmap=>some do let b <- newObj (.map #[] 0);pure (.value (.map (some b)))
 |.mkslice t size bytes zero l c=>some <|match ρ l,ρ c with
  |.int _ l,.int _ c=>if 0<=l/\l<=c/\c<=9223372036854775807/\bytes*c<=2 ^ 48 then if zero.length=size then do
    let b <- newObj (.cells (kf c.toNat zero).toArray t);pure (.value (.slice (some ⟨b,0,none⟩) l.toNat c.toNat))
   else stuck "size" else stuck "size"
  | _, _ => stuck "size"
 |.rangeS x=>some <|match ρ x with
  |.string s=>do let b <- newObj (.stringIter s 0);pure (.value (.pointer (some ⟨b,0,none⟩)))
  | _ => stuck "string"
 |.rangeM x=>some <|match ρ x with
  |.map none=>do let b <- newObj (.mapIter none 0 #[] 0);pure (.value (.pointer (some ⟨b,0,none⟩)))
  |.map (some m)=>do let(_,clock) <- jy (.map (some m));let b <- newObj (.mapIter (some m) clock #[] clock);pure (.value (.pointer (some ⟨b,0,none⟩)))
  | _ => stuck "map"
 |.s2b t x=>some <|match ρ x with
  |.string s=>do let v <- Conv.stringToBytes t s;pure (.value v)
  | _ => stuck "string"
 | .store n x v => some do let a ← Instr.sureAddr (ρ x); if (ρ v).cells.size = n then (do storeCells a (ρ v).cells.toList; pure .skip) else stuck "size"
 |.mapupd sk m key v=>some <|match ρ m with
  |.map (some r)=>do
   let(es,clock) <- jy (.map (some r))
   match findK sk (ρ key) es.toList 0 with
   |some (some (i,_))=>do
    let key <- Instr.keyThatStays (((es[i]?).map (·.key)).getD (ρ key)) (ρ key)
    setObj r (.map (es.modify i fun e=>{e with key,val:=ρ v}) clock);pure .skip
   |some none=>do setObj r (.map (es.push {key:=ρ key,val:=ρ v,born:=clock}) (clock+1));pure .skip
   | none => stuck "key"
  | _ => stuck "map"
 |.delete sk m key=>some <|match ρ m with
  |.map (some r)=>do
   let(es,clock) <- jy (.map (some r))
   match findK sk (ρ key) es.toList 0 with
   |some (some (i,_))=>do setObj r (.map (es.eraseIdxIfInBounds i) clock);pure (.value (.tuple #[]))
   |some none=>do setObj r (.map es clock);pure (.value (.tuple #[]))
   | none => stuck "key"
  |.map none=>pure (.value (.tuple #[]))
  | _ => stuck "map"
 |.append t size bytes zero s x=>some <|match ρ s,seqLen (ρ x)with
  |.slice base n c,some m=>
   if n+m<=c then do
    let new <- Builtin.firstCells size m (ρ x)
    if let some a:=base then storeCells (a.add (n*size)) new.toList
    pure (.value (.slice base (n+m) c))
   else if Builtin.nextslicecap (n + m) c * bytes > 2 ^ 48 ∨ bytes = 0 then stuck "size" else do
    let cap <- choose (.appendCap (n+m) c t)
    let old <- Builtin.firstCells size n (ρ s)
    let new <- Builtin.firstCells size m (ρ x)
    let b <- newObj (.cells (old++new++(kf (cap - (n+m)) zero).toArray) t)
    pure (.value (.slice (some ⟨b,0,none⟩) (n+m) cap))
  | _, _ => stuck "append"
 |.grow t size bytes zero s x=>some <|match ρ s,ρ x with
  |.slice base n c,.int _ l=>
   if l < 0 ∨ l * bytes > 2 ^ 48 ∨ IntKind.i64.wrap l ≠ l ∨ size = 0 then stuck "grow" else
   if n+l.toNat<=c then do
    if let some a:=base then storeCells (a.add (n*size)) (kf l.toNat zero)
    pure (.value (.slice base (n+l.toNat) c))
   else if Builtin.nextslicecap (n + l.toNat) c * bytes > 2 ^ 48 ∨ bytes = 0 ∨ ((n + l.toNat : Nat) : Int) > IntKind.i64.max then stuck "size" else do
    let cap <- choose (.appendCap (n+l.toNat) c t)
    let old <- Builtin.firstCells size n (ρ s)
    let b <- newObj (.cells (old++(kf l.toNat zero).toArray++(kf (cap - (n+l.toNat)) zero).toArray) t)
    pure (.value (.slice (some ⟨b,0,none⟩) (n+l.toNat) cap))
  | _, _ => stuck "grow"
 |.copy size d s=>some <|match ρ d,seqLen (ρ s)with
  |.slice base n _,some m=>do
   let cells <- Builtin.firstCells size (Nat.min m n) (ρ s)
   if let some a:=base then storeCells a cells.toList
   pure (.value (.int .i64 (Nat.min m n)))
  | _, _ => stuck "copy"
 |.clr zero x=>some <|match ρ x with
  |.slice base n _=>do
   if let some a:=base then storeCells a (kf n zero)
   pure (.value (.tuple #[]))
  | _ => stuck "clear"
 |.next it s=>some do let v <- Instr.next (ρ it) s 0;pure (.value v)
 |.eqt op t x y=>some do eqGuard op t x y (ρ x) (ρ y);let v <- Go.binOp op t (ρ x) (ρ y);pure (.value v)
 |.lookt t ok m k=>some do let v <- Instr.lookup t (ρ m) (ρ k) ok;pure (.value v)
 |.updt t m k v=>some do Instr.mapUpdate t (ρ m) (ρ k) (ρ v);pure .skip
 |.ment t m k=>some do let v <- Instr.mapEntry t (ρ m) (ρ k);pure (.value v)
 |.mst t m s v=>some do Instr.entryStore t (ρ m) (ρ s) (ρ v);pure .skip
 |_=>none
section
variable {P:Program} {ρ:Operand->Value} {w w':World} {n:Next} {r:R} {s:Sem Next}
theorem sameNow_of {d:TypeDesc}{sk:SK}(h:skOf d=some sk)(a b:Value):Instr.sameNow d a b=sameK sk a b:=by
 cases d <;> simp[skOf]at h <;> subst h <;> cases a <;> cases b <;> simp[Instr.sameNow,sameK];rename_i a b;rw[beq_toListBytes,str_eq]
theorem findNow_of {d:TypeDesc}{sk:SK}(h:skOf d=some sk)(k:Value):∀(es:List MapEntry) (i:Nat),Instr.findNow d k es i=findK sk k es i:=by
 intro es
 induction es with
 |nil=>intro i;rfl
 |cons e es ih=>
  intro i;simp only[Instr.findNow,findK,sameNow_of h,ih];split <;> simp_all
theorem zV {t:TypeId}{d:TypeDesc}{sk:SK}(ht:P.underlying t=some d)(h:skOf d=some sk)(e:Bool)(v:Value):(Instr.checkKey e 10000 t v).run P w=.ok () w:=by
 show(Instr.checkKey e (9999+1) t v).run P w=_;generalize 9999=n;cases d <;> simp[skOf]at h <;> cases v <;> simp[Instr.checkKey,kB ht]
theorem run_findKey {t:TypeId}{d:TypeDesc}{sk:SK}(ht:P.underlying t=some d)(h:skOf d=some sk){k:Value}{es:List MapEntry}{r:Option (Nat×Value)}(hf:findK sk k es 0=some r):
 (Instr.findKey t k es).run P w=.ok r w:=by
 simp[Instr.findKey,kB ht,findNow_of h,hf]
theorem sk_of {t:TypeId}{sk:SK}(h:(P.underlying t).bind skOf=some sk):∃d,P.underlying t=some d/\skOf d=some sk:=Qh.1 h
theorem zeroRow_eq(n:Nat)(z:Array Value):(kf n z.toList).toArray=(Array.range (n*z.size)).map (z[·% z.size]!):=by
 apply vC.1;simp only[kf,vD,Array.toList_range,Array.length_toList];apply Vx;intro a _;rw[getElem!_def,getElem!_def];simp
theorem zT(n:Nat)(z:Array Value):(kf n z.toList).toArray=Builtin.zeroCells z n:=by
 rw[zeroRow_eq];rfl
theorem run_entries {x:Value}{es:Array MapEntry}{c:Nat}(h:(jy x).run P w=.ok (es,c) w'):
 w'=w/\((x=.map none/\es=#[]/\c=0)∨∃r,x=.map (some r)/\(getObj r).run P w=.ok (.map es c) w):=by
 unfold jy at h;split at h
 ·simp at h;obtain⟨⟨rfl,rfl⟩,rfl⟩:=h;exact⟨rfl,.inl ⟨rfl,rfl,rfl⟩⟩
 ·rename_i r;simp only[Sem.run_bind]at h;have hw:∀o w1,(getObj r).run P w=.ok o w1->w1=w:=by
   intro o w1 h;simp only[getObj,Sem.run]at h;split at h <;> first|(cases h;done)|(cases h;rfl)
  cases hg:(getObj r).run P w with
  |halt x w1=>rw[hg]at h;simp at h
  |ok o w1=>
   rw[hg]at h;obtain rfl:=hw _ _ hg;simp only[Result.andThen_ok]at h;cases o <;> simp at h;obtain⟨⟨rfl,rfl⟩,rfl⟩:=h;exact⟨rfl,.inr ⟨r,rfl,hg⟩⟩
 ·simp at h
theorem kn {α β:Type}{x:Result α}{f:α->World->Result β}{b:β}{w2:World}(h:x.andThen f=.ok b w2):∃a w1,x=.ok a w1/\f a w1=.ok b w2:=by
 cases x with
 |ok a w1=>exact⟨a,w1,rfl,h⟩
 |halt h w1=>simp at h
theorem kb {α β γ:Type}(x:Result α)(f:α->World->Result β)(g:β->World->Result γ):(x.andThen f).andThen g=x.andThen fun a w=>(f a w).andThen g:=by
 cases x <;> rfl
theorem upd_aux {t kt e:TypeId}{sk:SK}{d:TypeDesc}{m k v:Operand}
 (hu:P.underlying t=some (.map kt e)) (hd:P.underlying kt=some d) (hdk:skOf d=some sk) (hr:(match ρ m with
 |.map (some r)=>do
  let(es,clock) <- jy (.map (some r))
  match findK sk (ρ k) es.toList 0 with
  |some (some (i,_))=>do
   let key <- Instr.keyThatStays (((es[i]?).map (·.key)).getD (ρ k)) (ρ k)
   setObj r (.map (es.modify i fun e=>{e with key,val:=ρ v}) clock);pure .skip
  |some none=>do setObj r (.map (es.push {key:=ρ k,val:=ρ v,born:=clock}) (clock+1));pure .skip
  | none => stuck "key"
 | _ => stuck "map" : Sem Next).run P w = .ok n w') : (do Instr.mapUpdate t (ρ m) (ρ k) (ρ v); pure .skip : Sem Next).run P w = .ok n w' := by
 split at hr
 case h_2=>simp at hr
 rename_i q hx;simp only[Sem.run_bind]at hr;obtain⟨⟨es,c⟩,w1,h1,h2⟩:=kn hr;obtain⟨rfl,hx2⟩:=run_entries h1;simp at hx2;simp only at h2;split at h2
 ·rename_i i v' hf;exact zCV
 ·rename_i hf;exact zCV
 ·simp at h2
set_option maxHeartbeats 1000000 in
theorem mem_sound {o:Oper}(hρ:∀u,ρ (.const u)=u)(hl:kz P o.op=some r)(hs:jw ρ r=some s)(hr:s.run P w=.ok n w'):(execOp ρ o).run P w=.ok n w':=by
 obtain⟨dst,op,type,pos,after,guard⟩:=o;simp only at hl;cases op
 case load t x=>
  simp only[kz]at hl;split at hl <;> cases hl
  ·exact zCY
  ·exact zCY
  ·rename_i d j h1 h2 hu hj;simp only[jw,Qo]at hs;subst hs;have ha:∀w,(isAgg t).run P w=.ok false w:=by intro w;rw[isAgg_of hu];cases d <;> simp_all
   simpa[execOp,Instr.loadAt,loadVar,ha]using hr
 case store t x v=>
  simp only[kz,Qk]at hl;obtain⟨i,hi,rfl⟩:=hl;simp only[jw,Qo]at hs;subst hs;simp only[Sem.run_bind]at hr;obtain⟨a,w1,h1,h2⟩:=kn hr;split at h2
  ·rename_i hz;simp only[execOp,Instr.storeAt,storeVar,Sem.run_bind,h1,Result.andThen_ok,kW hi,hz];simpa[hz]using h2
  ·simp at h2
 case alloc t=>
  simp only[kz,Qk]at hl;obtain⟨z,hz,rfl⟩:=hl;obtain⟨i,u,hi,hu,rfl⟩:=zero_of hz;simp only[jw,Qo]at hs;subst hs;simpa[execOp,Instr.alloc,kX hi hu,newVar,newRow]using hr
 case box t x=>
  simp only[kz,Qo]at hl;subst hl;simp only[jw,Qo]at hs;subst hs;simpa[execOp,Instr.box,newVar,newRow]using hr
 case buildSlice t len parts=>
  simp only[kz]at hl;split at hl <;> try (cases hl;done)
  rename_i e hu;split at hl <;> try (cases hl;done)
  rename_i i z hi hz;split at hl <;> try (cases hl;done)
  rename_i hle;obtain⟨h24,hzl⟩:=hle;simp only[Qk]at hl;obtain⟨l,hlp,rfl⟩:=hl;obtain⟨i',u,hi',hu',rfl⟩:=zero_of hz;rw[hi]at hi';cases hi';simp only[jw,Qo]at hs;subst hs;split at hr
  case h_2=>simp at hr
  rename_i out ho;have hfill:=run_fill (ρ:=ρ) (fun j=>some (j*i.size,i.size)) parts.toList l _ out hlp ho;have hparts:(parts.map fun p=>(p.1,ρ p.2)).toList=parts.toList.map fun p=>(p.1,ρ p.2):=by simp
  have hsz:u.cells.size=i.size:=by simpa using hzl
  rw[zeroRow_eq,hsz]at hfill;have hb:(Instr.buildSlice t len (parts.map fun p=>(p.1,ρ p.2))).run P w=((newObj (.cells out.toArray e)).run P w).andThen fun b w=>.ok (.slice (some ⟨b,0,none⟩) len len) w:=by
   simp only[Instr.buildSlice,Sem.run_bind,kB hu,Result.andThen_ok,kW hi,show ¬(len*i.size > 2 ^ 24) by omega,if_false,hparts];by_cases h0:len*i.size=0
   ·have e1:(Array.range (len*i.size)).map (u.cells[·% i.size]!)=(Array.range (len*i.size)).map ((#[]:Array Value)[·% (#[]:Array Value).size]!):=by rw[h0];simp
    rw[e1]at hfill;simp only[if_pos h0,Sem.run_bind,Sem.run_pure,Result.andThen_ok];rw[hfill];simp[newRow]
   ·rw[<- hsz]at hfill;simp only[if_neg h0,Sem.run_bind,kX hi hu',Sem.run_pure,Result.andThen_ok];rw[<- hsz,hfill];simp[newRow]
  simp only[execOp,Sem.run_bind,hb];simpa[kb]using hr
 case makeMap t h=>
  simp only[kz]at hl;split at hl <;> try (cases hl;done)
  rename_i k e hu;split at hl <;> cases hl
  ·simp only[jw,Qo]at hs;subst hs;simpa[execOp,Instr.makeMap,kb]using hr
  ·simp only[jw,Qo]at hs;subst hs;simpa[execOp,Instr.makeMap,kb,kB hu,hρ,asInt,asIntOf]using hr
 case makeSlice t l c=>
  simp only[kz]at hl;split at hl <;> try (cases hl;done)
  rename_i e hu;split at hl <;> cases hl;rename_i i z hi hz;obtain⟨i',u,hi',hu',rfl⟩:=zero_of hz;rw[hi]at hi';cases hi';simp only[jw,Qo]at hs;subst hs;split at hr
  case h_2=>simp at hr
  rename_i kl l' kc c' hl' hc';split at hr
  case isFalse=>simp at hr
  rename_i hb;obtain⟨b1,b2,b3,b4⟩:=hb;split at hr
  case isFalse=>simp at hr
  rename_i hzl;have wl:IntKind.i64.wrap l'=l':=by
   exact zDI
  have wc:IntKind.i64.wrap c'=c':=by
   exact zDI
  have hbig:((decide (c' < 0)||decide ((i.bytes:Int)*c' > 2 ^ 48))||decide (l' < 0)||decide (l' > c'))=false:=by
   simp;omega
  have hsz:u.cells.size=i.size:=by simpa using hzl
  have hm:(Instr.makeSlice t (ρ l) (ρ c)).run P w=((newObj (.cells (kf c'.toNat u.cells.toList).toArray e)).run P w).andThen fun b w=>.ok (.slice (some ⟨b,0,none⟩) l'.toNat c'.toNat) w:=by
   simp only[Instr.makeSlice,Sem.run_bind,kB hu,Result.andThen_ok,hl',hc',asInt,asIntOf,Sem.run_pure,jx hi,wl,wc,hbig,vI,if_false,run_askRoom,kW hi];rw[zeroRow_eq,hsz];by_cases h0:c'.toNat*i.size=0
   ·simp only[if_pos h0,Sem.run_bind,Sem.run_pure,Result.andThen_ok];have e0:Array.range (c'.toNat*i.size)=#[]:=by rw[h0];rfl
    simp only[e0];simp[newRow]
   ·simp only[if_neg h0,Sem.run_bind,kX hi hu',Sem.run_pure,Result.andThen_ok];simp[newRow,hsz]
  simp only[execOp,Sem.run_bind,hm];simpa[kb]using hr
 case lookup t m k ok=>
  simp only[kz]at hl;split at hl <;> try (cases hl;done)
  rename_i kt e hu;split at hl <;> cases hl
  case h_2=>
   exact zBE
  rename_i sk z hsk hz;obtain⟨d,hd,hdk⟩:=sk_of hsk;obtain⟨i,hi,hiz⟩:=Qh.1 hz;simp only[jw,Qo]at hs;subst hs;simp only[Sem.run_bind]at hr;obtain⟨⟨es,c⟩,w1,h1,h2⟩:=kn hr;obtain⟨rfl,hx⟩:=run_entries h1;simp only at h2;split at h2
  case h_2=>simp at h2
  rename_i r hf;have hl:(Instr.lookup t (ρ m) (ρ k) ok).run P w1=.ok (lookRes ok z r) w1:=by
   rcases hx with⟨hx,rfl,rfl⟩|⟨q,hx,hq⟩
   ·rw[hx];simp only[Instr.lookup,Sem.run_bind,kB hu,Result.andThen_ok,Sem.run_pure,zV hd hdk,run_findKey hd hdk hf];exact zDR
   ·rw[hx];simp only[Instr.lookup,Sem.run_bind,kB hu,Result.andThen_ok,Sem.run_pure,zV hd hdk,hq,run_findKey hd hdk hf];exact zDR
  simp only[execOp,Sem.run_bind,hl,Result.andThen_ok];exact h2
 case mapUpdate t m k v=>
  simp only[kz]at hl;split at hl <;> try (cases hl;done)
  rename_i kt e hu;split at hl <;> cases hl
  case h_2=>
   exact zBE
  exact zDE
 case insert t m k v=>
  simp only[kz]at hl;split at hl <;> try (cases hl;done)
  rename_i kt e hu;split at hl <;> cases hl
  case h_2=>
   exact zBE
  exact zDE
 case mapEntry t m k=>
  simp only[kz,Qo]at hl;subst hl;exact zBE
 case entryStore t m s v=>
  simp only[kz,Qo]at hl;subst hl;exact zBE
 case range t x=>
  simp only[kz]at hl;split at hl <;> cases hl
  ·rename_i hu;simp only[jw,Qo]at hs;subst hs;split at hr
   case h_2=>simp at hr
   rename_i s hx;simpa[execOp,Instr.range,kB hu,hx,kb]using hr
  ·rename_i k e hu;simp only[jw,Qo]at hs;subst hs;split at hr
   ·rename_i hx;simpa[execOp,Instr.range,kB hu,hx,kb]using hr
   ·rename_i q hx;simp only[Sem.run_bind]at hr;obtain⟨⟨es,c⟩,w1,h1,h2⟩:=kn hr;obtain⟨rfl,hx2⟩:=run_entries h1;simp at hx2;simpa[execOp,Instr.range,kB hu,hx,kb,hx2]using h2
   ·simp at hr
 case next it s=>
  simp only[kz,Qo]at hl;subst hl;simp only[jw,Qo]at hs;subst hs;have:Instr.next (ρ it) s type=Instr.next (ρ it) s 0:=rfl;simpa[execOp,this]using hr
 case entry it=>
  simp only[kz,Qo]at hl;subst hl;exact zBE
 case convert s d x=>
  simp only[kz]at hl;split at hl <;> try (cases hl;done)
  ·cases hl;simp[jw]at hs
  ·cases hl;simp[jw]at hs
  ·rename_i e hus hud;split at hl <;> cases hl;rename_i hue;simp only[jw,Qo]at hs;subst hs;split at hr
   case h_2=>simp at hr
   rename_i b hx;simpa[execOp,Go.convert,kB hus,kB hud,hx,kB hue]using hr
  ·rename_i e hus hud;split at hl <;> cases hl;rename_i hue;simp only[jw,Qo]at hs;subst hs;simp only[Sem.run_bind]at hr;obtain⟨b,w1,h1,h2⟩:=kn hr;have:(Go.convert s d (ρ x)).run P w=.ok b w1:=by
    cases hx:ρ x with
    |slice a n c=>rw[hx]at h1;simpa[Go.convert,kB hus,kB hud,kB hue]using h1
    |_=>rw[hx]at h1;simp[Conv.bytesToString]at h1
   simpa[execOp,this]using h2
 case call c=>
  obtain⟨callee,args,ats⟩:=c;obtain⟨args⟩:=args;obtain⟨ats⟩:=ats;simp only[kz]at hl;split at hl
  ·split at hl <;> cases hl;simp[jw]at hs
  ·cases hl;simp[jw]at hs
  ·split at hl <;> try (cases hl;done)
   rename_i x t;split at hl <;> cases hl <;> simp only[jw]at hs <;> try (cases hs;done)
   rename_i k e hu;simp only[Qo]at hs;subst hs;simp only[Sem.run_bind]at hr;obtain⟨⟨es,c⟩,w1,h1,h2⟩:=kn hr;obtain⟨rfl,hx⟩:=run_entries h1;rcases hx with⟨hx,rfl,rfl⟩|⟨q,hx,hq⟩
   ·simpa[execOp,resolve,invoke,Go.builtin,Builtin.len_,kB hu,hx,goInt]using h2
   ·simpa[execOp,resolve,invoke,Go.builtin,Builtin.len_,kB hu,hx,hq,goInt]using h2
  ·split at hl <;> try (cases hl;done)
   split at hl <;> cases hl <;> simp[jw]at hs
  ·split at hl <;> cases hl;simp[jw]at hs
  ·split at hl <;> cases hl;simp[jw]at hs
  ·split at hl <;> try (cases hl;done)
   rename_i sx x t xt;split at hl <;> try (cases hl;done)
   rename_i e hu;split at hl <;> try (cases hl;done)
   rename_i i z hi hz;split at hl
   case isFalse=>
    split at hl
    case isFalse=>cases hl
    rename_i hq;cases hl;obtain⟨i',u,hi',hu',rfl⟩:=zero_of hz;rw[hi]at hi';cases hi';obtain⟨ut,xr,k,hxt,hut⟩:∃ut xr k,xt=ut::xr/\P.underlying ut=some (.int k):=by
     cases xt with
     |nil=>simp[isIntL]at hq
     |cons ut xr=>
      simp only[isIntL]at hq;split at hq
      ·rename_i k h;exact⟨ut,xr,k,rfl,h⟩
      ·cases hq
    subst hxt;simp only[jw,Qo]at hs;subst hs;split at hr
    case h_2=>simp at hr
    rename_i base n0 c0 k0 l hsx hlx;split at hr
    case isTrue=>simp at hr
    rename_i hbad;have hb0:¬l < 0:=fun h=>hbad (.inl h)
    have hb1:¬(l*i.bytes > 2 ^ 48):=fun h=>hbad (.inr (.inl h))
    have hb2:IntKind.i64.wrap l=l:=Classical.byContradiction fun h=>hbad (.inr (.inr (.inl h)))
    have hsz:i.size≠0:=fun h=>hbad (.inr (.inr (.inr h)))
    have happ:∀(n:Nat) (w:World),(if n*i.size=0 then pure #[]else do pure (Builtin.zeroCells (<- zeroValue e).cells n):Sem (Array Value)).run P w=.ok (kf n u.cells.toList).toArray w:=by
     intro n w;by_cases h0:n*i.size=0
     ·obtain rfl:n=0:=by
       rcases Nat.mul_eq_zero.1 h0 with h|h
       ·exact h
       ·exact absurd h hsz
      simp[kf]
     ·simp[h0,kX hi hu',zT]
    have hasint:(asInt (.int k0 l)).run P w=.ok l w:=by simp[asInt,asIntOf]
    simp only[execOp,resolve,invoke,Go.builtin,Sem.run_bind,List.map_toArray,Vy,Q0,Sem.run_pure,Result.andThen_ok];simp only[Builtin.append_,Vi,VV,V9,Sem.run_bind,kB hu,kB hut,Result.andThen_ok,hsx,hlx,hasint,Sem.run_pure,kW hi,if_true,hb2];simp only[hb0,if_false,Sem.run_bind,jx hi,Result.andThen_ok,hb1,Sem.run_pure,Bool.not_true,vI];by_cases hle:n0+l.toNat<=c0
    ·simp only[hle,if_true,Sem.run_bind]at hr|-;rw[happ];cases base <;> simpa[kb]using hr
    ·simp only[hle,if_false]at hr|-;split at hr
     case isTrue=>simp at hr
     rename_i hbig;have g1:¬(Builtin.nextslicecap (n0+l.toNat) c0*i.bytes > 2 ^ 48):=fun h=>hbig (.inl h)
     have g2:¬(((n0+l.toNat:Nat):Int) > IntKind.i64.max):=fun h=>hbig (.inr (.inr h))
     simp only[Sem.run_bind,jx hi,Result.andThen_ok,g2,false_and,g1,if_false,run_askRoom];simp only[Sem.run_bind]at hr;rw[<- hsx];simp only[happ,Result.andThen_ok];simpa[kb,newRow,kX hi hu',<- zT]using hr
   cases hl;rename_i hq;obtain⟨i',u,hi',hu',rfl⟩:=zero_of hz;rw[hi]at hi';cases hi';obtain⟨ut,xr,hxt,hseq⟩:∃ut xr,xt=ut::xr/\((∃e',P.underlying ut=some (.slice e'))∨P.underlying ut=some .string):=by
    cases xt with
    |nil=>simp[isSeq]at hq
    |cons ut xr=>
     refine⟨ut,xr,rfl,?_⟩;simp only[isSeq]at hq;split at hq
     ·rename_i e' h;exact .inl ⟨e',h⟩
     ·rename_i h;exact .inr h
     ·cases hq
   subst hxt;simp only[jw,Qo]at hs;subst hs;split at hr
   case h_2=>simp at hr
   rename_i base n0 c0 m0 hsx hlx;have hlen:(Builtin.lenOf (ρ x)).run P w=.ok m0 w:=by
    cases hx:ρ x <;> rw[hx]at hlx <;> simp[seqLen]at hlx <;> subst hlx <;> simp[Builtin.lenOf]
   have hz:(do pure ((<- underlying ut) matches .int _):Sem Bool).run P w=.ok false w:=by
    rcases hseq with⟨e',h⟩|h <;> simp[kB h]
   have happ:Builtin.append_ (t::ut::xr).toArray type #[ρ sx,ρ x]=Builtin.append_ (t::ut::xr).toArray type #[ρ sx,ρ x]:=rfl;simp only[execOp,resolve,invoke,Go.builtin,Sem.run_bind,List.map_toArray,Vy,Q0,Sem.run_pure,Result.andThen_ok];simp only[Builtin.append_,Vi,VV,V9,Sem.run_bind,kB hu,Result.andThen_ok,hsx,kW hi];simp only[Sem.run_bind,Sem.run_pure]at hz;have hfirst:∀n:Nat,(if(!false)=true then Builtin.firstCells i.size n (ρ x)else if n*i.size=0 then pure #[]else do pure (Builtin.zeroCells (<- zeroValue e).cells n):Sem (Array Value))=Builtin.firstCells i.size n (ρ x):=fun _=>rfl
   rcases hseq with⟨e',hut⟩|hut
   all_goals
    simp only[kB hut,Result.andThen_ok,Sem.run_pure,vI,if_false,Sem.run_bind,hlen];by_cases hle:n0+m0<=c0
    ·simp only[hle,if_true,Sem.run_bind]at hr|-;simp only[vL,if_true];cases base <;> simpa[kb]using hr
    ·simp only[hle,if_false]at hr|-;split at hr
     case isTrue=>simp at hr
     rename_i hbig;have hb1:¬(Builtin.nextslicecap (n0+m0) c0*i.bytes > 2 ^ 48):=fun h=>hbig (.inl h)
     have hb2:¬(i.bytes=0):=fun h=>hbig (.inr h)
     simp only[Sem.run_bind,jx hi,Result.andThen_ok,false_or,hb2,and_false,hb1,if_false,vL,if_true,run_askRoom,kX hi hu',<- zT];simp only[Sem.run_bind]at hr;rw[<- hsx];simpa[kb,newRow,kX hi hu',<- zT]using hr
  ·split at hl <;> try (cases hl;done)
   rename_i dx sx t xt;split at hl <;> try (cases hl;done)
   rename_i e hu;simp only[Qk]at hl;obtain⟨i,hi,rfl⟩:=hl;simp only[jw,Qo]at hs;subst hs;split at hr
   case h_2=>simp at hr
   rename_i base n0 c0 m0 hdx hlx;have hlen:(Builtin.lenOf (ρ sx)).run P w=.ok m0 w:=by
    cases hx:ρ sx <;> rw[hx]at hlx <;> simp[seqLen]at hlx <;> subst hlx <;> simp[Builtin.lenOf]
   simp only[execOp,resolve,invoke,Go.builtin,Sem.run_bind,List.map_toArray,Vy,Q0,Sem.run_pure,Result.andThen_ok];simp only[Builtin.copy_,Vi,VV,V9,Sem.run_bind,kB hu,Result.andThen_ok,hdx,kW hi,hlen];simp only[Sem.run_bind]at hr;cases base <;> simpa[kb,goInt]using hr
  ·split at hl <;> try (cases hl;done)
   rename_i cx t;split at hl <;> try (cases hl;done)
   rename_i e hu;simp only[Qk]at hl;obtain⟨z,hz,rfl⟩:=hl;obtain⟨i',u,hi',hu',rfl⟩:=zero_of hz;simp only[jw,Qo]at hs;subst hs;split at hr
   case h_2=>simp at hr
   rename_i base n0 c0 hcx;simp only[execOp,resolve,invoke,Go.builtin,Sem.run_bind,List.map_toArray,Vy,Q0,Sem.run_pure,Result.andThen_ok];simp only[Builtin.clear_,Vi,VV,Sem.run_bind,kB hu,Result.andThen_ok,hcx];cases base with
   |none=>simpa using hr
   |some a=>
    cases n0 with
    |zero=>simpa[kf,storeCells]using hr
    |succ m=>simpa[kX hi' hu',<- zT,kb]using hr
  ·split at hl <;> try (cases hl;done)
   rename_i mx kx t xt;split at hl <;> try (cases hl;done)
   rename_i kt e hu;simp only[Qk]at hl;obtain⟨sk,hsk,rfl⟩:=hl;obtain⟨d,hd,hdk⟩:=sk_of hsk;simp only[jw,Qo]at hs;subst hs;simp only[execOp,resolve,invoke,Go.builtin,Sem.run_bind,List.map_toArray,Vy,Q0,Sem.run_pure,Result.andThen_ok];simp only[Builtin.delete_,Vi,VV,V9,Sem.run_bind,kB hu,Result.andThen_ok];split at hr
   ·rename_i q hx;simp only[Sem.run_bind]at hr;obtain⟨⟨es,c⟩,w1,h1,h2⟩:=kn hr;obtain⟨rfl,hx2⟩:=run_entries h1;simp at hx2;simp only at h2;split at h2
    ·rename_i j v' hf;exact zDH
    ·rename_i hf;exact zDH
    ·simp at h2
   ·rename_i hx;simp only[hx,Sem.run_bind,zV hd hdk,Result.andThen_ok];simpa using hr
   ·simp at hr
  ·cases hl
 case binOp op t x y yt=>
  simp only[kz]at hl
  repeat' split at hl
  all_goals first
   |(cases hl;done)
   |(cases hl;simp[jw]at hs;done)
   |(cases hl;simp only[jw,Qo]at hs;subst hs;simpa[execOp,kb]using hr)
 all_goals (try simp only[kz]at hl)
 all_goals (repeat' split at hl)
 all_goals first
  |(cases hl;done)
  |(cases hl;simp[jw]at hs;done)
  |(simp only[Qk]at hl;obtain⟨_,_,rfl⟩:=hl;simp[jw]at hs;done)
end
end Go.V
namespace Go.V
open Go
section
variable {P:Program} {ρ:Operand->Value} {H:List kC} {K:Next->List kC->Prop}
theorem ku(b:Nat)(us vs:List Value):∀o,kA b o (us++vs)=kA b o us++kA b (o+us.length) vs:=by
 induction us with
 |nil=>intro o;simp[kA]
 |cons u us ih=>intro o;simp only[vf,kA,ih,Vl];congr 3;omega
theorem swp_loadFrom {b o:Nat}{K:Array Value->List kC->Prop}:∀(vs:List Value) (i:Nat) (acc:Array Value),(∀x∈kA b (o+i) vs,x∈H)->K (acc++vs.toArray) H->
 SWP P (loadCellsFrom ⟨b,o,none⟩ i vs.length acc) H K:=by
 intro vs
 induction vs with
 |nil=>intro i acc _ h;exact SWP.pure (by simpa using h)
 |cons v vs ih=>
  intro i acc hm h;simp only[Vl,loadCellsFrom,add_off];refine SWP.bind (SWP.load (v:=v) (hm _ Zan) ?_);refine ih (i+1) (acc.push v) (fun x hx=>hm x (by simp only[kA,Q4];exact .inr hx)) ?_;have:acc.push v++vs.toArray=acc++(v::vs).toArray:=by simp
  rw[this];exact h
theorem SWP.loadCells {b o n:Nat}{vs:List Value}{K:Array Value->List kC->Prop}(hn:vs.length=n)(hm:∀x∈kA b o vs,x∈H)(h:K vs.toArray H):SWP P (Go.loadCells ⟨b,o,none⟩ n) H K:=by
 subst hn;exact swp_loadFrom vs 0 #[] (by simpa using hm) (by simpa using h)
theorem swp_storeFrom {b o:Nat}{K:Unit->List kC->Prop}:∀(vs us:List Value) (i:Nat) (L:List kC),vs.length=us.length->(∀v∈vs,jc v=true)->
 (∀L',L'.Perm (kA b (o+i) vs++L)->K () L')->∀M:List kC,M.Perm (kA b (o+i) us++L)->SWP P (storeCells ⟨b,o,none⟩ vs i) M K:=by
 intro vs
 induction vs with
 |nil=>
  intro us i L hl _ h M hM;cases us <;> simp at hl;exact SWP.pure (h M (by simpa[kA]using hM))
 |cons v vs ih=>
  intro us i L hl hone h M hM;cases us with
  |nil=>simp at hl
  |cons u us=>
   simp only[storeCells,add_off];refine SWP.perm hM (SWP.bind ?_);simp only[kA,vf];refine SWP.store (hone v Zs) ?_;refine ih us (i+1) (.cell b (o+i) v::L) (by simpa using hl) (fun x hx=>hone x (by simp[hx])) (fun L' hL'=>h L' ?_) _ ?_
   ·refine hL'.trans ?_;simp only[kA,vf,QT];exact QK
   ·simp only[QT];exact QK.symm
theorem SWP.storeCells {b o:Nat}{vs us:List Value}{R:List kC}{K:Unit->List kC->Prop}(hl:vs.length=us.length)(hone:∀v∈vs,jc v=true)
 (h:K () (kA b o vs++R)):SWP P (Go.storeCells ⟨b,o,none⟩ vs) (kA b o us++R) K:=by
 have:=swp_storeFrom (P:=P) (b:=b) (o:=o) (K:=fun _ L=>L.Perm (kA b o vs++R)) vs us 0 R hl hone (fun L' hL'=>by simpa using hL') (kA b o us++R) Zs;intro F w hs;obtain⟨v,w',H',h1,h2,h3,h4⟩:=this F w hs;exact⟨v,w',_,h1,h,h3.perm (h2.append_right F),h4⟩
def Src(H:List kC)(size n:Nat)(vs:List Value):Value->Prop
 |.slice (some ⟨b,o,none⟩) _ _=>vs.length=n*size/\∀x∈kA b o vs,x∈H
 |.slice none _ _=>vs=[]
 |.string s=>vs=(s.data.toList.take n).map fun c=>.int .u8 c.toNat
 |_=>False
theorem SWP.firstCells {size n:Nat}{x:Value}{vs:List Value}{K:Array Value->List kC->Prop}(hx:Src H size n vs x)(h:K vs.toArray H):SWP P (Builtin.firstCells size n x) H K:=by
 unfold Src at hx;split at hx
 ·exact SWP.loadCells hx.1 hx.2 h
 ·subst hx;exact SWP.pure h
 ·rename_i s;subst hx;refine SWP.pure ?_;have:(s.extract 0 n).data.map (fun b=>Value.int .u8 b.toNat)=((s.data.toList.take n).map fun c=>Value.int .u8 c.toNat).toArray:=by
   apply vC.1;simp[ByteArray.data_extract,Array.toList_extract]
  rw[this];exact h
 ·exact hx.elim
theorem mem_store {n:Nat}{x v:Operand}{b o:Nat}{us:List Value}{R:List kC}(hx:ρ x=.pointer (some ⟨b,o,none⟩))(hn:(ρ v).cells.size=n)(hu:us.length=n)(hone:∀c∈(ρ v).cells.toList,jc c=true)
 (h:K .skip (kA b o (ρ v).cells.toList++R)):
 SWP P (do let a ← Instr.sureAddr (ρ x); if (ρ v).cells.size = n then (do storeCells a (ρ v).cells.toList; pure .skip) else stuck "size") (kA b o us ++ R) K := by
 rw[hx];refine SWP.bind (SWP.pure ?_);rw[if_pos hn];exact SWP.bind (SWP.storeCells (by simp[hn,hu]) hone (SWP.pure h))
theorem mem_new {c:Array Value}{t:TypeId}{f:Nat->Next}(h:∀b,K (f b) (kA b 0 c.toList++H)):SWP P (do let b <- newObj (.cells c t);pure (f b)) H K:=
 SWP.bind (SWP.new_cells fun b=>SWP.pure (h b))
theorem mem_newObj {o:Obj}{f:Nat->Next}(ho:wI o=false)(h:∀b,K (f b) (.obj b o::H)):SWP P (do let b <- newObj o;pure (f b)) H K:=
 SWP.bind (SWP.new_obj ho fun b=>SWP.pure (h b))
theorem swp_entries {m c:Nat}{es:Array MapEntry}{α:Type}{f:Array MapEntry×Nat->Sem α}{K:α->List kC->Prop}(hm:kC.obj m (.map es c)∈H)(h:SWP P (f (es,c)) H K):SWP P (jy (.map (some m)) >>=f) H K:=by
 refine SWP.bind ?_;unfold jy;exact SWP.bind (SWP.getObj hm (SWP.pure h))
theorem swp_key(old new:Value){K:Value->List kC->Prop}(h:∀k,k=old∨k=new->K k H):SWP P (Instr.keyThatStays old new) H K:=by
 unfold Instr.keyThatStays;split
 ·exact SWP.pure (h _ (.inr rfl))
 ·refine SWP.bind (SWP.choose (fun _=>SWP.pure ?_) (fun n=>SWP.pure ?_))
  ·exact h _ (.inr rfl)
  ·split
   ·exact h _ (.inr rfl)
   ·exact h _ (.inl rfl)
end
end Go.V
namespace Go.V
open Go
structure RO where
 dst:Option Nat
 guard:Option (Nat×Bool)
 op:R
def lowRO(P:Program)(n:Nat)(ops:Array Oper)(o:Oper):Option RO:=
 match kz P o.op with
 |none=>none
 |some r=>
  if o.dst.all (·< n)then
   match o.guard with
   |none=>some ⟨o.dst,none,r⟩
   |some (j,b)=>match(ops[j]?).bind (·.dst)with
    |some s=>some ⟨o.dst,some (s,b),r⟩
    |none=>none
  else none
def jA:R->Bool
 |.load1 .. |.loadN .. |.mlen .. |.lookup .. |.entry .. |.b2s .. |.eqt .. |.lookt .. =>true
 |_=>false
def isNew:R->Bool
 |.alloc .. |.box .. |.bslice .. |.mkmap|.s2b .. =>true
 |.append _ _ _ _ (.const (.slice none 0 0)) _=>true
 |_=>false
def Ext(w w':World):Prop:=∀(i:Nat) (o:Obj),w.heap[i]? =some o->w'.heap[i]? =some o
theorem Ext.refl(w:World):Ext w w:=fun _ _ h=>h
theorem Ext.trans {a b c:World}(h:Ext a b)(k:Ext b c):Ext a c:=fun i o e=>k i o (h i o e)
theorem Sat.ext {w w':World}{L:List kC}(h:Sat w L)(e:Ext w w'):Sat w' L:=⟨fun x hx=>by
 have:=h.holds x hx;cases x with
 |cell b off v=>obtain⟨c,t,lo,hi,h1,h2⟩:=this;exact⟨c,t,lo,hi,e _ _ h1,h2⟩
 |obj b o=>exact⟨e _ _ this.1,this.2⟩
 |row b n=>obtain⟨c,t,lo,hi,h1,h2⟩:=this;exact⟨c,t,lo,hi,e _ _ h1,h2⟩
 |own b n=>obtain⟨c,t,lo,hi,h1,h2⟩:=this;exact⟨c,t,lo,hi,e _ _ h1,h2⟩,h.nodup⟩
def kY:R->Bool
 |.mv .. |.pick .. |.bin .. |.eqb .. |.eqnil .. |.eqagg .. |.un .. |.conv .. |.cvs .. |.mkif .. |.clos .. |.ext .. |.build .. |.nilck .. |.fld .. |.fldV .. |.idxA .. |.idxL .. |.idxS .. |.idxV .. |.slcS ..
 |.slcL .. |.slcA .. |.lenS .. |.lenL .. |.cap .. |.min2 .. |.max2 .. |.tassert .. =>true
 |_=>false
def j8(g:Option (Nat×Bool))(a:Act):Bool:=
 match g with
 |none=>true
 |some (s,b)=>match a.tmps[s]? with|some (.bool c)=>c==b|_=>false
def w7:Exit->Act->World->Prop:=fun _ _ _=>False
abbrev VFc (ρ:Option Nat):Fence:={fn:=fun _=>True,depth:=none,alive:=false,round:=ρ}
def jb(P:Program)(o:Oper)(a:Act)(next:Act->World->Prop)(Z:Exit->Act->World->Prop):Result Next->Prop
 |.ok (.value v) w'=>next (a.put o.dst v) w'
 |.ok .skip w'=>next (a.put o.dst undef) w'
 |.ok (.enter f args) w'=>Calls P f args w' fun
   |.returned v,w''=>next (a.put o.dst v) w''
   |.panicked chain,w''=>Z (.panic chain) a w''
   |.outgrown,_=>False
 |.ok (.round l f tmps assign body) w'=>RoundIn Fence.wide 0 P l f tmps assign body w' fun
   |.returned v,w''=>next (a.put o.dst v) w''
   |.panicked chain,w''=>Z (.panic chain) a w''
   |.outgrown,_=>False
 |.halt (.panic v) w'=>Z (.panic [{v,recovered:=false}]) a w'
 |_=>False
def wpV(P:Program)(o:Oper)(a:Act)(w:World)(next:Act->World->Prop)(Z:Exit->Act->World->Prop):Prop:=jb P o a next Z ((execOp a.eval o).run P w)
theorem callsIn_v {P:Program}{ρ:Option Nat}{n:Nat}{f:FuncId}{args:Array Value}{w:World}{R:Ending->World->Prop}(h:Calls P f args w R):CallsIn (VFc ρ) n P f args w R:=
 ⟨trivial,fun cs _=>let⟨e,w',fr,r,s,x⟩:=h cs;⟨e,w',fr,r,comesIn_wide.2 s,x⟩⟩
theorem uponV_in {P:Program}{ρ:Option Nat}{o:Oper}{a:Act}{next:Act->World->Prop}{Z:Exit->Act->World->Prop}{r:Result Next}(h:jb P o a next Z r):o.uponIn (VFc ρ) 0 P a next Z r:=by
 cases r with
 |ok n w'=>
  cases n <;> simp only[jb]at h <;> simp only[Oper.uponIn] <;> first
   |exact h
   |exact h.elim
   |exact⟨fun h=>by simp at h,callsIn_v (Calls.mono h (fun e w'' he=>by cases e <;> first|exact he|exact he.elim))⟩
   |exact⟨fun h=>by simp at h,RoundIn.mono h (fun e w'' he=>by cases e <;> first|exact he|exact he.elim)⟩
 |halt x w'=>cases x <;> simp only[jb]at h <;> simp only[Oper.uponIn] <;> exact h
def wpA(P:Program)(Z:Exit->Act->World->Prop)(x:RO×Oper)(next:Act->World->Prop)(a:Act)(w:World):Prop:=
 (isNew x.1.op=true->∃u w',(execOp a.eval x.2).run P w=.ok (.value u) w'/\Ext w w')/\wpV P x.2 a w next Z
def jq(P:Program)(Z:Exit->Act->World->Prop)(x:RO×Oper)(next:Act->World->Prop)(a:Act)(w:World):Prop:=
 if j8 x.1.guard a then
  if kY x.1.op then ∃v,kS a.eval x.1.op=some v/\next (a.put x.1.dst v) w
  else if jA x.1.op then ∃s v,jw a.eval x.1.op=some s/\(∀w',Ext w w'->s.run P w'=.ok (.value v) w')/\next (a.put x.1.dst v) w
  else wpA P Z x next a w
 else next (a.put x.1.dst undef) w
def wpR(P:Program)(Z:Exit->Act->World->Prop)(Q:Act->World->Prop):List (RO×Oper)->Act->World->Prop
 |[],a,w=>Q a w
 |x::rest,a,w=>jq P Z x (wpR P Z Q rest) a w
section
variable {P:Program} {Z:Exit->Act->World->Prop} {Q Q':Act->World->Prop} {a:Act} {w:World}
theorem wpV_mono {o:Oper}{K K':Act->World->Prop}(h:∀a w,K a w->K' a w)(hh:wpV P o a w K Z):wpV P o a w K' Z:=by
 unfold wpV at*;generalize (execOp a.eval o).run P w=r at*;cases r with
 |ok n w'=>
  cases n <;> simp only[jb]at hh|- <;> first
   |exact h _ _ hh
   |exact Calls.mono hh (fun e w'' he=>by cases e <;> first|exact h _ _ he|exact he)
   |exact RoundIn.mono hh (fun e w'' he=>by cases e <;> first|exact h _ _ he|exact he)
 |halt x w'=>cases x <;> simp only[jb]at hh|- <;> exact hh
theorem wpR1_mono {x:RO×Oper}(h:∀a w,Q a w->Q' a w)(hh:jq P Z x Q a w):jq P Z x Q' a w:=by
 unfold jq at*;split
 ·rename_i h1;rw[if_pos h1]at hh;split
  ·rename_i h2;rw[if_pos h2]at hh;obtain⟨v,e,hv⟩:=hh;exact⟨v,e,h _ _ hv⟩
  ·rename_i h2;rw[if_neg h2]at hh;split
   ·rename_i h3;rw[if_pos h3]at hh;obtain⟨s,v,e,e',hv⟩:=hh;exact⟨s,v,e,e',h _ _ hv⟩
   ·rename_i h3;rw[if_neg h3]at hh;exact⟨hh.1,wpV_mono h hh.2⟩
 ·rename_i h1;rw[if_neg h1]at hh;exact h _ _ hh
theorem wpR_mono {l:List (RO×Oper)}(h:∀a w,Q a w->Q' a w):∀{a w},wpR P Z Q l a w->wpR P Z Q' l a w:=by
 induction l with
 |nil=>intro a w hh;exact h _ _ hh
 |cons x l ih=>intro a w hh;exact wpR1_mono (fun a w h=>ih h) hh
theorem wpV_zmono {o:Oper}{K:Act->World->Prop}(hh:wpV P o a w K w7):wpV P o a w K Z:=by
 unfold wpV at*;generalize (execOp a.eval o).run P w=r at*;cases r with
 |ok n w'=>
  cases n <;> simp only[jb]at hh|- <;> first
   |exact hh
   |exact Calls.mono hh (fun e w'' he=>by cases e <;> first|exact he|exact he.elim)
   |exact RoundIn.mono hh (fun e w'' he=>by cases e <;> first|exact he|exact he.elim)
 |halt x w'=>cases x <;> simp only[jb]at hh|- <;> exact hh.elim
theorem wpR_zmono {l:List (RO×Oper)}:∀{a w},wpR P w7 Q l a w->wpR P Z Q l a w:=by
 induction l with
 |nil=>intro a w hh;exact hh
 |cons x l ih=>
  intro a w hh;have h1:jq P w7 x (wpR P Z Q l) a w:=wpR1_mono (fun a w h=>ih h) hh;show jq P Z x (wpR P Z Q l) a w;unfold jq at*;split
  ·rename_i h2;rw[if_pos h2]at h1;split
   ·rename_i h3;rw[if_pos h3]at h1;exact h1
   ·rename_i h3;rw[if_neg h3]at h1;split
    ·rename_i h4;rw[if_pos h4]at h1;exact h1
    ·rename_i h4;rw[if_neg h4]at h1;exact⟨h1.1,wpV_zmono h1.2⟩
  ·rename_i h2;rw[if_neg h2]at h1;exact h1
theorem jE {n:Nat}{ops:Array Oper}{o:Oper}{r:RO}(h:lowRO P n ops o=some r):kz P o.op=some r.op/\r.dst=o.dst/\(∀d,r.dst=some d->d < n)/\
 ∀a:Act,Region.wanted o (yielded ops a.tmps)=j8 r.guard a:=by
 unfold lowRO at h;split at h
 ·cases h
 ·rename_i r' hr;split at h
  case isFalse=>cases h
  rename_i hd;have hd':∀d,o.dst=some d->d < n:=by intro d e;rw[e]at hd;simpa using hd
  split at h
  ·rename_i hg;cases h;exact⟨hr,rfl,hd',fun a=>by simp[Region.wanted,hg,j8]⟩
  ·rename_i j b hg;split at h
   case h_2=>cases h
   rename_i s hs;cases h;refine⟨hr,rfl,hd',fun a=>?_⟩;simp only[Region.wanted,hg,yielded,hs,Option.bind_some,j8];cases a.tmps[s]? with
   |none=>simp
   |some v=>cases v <;> simp
theorem zP(a:Act)(u:Value):a.eval (.const u)=u:=rfl
theorem wpR_sound {ρ:Option Nat}{n:Nat}{ops:Array Oper}{X:Nat->RO×Oper}{QQ:Exit->Act->World->Prop}(hX:∀i,i < ops.size->ops[i]? =some (X i).2/\lowRO P n ops (X i).2=some (X i).1):
 ∀(l:List Nat) (a:Act) (w:World),(∀i∈l,i < ops.size)->wpR P QQ (QQ .normal) (l.map X) a w->wpOpsIn (VFc ρ) 0 P ops QQ l a w:=by
 intro l
 induction l with
 |nil=>intro a w _ h;exact h
 |cons i l ih=>
  intro a w hl h;obtain⟨h1,h2⟩:=hX i (hl i Zs);obtain⟨g1,g2,g3,g4⟩:=jE h2;have ih':=fun a w=>ih a w (fun j hj=>hl j (by simp[hj]))
  have nd:∀c,(X i).2.op≠.defer c:=fun c e=>by rw[e]at g1;simp[kz]at g1
  simp only[Vy,wpR,jq]at h;simp only[wpOpsIn,h1,g4 a];split
  ·rename_i hw;rw[if_pos hw]at h;refine⟨fun _ _=>trivial,?_⟩;rw[Oper.semAt_plain _ _ _ nd];refine uponV_in ?_;split at h
   ·obtain⟨v,hv,hn⟩:=h;simp only[pure_sound (w:=w) (zP a) g1 hv,jb,<- g2];exact ih' _ _ hn
   ·split at h
    ·obtain⟨s,v,hs,hr,hn⟩:=h;simp only[mem_sound (zP a) g1 hs (hr w (.refl w)),jb,<- g2];exact ih' _ _ hn
    ·exact wpV_mono ih' h.2
  ·rename_i hw;rw[if_neg hw]at h;refine⟨fun _ _=>trivial,?_⟩;rw[<- g2];exact ih' _ _ h
end
def guardTmps(g:Option (Nat×Bool)):List Nat:=match g with|some (s,_)=>[s]|none=>[]
def optl(x:Option Operand):List Operand:=x.toList
def rOps:R->List Operand
 |.mv x|.un _ x|.conv _ x|.cvs x|.mkif _ x|.ext x _|.nilck x|.fld _ x|.fldV _ _ _ x|.lenS x|.lenL x|.cap x|.tassert _ _ _ x|.eqnil _ _ x|.load1 x|.loadN _ x|.mlen x|.entry x|.b2s x=>[x]
 |.pick c a b=>[c,a,b]
 |.bin _ x y|.eqb _ x y|.eqagg _ _ x y|.idxA _ _ x y|.idxL _ x y|.idxS x y|.idxV _ _ _ x y|.min2 x y|.max2 x y|.lookup _ _ _ x y|.eqt _ _ x y|.lookt _ _ x y=>[x,y]
 |.clos _ f c=>f++c
 |.build _ ps=>ps.map (·.2.2)
 |.slcS x lo hi=>x::(optl lo++optl hi)
 |.slcL _ x lo hi mx=>x::(optl lo++optl hi++optl mx)
 |.slcA _ _ x lo hi=>x::(optl lo++optl hi)
 |_=>[]
def opTmps(l:List Operand):List Nat:=l.filterMap fun|.tmp t=>some t|_=>none
def looks(x:RO×Oper):List Nat:=guardTmps x.1.guard++(if kY x.1.op||jA x.1.op then opTmps (rOps x.1.op)else opTmps x.2.op.operands.toList)
def apart1(x y:RO×Oper):Bool:=match x.1.dst with|some d=>!(looks y).contains d&&y.1.dst !=some d|none=>true
def indep(x y:RO×Oper):Bool:=apart1 x y&&apart1 y x&&(kY x.1.op||kY y.1.op||(jA x.1.op&&jA y.1.op)||(isNew x.1.op&&jA y.1.op))
theorem opt_congr {ρ ρ':Operand->Value}{o:Option Operand}(h:∀x∈optl o,ρ x=ρ' x):o.map ρ=o.map ρ':=by
 cases o with
 |none=>rfl
 |some x=>simp[h x (by simp[optl])]
theorem pureV_congr {ρ ρ':Operand->Value}{r:R}(hp:kY r=true)(h:∀x∈rOps r,ρ x=ρ' x):kS ρ r=kS ρ' r:=by
 cases r <;> simp only[kY]at hp <;> first|(cases hp;done)|skip
 case clos f first c=>
  simp only[rOps,Q1]at h;simp only[kS];rw[Vx (fun x hx=>h x (.inl hx)),Vx (fun x hx=>h x (.inr hx))]
 case build z ps=>
  simp only[rOps,Q9]at h;simp only[kS];have:jP ρ ps=jP ρ' ps:=by
   simp only[jP];refine Vx (fun p hp=>?_);obtain⟨a,b,c⟩:=p;simp[h c ⟨_,hp,rfl⟩]
  rw[this]
 case slcS x lo hi=>
  exact zCM
 case slcL z x lo hi mx=>
  simp only[rOps,Q4,Q1]at h;simp only[kS,h x (.inl rfl),opt_congr (fun y hy=>h y (.inr (.inl (.inl hy)))),opt_congr (fun y hy=>h y (.inr (.inl (.inr hy)))),opt_congr (fun y hy=>h y (.inr (.inr hy)))]
 case slcA n z x lo hi=>
  exact zCM
 case un op x=>cases op <;> simp only[rOps,QC,forall_eq]at h <;> simp only[kS,h]
 all_goals (simp only[rOps,Q4,List.not_mem_nil,or_false,forall_eq_or_imp,forall_eq]at h;simp only[kS,h])
theorem memS_congr {ρ ρ':Operand->Value}{r:R}(hp:jA r=true)(h:∀x∈rOps r,ρ x=ρ' x):jw ρ r=jw ρ' r:=by
 cases r <;> simp only[jA]at hp <;> first|(cases hp;done)|skip
 all_goals (simp only[rOps,Q4,List.not_mem_nil,or_false,forall_eq_or_imp,forall_eq]at h;simp only[jw,h])
section
variable {P:Program}
theorem eval_put_of {a:Act}{d:Option Nat}{v:Value}{l:List Operand}(h:∀t,d=some t->t∉opTmps l){x:Operand}(hx:x∈l):(a.put d v).eval x=a.eval x:=by
 refine Act.eval_put (fun t e hxt=>?_);subst hxt;exact h t e (by simp only[opTmps,List.mem_filterMap];exact⟨_,hx,rfl⟩)
theorem wanted_put_of {a:Act}{d:Option Nat}{v:Value}{g:Option (Nat×Bool)}(h:∀t,d=some t->t∉guardTmps g):j8 g (a.put d v)=j8 g a:=by
 cases g with
 |none=>rfl
 |some p=>
  obtain⟨s,b⟩:=p;cases d with
  |none=>rfl
  |some t=>
   have hne:t≠s:=fun e=>h t rfl (by simp[guardTmps,e])
   simp[j8,Act.put,vA hne]
def Yv(P:Program)(x:RO×Oper)(a:Act)(w:World)(v:Value):Prop:=
 if j8 x.1.guard a then
  if kY x.1.op then kS a.eval x.1.op=some v else ∃s,jw a.eval x.1.op=some s/\∀w',Ext w w'->s.run P w'=.ok (.value v) w'
 else v=undef
theorem jp {Z:Exit->Act->World->Prop}{x:RO×Oper}(hq:(kY x.1.op||jA x.1.op)=true){K:Act->World->Prop}{a:Act}{w:World}:jq P Z x K a w↔∃v,Yv P x a w v/\K (a.put x.1.dst v) w:=by
 unfold jq Yv;split
 ·split
  ·exact Iff.rfl
  ·rename_i hp;have hr:jA x.1.op=true:=by simpa[hp]using hq
   rw[if_pos hr];constructor
   ·rintro⟨s,v,h1,h2,h3⟩;exact⟨v,⟨s,h1,h2⟩,h3⟩
   ·rintro⟨v,⟨s,h1,h2⟩,h3⟩;exact⟨s,v,h1,h2,h3⟩
 ·constructor
  ·intro h;exact⟨_,rfl,h⟩
  ·rintro⟨v,rfl,h⟩;exact h
theorem wt {x:RO×Oper}{t:Nat}(h:t∉looks x):t∉guardTmps x.1.guard/\((kY x.1.op||jA x.1.op)=true->t∉opTmps (rOps x.1.op))/\((kY x.1.op||jA x.1.op)=false->t∉opTmps x.2.op.operands.toList):=by
 simp only[looks,Q1,not_or]at h;refine⟨h.1,fun e=>?_,fun e=>?_⟩
 ·rw[if_pos e]at h;exact h.2
 ·rw[if_neg (by simp[e])]at h;exact h.2
theorem Yv_put {x:RO×Oper}(hq:(kY x.1.op||jA x.1.op)=true){d:Option Nat}(hd:∀t,d=some t->t∉looks x){a:Act}{w:World}{u v:Value}:Yv P x (a.put d u) w v↔Yv P x a w v:=by
 unfold Yv;rw[wanted_put_of (fun t e=>(wt (hd t e)).1)];have he:∀y∈rOps x.1.op,(a.put d u).eval y=a.eval y:=fun y hy=>eval_put_of (fun t e=>(wt (hd t e)).2.1 hq) hy
 split
 ·split
  ·rename_i hp;rw[pureV_congr hp he]
  ·rename_i hp;have hr:jA x.1.op=true:=by simpa[hp]using hq
   rw[memS_congr hr he]
 ·exact Iff.rfl
theorem Yv_pure {x:RO×Oper}(hp:kY x.1.op=true){a:Act}{w w':World}{v:Value}:Yv P x a w v↔Yv P x a w' v:=by
 unfold Yv;simp[hp]
theorem Yv_ext {x:RO×Oper}{a:Act}{w w':World}{v:Value}(h:Yv P x a w v)(e:Ext w w'):Yv P x a w' v:=by
 unfold Yv at*;split at h
 ·rename_i hw;rw[if_pos hw];split at h
  ·rename_i hp;rw[if_pos hp];exact h
  ·rename_i hp;rw[if_neg hp];obtain⟨s,h1,h2⟩:=h;exact⟨s,h1,fun w2 e2=>h2 w2 (e.trans e2)⟩
 ·rename_i hw;rw[if_neg hw];exact h
theorem Yv_fun {x:RO×Oper}{a:Act}{w:World}{u v:Value}(h:Yv P x a w u)(k:Yv P x a w v):u=v:=by
 unfold Yv at*;split at h
 ·rename_i hw;rw[if_pos hw]at k;split at h
  ·rename_i hp;rw[if_pos hp]at k;rw[h]at k;cases k;rfl
  ·rename_i hp;rw[if_neg hp]at k;obtain⟨s,h1,h2⟩:=h;obtain⟨s',k1,k2⟩:=k;rw[h1]at k1;cases k1;have h3:=h2 w (.refl w);rw[k2 w (.refl w)]at h3;cases h3;rfl
 ·rename_i hw;rw[if_neg hw]at k;rw[h,k]
end
end Go.V

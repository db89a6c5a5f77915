/-
  A part of the proof.
-/
import Derived.Test.YtijnokbblmbpkaaGreatDoorH1
import Derived.Orders
import Derived.RangeFuncIn
import Derived.RangeFuncLeaves
import Derived.OwnWalkIn
set_option linter.all false
namespace Go.V
open Go
def jA(n:Nat)(zero:List Value):List Value:=(List.range (n*zero.length)).map λi=>zero[i%zero.length]!
def Ou:SK->Value->Value->Option Bool
 |.int,.int k a,.int k' b=>if k=k' then some (a==b)else none
 |.str,.string a,.string b=>some (decide (a=b))
 |.bool,.bool a,.bool b=>some (a==b)
 |_,_,_=>none
def nY(sk:SK)(k:Value):List MapEntry->Nat->Option (Option (Nat×Value))
 |[],_=>some none
 |e::es,i=>
  match Ou sk k e.key with
  |some true=>some (some (i,e.val))
  |some false=>nY sk k es (i+1)
  |none=>none
def wg:Value->Sem (Array MapEntry×Nat)
 |.map none=>pure (#[],0)
 |.map (some r)=>do
  match <- getObj r with
  |.map es c=>pure (es,c)
  | _ => stuck "map"
 | _ => stuck "map"
def AA(ok:Bool)(zero:Value):Option (Nat×Value)->Value
 |some (_,v)=>if ok then .tuple #[v,.bool true]else v
 |none=>if ok then .tuple #[zero,.bool false]else zero
def eZ:Value->Option Nat
 |.slice _ n _=>some n
 |.string s=>some s.size
 |_=>none
def wd(ρ:Operand->Value):R->Option (Sem Next)
 |.lH x=>some do let a <- Instr.sureAddr (ρ x);let v <- load a;pure (.value v)
 |.ny n x=>some do let a <- Instr.sureAddr (ρ x);let cs <- loadCells a n;pure (.value (.agg cs))
 |.Xa m=>some do let(es,_) <- wg (ρ m);pure (.value (.int .i64 es.size))
 |.lookup sk zero ok m key=>some do
  let(es,_) <- wg (ρ m)
  match nY sk (ρ key) es.toList 0 with
  |some r=>pure (.value (AA ok zero r))
  | none => stuck "key"
 |.entry it=>some do let v <- Instr.entry (ρ it);pure (.value v)
 |.b2s x=>some do let v <- Conv.bytesToString (ρ x);pure (.value v)
 |.alloc t zero=>some do let b <- newObj (.cells zero.toArray t);pure (.value (.pointer (some ⟨b,0,none⟩)))
 |.box t x=>some do let b <- newObj (.cells (ρ x).cells t);pure (.value (.pointer (some ⟨b,0,none⟩)))
 |.nP t len zero parts=>some <|match jb (jA len zero) (ja ρ parts)with
  |some out=>do let b <- newObj (.cells out.toArray t);pure (.value (.slice (some ⟨b,0,none⟩) len len))
  | none => stuck "parts"
 |.p8=>some do let b <- newObj (.map #[] 0);pure (.value (.map (some b)))
 |.Hk t size bytes zero l c=>some <|match ρ l,ρ c with
  |.int _ l,.int _ c=>if 0<=l/\l<=c/\c<=9223372036854775807/\bytes*c<=2 ^ 48 then if zero.length=size then do
    let b <- newObj (.cells (jA c.toNat zero).toArray t);pure (.value (.slice (some ⟨b,0,none⟩) l.toNat c.toNat))
   else stuck "size" else stuck "size"
  | _, _ => stuck "size"
 |.XN x=>some <|match ρ x with
  |.string s=>do let b <- newObj (.stringIter s 0);pure (.value (.pointer (some ⟨b,0,none⟩)))
  | _ => stuck "string"
 |.XM x=>some <|match ρ x with
  |.map none=>do let b <- newObj (.mapIter none 0 #[] 0);pure (.value (.pointer (some ⟨b,0,none⟩)))
  |.map (some m)=>do let(_,clock) <- wg (.map (some m));let b <- newObj (.mapIter (some m) clock #[] clock);pure (.value (.pointer (some ⟨b,0,none⟩)))
  | _ => stuck "map"
 |.s2b t x=>some <|match ρ x with
  |.string s=>do let v <- Conv.stringToBytes t s;pure (.value v)
  | _ => stuck "string"
 | .store n x v => some do let a ← Instr.sureAddr (ρ x); if (ρ v).cells.size = n then (do storeCells a (ρ v).cells.toList; pure .skip) else stuck "size"
 |.Cv sk m key v=>some <|match ρ m with
  |.map (some r)=>do
   let(es,clock) <- wg (.map (some r))
   match nY sk (ρ key) es.toList 0 with
   |some (some (i,_))=>do
    let key <- Instr.keyThatStays (((es[i]?).map (·.key)).getD (ρ key)) (ρ key)
    setObj r (.map (es.modify i λe=>{e with key,val:=ρ v}) clock);pure .skip
   |some none=>do setObj r (.map (es.push {key:=ρ key,val:=ρ v,born:=clock}) (clock+1));pure .skip
   | none => stuck "key"
  | _ => stuck "map"
 |.delete sk m key=>some <|match ρ m with
  |.map (some r)=>do
   let(es,clock) <- wg (.map (some r))
   match nY sk (ρ key) es.toList 0 with
   |some (some (i,_))=>do setObj r (.map (es.eraseIdxIfInBounds i) clock);pure (.value (.tuple #[]))
   |some none=>do setObj r (.map es clock);pure (.value (.tuple #[]))
   | none => stuck "key"
  |.map none=>pure (.value (.tuple #[]))
  | _ => stuck "map"
 |.append t size bytes zero s x=>some <|match ρ s,eZ (ρ x)with
  |.slice base n c,some m=>
   if n+m<=c then do
    let new <- Builtin.firstCells size m (ρ x)
    if let some a:=base then storeCells (a.add (n*size)) new.toList
    pure (.value (.slice base (n+m) c))
   else if Builtin.nextslicecap (n + m) c * bytes>2 ^ 48 ∨ bytes = 0 then stuck "size" else do
    let cap <- choose (.appendCap (n+m) c t)
    let old <- Builtin.firstCells size n (ρ s)
    let new <- Builtin.firstCells size m (ρ x)
    let b <- newObj (.cells (old++new++(jA (cap-(n+m)) zero).toArray) t)
    pure (.value (.slice (some ⟨b,0,none⟩) (n+m) cap))
  | _, _ => stuck "append"
 |.grow t size bytes zero s x=>some <|match ρ s,ρ x with
  |.slice base n c,.int _ l=>
   if l<0 ∨ l * bytes>2 ^ 48 ∨ IntKind.i64.wrap l ≠ l ∨ size = 0 then stuck "grow" else
   if n+l.toNat<=c then do
    if let some a:=base then storeCells (a.add (n*size)) (jA l.toNat zero)
    pure (.value (.slice base (n+l.toNat) c))
   else if Builtin.nextslicecap (n + l.toNat) c * bytes>2 ^ 48 ∨ bytes = 0 ∨ ((n + l.toNat : Nat) : Int)>IntKind.i64.max then stuck "size" else do
    let cap <- choose (.appendCap (n+l.toNat) c t)
    let old <- Builtin.firstCells size n (ρ s)
    let b <- newObj (.cells (old++(jA l.toNat zero).toArray++(jA (cap-(n+l.toNat)) zero).toArray) t)
    pure (.value (.slice (some ⟨b,0,none⟩) (n+l.toNat) cap))
  | _, _ => stuck "grow"
 |.copy size d s=>some <|match ρ d,eZ (ρ s)with
  |.slice base n _,some m=>do
   let cells <- Builtin.firstCells size (Nat.min m n) (ρ s)
   if let some a:=base then storeCells a cells.toList
   pure (.value (.int .i64 (Nat.min m n)))
  | _, _ => stuck "copy"
 |.clr zero x=>some <|match ρ x with
  |.slice base n _=>do
   if let some a:=base then storeCells a (jA n zero)
   pure (.value (.tuple #[]))
  | _ => stuck "clear"
 |.next it s=>some do let v <- Instr.next (ρ it) s 0;pure (.value v)
 |.UD op t x y=>some do eqGuard op t x y (ρ x) (ρ y);let v <- Go.binOp op t (ρ x) (ρ y);pure (.value v)
 |.Jw t ok m k=>some do let v <- Instr.lookup t (ρ m) (ρ k) ok;pure (.value v)
 |.updt t m k v=>some do Instr.mapUpdate t (ρ m) (ρ k) (ρ v);pure .skip
 |.ment t m k=>some do let v <- Instr.mapEntry t (ρ m) (ρ k);pure (.value v)
 |.mst t m s v=>some do Instr.entryStore t (ρ m) (ρ s) (ρ v);pure .skip
 |_=>none
section
variable {P:Program} {ρ:Operand->Value} {w w':World} {n:Next} {r:R} {s:Sem Next}
def MV {d:TypeDesc}{g:SK}(h:oM d=some g)(a b:Value):Instr.sameNow d a b=Ou g a b:=by
 cases d<;>simp[oM]at h<;>subst h<;>cases a<;>cases b<;>simp[Instr.sameNow,Ou];rename_i a b;rw[beq_toListBytes,M8]
def LW {d:TypeDesc}{g:SK}(h:oM d=some g)(k:Value):∀(es:List MapEntry) (i:Nat),Instr.findNow d k es i=nY g k es i:=by
 intro es
 induction es with
 |nil=>intro i;rfl
 |cons e es ih=>
  intro i;simp only[Instr.findNow,nY,MV h,ih];split<;>simp_all
def yp {t:TypeId}{d:TypeDesc}{j:SK}(g:P.underlying t=some d)(h:oM d=some j)(e:Bool)(v:Value):(Instr.checkKey e 10000 t v).run P w=.ok () w:=by
 show(Instr.checkKey e (9999+1) t v).run P w=_;generalize 9999=n;cases d<;>simp[oM]at h<;>cases v<;>simp[Instr.checkKey,kF g]
def run_findKey {t:TypeId}{d:TypeDesc}{g:SK}(m:P.underlying t=some d)(h:oM d=some g){k:Value}{es:List MapEntry}{r:Option (Nat×Value)}(j:nY g k es 0=some r):
 (Instr.findKey t k es).run P w=.ok r w:=by
 simp[Instr.findKey,kF m,LW h,j]
def Yo {t:TypeId}{g:SK}(h:(P.underlying t).bind oM=some g):∃d,P.underlying t=some d/\oM d=some g:=X2.1 h
def rR(n:Nat)(z:Array Value):(jA n z.toList).toArray=(Array.range (n*z.size)).map (z[·% z.size]!):=by
 apply vD.1;simp only[jA,vE,Array.toList_range,Array.length_toList];apply QD;intro a _;rw[getElem!_def,getElem!_def];simp
def yk(n:Nat)(z:Array Value):(jA n z.toList).toArray=Builtin.zeroCells z n:=by
 rw[rR];rfl
def eM {x:Value}{es:Array MapEntry}{c:Nat}(h:(wg x).run P w=.ok (es,c) w'):
 w'=w/\((x=.map none/\es=#[]/\c=0)∨∃r,x=.map (some r)/\(getObj r).run P w=.ok (.map es c) w):=by
 unfold wg at h;split at h
 .simp at h;obtain⟨⟨rfl,rfl⟩,rfl⟩:=h;exact⟨rfl,.inl ⟨rfl,rfl,rfl⟩⟩
 .rename_i r;simp only[Sem.run_bind]at h;have g:∀o d,(getObj r).run P w=.ok o d->d=w:=by
   intro o d h;simp only[getObj,Sem.run]at h;split at h<;>first|(cases h;done)|(cases h;rfl)
  cases hg:(getObj r).run P w with
  |halt x d=>rw[hg]at h;simp at h
  |ok o d=>
   rw[hg]at h;obtain rfl:=g _ _ hg;simp only[Result.andThen_ok]at h;cases o<;>simp at h;obtain⟨⟨rfl,rfl⟩,rfl⟩:=h;exact⟨rfl,.inr ⟨r,rfl,hg⟩⟩
 .simp at h
def jH {α j:Type}{x:Result α}{f:α->World->Result j}{b:j}{g:World}(h:x.andThen f=.ok b g):∃a d,x=.ok a d/\f a d=.ok b g:=by
 cases x with
 |ok a d=>exact⟨a,d,rfl,h⟩
 |halt h d=>simp at h
def jC {α d h:Type}(x:Result α)(f:α->World->Result d)(g:d->World->Result h):(x.andThen f).andThen g=x.andThen λa w=>(f a w).andThen g:=by
 cases x<;>rfl
def upd_aux {t j e:TypeId}{s:SK}{d:TypeDesc}{m k v:Operand}
 (hu:P.underlying t=some (.map j e)) (hd:P.underlying j=some d) (I9:oM d=some s) (g:(match ρ m with
 |.map (some r)=>do
  let(es,clock) <- wg (.map (some r))
  match nY s (ρ k) es.toList 0 with
  |some (some (i,_))=>do
   let key <- Instr.keyThatStays (((es[i]?).map (·.key)).getD (ρ k)) (ρ k)
   setObj r (.map (es.modify i λe=>{e with key,val:=ρ v}) clock);pure .skip
  |some none=>do setObj r (.map (es.push {key:=ρ k,val:=ρ v,born:=clock}) (clock+1));pure .skip
  | none => stuck "key"
 | _ => stuck "map" : Sem Next).run P w = .ok n w') : (do Instr.mapUpdate t (ρ m) (ρ k) (ρ v); pure .skip : Sem Next).run P w = .ok n w' := by
 split at g
 case h_2=>simp at g
 rename_i q hx;simp only[Sem.run_bind]at g;obtain⟨⟨es,c⟩,w1,A,h2⟩:=jH g;obtain⟨rfl,Oc⟩:=eM A;simp at Oc;simp only at h2;split at h2
 .rename_i i v' hf;exact zE7
 .rename_i hf;exact zE7
 .simp at h2
set_option maxHeartbeats 1000000 in
def uI {o:Oper}(aU:∀u,ρ (.const u)=u)(g:jJ P o.op=some r)(hs:wd ρ r=some s)(hr:s.run P w=.ok n w'):(execOp ρ o).run P w=.ok n w':=by
 obtain⟨dst,op,K,pos,after,guard⟩:=o;simp only at g;cases op
 case load t x=>
  simp only[jJ]at g;split at g<;>cases g
  .exact zEA
  .exact zEA
  .rename_i d j C h2 hu hj;simp only[wd,X9]at hs;subst hs;have ha:∀w,(isAgg t).run P w=.ok false w:=by intro w;rw[eE hu];cases d<;>simp_all
   simpa[execOp,Instr.loadAt,loadVar,ha]using hr
 case store t x v=>
  simp only[jJ,X5]at g;obtain⟨i,hi,rfl⟩:=g;simp only[wd,X9]at hs;subst hs;simp only[Sem.run_bind]at hr;obtain⟨a,T,C,h2⟩:=jH hr;split at h2
  .rename_i B;simp only[execOp,Instr.storeAt,storeVar,Sem.run_bind,C,Result.andThen_ok,kw hi,B];simpa[B]using h2
  .simp at h2
 case alloc t=>
  simp only[jJ,X5]at g;obtain⟨z,B,rfl⟩:=g;obtain⟨i,u,hi,hu,rfl⟩:=iG B;simp only[wd,X9]at hs;subst hs;simpa[execOp,Instr.alloc,ky hi hu,newVar,newRow]using hr
 case box t x=>
  simp only[jJ,X9]at g;subst g;simp only[wd,X9]at hs;subst hs;simpa[execOp,Instr.box,newVar,newRow]using hr
 case buildSlice t len parts=>
  simp only[jJ]at g;split at g<;>try (cases g;done)
  rename_i e hu;split at g<;>try (cases g;done)
  rename_i i z hi B;split at g<;>try (cases g;done)
  rename_i D;obtain⟨h24,hzl⟩:=D;simp only[X5]at g;obtain⟨l,hlp,rfl⟩:=g;obtain⟨i',u,F,J,rfl⟩:=iG B;rw[hi]at F;cases F;simp only[wd,X9]at hs;subst hs;split at hr
  case h_2=>simp at hr
  rename_i out ho;have oe:=C6 (ρ:=ρ) (λj=>some (j*i.size,i.size)) parts.toList l _ out hlp ho;have Ce:(parts.map λp=>(p.1,ρ p.2)).toList=parts.toList.map λp=>(p.1,ρ p.2):=by simp
  have Q:u.cells.size=i.size:=by simpa using hzl
  rw[rR,Q]at oe;have hb:(Instr.buildSlice t len (parts.map λp=>(p.1,ρ p.2))).run P w=((newObj (.cells out.toArray e)).run P w).andThen λb w=>.ok (.slice (some ⟨b,0,none⟩) len len) w:=by
   simp only[Instr.buildSlice,Sem.run_bind,kF hu,Result.andThen_ok,kw hi,show ¬(len*i.size>2 ^ 24) by omega,if_false,Ce];by_cases h0:len*i.size=0
   .have e1:(Array.range (len*i.size)).map (u.cells[·% i.size]!)=(Array.range (len*i.size)).map ((#[]:Array Value)[·% (#[]:Array Value).size]!):=by rw[h0];simp
    rw[e1]at oe;simp only[if_pos h0,Sem.run_bind,Sem.run_pure,Result.andThen_ok];rw[oe];simp[newRow]
   .rw[<- Q]at oe;simp only[if_neg h0,Sem.run_bind,ky hi J,Sem.run_pure,Result.andThen_ok];rw[<- Q,oe];simp[newRow]
  simp only[execOp,Sem.run_bind,hb];simpa[jC]using hr
 case makeMap t h=>
  simp only[jJ]at g;split at g<;>try (cases g;done)
  rename_i k e hu;split at g<;>cases g
  .simp only[wd,X9]at hs;subst hs;simpa[execOp,Instr.makeMap,jC]using hr
  .simp only[wd,X9]at hs;subst hs;simpa[execOp,Instr.makeMap,jC,kF hu,aU,asInt,asIntOf]using hr
 case makeSlice t l c=>
  simp only[jJ]at g;split at g<;>try (cases g;done)
  rename_i e hu;split at g<;>cases g;rename_i i z hi B;obtain⟨i',u,F,J,rfl⟩:=iG B;rw[hi]at F;cases F;simp only[wd,X9]at hs;subst hs;split at hr
  case h_2=>simp at hr
  rename_i kl l' kc M Ad Rf;split at hr
  case isFalse=>simp at hr
  rename_i hb;obtain⟨b1,b2,b3,b4⟩:=hb;split at hr
  case isFalse=>simp at hr
  rename_i hzl;have wl:IntKind.i64.wrap l'=l':=zEW
  have wc:IntKind.i64.wrap M=M:=zEW
  have W:((decide (M<0)||decide ((i.bytes:Int)*M>2 ^ 48))||decide (l'<0)||decide (l'>M))=false:=by
   simp;omega
  have Q:u.cells.size=i.size:=by simpa using hzl
  have hm:(Instr.makeSlice t (ρ l) (ρ c)).run P w=((newObj (.cells (jA M.toNat u.cells.toList).toArray e)).run P w).andThen λb w=>.ok (.slice (some ⟨b,0,none⟩) l'.toNat M.toNat) w:=by
   simp only[Instr.makeSlice,Sem.run_bind,kF hu,Result.andThen_ok,Ad,Rf,asInt,asIntOf,Sem.run_pure,wG hi,wl,wc,W,vN,if_false,run_askRoom,kw hi];rw[rR,Q];by_cases h0:M.toNat*i.size=0
   .simp only[if_pos h0,Sem.run_bind,Sem.run_pure,Result.andThen_ok];have e0:Array.range (M.toNat*i.size)=#[]:=by rw[h0];rfl
    simp only[e0];simp[newRow]
   .simp only[if_neg h0,Sem.run_bind,ky hi J,Sem.run_pure,Result.andThen_ok];simp[newRow,Q]
  simp only[execOp,Sem.run_bind,hm];simpa[jC]using hr
 case lookup t m k ok=>
  simp only[jJ]at g;split at g<;>try (cases g;done)
  rename_i kt e hu;split at g<;>cases g
  case h_2=>
   exact zC7
  rename_i sk z Am B;obtain⟨d,hd,I9⟩:=Yo Am;obtain⟨i,hi,hiz⟩:=X2.1 B;simp only[wd,X9]at hs;subst hs;simp only[Sem.run_bind]at hr;obtain⟨⟨es,c⟩,T,C,h2⟩:=jH hr;obtain⟨rfl,hx⟩:=eM C;simp only at h2;split at h2
  case h_2=>simp at h2
  rename_i r hf;have g:(Instr.lookup t (ρ m) (ρ k) ok).run P T=.ok (AA ok z r) T:=by
   rcases hx with⟨hx,rfl,rfl⟩|⟨q,hx,G⟩
   .rw[hx];simp only[Instr.lookup,Sem.run_bind,kF hu,Result.andThen_ok,Sem.run_pure,yp hd I9,run_findKey hd I9 hf];exact zF7
   .rw[hx];simp only[Instr.lookup,Sem.run_bind,kF hu,Result.andThen_ok,Sem.run_pure,yp hd I9,G,run_findKey hd I9 hf];exact zF7
  simp only[execOp,Sem.run_bind,g,Result.andThen_ok];exact h2
 case mapUpdate t m k v=>
  simp only[jJ]at g;split at g<;>try (cases g;done)
  rename_i kt e hu;split at g<;>cases g
  case h_2=>
   exact zC7
  exact zES
 case insert t m k v=>
  simp only[jJ]at g;split at g<;>try (cases g;done)
  rename_i kt e hu;split at g<;>cases g
  case h_2=>
   exact zC7
  exact zES
 case mapEntry t m k=>
  simp only[jJ,X9]at g;subst g;exact zC7
 case entryStore t m s v=>
  simp only[jJ,X9]at g;subst g;exact zC7
 case range t x=>
  simp only[jJ]at g;split at g<;>cases g
  .rename_i hu;simp only[wd,X9]at hs;subst hs;split at hr
   case h_2=>simp at hr
   rename_i s hx;simpa[execOp,Instr.range,kF hu,hx,jC]using hr
  .rename_i k e hu;simp only[wd,X9]at hs;subst hs;split at hr
   .rename_i hx;simpa[execOp,Instr.range,kF hu,hx,jC]using hr
   .rename_i q hx;simp only[Sem.run_bind]at hr;obtain⟨⟨es,c⟩,T,C,h2⟩:=jH hr;obtain⟨rfl,Oc⟩:=eM C;simp at Oc;simpa[execOp,Instr.range,kF hu,hx,jC,Oc]using h2
   .simp at hr
 case next it s=>
  simp only[jJ,X9]at g;subst g;simp only[wd,X9]at hs;subst hs;have:Instr.next (ρ it) s K=Instr.next (ρ it) s 0:=rfl;simpa[execOp,this]using hr
 case entry it=>
  simp only[jJ,X9]at g;subst g;exact zC7
 case convert s d x=>
  simp only[jJ]at g;split at g<;>try (cases g;done)
  .cases g;simp[wd]at hs
  .cases g;simp[wd]at hs
  .rename_i e re X;split at g<;>cases g;rename_i Y;simp only[wd,X9]at hs;subst hs;split at hr
   case h_2=>simp at hr
   rename_i b hx;simpa[execOp,Go.convert,kF re,kF X,hx,kF Y]using hr
  .rename_i e re X;split at g<;>cases g;rename_i Y;simp only[wd,X9]at hs;subst hs;simp only[Sem.run_bind]at hr;obtain⟨b,T,C,h2⟩:=jH hr;have:(Go.convert s d (ρ x)).run P w=.ok b T:=by
    cases hx:ρ x with
    |slice a n c=>rw[hx]at C;simpa[Go.convert,kF re,kF X,kF Y]using C
    |_=>rw[hx]at C;simp[Conv.bytesToString]at C
   simpa[execOp,this]using h2
 case call c=>
  obtain⟨callee,a5,T8⟩:=c;obtain⟨a5⟩:=a5;obtain⟨T8⟩:=T8;simp only[jJ]at g;split at g
  .split at g<;>cases g;simp[wd]at hs
  .cases g;simp[wd]at hs
  .split at g<;>try (cases g;done)
   rename_i x t;split at g<;>cases g<;>simp only[wd]at hs<;>try (cases hs;done)
   rename_i k e hu;simp only[X9]at hs;subst hs;simp only[Sem.run_bind]at hr;obtain⟨⟨es,c⟩,T,C,h2⟩:=jH hr;obtain⟨rfl,hx⟩:=eM C;rcases hx with⟨hx,rfl,rfl⟩|⟨q,hx,G⟩
   .simpa[execOp,resolve,invoke,Go.builtin,Builtin.len_,kF hu,hx,goInt]using h2
   .simpa[execOp,resolve,invoke,Go.builtin,Builtin.len_,kF hu,hx,G,goInt]using h2
  .split at g<;>try (cases g;done)
   split at g<;>cases g<;>simp[wd]at hs
  .split at g<;>cases g;simp[wd]at hs
  .split at g<;>cases g;simp[wd]at hs
  .split at g<;>try (cases g;done)
   rename_i sx x t xt;split at g<;>try (cases g;done)
   rename_i e hu;split at g<;>try (cases g;done)
   rename_i i z hi B;split at g
   case isFalse=>
    split at g
    case isFalse=>cases g
    rename_i G;cases g;obtain⟨i',u,F,J,rfl⟩:=iG B;rw[hi]at F;cases F;obtain⟨E,L,k,Z,hut⟩:∃E L k,xt=E::L/\P.underlying E=some (.int k):=by
     cases xt with
     |nil=>simp[Ms]at G
     |cons E L=>
      simp only[Ms]at G;split at G
      .rename_i k h;exact⟨E,L,k,rfl,h⟩
      .cases G
    subst Z;simp only[wd,X9]at hs;subst hs;split at hr
    case h_2=>simp at hr
    rename_i base O U k0 l Wn A;split at hr
    case isTrue=>simp at hr
    rename_i iK;have hb0:¬l<0:=λh=>iK (.inl h)
    have cM:¬(l*i.bytes>2 ^ 48):=λh=>iK (.inr (.inl h))
    have mo:IntKind.i64.wrap l=l:=Classical.byContradiction λh=>iK (.inr (.inr (.inl h)))
    have Q:i.size≠0:=λh=>iK (.inr (.inr (.inr h)))
    have H:∀(n:Nat) (w:World),(if n*i.size=0 then pure #[]else do pure (Builtin.zeroCells (<- zeroValue e).cells n):Sem (Array Value)).run P w=.ok (jA n u.cells.toList).toArray w:=by
     intro n w;by_cases h0:n*i.size=0
     .obtain rfl:n=0:=by
       rcases Nat.mul_eq_zero.1 h0 with h|h
       .exact h
       .exact absurd h Q
      simp[jA]
     .simp[h0,ky hi J,yk]
    have N:(asInt (.int k0 l)).run P w=.ok l w:=by simp[asInt,asIntOf]
    simp only[execOp,resolve,invoke,Go.builtin,Sem.run_bind,List.map_toArray,QE,QG,Sem.run_pure,Result.andThen_ok];simp only[Builtin.append_,Vy,Vn,Vm,Sem.run_bind,kF hu,kF hut,Result.andThen_ok,Wn,A,N,Sem.run_pure,kw hi,if_true,mo];simp only[hb0,if_false,Sem.run_bind,wG hi,Result.andThen_ok,cM,Sem.run_pure,Bool.not_true,vN];by_cases D:O+l.toNat<=U
    .simp only[D,if_true,Sem.run_bind]at hr|-;rw[H];cases base<;>simpa[jC]using hr
    .simp only[D,if_false]at hr|-;split at hr
     case isTrue=>simp at hr
     rename_i W;have g1:¬(Builtin.nextslicecap (O+l.toNat) U*i.bytes>2 ^ 48):=λh=>W (.inl h)
     have g2:¬(((O+l.toNat:Nat):Int)>IntKind.i64.max):=λh=>W (.inr (.inr h))
     simp only[Sem.run_bind,wG hi,Result.andThen_ok,g2,false_and,g1,if_false,run_askRoom];simp only[Sem.run_bind]at hr;rw[<- Wn];simp only[H,Result.andThen_ok];simpa[jC,newRow,ky hi J,<- yk]using hr
   cases g;rename_i G;obtain⟨i',u,F,J,rfl⟩:=iG B;rw[hi]at F;cases F;obtain⟨E,L,Z,S⟩:∃E L,xt=E::L/\((∃e',P.underlying E=some (.slice e'))∨P.underlying E=some .string):=by
    cases xt with
    |nil=>simp[WL]at G
    |cons E L=>
     refine⟨E,L,rfl,?_⟩;simp only[WL]at G;split at G
     .rename_i e' h;exact .inl ⟨e',h⟩
     .rename_i h;exact .inr h
     .cases G
   subst Z;simp only[wd,X9]at hs;subst hs;split at hr
   case h_2=>simp at hr
   rename_i base O U m0 Wn A;have I:(Builtin.lenOf (ρ x)).run P w=.ok m0 w:=by
    cases hx:ρ x<;>rw[hx]at A<;>simp[eZ]at A<;>subst A<;>simp[Builtin.lenOf]
   have B:(do pure ((<- underlying E) matches .int _):Sem Bool).run P w=.ok false w:=by
    rcases S with⟨e',h⟩|h<;>simp[kF h]
   have H:Builtin.append_ (t::E::L).toArray K #[ρ sx,ρ x]=Builtin.append_ (t::E::L).toArray K #[ρ sx,ρ x]:=rfl;simp only[execOp,resolve,invoke,Go.builtin,Sem.run_bind,List.map_toArray,QE,QG,Sem.run_pure,Result.andThen_ok];simp only[Builtin.append_,Vy,Vn,Vm,Sem.run_bind,kF hu,Result.andThen_ok,Wn,kw hi];simp only[Sem.run_bind,Sem.run_pure]at B;have hfirst:∀n:Nat,(if(!false)=true then Builtin.firstCells i.size n (ρ x)else if n*i.size=0 then pure #[]else do pure (Builtin.zeroCells (<- zeroValue e).cells n):Sem (Array Value))=Builtin.firstCells i.size n (ρ x):=λ_=>rfl
   rcases S with⟨e',hut⟩|hut
   all_goals
    simp only[kF hut,Result.andThen_ok,Sem.run_pure,vN,if_false,Sem.run_bind,I];by_cases D:O+m0<=U
    .simp only[D,if_true,Sem.run_bind]at hr|-;simp only[vQ,if_true];cases base<;>simpa[jC]using hr
    .simp only[D,if_false]at hr|-;split at hr
     case isTrue=>simp at hr
     rename_i W;have cM:¬(Builtin.nextslicecap (O+m0) U*i.bytes>2 ^ 48):=λh=>W (.inl h)
     have mo:¬(i.bytes=0):=λh=>W (.inr h)
     simp only[Sem.run_bind,wG hi,Result.andThen_ok,false_or,mo,and_false,cM,if_false,vQ,if_true,run_askRoom,ky hi J,<- yk];simp only[Sem.run_bind]at hr;rw[<- Wn];simpa[jC,newRow,ky hi J,<- yk]using hr
  .split at g<;>try (cases g;done)
   rename_i dx sx t xt;split at g<;>try (cases g;done)
   rename_i e hu;simp only[X5]at g;obtain⟨i,hi,rfl⟩:=g;simp only[wd,X9]at hs;subst hs;split at hr
   case h_2=>simp at hr
   rename_i base O U m0 hdx A;have I:(Builtin.lenOf (ρ sx)).run P w=.ok m0 w:=by
    cases hx:ρ sx<;>rw[hx]at A<;>simp[eZ]at A<;>subst A<;>simp[Builtin.lenOf]
   simp only[execOp,resolve,invoke,Go.builtin,Sem.run_bind,List.map_toArray,QE,QG,Sem.run_pure,Result.andThen_ok];simp only[Builtin.copy_,Vy,Vn,Vm,Sem.run_bind,kF hu,Result.andThen_ok,hdx,kw hi,I];simp only[Sem.run_bind]at hr;cases base<;>simpa[jC,goInt]using hr
  .split at g<;>try (cases g;done)
   rename_i cx t;split at g<;>try (cases g;done)
   rename_i e hu;simp only[X5]at g;obtain⟨z,B,rfl⟩:=g;obtain⟨i',u,F,J,rfl⟩:=iG B;simp only[wd,X9]at hs;subst hs;split at hr
   case h_2=>simp at hr
   rename_i base O U hcx;simp only[execOp,resolve,invoke,Go.builtin,Sem.run_bind,List.map_toArray,QE,QG,Sem.run_pure,Result.andThen_ok];simp only[Builtin.clear_,Vy,Vn,Sem.run_bind,kF hu,Result.andThen_ok,hcx];cases base with
   |none=>simpa using hr
   |some a=>
    cases O with
    |zero=>simpa[jA,storeCells]using hr
    |succ m=>simpa[ky F J,<- yk,jC]using hr
  .split at g<;>try (cases g;done)
   rename_i mx kx t xt;split at g<;>try (cases g;done)
   rename_i kt e hu;simp only[X5]at g;obtain⟨sk,Am,rfl⟩:=g;obtain⟨d,hd,I9⟩:=Yo Am;simp only[wd,X9]at hs;subst hs;simp only[execOp,resolve,invoke,Go.builtin,Sem.run_bind,List.map_toArray,QE,QG,Sem.run_pure,Result.andThen_ok];simp only[Builtin.delete_,Vy,Vn,Vm,Sem.run_bind,kF hu,Result.andThen_ok];split at hr
   .rename_i q hx;simp only[Sem.run_bind]at hr;obtain⟨⟨es,c⟩,T,C,h2⟩:=jH hr;obtain⟨rfl,Oc⟩:=eM C;simp at Oc;simp only at h2;split at h2
    .rename_i j v' hf;exact zEV
    .rename_i hf;exact zEV
    .simp at h2
   .rename_i hx;simp only[hx,Sem.run_bind,yp hd I9,Result.andThen_ok];simpa using hr
   .simp at hr
  .cases g
 case binOp op t x y yt=>
  simp only[jJ]at g
  repeat' split at g
  all_goals first
   |(cases g;done)
   |(cases g;simp[wd]at hs;done)
   |(cases g;simp only[wd,X9]at hs;subst hs;simpa[execOp,jC]using hr)
 all_goals (try simp only[jJ]at g)
 all_goals (repeat' split at g)
 all_goals first
  |(cases g;done)
  |(cases g;simp[wd]at hs;done)
  |(simp only[X5]at g;obtain⟨_,_,rfl⟩:=g;simp[wd]at hs;done)
end
section
variable {P:Program} {ρ:Operand->Value} {H:List kC} {K:Next->List kC->Prop}
def j7(b:Nat)(us vs:List Value):∀o,kA b o (us++vs)=kA b o us++kA b (o+us.length) vs:=by
 induction us with
 |nil=>intro o;simp[kA]
 |cons u us ih=>intro o;simp only[vq,kA,ih,Q0];congr 3;omega
def HT {b o:Nat}{K:Array Value->List kC->Prop}:∀(vs:List Value) (i:Nat) (d:Array Value),(∀x∈kA b (o+i) vs,x∈H)->K (d++vs.toArray) H->
 aS P (loadCellsFrom ⟨b,o,none⟩ i vs.length d) H K:=by
 intro vs
 induction vs with
 |nil=>intro i d _ h;exact aS.pure (by simpa using h)
 |cons v vs ih=>
  intro i d g h;simp only[Q0,loadCellsFrom,gS];refine aS.bind (aS.load (v:=v) (g _ Nt) ?_);refine ih (i+1) (d.push v) (λx j=>g x (by simp only[kA,QJ];exact .inr j)) ?_;have:d.push v++vs.toArray=d++(v::vs).toArray:=by simp
  rw[this];exact h
def aS.loadCells {b o n:Nat}{vs:List Value}{K:Array Value->List kC->Prop}(g:vs.length=n)(d:∀x∈kA b o vs,x∈H)(h:K vs.toArray H):aS P (Go.loadCells ⟨b,o,none⟩ n) H K:=by
 subst g;exact HT vs 0 #[] (by simpa using d) (by simpa using h)
def Ed {b o:Nat}{K:Unit->List kC->Prop}:∀(vs us:List Value) (i:Nat) (L:List kC),vs.length=us.length->(∀v∈vs,jk v=true)->
 (∀L',L'.Perm (kA b (o+i) vs++L)->K () L')->∀M:List kC,M.Perm (kA b (o+i) us++L)->aS P (storeCells ⟨b,o,none⟩ vs i) M K:=by
 intro vs
 induction vs with
 |nil=>
  intro us i L d _ h M j;cases us<;>simp at d;exact aS.pure (h M (by simpa[kA]using j))
 |cons v vs ih=>
  intro us i L d m h M j;cases us with
  |nil=>simp at d
  |cons u us=>
   simp only[storeCells,gS];refine aS.perm j (aS.bind ?_);simp only[kA,vq];refine aS.store (m v Zs) ?_;refine ih us (i+1) (.cell b (o+i) v::L) (by simpa using d) (λx q=>m x (by simp[q])) (λL' g=>h L' ?_) _ ?_
   .refine g.trans ?_;simp only[kA,vq,Qn];exact Qd
   .simp only[Qn];exact Qd.symm
def aS.storeCells {b o:Nat}{vs us:List Value}{R:List kC}{K:Unit->List kC->Prop}(A:vs.length=us.length)(g:∀v∈vs,jk v=true)
 (h:K () (kA b o vs++R)):aS P (Go.storeCells ⟨b,o,none⟩ vs) (kA b o us++R) K:=by
 have:=Ed (P:=P) (b:=b) (o:=o) (K:=λ_ L=>L.Perm (kA b o vs++R)) vs us 0 R A g (λL' d=>by simpa using d) (kA b o us++R) Zs;intro F w B;obtain⟨v,w',H',j,m,q,s⟩:=this F w B;exact⟨v,w',_,j,h,q.perm (m.append_right F),s⟩
def Src(H:List kC)(size n:Nat)(vs:List Value):Value->Prop
 |.slice (some ⟨b,o,none⟩) _ _=>vs.length=n*size/\∀x∈kA b o vs,x∈H
 |.slice none _ _=>vs=[]
 |.string s=>vs=(s.data.toList.take n).map λc=>.int .u8 c.toNat
 |_=>False
def aS.firstCells {size n:Nat}{x:Value}{vs:List Value}{K:Array Value->List kC->Prop}(d:Src H size n vs x)(h:K vs.toArray H):aS P (Builtin.firstCells size n x) H K:=by
 unfold Src at d;split at d
 .exact aS.loadCells d.1 d.2 h
 .subst d;exact aS.pure h
 .rename_i s;subst d;apply aS.pure;have:(s.extract 0 n).data.map (λb=>Value.int .u8 b.toNat)=((s.data.toList.take n).map λc=>Value.int .u8 c.toNat).toArray:=by
   apply vD.1;simp[ByteArray.data_extract,Array.toList_extract]
  rw[this];exact h
 .exact d.elim
def RM {n:Nat}{x v:Operand}{b o:Nat}{us:List Value}{R:List kC}(m:ρ x=.pointer (some ⟨b,o,none⟩))(d:(ρ v).cells.size=n)(j:us.length=n)(g:∀c∈(ρ v).cells.toList,jk c=true)
 (h:K .skip (kA b o (ρ v).cells.toList++R)):
 aS P (do let a ← Instr.sureAddr (ρ x); if (ρ v).cells.size = n then (do storeCells a (ρ v).cells.toList; pure .skip) else stuck "size") (kA b o us ++ R) K := by
 rw[m];refine aS.bind (aS.pure ?_);rw[if_pos d];exact aS.bind (aS.storeCells (by simp[d,j]) g (aS.pure h))
def Hh {c:Array Value}{t:TypeId}{f:Nat->Next}(h:∀b,K (f b) (kA b 0 c.toList++H)):aS P (do let b <- newObj (.cells c t);pure (f b)) H K:=
 aS.bind (aS.RX λb=>aS.pure (h b))
def MG {o:Obj}{f:Nat->Next}(d:zF o=false)(h:∀b,K (f b) (.obj b o::H)):aS P (do let b <- newObj o;pure (f b)) H K:=
 aS.bind (aS.new_obj d λb=>aS.pure (h b))
def Kg {m c:Nat}{es:Array MapEntry}{α:Type}{f:Array MapEntry×Nat->Sem α}{K:α->List kC->Prop}(d:kC.obj m (.map es c)∈H)(h:aS P (f (es,c)) H K):aS P (wg (.map (some m)) >>=f) H K:=by
 apply aS.bind;unfold wg;exact aS.bind (aS.getObj d (aS.pure h))
def OM(d new:Value){K:Value->List kC->Prop}(h:∀k,k=d∨k=new->K k H):aS P (Instr.keyThatStays d new) H K:=by
 unfold Instr.keyThatStays;split
 .exact aS.pure (h _ (.inr rfl))
 .refine aS.bind (aS.choose (λ_=>aS.pure ?_) (λn=>aS.pure ?_))
  .exact h _ (.inr rfl)
  .split
   .exact h _ (.inr rfl)
   .exact h _ (.inl rfl)
end
structure RO where
 dst:Option Nat
 guard:Option (Nat×Bool)
 op:R
def eG(P:Program)(n:Nat)(ops:Array Oper)(o:Oper):Option RO:=
 match jJ P o.op with
 |none=>none
 |some r=>
  if o.dst.all (·< n)then
   match o.guard with
   |none=>some ⟨o.dst,none,r⟩
   |some (j,b)=>match(ops[j]?).bind (·.dst)with
    |some s=>some ⟨o.dst,some (s,b),r⟩
    |none=>none
  else none
def jN:R->Bool
 |.lH .. |.ny .. |.Xa .. |.lookup .. |.entry .. |.b2s .. |.UD .. |.Jw .. =>true
 |_=>false
def ow:R->Bool
 |.alloc .. |.box .. |.nP .. |.p8|.s2b .. =>true
 |.append _ _ _ _ (.const (.slice none 0 0)) _=>true
 |_=>false
def Ext(w w':World):Prop:=∀(i:Nat) (o:Obj),w.heap[i]? =some o->w'.heap[i]? =some o
def Ext.refl(w):Ext w w:=λ_ _ h=>h
def Ext.trans {a b c}(h:Ext a b)(k:Ext b c):Ext a c:=λi o e=>k i o (h i o e)
def Sat.ext {w w' L}(h:Sat w L)(e:Ext w w'):Sat w' L:=⟨λx q=>by
 have:=h.holds x q;cases x with
 |cell b off v=>obtain⟨c,t,m,j,d,g⟩:=this;exact⟨c,t,m,j,e _ _ d,g⟩
 |obj b o=>exact⟨e _ _ this.1,this.2⟩
 |row b n=>obtain⟨c,t,m,j,d,g⟩:=this;exact⟨c,t,m,j,e _ _ d,g⟩
 |own b n=>obtain⟨c,t,m,j,d,g⟩:=this;exact⟨c,t,m,j,e _ _ d,g⟩,h.nodup⟩
def kz:R->Bool
 |.mv .. |.pick .. |.bin .. |.eqb .. |.EK .. |.EJ .. |.un .. |.conv .. |.cvs .. |.JB .. |.DF .. |.ext .. |.build .. |.qd .. |.Ω .. |.LX .. |.Ry .. |.GX .. |.Rz .. |.Mm .. |.M5 ..
 |.tf .. |.M4 .. |.WW .. |.G4 .. |.cap .. |.min2 .. |.max2 .. |.iB .. =>true
 |_=>false
def jM(g:Option (Nat×Bool))(a:Act):Bool:=
 match g with
 |none=>true
 |some (s,b)=>match a.tmps[s]? with|some (.bool c)=>c==b|_=>false
def wi:Exit->Act->World->Prop:=λ_ _ _=>False
abbrev DC (ρ:Option Nat):Fence:={fn:=λ_=>True,depth:=none,alive:=false,round:=ρ}
def jw(P:Program)(o:Oper)(a:Act)(next:Act->World->Prop)(Z:Exit->Act->World->Prop):Result Next->Prop
 |.ok (.value v) w'=>next (a.put o.dst v) w'
 |.ok .skip w'=>next (a.put o.dst undef) w'
 |.ok (.enter f a5) w'=>Calls P f a5 w' fun
   |.returned v,qh=>next (a.put o.dst v) qh
   |.panicked chain,qh=>Z (.panic chain) a qh
   |.outgrown,_=>False
 |.ok (.round l f tmps assign body) w'=>RoundIn Fence.wide 0 P l f tmps assign body w' fun
   |.returned v,qh=>next (a.put o.dst v) qh
   |.panicked chain,qh=>Z (.panic chain) a qh
   |.outgrown,_=>False
 |.halt (.panic v) w'=>Z (.panic [{v,recovered:=false}]) a w'
 |_=>False
def Dy(P:Program)(o:Oper)(a:Act)(w:World)(next:Act->World->Prop)(Z:Exit->Act->World->Prop):Prop:=jw P o a next Z ((execOp a.eval o).run P w)
def Eu {P ρ n f a5 w}{R:Ending->World->Prop}(h:Calls P f a5 w R):CallsIn (DC ρ) n P f a5 w R:=
 ⟨trivial,λcs _=>let⟨e,w',fr,r,s,x⟩:=h cs;⟨e,w',fr,r,comesIn_wide.2 s,x⟩⟩
def Y0 {P ρ o a next Z}{r:Result Next}(h:jw P o a next Z r):o.uponIn (DC ρ) 0 P a next Z r:=by
 cases r with
 |ok n w'=>
  cases n<;>simp only[jw]at h<;>simp only[Oper.uponIn]<;>first
   |exact h
   |exact h.elim
   |exact⟨λh=>by simp at h,Eu (Calls.mono h (λe g d=>by cases e<;>first|exact d|exact d.elim))⟩
   |exact⟨λh=>by simp at h,RoundIn.mono h (λe g d=>by cases e<;>first|exact d|exact d.elim)⟩
 |halt x w'=>cases x<;>simp only[jw]at h<;>simp only[Oper.uponIn]<;>exact h
def wpA(P:Program)(Z:Exit->Act->World->Prop)(x:RO×Oper)(next:Act->World->Prop)(a:Act)(w:World):Prop:=
 (ow x.1.op=true->∃u w',(execOp a.eval x.2).run P w=.ok (.value u) w'/\Ext w w')/\Dy P x.2 a w next Z
def wI(P:Program)(Z:Exit->Act->World->Prop)(x:RO×Oper)(next:Act->World->Prop)(a:Act)(w:World):Prop:=
 if jM x.1.guard a then
  if kz x.1.op then ∃v,kb a.eval x.1.op=some v/\next (a.put x.1.dst v) w
  else if jN x.1.op then ∃s v,wd a.eval x.1.op=some s/\(∀w',Ext w w'->s.run P w'=.ok (.value v) w')/\next (a.put x.1.dst v) w
  else wpA P Z x next a w
 else next (a.put x.1.dst undef) w
def cK(P:Program)(Z:Exit->Act->World->Prop)(Q:Act->World->Prop):List (RO×Oper)->Act->World->Prop
 |[],a,w=>Q a w
 |x::rest,a,w=>wI P Z x (cK P Z Q rest) a w
section
variable {P:Program} {Z:Exit->Act->World->Prop} {Q Q':Act->World->Prop} {a:Act} {w:World}
def Dq {o:Oper}{K K':Act->World->Prop}(h:∀a w,K a w->K' a w)(d:Dy P o a w K Z):Dy P o a w K' Z:=by
 unfold Dy at*;generalize (execOp a.eval o).run P w=r at*;cases r with
 |ok n w'=>
  cases n<;>simp only[jw]at d|- <;> first
   |exact h _ _ d
   |exact Calls.mono d (λe j g=>by cases e<;>first|exact h _ _ g|exact g)
   |exact RoundIn.mono d (λe j g=>by cases e<;>first|exact h _ _ g|exact g)
 |halt x w'=>cases x<;>simp only[jw]at d|- <;> exact d
def fQ {x:RO×Oper}(h:∀a w,Q a w->Q' a w)(d:wI P Z x Q a w):wI P Z x Q' a w:=by
 unfold wI at*;split
 .rename_i g;rw[if_pos g]at d;split
  .rename_i j;rw[if_pos j]at d;obtain⟨v,e,q⟩:=d;exact⟨v,e,h _ _ q⟩
  .rename_i j;rw[if_neg j]at d;split
   .rename_i m;rw[if_pos m]at d;obtain⟨s,v,e,A,q⟩:=d;exact⟨s,v,e,A,h _ _ q⟩
   .rename_i m;rw[if_neg m]at d;exact⟨d.1,Dq h d.2⟩
 .rename_i g;rw[if_neg g]at d;exact h _ _ d
def Ks {l:List (RO×Oper)}(h:∀a w,Q a w->Q' a w):∀{a w},cK P Z Q l a w->cK P Z Q' l a w:=by
 induction l with
 |nil=>intro a w d;exact h _ _ d
 |cons x l ih=>intro a w d;exact fQ (λa w h=>ih h) d
def SM {o:Oper}{K:Act->World->Prop}(d:Dy P o a w K wi):Dy P o a w K Z:=by
 unfold Dy at*;generalize (execOp a.eval o).run P w=r at*;cases r with
 |ok n w'=>
  cases n<;>simp only[jw]at d|- <;> first
   |exact d
   |exact Calls.mono d (λe h g=>by cases e<;>first|exact g|exact g.elim)
   |exact RoundIn.mono d (λe h g=>by cases e<;>first|exact g|exact g.elim)
 |halt x w'=>cases x<;>simp only[jw]at d|- <;> exact d.elim
def F4 {l:List (RO×Oper)}:∀{a w},cK P wi Q l a w->cK P Z Q l a w:=by
 induction l with
 |nil=>intro a w q;exact q
 |cons x l ih=>
  intro a w q;have d:wI P wi x (cK P Z Q l) a w:=fQ (λa w h=>ih h) q;show wI P Z x (cK P Z Q l) a w;unfold wI at*;split
  .rename_i g;rw[if_pos g]at d;split
   .rename_i j;rw[if_pos j]at d;exact d
   .rename_i j;rw[if_neg j]at d;split
    .rename_i m;rw[if_pos m]at d;exact d
    .rename_i m;rw[if_neg m]at d;exact⟨d.1,SM d.2⟩
  .rename_i g;rw[if_neg g]at d;exact d
def jP {n:Nat}{ops:Array Oper}{o:Oper}{r:RO}(h:eG P n ops o=some r):jJ P o.op=some r.op/\r.dst=o.dst/\(∀d,r.dst=some d->d<n)/\
 ∀a:Act,Region.wanted o (yielded ops a.tmps)=jM r.guard a:=by
 unfold eG at h;split at h
 .cases h
 .rename_i r' A;split at h
  case isFalse=>cases h
  rename_i q;have m:∀d,o.dst=some d->d<n:=by intro d e;rw[e]at q;simpa using q
  split at h
  .rename_i g;cases h;exact⟨A,rfl,m,λa=>by simp[Region.wanted,g,jM]⟩
  .rename_i j b g;split at h
   case h_2=>cases h
   rename_i s B;cases h;refine⟨A,rfl,m,λa=>?_⟩;simp only[Region.wanted,g,yielded,B,Option.bind_some,jM];cases a.tmps[s]? with
   |none=>simp
   |some v=>cases v<;>simp
def ya(a:Act)(u:Value):a.eval (.const u)=u:=rfl
def fR {ρ:Option Nat}{n:Nat}{ops:Array Oper}{X:Nat->RO×Oper}{QQ:Exit->Act->World->Prop}(F:∀i,i<ops.size->ops[i]? =some (X i).2/\eG P n ops (X i).2=some (X i).1):
 ∀(l:List Nat) (a:Act) (w:World),(∀i∈l,i<ops.size)->cK P QQ (QQ .normal) (l.map X) a w->wpOpsIn (DC ρ) 0 P ops QQ l a w:=by
 intro l
 induction l with
 |nil=>intro a w _ h;exact h
 |cons i l ih=>
  intro a w B h;obtain⟨D,E⟩:=F i (B i Zs);obtain⟨g,m,g3,C⟩:=jP E;have d:=λa w=>ih a w (λj G=>B j (by simp[G]))
  have K:∀c,(X i).2.op≠.defer c:=λc e=>by rw[e]at g;simp[jJ]at g
  simp only[QE,cK,wI]at h;simp only[wpOpsIn,D,C a];split
  .rename_i A;rw[if_pos A]at h;refine⟨λ_ _=>trivial,?_⟩;rw[Oper.semAt_plain _ _ _ K];refine Y0 ?_;split at h
   .obtain⟨v,J,q⟩:=h;simp only[rF (w:=w) (ya a) g J,jw,<- m];exact d _ _ q
   .split at h
    .obtain⟨s,v,I,H,q⟩:=h;simp only[uI (ya a) g I (H w (.refl w)),jw,<- m];exact d _ _ q
    .exact Dq d h.2
  .rename_i A;rw[if_neg A]at h;refine⟨λ_ _=>trivial,?_⟩;rw[<- m];exact d _ _ h
end
def du(g:Option (Nat×Bool)):List Nat:=match g with|some (s,_)=>[s]|none=>[]
def pL(x:Option Operand):List Operand:=x.toList
def mS:R->List Operand
 |.mv x|.un _ x|.conv _ x|.cvs x|.JB _ x|.ext x _|.qd x|.Ω _ x|.LX _ _ _ x|.WW x|.G4 x|.cap x|.iB _ _ _ x|.EK _ _ x|.lH x|.ny _ x|.Xa x|.entry x|.b2s x=>[x]
 |.pick c a b=>[c,a,b]
 |.bin _ x y|.eqb _ x y|.EJ _ _ x y|.Ry _ _ x y|.GX _ x y|.Rz x y|.Mm _ _ _ x y|.min2 x y|.max2 x y|.lookup _ _ _ x y|.UD _ _ x y|.Jw _ _ x y=>[x,y]
 |.DF _ f c=>f++c
 |.build _ ps=>ps.map (·.2.2)
 |.M5 x lo hi=>x::(pL lo++pL hi)
 |.tf _ x lo hi mx=>x::(pL lo++pL hi++pL mx)
 |.M4 _ _ x lo hi=>x::(pL lo++pL hi)
 |_=>[]
def dK(l:List Operand):List Nat:=l.filterMap fun|.tmp t=>some t|_=>none
def looks(x:RO×Oper):List Nat:=du x.1.guard++(if kz x.1.op||jN x.1.op then dK (mS x.1.op)else dK x.2.op.operands.toList)
def tN(x y:RO×Oper):Bool:=match x.1.dst with|some d=>!(looks y).contains d&&y.1.dst !=some d|none=>true
def indep(x y:RO×Oper):Bool:=tN x y&&tN y x&&(kz x.1.op||kz y.1.op||(jN x.1.op&&jN y.1.op)||(ow x.1.op&&jN y.1.op))
def lI {ρ d:Operand->Value}{o:Option Operand}(h:∀x∈pL o,ρ x=d x):o.map ρ=o.map d:=by
 cases o with
 |none=>rfl
 |some x=>simp[h x (by simp[pL])]
def iv {ρ d r}(g:kz r=true)(h:∀x∈mS r,ρ x=d x):kb ρ r=kb d r:=by
 cases r<;>simp only[kz]at g<;>first|(cases g;done)|skip
 case DF f first c=>
  simp only[mS,QH]at h;simp only[kb];rw[QD (λx j=>h x (.inl j)),QD (λx j=>h x (.inr j))]
 case build z ps=>
  simp only[mS,QO]at h;simp only[kb];have:ja ρ ps=ja d ps:=by
   simp only[ja];refine QD (λp g=>?_);obtain⟨a,b,c⟩:=p;simp[h c ⟨_,g,rfl⟩]
  rw[this]
 case M5 x lo hi=>
  exact zDT
 case tf z x lo hi mx=>
  simp only[mS,QJ,QH]at h;simp only[kb,h x (.inl rfl),lI (λy hy=>h y (.inr (.inl (.inl hy)))),lI (λy hy=>h y (.inr (.inl (.inr hy)))),lI (λy hy=>h y (.inr (.inr hy)))]
 case M4 n z x lo hi=>
  exact zDT
 case un op x=>cases op<;>simp only[mS,QU,forall_eq]at h<;>simp only[kb,h]
 all_goals (simp only[mS,QJ,List.not_mem_nil,or_false,forall_eq_or_imp,forall_eq]at h;simp only[kb,h])
def ME {ρ d r}(g:jN r=true)(h:∀x∈mS r,ρ x=d x):wd ρ r=wd d r:=by
 cases r<;>simp only[jN]at g<;>first|(cases g;done)|skip
 all_goals (simp only[mS,QJ,List.not_mem_nil,or_false,forall_eq_or_imp,forall_eq]at h;simp only[wd,h])
section
variable {P:Program}
def nV {a:Act}{d:Option Nat}{v:Value}{l:List Operand}(h:∀t,d=some t->t∉dK l){x:Operand}(j:x∈l):(a.put d v).eval x=a.eval x:=by
 refine Act.eval_put (λt e g=>?_);subst g;exact h t e (by simp only[dK,List.mem_filterMap];exact⟨_,j,rfl⟩)
def ej {a:Act}{d:Option Nat}{v:Value}{g:Option (Nat×Bool)}(h:∀t,d=some t->t∉du g):jM g (a.put d v)=jM g a:=by
 cases g with
 |none=>rfl
 |some p=>
  obtain⟨s,b⟩:=p;cases d with
  |none=>rfl
  |some t=>
   have j:t≠s:=λe=>h t rfl (by simp[du,e])
   simp[jM,Act.put,vB j]
def Yv(P:Program)(x:RO×Oper)(a:Act)(w:World)(v:Value):Prop:=
 if jM x.1.guard a then
  if kz x.1.op then kb a.eval x.1.op=some v else ∃s,wd a.eval x.1.op=some s/\∀w',Ext w w'->s.run P w'=.ok (.value v) w'
 else v=undef
def wU {Z:Exit->Act->World->Prop}{x:RO×Oper}(q:(kz x.1.op||jN x.1.op)=true){K:Act->World->Prop}{a:Act}{w:World}:wI P Z x K a w↔∃v,Yv P x a w v/\K (a.put x.1.dst v) w:=by
 unfold wI Yv;split
 .split
  .exact Iff.rfl
  .rename_i m;have A:jN x.1.op=true:=by simpa[m]using q
   rw[if_pos A];constructor
   .rintro⟨s,v,d,g,j⟩;exact⟨v,⟨s,d,g⟩,j⟩
   .rintro⟨v,⟨s,d,g⟩,j⟩;exact⟨s,v,d,g,j⟩
 .constructor
  .intro h;exact⟨_,rfl,h⟩
  .rintro⟨v,rfl,h⟩;exact h
def zj {x:RO×Oper}{t:Nat}(h:t∉looks x):t∉du x.1.guard/\((kz x.1.op||jN x.1.op)=true->t∉dK (mS x.1.op))/\((kz x.1.op||jN x.1.op)=false->t∉dK x.2.op.operands.toList):=by
 simp only[looks,QH,not_or]at h;refine⟨h.1,λe=>?_,λe=>?_⟩
 .rw[if_pos e]at h;exact h.2
 .rw[if_neg (by simp[e])]at h;exact h.2
def qE {x:RO×Oper}(m:(kz x.1.op||jN x.1.op)=true){d:Option Nat}(h:∀t,d=some t->t∉looks x){a:Act}{w:World}{u v:Value}:Yv P x (a.put d u) w v↔Yv P x a w v:=by
 unfold Yv;rw[ej (λt e=>(zj (h t e)).1)];have j:∀y∈mS x.1.op,(a.put d u).eval y=a.eval y:=λy s=>nV (λt e=>(zj (h t e)).2.1 m) s
 split
 .split
  .rename_i g;rw[iv g j]
  .rename_i g;have q:jN x.1.op=true:=by simpa[g]using m
   rw[ME q j]
 .exact Iff.rfl
def Ns {x:RO×Oper}(d:kz x.1.op=true){a:Act}{w w':World}{v:Value}:Yv P x a w v↔Yv P x a w' v:=by
 unfold Yv;simp[d]
def Yv_ext {x:RO×Oper}{a:Act}{w w':World}{v:Value}(h:Yv P x a w v)(e:Ext w w'):Yv P x a w' v:=by
 unfold Yv at*;split at h
 .rename_i g;rw[if_pos g];split at h
  .rename_i d;rw[if_pos d];exact h
  .rename_i d;rw[if_neg d];obtain⟨s,m,q⟩:=h;exact⟨s,m,λA j=>q A (e.trans j)⟩
 .rename_i g;rw[if_neg g];exact h
def Yv_fun {x:RO×Oper}{a:Act}{w:World}{u v:Value}(h:Yv P x a w u)(k:Yv P x a w v):u=v:=by
 unfold Yv at*;split at h
 .rename_i g;rw[if_pos g]at k;split at h
  .rename_i d;rw[if_pos d]at k;rw[h]at k;cases k;rfl
  .rename_i d;rw[if_neg d]at k;obtain⟨s,q,A⟩:=h;obtain⟨s',m,B⟩:=k;rw[q]at m;cases m;have j:=A w (.refl w);rw[B w (.refl w)]at j;cases j;rfl
 .rename_i g;rw[if_neg g]at k;rw[h,k]
end
section
variable {P:Program}
def Y1 {o:Oper}{a:Act}{d:Nat}{u:Value}(A:o.dst≠some d){K:Act->World->Prop}{r:Result Next}
 (h:jw P o a (λm w'=>K (m.put (some d) u) w') wi r):jw P o (a.put (some d) u) K wi r:=by
 have j:∀v,(a.put o.dst v).put (some d) u=(a.put (some d) u).put o.dst v:=λv=>Act.put_comm a v u (λe q s=>A (by rw[q,<- s]))
 cases r with
 |ok n w'=>
  cases n<;>simp only[jw]at h|-
  case value v=>rw[<- j];exact h
  case skip=>rw[<- j];exact h
  case enter f a5=>exact Calls.mono h (λe B g=>by cases e<;>first|(simp only at g|-;rw[<- j];exact g)|exact g)
  case round l f tmps assign body=>exact RoundIn.mono h (λe B g=>by cases e<;>first|(simp only at g|-;rw[<- j];exact g)|exact g)
 |halt x w'=>cases x<;>simp only[jw]at h|- <;> exact h
def SB {o:Oper}{a:Act}{d:Nat}{u:Value}(A:o.dst≠some d){K:Act->World->Prop}{r:Result Next}
 (h:jw P o (a.put (some d) u) K wi r):jw P o a (λm w'=>K (m.put (some d) u) w') wi r:=by
 have j:∀v,(a.put o.dst v).put (some d) u=(a.put (some d) u).put o.dst v:=λv=>Act.put_comm a v u (λe q s=>A (by rw[q,<- s]))
 cases r with
 |ok n w'=>
  cases n<;>simp only[jw]at h|-
  case value v=>rw[j];exact h
  case skip=>rw[j];exact h
  case enter f a5=>exact Calls.mono h (λe B g=>by cases e<;>first|(simp only at g|-;rw[j];exact g)|exact g)
  case round l f tmps assign body=>exact RoundIn.mono h (λe B g=>by cases e<;>first|(simp only at g|-;rw[j];exact g)|exact g)
 |halt x w'=>cases x<;>simp only[jw]at h|- <;> exact h
def Km {o:Oper}{a:Act}{K:Act->World->Prop}{r:Result Next}(h:jw P o a K wi r):∃ds v w',K ({a with defers:=ds}.put o.dst v) w':=by
 cases r with
 |ok n w'=>
  cases n<;>simp only[jw]at h
  case value v=>exact⟨a.defers,v,w',h⟩
  case skip=>exact⟨a.defers,undef,w',h⟩
  case enter f a5=>
   obtain⟨e,w1,fr,hR,_⟩:=h [];exact zF3
  case round l f tmps assign body=>
   obtain⟨e,w1,hR,_⟩:=h.2 default [] (room_wide _);exact zF3
 |halt x w'=>cases x<;>simp only[jw]at h<;>exact h.elim
def IS(a:Act)(ds:List Deferred):({a with defers:=ds}:Act).eval=a.eval:=by funext x;cases x<;>rfl
def tJ {x:RO×Oper}{a:Act}{ds:List Deferred}{w:World}{v:Value}:Yv P x {a with defers:=ds} w v↔Yv P x a w v:=by
 unfold Yv;rw[IS];have:jM x.1.guard {a with defers:=ds}=jM x.1.guard a:=by cases x.1.guard<;>rfl
 rw[this]
structure Good (P:Program)(n:Nat)(ops:Array Oper)(x:RO×Oper):Prop where
 low:eG P n ops x.2=some x.1
 aX:∀cs b,x.2.op≠.select cs b
def Hc {op:Op}{r:R}(h:jJ P op=some r)(cs:Array SelectCase)(b:Bool):op≠.select cs b:=by
 rintro rfl;simp[jJ]at h
def Good.Xs {n:Nat}{ops:Array Oper}{x:RO×Oper}(h:eG P n ops x.2=some x.1):Good P n ops x:=⟨h,Hc (jP h).1⟩
def zo {x y:RO×Oper}(h:tN x y=true):∀d,x.1.dst=some d->d∉looks y/\y.1.dst≠some d:=by
 intro d e;simp only[tN,e,vG,vP,bne_iff_ne]at h;exact⟨by simpa using h.1,h.2⟩
variable {n:Nat} {ops:Array Oper}
def swap {x y:RO×Oper}(Z:Good P n ops x)(gy:Good P n ops y)(h:indep x y=true){K:Act->World->Prop}{a:Act}{w:World}
 (g:wI P wi y (λa w=>wI P wi x K a w) a w):wI P wi x (λa w=>wI P wi y K a w) a w:=by
 simp only[indep,vG]at h;obtain⟨⟨U,W⟩,N⟩:=h;have m:=zo U;have A:=zo W;have D:∀(b:Act) (u v:Value),(b.put x.1.dst u).put y.1.dst v=(b.put y.1.dst v).put x.1.dst u:=λb u v=>Act.put_comm b u v (λd e=>(m d e).2)
 by_cases qx:(kz x.1.op||jN x.1.op)=true
 .by_cases E:(kz y.1.op||jN y.1.op)=true
  .obtain⟨v,H,j⟩:=(wU E).1 g;obtain⟨u,I,F⟩:=(wU qx).1 j;refine(wU qx).2 ⟨u,(qE qx (λt e=>(A t e).1)).1 I,(wU E).2 ⟨v,(qE E (λt e=>(m t e).1)).2 H,?_⟩⟩;rw[D];exact F
  .-- x is pure,y acts
   have C:(kz y.1.op||jN y.1.op)=false:=by simpa using E
   have px:kz x.1.op=true:=by
    try simp only[vS,vG]at N
    simp only[Bool.or_eq_false_iff]at C;rcases N with((h|h)|h)|h
    .exact h
    .rw[C.1]at h;cases h
    .rw[C.2]at h;cases h.2
    .rw[C.2]at h;cases h.2
   simp only[Bool.or_eq_false_iff]at C;by_cases hw:jM y.1.guard a=true
   .unfold wI at g;rw[if_pos hw,if_neg (by simp[C.1]),if_neg (by simp[C.2])]at g;obtain⟨J,g⟩:=g
    replace g:=Dq (K':=λa w=>∃v,Yv P x a w v/\K (a.put x.1.dst v) w) (λa w h=>(wU qx).1 h) g
    obtain⟨Q,B,S,_⟩:=jP gy.low;obtain⟨ds,v0,w0,u,I,_⟩:=Km g;have pZ:∀w,Yv P x a w u:=λw=>by
     rw[<- B]at I;have:=(qE qx (λt e=>(A t e).1)).1 I;exact(Ns px).1 (tJ.1 this)
    refine(wU qx).2 ⟨u,pZ w,?_⟩;have uy:jM y.1.guard (a.put x.1.dst u)=true:=by rw[ej (λt e=>(zj (m t e).1).1)];exact hw
    show wI P wi y K (a.put x.1.dst u) w;unfold wI;rw[if_pos uy,if_neg (by simp[C.1]),if_neg (by simp[C.2])];have s:execOp (a.put x.1.dst u).eval y.2=execOp a.eval y.2:=
     execOp_congr y.2 gy.aX (λz X=>nV (λt e=>(zj (m t e).1).2.2 (by simp[C.1,C.2])) (by simpa using X))
    refine⟨λe=>by rw[s];exact J e,?_⟩;unfold Dy at g|-;rw[s];have step:jw P y.2 a (λO w'=>K (O.put x.1.dst u) w') wi ((execOp a.eval y.2).run P w):=by
     generalize (execOp a.eval y.2).run P w=r at g;have fin:∀{b:Act} {w':World},(∃ds v,b={a with defers:=ds}.put y.2.dst v)->(∃u',Yv P x b w' u'/\K (b.put x.1.dst u') w')->K (b.put x.1.dst u) w':=by
      rintro b w' ⟨ds,v,rfl⟩ ⟨u',j,F⟩
      rw[<- B]at j;have h3:=(qE qx (λt e=>(A t e).1)).1 j;have h4:=tJ.1 h3;rw[Yv_fun (pZ w') h4];exact F
     cases r with
     |ok M w'=>
      cases M<;>simp only[jw]at g|-
      case value v=>exact fin ⟨a.defers,v,rfl⟩ g
      case skip=>exact fin ⟨a.defers,undef,rfl⟩ g
      case enter f a5=>exact Calls.mono g (λe Y s=>by cases e<;>first|exact fin ⟨a.defers,_,rfl⟩ s|exact s)
      case round l f tmps assign body=>exact RoundIn.mono g (λe Y s=>by cases e<;>first|exact fin ⟨a.defers,_,rfl⟩ s|exact s)
     |halt z w'=>cases z<;>simp only[jw]at g|- <;> exact g
    cases hxd:x.1.dst with
    |none=>rw[hxd]at step;exact step
    |some d=>
     rw[hxd]at step;exact Y1 (by rw[<- B];exact(m d hxd).2) step
   .unfold wI at g;rw[if_neg hw]at g;obtain⟨u,I,F⟩:=(wU qx).1 g;refine(wU qx).2 ⟨u,(qE qx (λt e=>(A t e).1)).1 I,?_⟩;show wI P wi y K (a.put x.1.dst u) w;unfold wI;rw[if_neg (by rw[ej (λt e=>(zj (m t e).1).1)];exact hw),D];exact F
 .-- x acts,y is pure
  have q:(kz x.1.op||jN x.1.op)=false:=by simpa using qx
  have pq:kz y.1.op=true∨(ow x.1.op=true/\jN y.1.op=true):=by
   try simp only[vS,vG]at N
   simp only[Bool.or_eq_false_iff]at q;rcases N with((h|h)|h)|h
   .rw[q.1]at h;cases h
   .exact .inl h
   .rw[q.2]at h;cases h.1
   .exact .inr h
  have E:(kz y.1.op||jN y.1.op)=true:=by rcases pq with h|h<;>simp[h]
  simp only[Bool.or_eq_false_iff]at q;obtain⟨v,H,j⟩:=(wU E).1 g;have T:jM x.1.guard (a.put y.1.dst v)=jM x.1.guard a:=ej (λt e=>(zj (A t e).1).1);unfold wI at j|-;rw[T]at j;by_cases hw:jM x.1.guard a=true
  .rw[if_pos hw,if_neg (by simp[q.1]),if_neg (by simp[q.2])]at j|-;obtain⟨Q,B,S,_⟩:=jP Z.low;obtain⟨J,j⟩:=j;unfold Dy at j;have s:execOp (a.put y.1.dst v).eval x.2=execOp a.eval x.2:=
    execOp_congr x.2 Z.aX (λz X=>nV (λt e=>(zj (A t e).1).2.2 (by simp[q.1,q.2])) (by simpa using X))
   rw[s]at j J;refine⟨J,?_⟩;unfold Dy;have step:jw P x.2 a (λO w'=>K (O.put y.1.dst v) w') wi ((execOp a.eval x.2).run P w):=by
    cases hyd:y.1.dst with
    |none=>rw[hyd]at j;exact j
    |some d=>
     rw[hyd]at j;exact SB (by rw[<- B];exact(A d hyd).2) j
   have G:∀{b:Act} {w':World},(∃ds u,b={a with defers:=ds}.put x.2.dst u)->Yv P y a w' v->K (b.put y.1.dst v) w'->wI P wi y K b w':=by
    rintro b w' ⟨ds,u,rfl⟩ H F
    refine(wU E).2 ⟨v,?_,F⟩;rw[<- B];exact(qE E (λt e=>(m t e).1)).2 (tJ.2 H)
   rcases pq with py|⟨M,_⟩
   rotate_left
   .obtain⟨u,w',bO,L⟩:=J M;rw[bO]at step|-;exact G ⟨a.defers,u,rfl⟩ (Yv_ext H L) step
   have fin:∀{b:Act} {w':World},(∃ds u,b={a with defers:=ds}.put x.2.dst u)->K (b.put y.1.dst v) w'->wI P wi y K b w':=λhb F=>G hb ((Ns py).1 H) F
   generalize (execOp a.eval x.2).run P w=r at step;cases r with
   |ok M w'=>
    cases M<;>simp only[jw]at step|-
    case value u=>exact fin ⟨a.defers,u,rfl⟩ step
    case skip=>exact fin ⟨a.defers,undef,rfl⟩ step
    case enter f a5=>exact Calls.mono step (λe Y s=>by cases e<;>first|exact fin ⟨a.defers,_,rfl⟩ s|exact s)
    case round l f tmps assign body=>exact RoundIn.mono step (λe Y s=>by cases e<;>first|exact fin ⟨a.defers,_,rfl⟩ s|exact s)
   |halt z w'=>cases z<;>simp only[jw]at step|- <;> exact step
  .rw[if_neg hw]at j|-;refine(wU E).2 ⟨v,(qE E (λt e=>(m t e).1)).2 H,?_⟩;rw[D];exact j
def toFront {X:Nat->RO×Oper}{Q:Act->World->Prop}(i:Nat)(m:List Nat)(s:Good P n ops (X i)):∀(d:List Nat),(∀j∈d,Good P n ops (X j)/\indep (X i) (X j)=true)->
 ∀{a w},cK P wi Q ((d++i::m).map X) a w->cK P wi Q ((i::(d++m)).map X) a w:=by
 intro d
 induction d with
 |nil=>intro _ a w h;exact h
 |cons j d ih=>
  intro q a w h;have B:wI P wi (X j) (cK P wi Q ((i::(d++m)).map X)) a w:=fQ (λa w h=>ih (λk C=>q k (by simp[C])) h) h;obtain⟨A,g⟩:=q j Zs;exact swap s A g B
def reorder {X:Nat->RO×Oper}{Q:Act->World->Prop}:∀(l o:List Nat),o.Perm l->l.Nodup->(∀i∈l,Good P n ops (X i))->
 o.Pairwise (λx y=>indep (X y) (X x)=true∨[x,y].Sublist l)->∀{a w},cK P wi Q (o.map X) a w->cK P wi Q (l.map X) a w:=by
 intro l
 induction l with
 |nil=>intro o q _ _ _ a w h;rw[List.perm_nil.1 q]at h;exact h
 |cons i l ih=>
  intro o q K C E a w h;have I:i∈o:=q.mem_iff.2 Zs;obtain⟨o1,d,rfl⟩:=List.append_of_mem I;have B:=QX.1 K;have m:∀x∈o1,indep (X i) (X x)=true:=by
   intro x g;have F:=(List.pairwise_append.1 E).2.2 x g i Zs;rcases F with h|h
   .exact h
   .exfalso;cases h with
    |cons _ h=>exact B.1 (h.subset Zs)
    |cons_cons _ h=>exact B.1 (h.subset Zs)
  have H:=toFront i d (C i Zs) o1 (λx g=>⟨C x (q.mem_iff.1 (by simp[g])),m x g⟩) h;have s:(o1++d).Perm l:=by
   have:=(Qd (a:=i) (l₁:=o1) (l₂:=d)).symm.trans q;exact List.Perm.cons_inv this
  refine fQ (λa w h=>ih (o1++d) s B.2 (λj J=>C j (by simp[J])) ?_ h) H;have G:(o1++d).Sublist (o1++i::d):=List.Sublist.append_left (Qh i d) o1;have A:=E.sublist G;refine A.imp_of_mem (λ{x y} g hy h=>?_);rcases h with h|h
  .exact .inl h
  .right;have D:x≠i:=by rintro rfl;exact B.1 (s.mem_iff.1 g)
   cases h with
   |cons _ h=>exact h
   |cons_cons _ h=>exact absurd rfl D
end
def Nq(l:List Nat)(x y:Nat):Prop:=x∈l/\y∈l/\l.idxOf x<l.idxOf y
def eC {a x:Nat}{l:List Nat}(h:a≠x):List.idxOf x (a::l)=List.idxOf x l+1:=by
 rw[List.idxOf_cons,show(a==x)=false from beq_eq_false_iff_ne.2 h];rfl
def Nq.trans {l x y z}(h:Nq l x y)(k:Nq l y z):Nq l x z:=⟨h.1,k.2.1,Nat.lt_trans h.2.2 k.2.2⟩
def Nq.sub {x y}:∀{l:List Nat},Nq l x y->[x,y].Sublist l:=by
 intro l
 induction l with
 |nil=>rintro⟨h,_⟩;simp at h
 |cons a l ih=>
  rintro⟨m,j,d⟩
  by_cases ex:a=x
  .subst ex;refine List.Sublist.cons_cons _ (List.singleton_sublist.2 ?_);rcases QJ.1 j with rfl|h
   .simp at d
   .exact h
  .refine List.Sublist.cons _ (ih ?_);have q:x∈l:=by rcases QJ.1 m with rfl|h;exact absurd rfl ex;exact h
   have g:a≠y:=by
    rintro rfl
    simp[List.idxOf_cons]at d
   have s:y∈l:=by rcases QJ.1 j with rfl|h;exact absurd rfl g;exact h
   refine⟨q,s,?_⟩;rw[eC ex,eC g]at d;omega
def AR {x y}:∀{l:List Nat},l.Nodup->[x,y].Sublist l->Nq l x y:=by
 intro l
 induction l with
 |nil=>intro _ h;cases h
 |cons a l ih=>
  intro A h;have d:=QX.1 A;cases h with
  |cons _ h=>
   obtain⟨j,m,h3⟩:=ih d.2 h;have s:a≠x:=by rintro rfl;exact d.1 j
   have g:a≠y:=by rintro rfl;exact d.1 m
   exact⟨by simp[j],by simp[m],by rw[eC s,eC g];omega⟩
  |cons_cons _ h=>
   have q:y∈l:=List.singleton_sublist.1 h;have g:x≠y:=by rintro rfl;exact d.1 q
   exact⟨Zs,by simp[q],by rw[eC g];simp⟩
section
variable {ops:Array Oper}
def jo(ops:Array Oper)(iI t:Nat)(listed:Array Bool):List Nat:=Region.linearise.go .any ops iI t listed []
def MW(g t:Nat)(d:Array Bool):jo ops (g+1) t d=
 match(Region.ready .any ops d)[t%(Region.ready .any ops d).length]? with
 |some i=>i::jo ops g (t/(Region.ready .any ops d).length) (d.setIfInBounds i true)
 |none=>[]:=by
 unfold jo;simp only[Region.linearise.go];change (match(Region.ready .any ops d)[t%(Region.ready .any ops d).length]? with
  |some i=>Region.linearise.go .any ops g (t/(Region.ready .any ops d).length) (d.setIfInBounds i true) [i]
  |none=>[].reverse)=_
 split
 .rw[linearise_go_acc];simp
 .simp
def zR(ops:Array Oper):Bool:=ops.toList.zipIdx.all fun(o,i)=>o.after.all λe=>!Region.binds .any e||e.on<i
def fV(h:zR ops=true){i:Nat}{o:Oper}(q:ops[i]? =some o){e:Edge}(j:e∈o.after)(g:Region.binds .any e=true):e.on<i:=by
 simp only[zR,vf]at h;have m:(o,i)∈ops.toList.zipIdx:=by
  rw[List.mem_zipIdx_iff_getElem?];simpa using q
 have d:=Array.all_eq_true_iff_forall_mem.1 (h _ m) e j;simpa[g]using d
def qg(ops:Array Oper)(listed:Array Bool):List Nat:=(List.range ops.size).filter λi=>!listed.getD i true
def XQ(h:zR ops=true){d:Array Bool}(hs:d.size=ops.size)(J:qg ops d≠[]):Region.ready .any ops d≠[]:=by
 obtain⟨i,A,m⟩:∃i,i∈qg ops d/\∀j,j<i->j∉qg ops d:=by
  obtain⟨k,g⟩:=List.exists_mem_of_ne_nil _ J;have:∀n,∀k,k<=n->k∈qg ops d->∃i,i∈qg ops d/\∀j,j<i->j∉qg ops d:=by
   intro n
   induction n with
   |zero=>intro k E g;exact⟨k,g,λj B=>by omega⟩
   |succ n ih=>
    intro k E g;by_cases hex:∃j,j<k/\j∈qg ops d
    .obtain⟨j,B,q⟩:=hex;exact ih j Zo q
    .exact⟨k,g,λj B q=>hex ⟨j,B,q⟩⟩
  exact this k k (Qs _) g
 intro I;have:i∈Region.ready .any ops d:=by
  simp only[qg,QM,QS,vP]at A;rw[mem_ready];obtain⟨o,C⟩:∃o,ops[i]? =some o:=⟨ops[i],by simp[A.1]⟩;refine⟨A.2,o,C,λe s H=>?_⟩;have F:=fV h C s H;have:=m e.on F;simp only[qg,QM,QS,vP,not_and,Bool.not_eq_false]at this;have G:=this Zo;have D:e.on<d.size:=by omega
  simpa[D]using G
 rw[I]at this;cases this
def yX(T:zR ops=true):∀(m t:Nat) (d:Array Bool),d.size=ops.size->(qg ops d).length<=m->
 (jo ops m t d).Nodup/\(∀i,i∈jo ops m t d↔i∈qg ops d)/\
 ∀i∈jo ops m t d,∀o,ops[i]? =some o->∀e∈o.after,Region.binds .any e=true->d.getD e.on false=true∨Nq (jo ops m t d) e.on i:=by
 intro m
 induction m with
 |zero=>
  intro t d C X;have F:qg ops d=[]:=Q4.1 Zo;have:jo ops 0 t d=[]:=by simp[jo,Region.linearise.go]
  rw[this,F];simp
 |succ m ih=>
  intro t d C X;rw[MW];cases hr:(Region.ready .any ops d)[t%(Region.ready .any ops d).length]? with
  |none=>
   have F:qg ops d=[]:=by
    by_cases hu:qg ops d=[]
    .exact hu
    .have Q:=XQ T C hu;have O:t%(Region.ready .any ops d).length<(Region.ready .any ops d).length:=Nat.mod_lt _ (List.length_pos_iff.2 Q);rw[Zg O]at hr;cases hr
   simp[F]
  |some i=>
   have U:=Zv hr;obtain⟨E,o,L,q⟩:=mem_ready.1 U;have J:i<ops.size:=(v9.1 L).1;have s:i∈qg ops d:=by simp only[qg,QM,QS,vP];exact⟨J,E⟩
   have uw:∀j,(d.setIfInBounds i true).getD j true=if j=i then true else d.getD j true:=by
    intro j;by_cases e:j=i
    .subst e;simp[C,J]
    .rw[getD_set_ne true (Ne.symm e)];simp[e]
   have D:∀j,j∈qg ops (d.setIfInBounds i true)↔j∈qg ops d/\j≠i:=by
    intro j;simp only[qg,QM,QS,vP,uw];by_cases e:j=i<;>simp[e]
   have B:(qg ops (d.setIfInBounds i true)).length<=m:=by
    have Y:(qg ops (d.setIfInBounds i true)).Perm ((qg ops d).erase i):=by
     have N:(qg ops d).Nodup:=QY.filter _;refine(Qc (QY.filter _) (N.erase i)).2 (λj=>?_);rw[N.mem_erase_iff];rw[show(j∈List.filter (λk=>!(d.setIfInBounds i true).getD k true) (List.range ops.size))↔_ from D j];exact And.comm
    have:=Y.length_eq;rw[List.length_erase_of_mem s]at this;have lC:0<(qg ops d).length:=List.length_pos_of_mem s;omega
   obtain⟨Z,M,n3⟩:=ih (t/(Region.ready .any ops d).length) (d.setIfInBounds i true) (by simp[C]) B;have g:i∉jo ops m (t/(Region.ready .any ops d).length) (d.setIfInBounds i true):=λh=>((D i).1 ((M i).1 h)).2 rfl
   refine⟨QX.2 ⟨g,Z⟩,λj=>?_,λj W o' G e K I=>?_⟩
   .rw[QJ,M,D];constructor
    .rintro(rfl|h);exact s;exact h.1
    .intro h;by_cases e:j=i;exact .inl e;exact .inr ⟨h,e⟩
   .rcases QJ.1 W with rfl|N2
    .rw[L]at G;cases G;exact .inl (q e K I)
    .have H:i≠j:=λe=>g (e ▸ N2)
     rcases n3 j N2 o' G e K I with h|h
     .by_cases A:e.on=i
      .right;exact⟨by simp[A],by simp[N2],by rw[A,eC H];simp⟩
      .left;rw[getD_set_ne false (Ne.symm A)]at h;exact h
     .right;have A:i≠e.on:=λS=>g (S ▸ h.1)
      exact⟨by simp[h.1],by simp[N2],by rw[eC A,eC H];have:=h.2.2;omega⟩
inductive To (ops:Array Oper):Nat->Nat->Prop where
 |Uv {i:Nat} {o:Oper} {e:Edge}:ops[i]? =some o->e∈o.after->Region.binds .any e=true->To ops e.on i
 |step {i j:Nat} {o:Oper} {e:Edge}:ops[i]? =some o->e∈o.after->Region.binds .any e=true->To ops j e.on->To ops j i
def tL(s:List Nat)(l:List Nat):List Nat:=l.foldl (λs x=>if s.contains x then s else x::s) s
def Cx {x:Nat}:∀{l s:List Nat},x∈tL s l->x∈s∨x∈l:=by
 intro l
 induction l with
 |nil=>intro s h;exact .inl h
 |cons a l ih=>
  intro s h;simp only[tL,Vg]at h;rcases ih (s:=if s.contains a then s else a::s) h with h|h
  .split at h
   .exact .inl h
   .rcases QJ.1 h with rfl|h
    .exact .inr Zs
    .exact .inl h
  .exact .inr (by simp[h])
def rY(acc:List (List Nat))(o:Oper):List Nat:=
 o.after.toList.foldl (λs e=>if Region.binds .any e then tL (tL s [e.on]) (acc.getD e.on [])else s) []
def T6:List Oper->List (List Nat)->List (List Nat)
 |[],acc=>acc
 |o::r,acc=>T6 r (acc++[rY acc o])
def lh(ops:Array Oper):List (List Nat):=T6 ops.toList []
def DD {d:List (List Nat)}{k:Nat}{o:Oper}(D:ops[k]? =some o)(m:∀j x,x∈d.getD j []->To ops x j){x:Nat}(g:x∈rY d o):To ops x k:=by
 unfold rY at g;have:∀(l:List Edge) (s:List Nat),(∀e∈l,e∈o.after)->(∀x∈s,To ops x k)->∀x∈l.foldl (λs e=>if Region.binds .any e then tL (tL s [e.on]) (d.getD e.on [])else s) s,To ops x k:=by
  intro l
  induction l with
  |nil=>intro s _ q x g;exact q x g
  |cons e l ih=>
   intro s B q x g;simp only[Vg]at g;refine ih _ (λe A=>B e (by simp[A])) (λy hy=>?_) x g;split at hy
   .rename_i C;rcases Cx hy with hy|hy
    .rcases Cx hy with hy|hy
     .exact q y hy
     .rw[QU.1 hy];exact .Uv D (B e Zs) C
    .exact .step D (B e Zs) C (m _ _ hy)
   .exact q y hy
 exact this o.after.toList [] (λe A=>by simpa using A) (λ_ h=>by cases h) x g
def Iu:∀(l:List Oper) (d:List (List Nat)),(∀j,l[j]? =ops[d.length+j]?)->(∀j x,x∈d.getD j []->To ops x j)->∀j x,x∈(T6 l d).getD j []->To ops x j:=by
 intro l
 induction l with
 |nil=>intro d _ h;exact h
 |cons o l ih=>
  intro d s g;refine ih (d++[rY d o]) (λj=>?_) (λj x m=>?_)
  .have:=s (j+1);simp only[Vm]at this;rw[this];simp;congr 1;omega
  .by_cases e:j<d.length
   .rw[Vh,Vj e,<- Vh]at m;exact g j x m
   .rw[Vh,Vl Zo]at m;by_cases e2:j-d.length=0
    .rw[e2]at m;have A:j=d.length:=by omega
     subst A;have q:=s 0;simp at q m;exact DD q.symm g m
    .have:([rY d o]:List (List Nat))[j-d.length]? =none:=by
      rw[Vp];simp;omega
     rw[this]at m;simp at m
def ma {x j:Nat}(h:x∈(lh ops).getD j []):To ops x j:=Iu ops.toList [] Zs Zs j x h
def Ar(q:zR ops=true){m t:Nat}(A:ops.size<=m){x y:Nat}(h:To ops x y):y<ops.size->Nq (jo ops m t (Array.replicate ops.size false)) x y:=by
 have s:qg ops (Array.replicate ops.size false)=List.range ops.size:=zBF
 obtain⟨s1,B,C⟩:=yX q m t (Array.replicate ops.size false) Zs (by rw[s];simpa using A);have Uv:∀{i:Nat} {o:Oper} {e:Edge},ops[i]? =some o->e∈o.after->Region.binds .any e=true->Nq (jo ops m t (Array.replicate ops.size false)) e.on i:=by
  intro i o e d j g;have hi:i<ops.size:=(v9.1 d).1;rcases C i ((B i).2 (by rw[s];simpa using hi)) o d e j g with h|h
  .have:e.on<ops.size:=Nat.lt_trans (fV q d j g) hi;simp[this]at h
  .exact h
 induction h with
 |Uv d j g=>intro _;exact Uv d j g
 |step d j g _ ih=>
  intro hi;exact(ih (Nat.lt_trans (fV q d j g) hi)).trans (Uv d j g)
def Ck(x:Nat):List Nat->List (List Nat)
 |[]=>[[x]]
 |y::r=>(x::y::r)::(Ck x r).map (y::·)
def JQ:List Nat->List (List Nat)
 |[]=>[[]]
 |x::r=>(JQ r).flatMap (Ck x)
def MF {x:Nat}(d g:List Nat):d++x::g∈Ck x (d++g):=by
 induction d with
 |nil=>cases g<;>simp[Ck]
 |cons a d ih=>simp only[vq,Ck,QJ,QO];right;exact⟨_,ih,rfl⟩
def uH:∀{d s:List Nat},s.Perm d->s∈JQ d:=by
 intro d
 induction d with
 |nil=>intro s h;rw[List.perm_nil.1 h];simp[JQ]
 |cons x d ih=>
  intro s h;have m:x∈s:=h.mem_iff.2 Zs;obtain⟨g,j,rfl⟩:=List.append_of_mem m;have:=ih (List.Perm.cons_inv ((Qd (a:=x) (l₁:=g) (l₂:=j)).symm.trans h));simp only[JQ,QN];exact⟨_,this,MF g j⟩
def ι(x y:Nat):List Nat->Bool
 |[]=>false
 |z::r=>if z=x then r.contains y else ι x y r
def Ua {x y:Nat}:∀{l:List Nat},ι x y l=true->[x,y].Sublist l:=by
 intro l
 induction l with
 |nil=>intro h;cases h
 |cons z r ih=>
  intro h;simp only[ι]at h;split at h
  .rename_i e;subst e;exact List.Sublist.cons_cons _ (List.singleton_sublist.2 (by simpa using h))
  .exact List.Sublist.cons _ (ih h)
def yI(p:Nat->Nat->Bool):List Nat->Bool
 |[]=>true
 |x::r=>r.all (p x)&&yI p r
def D5 {p:Nat->Nat->Bool}:∀{l:List Nat},yI p l=true->l.Pairwise λx y=>p x y=true:=by
 intro l
 induction l with
 |nil=>intro _;exact .nil
 |cons x r ih=>
  intro h;simp only[yI,vG,vf]at h;exact .cons h.1 (ih h.2)
def JA {n:Nat}:∀{o:List Nat},o.Nodup->(∀x∈o,x<n)->o.length=n->∀{x},x<n->x∈o:=by
 induction n with
 |zero=>intro o _ _ _ x G;omega
 |succ n ih=>
  intro o j s C x G;have A:n∈o:=by
   refine Classical.byContradiction λD=>?_
   have g:∀x∈o,x<n:=λy d=>by
    have:=s y d;have:y≠n:=λe=>D (e ▸ d)
    omega
   have q:∀(m:Nat) (l:List Nat),l.Nodup->(∀y∈l,y<m)->l.length<=m:=by
    intro m
    induction m with
    |zero=>intro l _ h;cases l with|nil=>simp|cons a l=>exact absurd (h a Zs) Zo
    |succ m ihm=>
     intro l B F;have:=ihm (l.erase m) (B.erase m) (λy d=>by
      have E:=F y (List.mem_of_mem_erase d);have g:y≠m:=λe=>by rw[e]at d;exact(B.mem_erase_iff.1 d).1 rfl
      omega)
     by_cases hm:m∈l
     .rw[List.length_erase_of_mem hm]at this;omega
     .rw[List.erase_of_not_mem hm]at this;omega
   have:=q n o j g;omega
  by_cases e:x=n
  .exact e ▸ A
  .have:=ih (o:=o.erase n) (j.erase n) (λy d=>by
    have E:=s y (List.mem_of_mem_erase d);have g:y≠n:=λe=>by rw[e]at d;exact(j.mem_erase_iff.1 d).1 rfl
    omega) (by rw[List.length_erase_of_mem A];omega) (x:=x) Zo
   exact List.mem_of_mem_erase this
instance:Inhabited RO:=⟨⟨none,none,.p8⟩⟩
def oW(rs:List (RO×Oper))(x y:Nat):Bool:=match rs[x]?,rs[y]? with|some a,some b=>indep b a|_,_=>false
def nodupB:List Nat->Bool
 |[]=>true
 |x::r=>!r.contains x&&nodupB r
def xJ:∀{l:List Nat},nodupB l=true->l.Nodup:=by
 intro l
 induction l with
 |nil=>intro _;exact .nil
 |cons x r ih=>
  intro h;simp only[nodupB,vG,vP]at h;exact QX.2 ⟨by simpa using h.1,ih h.2⟩
def IF(both:Bool)(rs:List (RO×Oper))(an:List (List Nat))(n:Nat):List Nat:=
 (List.range n).filter λx=>(List.range n).any λy=>x !=y&&!(an.getD x []).contains y&&!(an.getD y []).contains x&&!(if both then oW rs x y&&oW rs y x else oW rs x y||oW rs y x)
def fW(both:Bool)(rs:List (RO×Oper))(ops:Array Oper)(orders:List (List Nat)):Bool:=
 let an:=lh ops
 let n:=ops.size
 let d:=IF both rs an n
 zR ops&&nodupB d&&orders.all (λo=>o.length==n&&nodupB o&&o.all (·< n))&&
 (JQ d).all λs=>!(yI (λx y=>!(an.getD x []).contains y) s)||orders.any λo=>yI (λx y=>oW rs x y||(an.getD y []).contains x||ι x y s) o
def qM(rs:List (RO×Oper))(ops:Array Oper)(orders:List (List Nat)):Bool:=fW false rs ops orders||fW true rs ops orders
def NL {j:Bool}{P:Program}{n:Nat}{rs:List (RO×Oper)}{g:List (List Nat)}{Q:Act->World->Prop}{a:Act}{w:World}(D:rs.length=ops.size)(K:∀(i:Nat) x,rs[i]? =some x->Good P n ops x)
 (C:fW j rs ops g=true) (h:∀o∈g,cK P wi Q (o.map λi=>rs.getD i default) a w) (t:Nat):
 cK P wi Q ((jo ops ops.size t (Array.replicate ops.size false)).map λi=>rs.getD i default) a w:=by
 simp only[fW,vG]at C;obtain⟨⟨⟨B,hd⟩,M⟩,hp⟩:=C;have E:qg ops (Array.replicate ops.size false)=List.range ops.size:=zBF
 obtain⟨s1,F,_⟩:=yX B ops.size t (Array.replicate ops.size false) Zs (by rw[E];simp);generalize L:jo ops ops.size t (Array.replicate ops.size false)=l at s1 F|-;have hanc:∀{x y:Nat},y<ops.size->x∈(lh ops).getD y []->Nq l x y:=λhy hx=>L ▸ Ar B (Qs _) (ma hx) hy
 have bX:∀i,i∈l↔i<ops.size:=λi=>by rw[F,E];simp
 generalize L5:IF j rs (lh ops) ops.size=d at hd hp;have hdlt:∀x∈d,x<ops.size:=zDJ
 have N:(l.filter (d.contains ·)).Perm d:=zBX
 have m:=vf.1 hp _ (uH N);simp only[vS,vP,vh]at m;have H:yI (λx y=>!((lh ops).getD x []).contains y) (l.filter (d.contains ·))=true:=zAI
 rcases m with m|⟨o,A,hpo⟩
 .rw[H]at m;cases m
 have G:=vf.1 M o A;simp only[vG,beq_iff_eq,vf,decide_eq_true_eq]at G;obtain⟨⟨o1,o2⟩,o3⟩:=G;have J:o.Perm l:=zAT
 refine reorder (P:=P) (n:=n) (ops:=ops) l o J s1 (λi hi=>?_) ?_ (h o A)
 .have ck:=(bX i).1 hi;have:rs[i]? =some (rs.getD i default):=by
   rw[Vh];have I:i<rs.length:=by omega
   simp[I]
  exact K i _ this
 .exact zB4
def cover {P:Program}{n:Nat}{rs:List (RO×Oper)}{d:List (List Nat)}{Q:Act->World->Prop}{a:Act}{w:World}(g:rs.length=ops.size)(j:∀(i:Nat) x,rs[i]? =some x->Good P n ops x)
 (hc:qM rs ops d=true) (h:∀o∈d,cK P wi Q (o.map λi=>rs.getD i default) a w) (t:Nat):
 cK P wi Q ((jo ops ops.size t (Array.replicate ops.size false)).map λi=>rs.getD i default) a w:=by
 unfold qM at hc;rcases vT.1 hc with hc|hc
 .exact NL g j hc h t
 .exact NL g j hc h t
end
abbrev Env:=List (Nat×Value)
abbrev SH:=List (List kC)
def look:Env->Nat->Option Value
 |[],_=>none
 |(s,v)::r,t=>if s=t then some v else look r t
def ev(Γ:Env):Operand->Option Value
 |.tmp t=>look Γ t
 |.const v=>some v
 |.global g=>some (.pointer (some ⟨g,0,none⟩))
 |.func f=>some (.func (.func f) #[] #[])
def nW(Γ:Env):List Operand->Option (List Value)
 |[]=>some []
 |x::r=>match ev Γ x,nW Γ r with
  |some v,some l=>some (v::l)
  |_,_=>none
structure wF (n:Nat)(Γ:Env)(a:Act):Prop where
 size:a.tmps.size=n
 slots:∀t v,look Γ t=some v->a.tmps[t]? =some v
def Sub(Γ Δ:Env):Prop:=∀t v,look Δ t=some v->look Γ t=some v
def wF.sub {n Γ Δ a}(h:wF n Γ a)(s:Sub Γ Δ):wF n Δ a:=⟨h.size,λt v e=>h.slots t v (s t v e)⟩
def wF.put {n Γ a}(h:wF n Γ a){d}(m:d < n)(v):wF n ((d,v)::Γ) (a.put (some d) v):=by
 refine⟨by simp[Act.put,h.size],λt u e=>?_⟩;simp only[look]at e;split at e
 .rename_i g;subst g;cases e;simp[Act.put,h.size,m]
 .rename_i j;simp only[Act.put,vB j];exact h.slots t u e
def wF.ev {n Γ a}(h:wF n Γ a){x v}(e:ev Γ x=some v):a.eval x=v:=by
 cases x with
 |tmp t=>simp only[V.ev]at e;simp[Act.eval,Array.getD_eq_getD_getElem?,h.slots t v e]
 |const u=>simpa[V.ev,Act.eval]using e
 |global g=>simpa[V.ev,Act.eval]using e
 |func f=>simpa[V.ev,Act.eval]using e
def wF.nW {n Γ a}(h:wF n Γ a):∀{l:List Operand} {vs:List Value},nW Γ l=some vs->l.map a.eval=vs:=by
 intro l
 induction l with
 |nil=>intro vs e;simp[V.nW]at e;subst e;rfl
 |cons x r ih=>
  intro vs e;simp only[V.nW]at e;split at e
  .rename_i v l g d;cases e;simp[h.ev g,ih d]
  .cases e
def au(d:Option Nat)(v:Value)(Γ:Env):Env:=match d with|some d=>(d,v)::Γ|none=>Γ
def wF.au {n Γ a}(h:wF n Γ a){d}(g:∀t,d=some t->t < n)(v):wF n (V.au d v Γ) (a.put d v):=by
 cases d with
 |none=>exact h
 |some d=>exact h.put (g d rfl) v
def tG(P:Program)(n:Nat)(rs:List RO)(l:List (RO×Oper)):Prop:=l.map (·.1)=rs/\∀x∈l,∃ops,eG P n ops x.2=some x.1
def jp(a:Act)(d:Option Nat)(v:Value):(a.put d v).defers=a.defers:=by cases d<;>rfl
def VO(P:Program)(n:Nat)(rs:List RO)(Γ:Env)(H:SH)(Z:List PanicEntry->Env->SH->Prop)(K:Env->SH->Prop):Prop:=
 ∀l,tG P n rs l->∀a w F (ZZ:Exit->Act->World->Prop) (Q:Act->World->Prop),wF n Γ a->Sat w (H.flatten++F)->
  (∀a' w' aB H',K aB H'->wF n aB a'->a'.defers=a.defers->Sat w' (H'.flatten++F)->j9 w w'->Q a' w')->
  (∀ch a' w' aB H',Z ch aB H'->wF n aB a'->a'.defers=a.defers->Sat w' (H'.flatten++F)->j9 w w'->ZZ (.panic ch) a' w')->cK P ZZ Q l a w
def aq(P:Program)(f:Nat)(a5:List Value)(bD:SH)(Q:Value->SH->Prop):Prop:=
 wK P f=true/\∀F w,Sat w (bD.flatten++F)->
  Calls P f a5.toArray w λe w'=>∃v dl,e=.returned v/\Q v dl/\Sat w' (dl.flatten++F)/\j9 w w'
def fq(H bD R:SH):Prop:=H.flatten.Perm (bD.flatten++R.flatten)
section
variable {P:Program} {n:Nat} {rs:List RO} {Γ Δ:Env} {H:SH} {Z:List PanicEntry->Env->SH->Prop} {K:Env->SH->Prop}
def VO.nil(h:K Γ H):VO P n [] Γ H Z K:=by
 intro l g a w F ZZ Q d m j hz;obtain rfl:l=[]:=by simpa using g.1
 exact j a w Γ H h d rfl m (.refl w)
def VO.sub(s:Sub Γ Δ)(h:VO P n rs Δ H Z K):VO P n rs Γ H Z K:=λl j a w F d Q g q m A=>h l j a w F d Q (g.sub s) q m A
def VO.mono {K':Env->SH->Prop}(h:VO P n rs Γ H Z K)(q:∀Γ H,K Γ H->K' Γ H):VO P n rs Γ H Z K':=λl s a w F d Q m B A C=>h l s a w F d Q m B (λg w' j H' k=>A g w' j H' (q _ _ k)) C
def zi {r:RO}{l:List (RO×Oper)}(h:tG P n (r::rs) l):∃o j,l=(r,o)::j/\tG P n rs j/\∃ops,eG P n ops o=some r:=by
 obtain⟨d,g⟩:=h;cases l with
 |nil=>simp at d
 |cons x l=>
  simp at d;obtain⟨rfl,d⟩:=d;exact⟨x.2,l,rfl,⟨d,λy m=>g y (by simp[m])⟩,g x Zs⟩
def VO.pure {d:Option Nat}{r:R}{v:Value}(S:kz r=true)(W:∀ρ:Operand->Value,(∀x u,ev Γ x=some u->ρ x=u)->kb ρ r=some v)(h:VO P n rs (au d v Γ) H Z K):VO P n (⟨d,none,r⟩::rs) Γ H Z K:=by
 intro l N a w F j Q G U T X;obtain⟨o,I,rfl,J,ops,O⟩:=zi N;obtain⟨g1,g2,M,g4⟩:=jP O;show wI P j (_,o) (cK P j Q I) a w;unfold wI;simp only[jM,S,if_true];exact⟨v,W a.eval (λx u e=>G.ev e),h I J _ w F j Q (G.au M v) U (λm E q g s A B C D=>T m E q g s A (B.trans (jp ..)) C D) (λL m E q g s A B C D=>X L m E q g s A (B.trans (jp ..)) C D)⟩
def VO.read {d:Option Nat}{r:R}{v:Value}(Y:kz r=false)(hr:jN r=true)(hv:∀ρ:Operand->Value,(∀x u,ev Γ x=some u->ρ x=u)->∃s,wd ρ r=some s/\∀F w,Sat w (H.flatten++F)->s.run P w=.ok (.value v) w)
 (h:VO P n rs (au d v Γ) H Z K):VO P n (⟨d,none,r⟩::rs) Γ H Z K:=by
 intro l W a w F m Q I J hq hz;obtain⟨o,L,rfl,M,ops,X⟩:=zi W;obtain⟨g1,g2,S,g4⟩:=jP X;show wI P m (_,o) (cK P m Q L) a w;unfold wI;obtain⟨s,T,U⟩:=hv a.eval (λx u e=>I.ev e);simp only[jM,Y,hr,if_true,vN,if_false];exact⟨s,v,T,λg O=>U F g (J.ext O),h L M _ w F m Q (I.au S v) J (λq g A j B C D E G=>hq q g A j B C (D.trans (jp ..)) E G) (λN q g A j B C D E G=>hz N q g A j B C (D.trans (jp ..)) E G)⟩
def sf {w:World}(o:Obj):Ext w {w with heap:=w.heap.push o}:=λi x h=>by
 have d:=(v9.1 h).1;show(w.heap.push o)[i]? =_;rw[Array.getElem?_push,if_neg (Nat.ne_of_lt d)];exact h
def LP {w:World}{a:Addr}{n:Nat}(h:w.heap.size<=a.block):∀{w':World},Ext w w'->Ext w (w'.freeze a n):=by
 intro w' e i o d;have hl:=(v9.1 d).1;unfold World.freeze;split
 .exact e _ _ d
 .have:=e _ _ d;simp only[vA,this,if_neg (show ¬a.block=i by omega)]
def iw {w w':World}{c:Array Value}{t:TypeId}{f:Nat->Next}{d:Next}(h:(do let b <- Go.newObj (.cells c t);pure (f b):Sem Next).run P w=.ok d w'):d=f w.heap.size/\Ext w w':=by
 simp only[Go.newObj,Sem.run_bind,Sem.run,Sem.run_pure,Result.andThen_ok]at h;cases h;exact⟨rfl,sf _⟩
def J6 {w w':World}{t:TypeId}{s:ByteArray}{v:Value}(h:(Conv.stringToBytes t s).run P w=.ok v w'):Ext w w':=by
 unfold Conv.stringToBytes at h;rw[Sem.run_bind]at h;obtain⟨cap,g,j,q⟩:=jH h;have D:g.heap=w.heap:=by
  simp only[Go.choose,Sem.run]at j;split at j<;>(cases j;rfl)
 have F:Ext w g:=λi o e=>by rw[D];exact e
 refine F.trans ?_;rw[Sem.run_bind]at q;obtain⟨a,E,A,B⟩:=jH q;have m:a=⟨g.heap.size,0,none⟩/\E={g with heap:=g.heap.push (.cells (s.data.map (λb=>Value.int .u8 b.toNat)++Array.replicate (cap-s.size) (.int .u8 0)) t)}:=by
  simp only[newRow,Go.newObj,Sem.run_bind,Sem.run,Sem.run_pure,Result.andThen_ok]at A;cases A;exact⟨rfl,rfl⟩
 obtain⟨rfl,rfl⟩:=m;rw[Sem.run_bind]at B;obtain⟨_,w3,d,C⟩:=jH B;rw[Sem.run_pure]at C;cases C;unfold markStringish at d;rw[Sem.run_bind]at d;simp only[Go.shape,Sem.run,Result.andThen_ok]at d;split at d
 .simp only[Go.freeze,Sem.run]at d;cases d;exact LP (Qs _) (sf _)
 .rw[Sem.run_pure]at d;cases d;exact sf _
def Ha {P:Program}{a:Addr}:∀(k i:Nat) (acc:Array Value) (w1:World) (r:Array Value) (w2:World),(loadCellsFrom a i k acc).run P w1=.ok r w2->w2=w1:=zBU
def qR {P:Program}{size n:Nat}{x:Value}{w w':World}{c:Array Value}(h:(Builtin.firstCells size n x).run P w=.ok c w'):w'=w:=by
 unfold Builtin.firstCells at h;split at h
 .exact Ha _ _ _ _ _ _ h
 .rw[Sem.run_pure]at h;cases h;rfl
 .rw[Sem.run_pure]at h;cases h;rfl
 .simp[stuck,Sem.run]at h
def W5 {ρ:Operand->Value}{r:R}{s:Sem Next}{w w':World}{D:Next}(E:∀u,ρ (.const u)=u)(j:ow r=true)(q:wd ρ r=some s)(h:s.run P w=.ok D w'):∃u,D=.value u/\Ext w w':=by
 cases r
 case append t size bytes zero sx x=>
  have e:sx=.const Nz :=by
   unfold ow at j;split at j<;>first|(rename_i e;cases e;done)|(rename_i e;cases e;rfl)|cases j
  subst e;simp only[wd,E,X9]at q;subst q;cases hm:eZ (ρ x)with
  |none=>rw[hm]at h;simp[stuck,Sem.run]at h
  |some m=>
   rw[hm]at h;simp only at h;split at h
   .rw[Sem.run_bind]at h;obtain⟨c,A,g,d⟩:=jH h;rw[qR g]at d;simp only[Sem.run_bind,Sem.run_pure,Result.andThen_ok]at d;cases d;exact⟨_,rfl,.refl _⟩
   .split at h
    .simp[stuck,Sem.run]at h
    .rw[Sem.run_bind]at h;obtain⟨cap,A,g,d⟩:=jH h;have F:A.heap=w.heap:=by
      simp only[Go.choose,Sem.run]at g;split at g<;>(cases g;rfl)
     have J:Ext w A:=λi o e=>by rw[F];exact e
     rw[Sem.run_bind]at d;obtain⟨I,w2,G,B⟩:=jH d;rw[qR G]at B;rw[Sem.run_bind]at B;obtain⟨new,w3,H,C⟩:=jH B;rw[qR H]at C;obtain⟨rfl,e⟩:=iw C;exact⟨_,rfl,J.trans e⟩
 all_goals simp only[ow]at j
 all_goals first|(cases j;done)|skip
 all_goals (simp only[wd,X9]at q;subst q)
 case alloc=>obtain⟨rfl,e⟩:=iw h;exact⟨_,rfl,e⟩
 case box=>obtain⟨rfl,e⟩:=iw h;exact⟨_,rfl,e⟩
 case nP=>
  split at h
  .obtain⟨rfl,e⟩:=iw h;exact⟨_,rfl,e⟩
  .simp[stuck,Sem.run]at h
 case p8=>
  simp only[Go.newObj,Sem.run_bind,Sem.run,Sem.run_pure,Result.andThen_ok]at h;cases h;exact⟨_,rfl,sf _⟩
 case s2b=>
  split at h
  .rw[Sem.run_bind]at h;obtain⟨v,A,g,d⟩:=jH h;rw[Sem.run_pure]at d;cases d;exact⟨_,rfl,J6 g⟩
  .simp[stuck,Sem.run]at h
def VO.act {d:Option Nat}{r:R}(hp:kz r=false)(hr:jN r=false)
 (hv:∀ρ:Operand->Value,(∀x u,ev Γ x=some u->ρ x=u)->∃s,wd ρ r=some s/\aS P s H.flatten λN L=>∃v H',(N=.value v∨(N=.skip/\v=undef))/\L.Perm H'.flatten/\VO P n rs (au d v Γ) H' Z K):
 VO P n (⟨d,none,r⟩::rs) Γ H Z K:=by
 intro l hl a w F h Q U hs hq hz;obtain⟨o,M,rfl,X,ops,ho⟩:=zi hl;obtain⟨g1,g2,g3,g4⟩:=jP ho;show wI P h (_,o) (cK P h Q M) a w;unfold wI;obtain⟨s,T,h2⟩:=hv a.eval (λx u e=>U.ev e);simp only[jM,hp,hr,if_true,vN,if_false];obtain⟨N,w',L,S,⟨v,H',B,hL,C⟩,Y,W⟩:=h2 F w hs;have m:=uI (ya a) g1 T S;refine⟨λhn=>?_,?_⟩
 .obtain⟨u,hu,g⟩:=W5 (ya a) hn T S;exact⟨u,w',by rw[m,hu],g⟩
 have fin:cK P h Q M (a.put o.dst v) w':=by
  rw[<- g2];exact C M X _ w' F h Q (U.au g3 v) (Y.perm (hL.append_right F)) (λq O A j D E G I J=>hq q O A j D E (G.trans (jp ..)) I (W.trans J)) (λch q O A j D E G I J=>hz ch q O A j D E (G.trans (jp ..)) I (W.trans J))
 rcases B with rfl|⟨rfl,rfl⟩
 .simpa only[Dy,m,jw]using fin
 .simpa only[Dy,m,jw]using fin
def VO.act' {d:Option Nat}{r:R}(A:kz r=false)(B:jN r=false)
 (D:∀ρ:Operand->Value,(∀x u,ev Γ x=some u->ρ x=u)->∃s,wd ρ r=some s/\aS P s H.flatten λg L=>∃v H' X,(g=.value v∨(g=.skip/\v=undef))/\L.Perm (List.flatten H'++X)/\VO P n rs (au d v Γ) H' Z K):
 VO P n (⟨d,none,r⟩::rs) Γ H Z K:=by
 refine VO.act A B (λρ j=>?_);obtain⟨s,m,q⟩:=D ρ j;refine⟨s,m,λF w C=>?_⟩;obtain⟨g,w',L,E,⟨v,H',X,G,I,J⟩,M,N⟩:=q F w C;refine⟨g,w',H'.flatten,E,⟨v,H',G,.refl _,J⟩,?_,N⟩;have:=M.perm (I.append_right F);exact zFL
def zt {f:Nat}{a5:Array Value}{w:World}(h:wK P f=true):(callFunc f a5).run P w=.ok (.enter f a5) w:=by
 unfold wK at h;split at h
 .rename_i fn g;simp only[vG,bne_iff_ne]at h;obtain⟨c,d⟩:=X4.1 h.2;simp[callFunc,g,h.1,d]
 .cases h
def OS {o:Oper}{a:Act}{w:World}{f:Nat}{a5:List Value}{next:Act->World->Prop}{j:Exit->Act->World->Prop}(m:(execOp a.eval o).run P w=.ok (.enter f a5.toArray) w)
 (h:Calls P f a5.toArray w λe w'=>(∃v,e=.returned v/\next (a.put o.dst v) w')∨(∃d,e=.panicked d/\j (.panic d) a w')):Dy P o a w next j:=by
 simp only[Dy,m,jw];refine h.mono ?_
 rintro e w' (⟨v,rfl,g⟩|⟨d,rfl,g⟩)
 .exact g
 .exact g
def VO.Uh {d:Option Nat}{r:R}{f:Nat}{a5:List Value}{g R:SH}{Q:Value->SH->Prop}(C:kz r=false)(D:jN r=false)(j:ow r=false)
 (E:∀(a:Act) (w:World) (o:Oper),(∀x u,ev Γ x=some u->a.eval x=u)->jJ P o.op=some r->(execOp a.eval o).run P w=.ok (.enter f a5.toArray) w)
 (s:aq P f a5 g Q) (hs:fq H g R) (h:∀v dl,Q v dl->VO P n rs (au d v Γ) (dl++R) Z K):VO P n (⟨d,none,r⟩::rs) Γ H Z K:=by
 intro l A a w F ZZ Q' ha lD hq hz;obtain⟨o,l',rfl,Ad,ops,B⟩:=zi A;obtain⟨q,g2,g3,g4⟩:=jP B;show wI P ZZ (_,o) (cK P ZZ Q' l') a w;unfold wI;simp only[jM,C,D,if_true,vN,if_false];refine⟨λe=>(by rw[j]at e;cases e),?_⟩;refine OS (E a w o (λx u e=>ha.ev e) q) ?_;have m:Sat w (g.flatten++(R.flatten++F)):=zE5
 refine(s.2 (R.flatten++F) w m).mono ?_
 rintro e w' ⟨v,dl,rfl,hQ,Ib,hk⟩
 refine .inl ⟨v,rfl,?_⟩;exact zC8
def sI {op:Op}{f:Nat}{xs:List Operand}(h:jJ P op=some (.call f xs)):∃c,op=.call c/\c.callee=.value (.func f)/\c.args.toList=xs/\wK P f=true:=by
 cases op
 case call c=>
  refine⟨c,rfl,?_⟩;obtain⟨d,a5,T8⟩:=c;simp only[jJ]at h;split at h
  .split at h
   .rename_i g;cases h;exact⟨rfl,rfl,g⟩
   .cases h
  .cases h
  all_goals (repeat' split at h)
  all_goals first
   |(cases h;done)
   |(simp only[X5]at h;obtain⟨_,_,h⟩:=h;cases h;done)
 all_goals (exfalso;try simp only[jJ]at h)
 all_goals (repeat' split at h)
 all_goals first
  |(cases h;done)
  |(simp only[X5]at h;obtain⟨_,_,h⟩:=h;cases h;done)
def E0 {op:Op}{x:Operand}{xs:List Operand}(h:jJ P op=some (.sd x xs)):∃c,op=.call c/\c.callee=.value x/\c.args.toList=xs:=by
 cases op
 case call c=>
  refine⟨c,rfl,?_⟩;obtain⟨d,a5,T8⟩:=c;simp only[jJ]at h;split at h
  .split at h
   .cases h
   .cases h
  .cases h;exact⟨rfl,rfl⟩
  all_goals (repeat' split at h)
  all_goals first
   |(cases h;done)
   |(simp only[X5]at h;obtain⟨_,_,h⟩:=h;cases h;done)
 all_goals (exfalso;try simp only[jJ]at h)
 all_goals (repeat' split at h)
 all_goals first
  |(cases h;done)
  |(simp only[X5]at h;obtain⟨_,_,h⟩:=h;cases h;done)
def VO.call {d:Option Nat}{f:Nat}{xs:List Operand}{a5:List Value}{j R:SH}{Q:Value->SH->Prop}(D:aq P f a5 j Q)(C:nW Γ xs=some a5)(E:fq H j R)
 (h:∀v dl,Q v dl->VO P n rs (au d v Γ) (dl++R) Z K):VO P n (⟨d,none,.call f xs⟩::rs) Γ H Z K:=by
 refine VO.Uh rfl rfl rfl (λa w o B g=>?_) D E h;obtain⟨c,q,s,h3,A⟩:=sI g;have hm:xs.map a.eval=a5:=by
  have:∀{l:List Operand} {vs:List Value},nW Γ l=some vs->l.map a.eval=vs:=by
   intro l
   induction l with
   |nil=>intro vs e;simp[nW]at e;subst e;rfl
   |cons x r ih=>
    intro vs e;simp only[nW]at e;split at e
    .rename_i v l F g;cases e;simp[B _ _ F,ih g]
    .cases e
  exact this C
 have m:(c.args.map a.eval)=a5.toArray:=zFV
 simp[execOp,q,resolve,s,Act.eval,Deferred.ofValue,invoke,m,zt A]
end
inductive IC where
 |skip
 |oJ (rs:List RO) (bj:List Nat)
 |draw (tD:List (List RO)) (bj:List Nat)
 |seq (a b:IC)
 |cond (c:Operand) (a b:IC)
 |block (id:Nat) (b:IC)
 |loop (b:IC)
 |exit (id:Nat)
 |ret
 |iR (g:Operand) (ps:List Nat) (K7 b:IC)
 |free (rs:List RO) (an:List (List Nat)) (bj:List Nat)
 |scope (b:IC)
 |label (l:Nat)
def yU(P:Program)(n:Nat)(ops:Array Oper):List Oper->Option (List RO)
 |[]=>some []
 |o::r=>match eG P n ops o,yU P n ops r with
  |some x,some l=>some (x::l)
  |_,_=>none
def zV(P:Program)(n:Nat)(kp:Nat->List Nat)(od:Nat->List (List Nat)):Code->Option IC
 |.skip=>some .skip
 |.region id ops false=>(yU P n ops ops.toList).map λrs=>.oJ rs (kp id)
 |.region id ops true=>
  match yU P n ops ops.toList with
  |some rs=>if(od id).isEmpty then(if P.follows .mixedOrders&&zR ops then some (.free rs (lh ops) (kp id))else none)else
   if P.follows .mixedOrders&&qM (rs.zip ops.toList) ops (od id)then some (.draw ((od id).map λo=>o.map λi=>rs.getD i default) (kp id))else none
  |none=>none
 |.seq a b=>match zV P n kp od a,zV P n kp od b with
  |some x,some y=>some (.seq x y)
  |_,_=>none
 |.cond c a b=>match zV P n kp od a,zV P n kp od b with
  |some x,some y=>some (.cond c x y)
  |_,_=>none
 |.block id b=>(zV P n kp od b).map (IC.block id)
 |.loop b=>(zV P n kp od b).map IC.loop
 |.exit id=>some (.exit id)
 |.ret=>some .ret
 |.rangeFunc g ps x b=>match zV P n kp od x,zV P n kp od b with
  |some x,some y=>if ps.all (·< n)then some (.iR g ps.toList x y)else none
  |_,_=>none
 |.scope b=>(zV P n kp od b).map IC.scope
 |.label l=>some (.label l)
 |_=>none
def LowInv(P:Program)(n:Nat)(kp:Nat->List Nat)(od:Nat->List (List Nat)):IC->Code->Prop
 |.skip,code=>code=.skip
 |.oJ rs bj,code=>∃id ops,code=.region id ops false/\yU P n ops ops.toList=some rs/\bj=kp id
 |.draw tD bj,code=>∃id ops rs,code=.region id ops true/\yU P n ops ops.toList=some rs/\P.follows .mixedOrders=true/\qM (rs.zip ops.toList) ops (od id)=true/\tD=((od id).map λo=>o.map λi=>rs.getD i default)/\bj=kp id
 |.free rs an bj,code=>∃id ops,code=.region id ops true/\yU P n ops ops.toList=some rs/\P.follows .mixedOrders=true/\zR ops=true/\an=lh ops/\bj=kp id
 |.seq x y,code=>∃a b,code=.seq a b/\zV P n kp od a=some x/\zV P n kp od b=some y
 |.cond c x y,code=>∃a b,code=.cond c a b/\zV P n kp od a=some x/\zV P n kp od b=some y
 |.block id x,code=>∃a,code=.block id a/\zV P n kp od a=some x
 |.loop x,code=>∃a,code=.loop a/\zV P n kp od a=some x
 |.exit id,code=>code=.exit id
 |.ret,code=>code=.ret
 |.iR g ps x y,code=>∃qs a b,code=.rangeFunc g qs a b/\qs.toList=ps/\(∀t∈ps,t<n)/\zV P n kp od a=some x/\zV P n kp od b=some y
 |.scope x,code=>∃a,code=.scope a/\zV P n kp od a=some x
 |.label l,code=>code=.label l
def ji {P n m s d c}(h:zV P n m s d=some c):LowInv P n m s c d:=by
 cases d with
 |skip=>simp only[zV]at h;cases h;rfl
 |region id ops b=>
  cases b
  .simp only[zV,X5]at h;obtain⟨rs,h1,rfl⟩:=h;exact⟨id,ops,rfl,h1,rfl⟩
  .simp only[zV]at h;split at h
   case h_2=>cases h
   rename_i rs h1;split at h
   .split at h
    case isFalse=>cases h
    rename_i j;simp only[vG]at j;cases h;exact⟨id,ops,rfl,h1,j.1,j.2,rfl,rfl⟩
   split at h
   case isFalse=>cases h
   rename_i j;simp only[vG]at j;cases h;exact⟨id,ops,rs,rfl,h1,j.1,j.2,rfl,rfl⟩
 |seq a b=>
  exact zFE
 |cond q a b=>
  exact zFE
 |block id b=>
  exact zDR
 |loop b=>
  exact zDR
 |exit id=>simp only[zV]at h;cases h;rfl
 |ret=>simp only[zV]at h;cases h;rfl
 |rangeFunc g ps a b=>
  simp only[zV]at h;split at h
  case h_2=>cases h
  rename_i x y h1 h2;split at h
  case isFalse=>cases h
  rename_i A;cases h;exact⟨ps,a,b,rfl,rfl,λt B=>by have:=Array.all_eq_true_iff_forall_mem.1 A t (by simpa using B);simpa using this,h1,h2⟩
 |scope b=>
  exact zDR
 |label l=>simp only[zV]at h;cases h;rfl
 |_=>simp only[zV]at h;cases h
def bh:List Nat->Env->Env
 |[],_=>[]
 |t::r,Γ=>match look Γ t with
  |some v=>(t,v)::bh r Γ
  |none=>bh r Γ
def pB(k Γ):Sub Γ (bh k Γ):=by
 induction k with
 |nil=>intro t v h;simp[bh,look]at h
 |cons s r ih=>
  intro t v h;simp only[bh]at h;split at h
  .rename_i u d;simp only[look]at h;split at h
   .rename_i e;subst e;cases h;exact d
   .exact ih t v h
  .exact ih t v h
def qK(r:Nat):Deferred:={target:=.collected r,args:=#[]}
def marks(X:List Nat):List kC:=X.map λr=>.obj r (.deferred (some []))
def Rnd(ρ:Option Nat)(F:List kC):Prop:=∀l,ρ=some l->∃r,kC.obj l (.loop r)∈F
def Rnd.more {ρ F d}(h:Rnd ρ F)(g:∀x∈F,x∈d):Rnd ρ d:=λl e=>let⟨r,hr⟩:=h l e;⟨r,g _ hr⟩
def VC(P:Program)(n:Nat)(c:IC)(Γ:Env)(H:SH)(Q:Exit->Env->SH->Prop):Prop:=
 ∀ρ kp od code,zV P n kp od code=some c->∀a w F (QQ:Exit->Act->World->Prop),Rnd ρ F->wF n Γ a->Sat w (H.flatten++F)->
  (∀e a' w' aB H' X,Q e aB H'->wF n aB a'->a'.defers=X.map qK++a.defers->Sat w' (H'.flatten++(F++marks X))->j9 w w'->QQ e a' w')->code.wpIn (DC ρ) 0 P QQ a w
def ap(H H':SH):Prop:=∃R,fq H H' R
def ap.refl(H):ap H H:=⟨[],by simp[fq]⟩
def Sat.imp {w H H' F}(h:ap H H')(g:Sat w (H.flatten++F)):Sat w (H'.flatten++F):=by
 obtain⟨R,d⟩:=h;have:=g.perm (d.append_right F);exact zFL
def bP(K:Env->SH->Prop)(Q:Exit->Env->SH->Prop):Exit->Env->SH->Prop
 |.normal,Γ,H=>K Γ H
 |e,Γ,H=>Q e Γ H
def bK(id:Nat)(Q:Exit->Env->SH->Prop):Exit->Env->SH->Prop
 |.exit i,Γ,H=>if i=id then Q .normal Γ H else Q (.exit i) Γ H
 |e,Γ,H=>Q e Γ H
section
variable {P:Program} {n:Nat} {Γ Δ:Env} {H:SH} {Q Q':Exit->Env->SH->Prop}
def RL(X Y:List Nat):marks (X++Y)=marks X++marks Y:=by simp[marks]
def Sat.marks {w:World}{L F:List kC}{X Y:List Nat}(h:Sat w (L++((F++marks X)++marks Y))):Sat w (L++(F++marks (Y++X))):=by
 refine h.perm (vY _ ?_);rw[RL,vj];exact zEP
def Sat.cF {w:World}{L F:List kC}(h:Sat w (L++F)):Sat w (L++(F++V.marks [])):=by simpa[V.marks]using h
def VC.mono {c:IC}(h:VC P n c Γ H Q)(B:∀e Γ H,Q e Γ H->Q' e Γ H):VC P n c Γ H Q':=λρ E G d A a w F QQ C m D s=>
 h ρ E G d A a w F QQ C m D (λe g w' j H' X q=>s e g w' j H' X (B _ _ _ q))
def VC.sub {c:IC}(s:Sub Γ Δ)(h:VC P n c Δ H Q):VC P n c Γ H Q:=λρ B C d m a w F QQ q g A j=>h ρ B C d m a w F QQ q (g.sub s) A j
def VC.imp {c:IC}{H':SH}(i:ap H H')(h:VC P n c Γ H' Q):VC P n c Γ H Q:=λρ A B d m a w F QQ q g s j=>h ρ A B d m a w F QQ q g (s.imp i) j
def VC.skip(h:Q .normal Γ H):VC P n .skip Γ H Q:=by
 intro ρ kp od d m a w F QQ hr g q j;obtain rfl:=ji m;exact wpIn_skip (j _ _ _ _ _ [] h g rfl q.cF (.refl w))
def VC.exit {id:Nat}(h:Q (.exit id) Γ H):VC P n (.exit id) Γ H Q:=by
 intro ρ kp od d m a w F QQ hr g q j;obtain rfl:=ji m;exact wpIn_exit (j _ _ _ _ _ [] h g rfl q.cF (.refl w))
def VC.ret(h:Q .ret Γ H):VC P n .ret Γ H Q:=by
 intro ρ kp od d m a w F QQ hr g q j;obtain rfl:=ji m;exact wpIn_ret (j _ _ _ _ _ [] h g rfl q.cF (.refl w))
def VC.cond {c:Operand}{x y:IC}{t:Bool}(D:ev Γ c=some (.bool t))(I:t=true->VC P n x Γ H Q)(E:t=false->VC P n y Γ H Q):VC P n (.cond c x y) Γ H Q:=by
 intro ρ s A g G a w F QQ j d m h;obtain⟨p,q,rfl,B,C⟩:=ji G;exact wpIn_cond_split (d.ev D) (λe=>I e ρ s A _ B a w F QQ j d m h) (λe=>E e ρ s A _ C a w F QQ j d m h)
def VC.seq {x y:IC}(h:VC P n x Γ H (bP (λd H'=>VC P n y d H' Q) Q)):VC P n (.seq x y) Γ H Q:=by
 intro ρ D E g O a w F QQ C N S B;obtain⟨p,q,rfl,L,M⟩:=ji O;refine wpIn_seq (h ρ D E _ L a w F _ C N S (λe I w' d H' X q j m s A=>?_));cases e<;>first
  |exact q ρ D E _ M I w' (F++marks X) QQ (C.more (λx T=>Zw _ T)) j s (λe J w2 K G Y q2 U W Z k4=>B e J w2 K G (Y++X) q2 U (by rw[W,m];simp) Z.marks (A.trans k4))
  |exact B _ _ _ _ _ X q j m s A
def VC.block {id:Nat}{x:IC}(h:VC P n x Γ H (bK id Q)):VC P n (.block id x) Γ H Q:=by
 intro ρ I J A D a w F QQ E C G s;obtain⟨p,rfl,B⟩:=ji D;refine wpIn_block (h ρ I J _ B a w F _ E C G (λe a' w' aB H' X q d g j m=>?_));cases e<;>first
  |exact s _ _ _ _ _ X q d g j m
  |skip
 rename_i i;simp only[bK]at q;simp only[Exit.inBlock];split at q
 .rename_i e;rw[if_pos e];exact s _ _ _ _ _ X q d g j m
 .rename_i e;rw[if_neg e];exact s _ _ _ _ _ X q d g j m
def zq {P:Program}{b:Frame}{a:Act}{k:List Item}{cs:List Frame}{w:World}{c:Code}:step P (lone (b.atR a (.code (.scope c)::k)) cs w)=.next (lone (b.atR a (.code c:: .inScope c::k)) cs w):=
 step_lone_go (by simp[stepG,stepG.exec,Frame.atR])
def Df {P:Program}{b:Frame}{a:Act}{k:List Item}{cs:List Frame}{w:World}{c:Code}:step P (lone (b.atR a (.inScope c::k)) cs w)=.next (lone (b.atR a k) cs w):=
 step_lone_go (by simp[stepG,stepG.exec,Frame.atR])
def Kr {F:Fence}{n:Nat}{P:Program}{Q:Exit->Act->World->Prop}{a:Act}{w:World}{c:Code}(h:c.wpIn F n P (λe a w=>(∀l,e≠.goto l)/\Q e a w) a w):(Code.scope c).wpIn F n P Q a w:=by
 intro b k cs C s B;have d:(lone (b.atR a (.code (.scope c)::k)) cs w).fenced P F:=fenced_calm s B rfl;obtain⟨e,j,m,⟨G,q⟩,g⟩:=h b (.inScope c::k) cs C s B;cases e with
 |normal=>exact⟨.normal,j,m,q,.head d zq (StepsIn.trans g (.one (fenced_calm s B rfl) Df))⟩
 |exit id=>
  have D:exitTo id (.inScope c::k)=exitTo id k:=by simp[exitTo]
  exact⟨.exit id,j,m,q,λH A=>.head d zq (g.1 H (by rw[D];exact A)),
   λE A=>let⟨k₁,h1,h2⟩:=g.2 E (by rw[D];exact A);⟨k₁,h1,.head d zq h2⟩⟩
 |goto l=>exact absurd rfl (G l)
 |ret=>exact⟨_,j,m,q,.of_steps (.one d zq) g⟩
 |panic ch=>exact⟨_,j,m,q,.of_steps (.one d zq) g⟩
 |outgrown=>exact⟨_,j,m,q,.of_steps (.one d zq) g⟩
def VC.scope {x:IC}(h:VC P n x Γ H λe d H'=>(∀l,e≠.goto l)/\Q e d H'):VC P n (.scope x) Γ H Q:=by
 intro ρ J K g E a w F QQ G C I D;obtain⟨p,rfl,B⟩:=ji E;exact Kr (h ρ J K _ B a w F _ G C I λe a' w' d H' X q j m s A=>⟨q.1,D _ _ _ _ _ X q.2 j m s A⟩)
def VC.label {l:Nat}(h:Q .normal Γ H):VC P n (.label l) Γ H Q:=by
 intro ρ kp od d m a w F QQ hr g q j;obtain rfl:=ji m;exact wpIn_label (j _ _ _ _ _ [] h g rfl q.cF (.refl w))
def wA {ops:Array Oper}:∀{l:List Oper} {rs:List RO},yU P n ops l=some rs->rs.length=l.length/\∀(i:Nat) r o,rs[i]? =some r->l[i]? =some o->eG P n ops o=some r:=by
 intro l
 induction l with
 |nil=>intro rs h;simp[yU]at h;subst h;simp
 |cons o l ih=>
  intro rs h;simp only[yU]at h;split at h
  .rename_i x l' s q;cases h;obtain⟨j,m⟩:=ih q;refine⟨by simp[j],λi r A g d=>?_⟩;cases i with
   |zero=>simp at g d;subst g d;exact s
   |succ i=>simp at g d;exact m i r A g d
  .cases h
def zJ {ops:Array Oper}{rs:List RO}(h:yU P n ops ops.toList=some rs){i:Nat}(d:i<ops.size):
 ops[i]? =some ((rs.zip ops.toList).getD i default).2/\((rs.zip ops.toList).getD i default).1=rs.getD i default/\eG P n ops ((rs.zip ops.toList).getD i default).2=some ((rs.zip ops.toList).getD i default).1:=by
 obtain⟨j,m⟩:=wA h;have g:i<rs.length:=by rw[j];simpa using d
 have s:(rs.zip ops.toList)[i]? =some (rs[i],ops[i]):=by
  rw[Zg (by rw[List.length_zip];simp only[Array.length_toList];omega)];simp
 have q:(rs.zip ops.toList).getD i default=(rs[i],ops[i]):=by rw[Vh,s];rfl
 rw[q];refine⟨by simp[d],by simp[Vh,g],?_⟩;exact m i rs[i] ops[i] (by simp[g]) (by simp[d])
def VC.oJ {rs:List RO}{s:List Nat}(h:VO P n rs Γ H (λj d H'=>Q (.panic j) d H') λd H'=>Q .normal (bh s d) H'):VC P n (.oJ rs s) Γ H Q:=by
 intro ρ kp od A E a w F QQ hr D G B;obtain⟨id,ops,rfl,h1,rfl⟩:=ji E;refine wpIn_region ?_;refine fR (P:=P) (ρ:=ρ) (n:=n) (ops:=ops) (X:=λi=>(rs.zip ops.toList).getD i default) (QQ:=QQ) (λi hi=>?_) (List.range ops.size) a w (λi hi=>by simpa using hi) ?_
 .exact zE9
 .have hlen:=(wA h1).1;have C:(List.range ops.size).map (λi=>(rs.zip ops.toList).getD i default)=rs.zip ops.toList:=zBS
  rw[C];refine h (rs.zip ops.toList) ⟨?_,?_⟩ a w F _ _ D G (λg w' d H' q g1 g2 g3 m=>B .normal g w' _ H' [] q (g1.sub (pB _ _)) g2 g3.cF m) (λj g w' d H' q g1 g2 g3 m=>B (.panic j) g w' _ H' [] q g1 g2 g3.cF m)
  .rw[List.map_fst_zip];simp[hlen]
  .exact zBZ
def VC.draw {E:List (List RO)}{A:List Nat}(h:∀rs∈E,VO P n rs Γ H (λ_ _ _=>False) λm H'=>Q .normal (bh A m) H'):VC P n (.draw E A) Γ H Q:=by
 intro ρ kp od B S a w F QQ hr N U O;obtain⟨id,ops,rs,rfl,h1,T,hc,rfl,rfl⟩:=ji S;have d:=(wA h1).1;refine wpIn_region_draw (λt=>?_);have W:Region.schedule (P.follows .mixedOrders) ops t=jo ops ops.size t (Array.replicate ops.size false):=by simp[Region.schedule,T,Region.linearise,jo]
 rw[W];have D:qg ops (Array.replicate ops.size false)=List.range ops.size:=zBF
 have L:zR ops=true:=zFI
 have K:=(yX L ops.size t (Array.replicate ops.size false) Zs (by rw[D];simp)).2.1;refine fR (P:=P) (ρ:=ρ) (n:=n) (ops:=ops) (X:=λi=>(rs.zip ops.toList).getD i default) (QQ:=QQ) (λi hi=>?_) _ a _ (λi hi=>by rw[K,D]at hi;simpa using hi) ?_
 .exact zE9
 .refine F4 ?_;refine cover (P:=P) (n:=n) (by simp[d]) (λi x g=>?_) hc (λo C=>?_) t
  .have G:i<(rs.zip ops.toList).length:=(Vt.1 g).1;have j:i<ops.size:=by simp[d]at G;omega
   obtain⟨g1,g2,g3⟩:=zJ h1 j;have:(rs.zip ops.toList).getD i default=x:=by rw[Vh,g];rfl
   rw[this]at g3;exact Good.Xs g3
  .have J:o.all (·< ops.size)=true:=by
    rcases vT.1 hc with hc|hc <;>
    .simp only[fW,vG,vf]at hc;have:=hc.1.2 o C;simp only[vf];exact this.2
   have s:∀i∈o,i<ops.size:=by simpa[vf]using J
   refine h (o.map λi=>rs.getD i default) (QO.2 ⟨o,C,rfl⟩) _ ⟨?_,?_⟩ a {w with drawn:=w.drawn+1} F _ _ N (U.drawn _) (λI w' m H' q g1 g2 g3 M=>O .normal I w' _ H' [] q (g1.sub (pB _ _)) g2 g3.cF ?_) (λ_ _ _ _ _ q=>q.elim)
   .rw[QF];refine QD (λi hi=>?_);obtain⟨g1,g2,g3⟩:=zJ h1 (s i hi);exact g2
   .intro x g;obtain⟨i,hi,rfl⟩:=QO.1 g;obtain⟨g1,g2,g3⟩:=zJ h1 (s i hi);exact⟨ops,g3⟩
   .exact((j9.refl w).drawn _).trans M
def VC.loop {x:IC}{α:Type}(bg:α->Env)(Hf:α->SH)(I:α->Prop)(μ:α->Nat)(L:α)(h0:I L)(bC:Sub Γ (bg L))(hH:ap H (Hf L))
 (D:∀s,I s->VC P n x (bg s) (Hf s) (bP (λaB H'=>∃d,I d/\μ d<μ s/\Sub aB (bg d)/\ap H' (Hf d)) Q)):VC P n (.loop x) Γ H Q:=by
 intro ρ kp od code hl a w F QQ hr ha hs hh;obtain⟨body,rfl,h1⟩:=ji hl;intro b k cs S M N;have key:∀m s X,μ s=m->I s->∀G K,wF n (bg s) G->G.defers=X.map qK++a.defers->Sat K ((Hf s).flatten++(F++marks X))->j9 w K->
  ∃e g w',QQ e g w'/\ArrivesIn (Machine.fenced P (DC ρ)) P (lone (b.atR G (.code body:: .inLoop body::k)) cs K) b k cs e g w':=by
  intro m
  induction m using Nat.strongRecOn with
  |_ m ih=>
   intro s X hm hI G K O J Ay sg;have Aj:=D s hI ρ kp od body h1 G K (F++marks X) (Exit.then (λg w'=>∃d Y,I d/\μ d<μ s/\wF n (bg d) g/\g.defers=(Y++X).map qK++a.defers/\Sat w' ((Hf d).flatten++(F++marks (Y++X)))/\j9 w w') QQ) (hr.more (λx hx=>Zw _ hx)) O Ay (λe g w' aB H' Y q g1 g2 g3 g4=>by
    cases e<;>first
     |(obtain⟨d,T,U,i3,Z⟩:=q;exact⟨d,Y,T,U,g1.sub i3,by rw[g2,J];simp,(g3.imp Z).marks,sg.trans g4⟩)
     |exact hh _ _ _ _ _ (Y++X) q g1 (by rw[g2,J];simp) g3.marks (sg.trans g4))
   obtain⟨e,B,E,j,A⟩:=Aj b (.inLoop body::k) cs S M N;cases e with
   |normal=>
    obtain⟨d,Y,T,U,i3,W,Z,i5⟩:=j;obtain⟨e2,a3,w3,lY,C⟩:=ih (μ d) (hm ▸ U) d (Y++X) rfl T B E i3 W Z i5;exact⟨e2,a3,w3,lY,.of_steps (StepsIn.trans A (.one (fenced_calm (n:=0) (fr:=b.atR B (.inLoop body::k)) M N rfl) stepR_inLoop)) C⟩
   |exit id=>exact⟨_,B,E,j,.pass (x:=.inLoop body) rfl (λ_ _=>.inl Zs) A⟩
   |goto l=>exact⟨_,B,E,j,.pass (x:=.inLoop body) rfl (λ_ _=>.inl Zs) A⟩
   |ret=>exact⟨_,B,E,j,.pass (x:=.inLoop body) rfl (λ_ _=>.inl Zs) A⟩
   |panic ch=>exact⟨_,B,E,j,.pass (x:=.inLoop body) rfl (λ_ _=>.inl Zs) A⟩
   |outgrown=>exact⟨_,B,E,j,.pass (x:=.inLoop body) rfl (λ_ _=>.inl Zs) A⟩
 obtain⟨e,g,w',j,A⟩:=key _ L [] rfl h0 a w (ha.sub bC) rfl (hs.imp hH).cF (.refl w);exact⟨e,g,w',j,.of_steps (.one (fenced_calm (n:=0) (fr:=b.atR a (.code (.loop body)::k)) M N rfl) stepR_loop) A⟩
def VC.join {x y:IC}{α:Type}(bg:α->Env)(Hf:α->SH)(I:α->Prop)(g:VC P n x Γ H (bP (λd H'=>∃s,I s/\Sub d (bg s)/\ap H' (Hf s)) Q))
 (h:∀s,I s->VC P n y (bg s) (Hf s) Q):VC P n (.seq x y) Γ H Q:=by
 refine VC.seq (g.mono ?_);intro e d H' q;cases e<;>first
  |(obtain⟨s,j,m,i3⟩:=q;exact VC.sub m (VC.imp i3 (h s j)))
  |exact q
end
def assoc {α:Type}(l:List (Nat×List α))(i:Nat):List α:=match l with
 |[]=>[]
 |(k,v)::r=>if k=i then v else assoc r i
def rep(n:Nat)(l:List Value):List Value:=match n with
 |0=>[]
 |n+1=>l++rep n l
inductive RV where
 |tmp (t:Nat)
 |cC (t:Nat)
 |az (t n:Nat)
structure aP where
 n:Nat
 bT:List RV
 body:IC
def zD(P:Program):List ResultVar->Option (List RV)
 |[]=>some []
 |.tmp t::r=>(zD P r).map (.tmp t::·)
 |.cell a t::r=>match P.underlying t,P.info? t with
  |some (.struct _),some i=>(zD P r).map (.az a i.size::·)
  |some (.array _ _),some i=>(zD P r).map (.az a i.size::·)
  |some _,some _=>(zD P r).map (.cC a::·)
  |_,_=>none
def Jy(P:Program)(kp:Nat->List Nat)(od:Nat->List (List Nat))(f:Nat):Option aP:=
 match P.funcs[f]? with
 |none=>none
 |some fn=>match fn.body with
  |none=>none
  | some c => if fn.name != "runtime.NumGoroutine" then
     match zV P fn.ntmps kp od c,zD P fn.results.toList with
     |some b,some r=>some ⟨fn.ntmps,r,b⟩
     |_,_=>none
    else none
def aV:Nat->List Value->Env
 |_,[]=>[]
 |k,v::r=>(k,v)::aV (k+1) r
def bU:List Value->Value
 |[v]=>v
 |vs=>.tuple vs.toArray
inductive SR (Γ:Env)(H:SH):List RV->List Value->Prop where
 |nil:SR Γ H [] []
 |tmp {t:Nat} {v:Value} {r:List RV} {vs:List Value}:look Γ t=some v->SR Γ H r vs->SR Γ H (.tmp t::r) (v::vs)
 |cC {t b o:Nat} {v:Value} {r:List RV} {vs:List Value}:look Γ t=some (.pointer (some ⟨b,o,none⟩))->kC.cell b o v∈H.flatten->SR Γ H r vs->SR Γ H (.cC t::r) (v::vs)
 |az {t b o n:Nat} {us:List Value} {r:List RV} {vs:List Value}:look Γ t=some (.pointer (some ⟨b,o,none⟩))->us.length=n->(∀x∈kA b o us,x∈H.flatten)->SR Γ H r vs->SR Γ H (.az t n::r) (.agg us.toArray::vs)
def tY(bT:List RV)(Q:Value->SH->Prop):Exit->Env->SH->Prop:=λe Γ H=>(e=.normal∨e=.ret)/\∃vs dl,SR Γ H bT vs/\ap H dl/\Q (bU vs) dl
def Hb:∀{vs:List Value} {k t:Nat} {v:Value},look (aV k vs) t=some v->k<=t/\vs[t-k]? =some v:=by
 intro vs
 induction vs with
 |nil=>intro k t v h;simp[aV,look]at h
 |cons u r ih=>
  intro k t v h;simp only[aV,look]at h;split at h
  .rename_i e;subst e;cases h;simp
  .obtain⟨h1,d⟩:=ih h;refine⟨Zo,?_⟩;have:t-k=(t-(k+1))+1:=by omega
   rw[this];simpa using d
def DV {P b o}:∀(k i:Nat) (acc:Array Value) (w1:World) (r:Array Value) (w2:World),(loadCellsFrom ⟨b,o,none⟩ i k acc).run P w1=.ok r w2->w2=w1:=zBU
def run_loadCells {P b o m us H F w}(j:us.length=m)(h:∀x∈kA b o us,x∈H)(q:Sat w (H++F)):
 (loadCells ⟨b,o,none⟩ m).run P w=.ok us.toArray w:=by
 have d:aS P (loadCells ⟨b,o,none⟩ m) H (λr L=>r=us.toArray/\L=H):=aS.loadCells j h ⟨rfl,rfl⟩;obtain⟨r,w',L,g,⟨rfl,rfl⟩,h3,h4⟩:=d F w q;obtain rfl:=DV _ _ _ _ _ _ g;exact g
def iy {P}{fn:Func}{r:List RV}{a n Γ vs w H F}(hs:Sat w (H.flatten++F))(B:zD P fn.results.toList=some r)(s:wF n Γ a)(C:SR Γ H r vs):
 (results fn a.tmps).run P w=.ok (bU vs) w:=by
 have q:∀(l:List ResultVar) (r:List RV) (vs:List Value) (f:ResultVar->Sem Value),(∀t,f (.tmp t)=pure (a.tmps.getD t undef))->(∀x t,f (.cell x t)=(do loadVar t (<- asAddr (a.tmps.getD x undef))))->
  zD P l=some r->SR Γ H r vs->(l.mapM f).run P w=.ok vs w:=by
  intro l
  induction l with
  |nil=>intro r vs f _ _ h1 h2;simp[zD]at h1;subst h1;cases h2;simp
  |cons x l ih=>
   intro r vs f hf Gv h1 h2;cases x with
   |cell x t=>
    simp only[zD]at h1;have slot:∀{v},look Γ x=some v->a.tmps.getD x undef=v:=λh=>by simp[Array.getD_eq_getD_getElem?,s.slots x _ h]
    split at h1
    .exact zCA
    .exact zCA
    .rename_i d j g1 g2 hu hj;simp only[X5]at h1;obtain⟨r',h3,rfl⟩:=h1;have m:(isAgg t).run P w=.ok false w:=by rw[eE hu];cases d<;>simp_all
     cases h2 with
     |cC k1 k2 k4=>
      have A:=(hs.cell (Zw F k2)).1;simp only[List.mapM_cons,Sem.run_bind,Gv,slot k1,asAddr,Sem.run_pure,Result.andThen_ok,loadVar,m,vN,if_false,run_load,A,ih r' _ f hf Gv h3 k4]
    .cases h1
   |tmp t=>
    simp only[zD,X5]at h1;obtain⟨r',h3,rfl⟩:=h1;cases h2 with
    |tmp k1 k2=>
     rename_i D _;have g:a.tmps.getD t undef=D:=by simp[Array.getD_eq_getD_getElem?,s.slots t _ k1]
     simp only[List.mapM_cons,Sem.run_bind,hf,Sem.run_pure,Result.andThen_ok,ih r' _ f hf Gv h3 k2,g]
 unfold results;simp only[Sem.run_bind];rw[Array.mapM_eq_mapM_toList];simp only[Sem.run_map];rw[q fn.results.toList r vs _ (λt=>rfl) (λx t=>rfl) B C];cases vs with
 |nil=>simp[bU]
 |cons v l=>cases l<;>simp[bU]
def aq.intro {P H I f}{F:aP}{a5 A Q}(d:Jy P H I f=some F)(N:a5.length<=F.n)(h:VC P F.n F.body (aV 0 a5) A (tY F.bT Q)):aq P f a5 A Q:=by
 unfold Jy at d;split at d
 .cases d
 rename_i fn m;split at d
 .cases d
 rename_i c G;split at d
 case isFalse=>cases d
 rename_i U;split at d
 case h_2=>cases d
 rename_i b r j S;cases d;refine⟨by simp only[wK,m,U,G];rfl,λFF w T=>?_⟩;refine(callsIn_wide (n:=0)).1 (callsIn_of_wp_marks m G trivial (h none H I c j _ w FF _ (λl e=>by cases e) ⟨?_,λt v e=>?_⟩ T (λe s w' aB H' X q J B C D=>?_)))
 .simp at N|-;omega
 .exact zBA
 .obtain⟨M,vs,dl,K,h2,L⟩:=q;have j:LeavesInM (DC none) 0 P fn s.tmps (λe w'=>∃v dl,e=.returned v/\Q v dl/\Sat w' (dl.flatten++FF)/\j9 w w') s.defers .returning w':=by
   rw[B,vm];clear B
   induction X generalizing w' with
   |nil=>
    have g:Sat w' (H'.flatten++FF):=by simpa[V.marks]using C
    exact⟨_,iy g S J K,_,dl,rfl,L,g.imp h2,D⟩
   |cons r X ih=>
    have O:(H'.flatten++(FF++V.marks (r::X))).Perm (.obj r (.deferred (some []))::(H'.flatten++(FF++V.marks X))):=zDD
    have E:=C.perm O;obtain⟨k1,k2⟩:=E.obj (QL ..);obtain⟨W,Y⟩:=Sat.setObj (u:=.deferred none) E rfl;refine⟨Zs,.inl ⟨r,_,rfl,?_,ih _ (W.sub (Qh ..)) (D.trans Y)⟩⟩;exact zFF
  rcases M with rfl|rfl<;>exact j
def aq.mono {P f a5 d Q Q'}(h:aq P f a5 d Q)(g:∀v dl,Q v dl->Q' v dl):aq P f a5 d Q':=
 ⟨h.1,λF w j=>(h.2 F w j).mono λ_ _ ⟨v,dl,a,b,c⟩=>⟨v,dl,a,g _ _ b,c⟩⟩
def zT1{Γ:Env}{H:SH}{t:Nat}{v:Value}(h:look Γ t=some v:=by rfl):SR Γ H [.tmp t] [v]:=.tmp h .nil
inductive Tk:SH->List kC->SH->Prop where
 |here {A:List kC} {L:SH}:Tk (A::L) A L
 |there {A B:List kC} {L R:SH}:Tk L A R->Tk (B::L) A (B::R)
def ww(A B X:List kC):(A++(B++X)).Perm (B++(A++X)):=zBE
def Tk.perm {L R A}(h:Tk L A R):L.flatten.Perm (A++R.flatten):=by
 induction h with
 |here=>simp
 |there _ ih=>
  simp only[Vd];refine(vY _ ih).trans ?_;exact zBE
def fq.nil {H}:fq H [] H:=by simp[fq]
def fq.cons {H R R' d A}(h:Tk H A R)(k:fq R d R'):fq H (A::d) R':=by
 simp only[fq,Vd,vj];exact h.perm.trans (vY _ k)
def ap.nil {H}:ap H []:=⟨H,by simp[fq]⟩
def ap.cons {H R Δ A}(h:Tk H A R)(k:ap R Δ):ap H (A::Δ):=by
 obtain⟨X,d⟩:=k;refine⟨X,?_⟩;simp only[fq,Vd,vj];exact h.perm.trans (vY _ d)
def Sub.nil {Γ}:Sub Γ []:=λt v h=>by simp[look]at h
def Sub.cons {Γ Δ t v}(h:look Γ t=some v)(k:Sub Γ Δ):Sub Γ ((t,v)::Δ):=λs u e=>by
 simp only[look]at e;split at e
 .rename_i es;subst es;cases e;exact h
 .exact k s u e
def Sub.refl {Γ}:Sub Γ Γ:=λ_ _ h=>h
inductive Has:SH->Nat->Nat->Value->Prop where
 |cells {b o k:Nat} {vs:List Value} {v:Value} {L:SH}:o<=k->vs[k-o]? =some v->Has (kA b o vs::L) b k v
 |there {A:List kC} {L:SH} {b k:Nat} {v:Value}:Has L b k v->Has (A::L) b k v
 |among {A:List kC} {L:SH} {b k:Nat} {v:Value}:kC.cell b k v∈A->Has (A::L) b k v
def Has.mem {H b k v}(h:Has H b k v):kC.cell b k v∈H.flatten:=by
 induction h with
 |cells h1 h2=>
  simp only[Vd,QH];left;exact kI.2 ⟨_,_,h2,by congr 1;omega⟩
 |there _ ih=>simp only[Vd,QH];exact .inr ih
 |among h=>simp only[Vd,QH];exact .inl h
inductive K3:SH->Nat->Nat->List Value->Prop where
 |cells {b o k n:Nat} {vs us:List Value} {L:SH}:o<=k->(vs.drop (k-o)).take us.length=us->us.length=n->K3 (kA b o vs::L) b k us
 |there {A:List kC} {L:SH} {b k:Nat} {us:List Value}:K3 L b k us->K3 (A::L) b k us
def K3.mem {H b k us}(h:K3 H b k us):∀x∈kA b k us,x∈H.flatten:=by
 induction h with
 |cells h1 h2 _=>
  intro x g;obtain⟨i,v,d,rfl⟩:=kI.1 g;simp only[Vd,QH];left;rw[<- h2]at d;simp only[List.getElem?_take,Vo]at d;split at d
  .exact kI.2 ⟨_,v,d,by congr 1;omega⟩
  .cases d
 |there _ ih=>intro x g;simp only[Vd,QH];exact .inr (ih x g)
def Au(Γ:Env)(x:Operand):Value:=(ev Γ x).getD undef
def known(Γ:Env)(x:Operand):Bool:=(ev Γ x).isSome
def UF {Γ:Env}{x:Operand}{ρ:Operand->Value}(h:known Γ x=true)(g:∀x u,ev Γ x=some u->ρ x=u):ρ x=Au Γ x:=by
 obtain⟨u,d⟩:=X4.1 h;simp[Au,d,g _ _ d]
def ptr(b o:Nat):Value:=.pointer (some ⟨b,o,none⟩)
section
variable {P:Program} {n:Nat} {rs:List RO} {Γ Δ:Env} {H:SH} {Z:List PanicEntry->Env->SH->Prop} {K:Env->SH->Prop} {d:Option Nat} {g:Option (Nat×Bool)}
def pA {r:R}{v:Value}(g:kz r=true)(m:(mS r).all (known Γ)=true)(q:kb (Au Γ) r=some v)(h:VO P n rs (au d v Γ) H Z K):VO P n (⟨d,none,r⟩::rs) Γ H Z K:=
 VO.pure g (λρ j=>by
  rw[<- q];exact iv g (λx s=>UF (vf.1 m x s) j)) h
def iA {x:Operand}{v:Value}(j:ev Γ x=some v)(h:VO P n rs (au d v Γ) H Z K):VO P n (⟨d,none,.mv x⟩::rs) Γ H Z K:=
 VO.pure rfl (λρ g=>by simp[kb,g _ _ j]) h
def iV {off:Nat}{x:Operand}{b o g:Nat}(q:ev Γ x=some (.pointer (some ⟨b,o,none⟩)))(m:o+off=g)(h:VO P n rs (au d (.pointer (some ⟨b,g,none⟩)) Γ) H Z K):VO P n (⟨d,none,.Ω off x⟩::rs) Γ H Z K:=
 VO.pure rfl (λρ j=>by simp[kb,j _ _ q,m]) h
def uX {x:Operand}{a:Addr}(j:ev Γ x=some (.pointer (some a)))(h:VO P n rs (au d (.pointer (some a)) Γ) H Z K):VO P n (⟨d,none,.qd x⟩::rs) Γ H Z K:=
 VO.pure rfl (λρ g=>by simp[kb,g _ _ j]) h
def wrap64 {z:Int}(h:-9223372036854775808<=z/\z<=9223372036854775807):IntKind.i64.wrap z=z:=zEW
def HH {x y:Operand}{a b:Int}(m:ev Γ x=some (.int .i64 a))(q:ev Γ y=some (.int .i64 b))(j:-9223372036854775808<=a+b/\a+b<=9223372036854775807)(h:VO P n rs (au d (.int .i64 (a+b)) Γ) H Z K):
 VO P n (⟨d,none,.bin .add x y⟩::rs) Γ H Z K:=
 VO.pure rfl (λρ g=>by simp[kb,g _ _ m,g _ _ q,yO,ot,wrap64 j]) h
def HS {x y:Operand}{a b:Int}(m:ev Γ x=some (.int .i64 a))(q:ev Γ y=some (.int .i64 b))(j:-9223372036854775808<=a-b/\a-b<=9223372036854775807)(h:VO P n rs (au d (.int .i64 (a-b)) Γ) H Z K):
 VO P n (⟨d,none,.bin .sub x y⟩::rs) Γ H Z K:=
 VO.pure rfl (λρ g=>by simp[kb,g _ _ m,g _ _ q,yO,ot,wrap64 j]) h
def HN {x y:Operand}{a b:Int}(m:ev Γ x=some (.int .i64 a))(q:ev Γ y=some (.int .i64 b))(j:-9223372036854775808<=a*b/\a*b<=9223372036854775807)(h:VO P n rs (au d (.int .i64 (a*b)) Γ) H Z K):
 VO P n (⟨d,none,.bin .mul x y⟩::rs) Γ H Z K:=
 VO.pure rfl (λρ g=>by simp[kb,g _ _ m,g _ _ q,yO,ot,wrap64 j]) h
def HP {x y:Operand}{k:IntKind}{a b:Int}(m:ev Γ x=some (.int k a))(q:ev Γ y=some (.int k b))(j:b≠0)(h:VO P n rs (au d (.int k (a.tmod b)) Γ) H Z K):
 VO P n (⟨d,none,.bin .rem x y⟩::rs) Γ H Z K:=
 VO.pure rfl (λρ g=>by simp[kb,g _ _ m,g _ _ q,yO,ot,j]) h
def st_conv {k q:IntKind}{x:Operand}{a b:Int}(m:ev Γ x=some (.int q a))(j:k.wrap a=b)(h:VO P n rs (au d (.int k b) Γ) H Z K):VO P n (⟨d,none,.conv k x⟩::rs) Γ H Z K:=
 VO.pure rfl (λρ g=>by simp[kb,g _ _ m,j]) h
def mY {size:Nat}{x i:Operand}{b o j len cap:Nat}{k:IntKind}{m:Int}(B:ev Γ x=some (.slice (some ⟨b,o,none⟩) len cap))(s:ev Γ i=some (.int k m))(q:0<=m/\m<len)
 (A:o+m.toNat*size=j) (h:VO P n rs (au d (.pointer (some ⟨b,j,none⟩)) Γ) H Z K):VO P n (⟨d,none,.GX size x i⟩::rs) Γ H Z K:=
 VO.pure rfl (λρ g=>by simp[kb,g _ _ B,g _ _ s,q,A]) h
def AN {len size:Nat}{x i:Operand}{b o j:Nat}{k:IntKind}{m:Int}(B:ev Γ x=some (.pointer (some ⟨b,o,none⟩)))(s:ev Γ i=some (.int k m))(q:0<=m/\m<len)
 (A:o+m.toNat*size=j) (h:VO P n rs (au d (.pointer (some ⟨b,j,none⟩)) Γ) H Z K):VO P n (⟨d,none,.Ry len size x i⟩::rs) Γ H Z K:=
 VO.pure rfl (λρ g=>by simp[kb,g _ _ B,g _ _ s,q,A]) h
def wL {x i:Operand}{s:ByteArray}{k:IntKind}{m:Int}{j:Nat}{c:UInt8}(C:ev Γ x=some (.string s))(A:ev Γ i=some (.int k m))(B:m=(j:Int))(q:s[j]? =some c)
 (h:VO P n rs (au d (.int .u8 c.toNat) Γ) H Z K):VO P n (⟨d,none,.Rz x i⟩::rs) Γ H Z K:=
 VO.pure rfl (λρ g=>by subst B;simp[kb,g _ _ C,g _ _ A,q]) h
def lP {c a b:Operand}{v:Value}(m:ev Γ c=some (.bool true))(j:ev Γ a=some v)(h:VO P n rs (au d v Γ) H Z K):VO P n (⟨d,none,.pick c a b⟩::rs) Γ H Z K:=
 VO.pure rfl (λρ g=>by simp[kb,g _ _ m,g _ _ j]) h
def lO {c a b:Operand}{v:Value}(m:ev Γ c=some (.bool false))(j:ev Γ b=some v)(h:VO P n rs (au d v Γ) H Z K):VO P n (⟨d,none,.pick c a b⟩::rs) Γ H Z K:=
 VO.pure rfl (λρ g=>by simp[kb,g _ _ m,g _ _ j]) h
def Oz {s:Nat}{c:Bool}(d:look Γ s=some (.bool c))(h:c=true->VO P n rs ((s,.bool true)::Γ) H Z K)(g:c=false->VO P n rs ((s,.bool false)::Γ) H Z K):VO P n rs Γ H Z K:=by
 cases c with
 |true=>exact VO.sub (Sub.cons d Sub.refl) (h rfl)
 |false=>exact VO.sub (Sub.cons d Sub.refl) (g rfl)
def ti {r:R}{s:Nat}{b:Bool}(L:look Γ s=some (.bool b))(h:VO P n (⟨d,none,r⟩::rs) Γ H Z K):VO P n (⟨d,some (s,b),r⟩::rs) Γ H Z K:=by
 intro l G a w F g Q C O J N;obtain⟨o,m,rfl,A,ops,I⟩:=zi G;obtain⟨B,j,D,g4⟩:=jP I;have M:jM (some (s,b)) a=true:=by simp[jM,C.slots _ _ L]
 have:=h ((⟨d,none,r⟩,{o with guard:=none})::m) ⟨by simp[A.1],λx hx=>by
  rcases QJ.1 hx with rfl|hx
  .refine⟨ops,?_⟩;have E:o.dst.all (λx=>decide (x<n))=true:=by
    rw[<- j];cases L5:d with
    |none=>rfl
    |some t=>have:=D t L5;simpa using this
   simp only at j B;simp[eG,B,E,j]
  .exact A.2 x hx⟩ a w F g Q C O J N
 have q:wI P g (⟨d,none,r⟩,{o with guard:=none}) (cK P g Q m) a w:=this;show wI P g (⟨d,some (s,b),r⟩,o) (cK P g Q m) a w;unfold wI at q|-;rw[if_pos (show jM _ a=true from M)];rw[if_pos (show jM none a=true from rfl)]at q;exact q
def Fx {r:R}{s:Nat}{b c:Bool}(q:look Γ s=some (.bool c))(g:(c==b)=false)(h:VO P n rs (au d undef Γ) H Z K):VO P n (⟨d,some (s,b),r⟩::rs) Γ H Z K:=by
 intro l j a w F ZZ Q ha lD hq hz;obtain⟨o,l',rfl,Ad,ops,m⟩:=zi j;obtain⟨g1,g2,g3,g4⟩:=jP m;have hw:jM (some (s,b)) a=false:=by simpa[jM,ha.slots _ _ q]using g
 exact zC3
def wJ {x:Operand}{b o:Nat}{v:Value}(q:ev Γ x=some (.pointer (some ⟨b,o,none⟩)))(j:Has H b o v)(h:VO P n rs (au d v Γ) H Z K):VO P n (⟨d,none,.lH x⟩::rs) Γ H Z K:=
 VO.read rfl rfl (λρ g=>⟨_,rfl,λF w m=>by
  have:=(m.cell (Zw F j.mem)).1;simp[g _ _ q,Instr.sureAddr,this]⟩) h
def Yt {m:Nat}{x:Operand}{b o:Nat}{us:List Value}(A:ev Γ x=some (.pointer (some ⟨b,o,none⟩)))(j:K3 H b o us)(q:us.length=m)(h:VO P n rs (au d (.agg us.toArray) Γ) H Z K):VO P n (⟨d,none,.ny m x⟩::rs) Γ H Z K:=
 VO.read rfl rfl (λρ g=>⟨_,rfl,λF w s=>by
  simp[g _ _ A,Instr.sureAddr,run_loadCells q j.mem s]⟩) h
inductive Kv:SH->Nat->Nat->List Value->SH->Prop where
 |cells {b o k:Nat} {vs us ws:List Value} {L:SH}:o<=k->k-o+us.length<=vs.length->vs.take (k-o)++us++vs.drop (k-o+us.length)=ws->Kv (kA b o vs::L) b k us (kA b o ws::L)
 |there {A:List kC} {L L':SH} {b k:Nat} {us:List Value}:Kv L b k us L'->Kv (A::L) b k us (A::L')
def Kv.split {H H':SH}{b k:Nat}{us:List Value}(h:Kv H b k us H'):∃(d:List Value) (R:List kC),d.length=us.length/\H.flatten.Perm (kA b k d++R)/\H'.flatten.Perm (kA b k us++R):=by
 induction h with
 |@cells b o k vs us ws L m q g=>
  subst g;have C:vs=vs.take (k-o)++((vs.drop (k-o)).take us.length++vs.drop (k-o+us.length)):=by
   rw[<- List.drop_drop,Qj,Qj]
  have B:(vs.take (k-o)).length=k-o:=by simp;omega
  have j:((vs.drop (k-o)).take us.length).length=us.length:=by simp;omega
  have s:o+(k-o)=k:=by omega
  refine⟨(vs.drop (k-o)).take us.length,kA b o (vs.take (k-o))++(kA b (k+us.length) (vs.drop (k-o+us.length))++L.flatten),j,?_,?_⟩
  .have e:kA b o vs=kA b o (vs.take (k-o))++(kA b k ((vs.drop (k-o)).take us.length)++kA b (k+us.length) (vs.drop (k-o+us.length))):=by
    conv=>lhs;rw[C]
    rw[j7,B,s,j7,j]
   simp only[Vd,e,vj];exact ww _ _ _
  .simp only[Vd,j7,B,s,vj];exact ww _ _ _
 |@there A L L' b k us _ ih=>
  obtain⟨d,R,m,q,g⟩:=ih;refine⟨d,A++R,m,?_,?_⟩
  .simp only[Vd];refine(vY A q).trans ?_;exact zBE
  .simp only[Vd];refine(vY A g).trans ?_;exact zBE
def Kc {m:Nat}{x y:Operand}{b o:Nat}{v:Value}{H':SH}(G:ev Γ x=some (.pointer (some ⟨b,o,none⟩)))(I:ev Γ y=some v)(s:v.cells.size=m)(B:v.cells.toList.all jk=true)
 (F:Kv H b o v.cells.toList H') (h:VO P n rs (au d undef Γ) H' Z K):VO P n (⟨d,none,.store m x y⟩::rs) Γ H Z K:=by
 refine VO.act rfl rfl (λρ q=>⟨_,rfl,?_⟩);obtain⟨j,R,C,D,E⟩:=F.split;refine aS.perm D ?_;have g:ρ y=v:=q _ _ I;have:=RM (P:=P) (ρ:=ρ) (n:=m) (x:=x) (v:=y) (us:=j) (R:=R) (b:=b) (o:=o) (K:=λA L=>∃v H',(A=.value v∨(A=.skip/\v=undef))/\L.Perm H'.flatten/\VO P n rs (au d v Γ) H' Z K)
  (q _ _ G) (by rw[g];exact s) (by rw[C];simpa using s) (by rw[g];exact vf.1 B) ⟨undef,H',.inr ⟨rfl,rfl⟩,by rw[g];exact E.symm,h⟩
 exact this
def zr {m:Nat}{x y:Operand}{b o:Nat}{v:Value}{us:List Value}{H':SH}(A:ev Γ x=some (.pointer (some ⟨b,o,none⟩)))(B:ev Γ y=some v)(s:v.cells.toList=us)(j:us.length=m)(g:us.all jk=true)
 (q:Kv H b o us H') (h:VO P n rs (au d undef Γ) H' Z K):VO P n (⟨d,none,.store m x y⟩::rs) Γ H Z K:=by
 subst s;exact Kc A B (by simpa using j) g q h
def oN {z:List Value}{g:List (Nat×Nat×Operand)}{out:List Value}(hk:(g.map (·.2.2)).all (known Γ)=true)(j:jb z (ja (Au Γ) g)=some out)
 (h:VO P n rs (au d (.agg out.toArray) Γ) H Z K):VO P n (⟨d,none,.build z g⟩::rs) Γ H Z K:=by
 refine VO.pure rfl (λρ aU=>?_) h;have:ja ρ g=ja (Au Γ) g:=zDU
 simp[kb,this,j]
def kZ {t:TypeId}{x:Operand}{v:Value}(j:ev Γ x=some v)(h:∀b,VO P n rs (au d (.pointer (some ⟨b,0,none⟩)) Γ) (kA b 0 v.cells.toList::H) Z K):VO P n (⟨d,none,.box t x⟩::rs) Γ H Z K:=by
 refine VO.act rfl rfl (λρ g=>⟨_,rfl,?_⟩);refine Hh (λb=>⟨_,_,.inl rfl,?_,h b⟩);rw[g _ _ j];simp
def kJ {t:TypeId}{z:List Value}(h:∀b,VO P n rs (au d (.pointer (some ⟨b,0,none⟩)) Γ) (kA b 0 z::H) Z K):VO P n (⟨d,none,.alloc t z⟩::rs) Γ H Z K:=by
 refine VO.act rfl rfl (λρ aU=>⟨_,rfl,?_⟩);exact zFG
def lN(h:∀b,VO P n rs (au d (.map (some b)) Γ) ([.obj b (.map #[] 0)]::H) Z K):VO P n (⟨d,none,.p8⟩::rs) Γ H Z K:=by
 refine VO.act rfl rfl (λρ aU=>⟨_,rfl,?_⟩);refine MG rfl (λb=>⟨_,_,.inl rfl,?_,h b⟩);simp
def Dd {t:TypeId}{size bytes:Nat}{z:List Value}{l c:Operand}{D C:IntKind}{j g:Int}(A:ev Γ l=some (.int D j))(s:ev Γ c=some (.int C g))(q:0<=j/\j<=g/\g<=9223372036854775807/\bytes*g<=2 ^ 48)
 (B:z.length=size) (h:∀b,VO P n rs (au d (.slice (some ⟨b,0,none⟩) j.toNat g.toNat) Γ) (kA b 0 (jA g.toNat z)::H) Z K):VO P n (⟨d,none,.Hk t size bytes z l c⟩::rs) Γ H Z K:=by
 refine VO.act rfl rfl (λρ m=>⟨_,rfl,?_⟩);rw[m _ _ A,m _ _ s];simp only[q,B,and_self,if_true];exact zFG
def kV {t:TypeId}{len:Nat}{z:List Value}{g:List (Nat×Nat×Operand)}{out:List Value}(hk:(g.map (·.2.2)).all (known Γ)=true)(j:jb (jA len z) (ja (Au Γ) g)=some out)
 (h:∀b,VO P n rs (au d (.slice (some ⟨b,0,none⟩) len len) Γ) (kA b 0 out::H) Z K):VO P n (⟨d,none,.nP t len z g⟩::rs) Γ H Z K:=by
 refine VO.act rfl rfl (λρ aU=>⟨_,rfl,?_⟩);have:ja ρ g=ja (Au Γ) g:=zDU
 rw[this,j];exact zFG
def kH {f:Nat}{xs:List Operand}{a5:List Value}{g R:SH}{Q:Value->SH->Prop}(m:aq P f a5 g Q)(j:nW Γ xs=some a5)(q:fq H g R)
 (h:∀v dl,Q v dl->VO P n rs (au d v Γ) (dl++R) Z K):VO P n (⟨d,none,.call f xs⟩::rs) Γ H Z K:=VO.call m j q h
variable {Q:Exit->Env->SH->Prop} {bj:List Nat}
def VC.Ez(h:VO P n rs Γ H (λ_ _ _=>False) λd H'=>Q .normal (bh bj d) H'):VC P n (.draw [rs] bj) Γ H Q:=VC.draw (by simpa using h)
def VC.AJ {y:IC}(h:VO P n rs Γ H (λg d H'=>Q (.panic g) d H') λd H'=>VC P n y (bh bj d) H' Q):VC P n (.seq (.oJ rs bj) y) Γ H Q:=VC.seq (VC.oJ h)
def VC.pz {y:IC}(h:VO P n rs Γ H (λ_ _ _=>False) λd H'=>VC P n y (bh bj d) H' Q):VC P n (.seq (.draw [rs] bj) y) Γ H Q:=VC.seq (VC.Ez h)
def VC.Hz {x y z:IC}(h:VC P n (.seq x y) Γ H (bP (λd H'=>VC P n z d H' Q) Q)):VC P n (.seq (.seq x y) z) Γ H Q:=VC.seq h
def VC.pw {id:Nat}{x z:IC}(h:VC P n x Γ H (bK id (bP (λd H'=>VC P n z d H' Q) Q))):VC P n (.seq (.block id x) z) Γ H Q:=VC.seq (VC.block h)
def VC.sX {y:IC}(h:VC P n y Γ H Q):VC P n (.seq .skip y) Γ H Q:=VC.seq (VC.skip h)
def VC.tT {c:Operand}{x y:IC}(d:ev Γ c=some (.bool true))(h:VC P n x Γ H Q):VC P n (.cond c x y) Γ H Q:=VC.cond d (λ_=>h) (λe=>by cases e)
def VC.tS {c:Operand}{x y:IC}(d:ev Γ c=some (.bool false))(h:VC P n y Γ H Q):VC P n (.cond c x y) Γ H Q:=VC.cond d (λe=>by cases e) (λ_=>h)
def VC.sW {c:Operand}{x y z:IC}{t:Bool}(g:ev Γ c=some (.bool t))(j:t=true->VC P n x Γ H (bP (λd H'=>VC P n z d H' Q) Q))(h:t=false->VC P n y Γ H (bP (λd H'=>VC P n z d H' Q) Q)):
 VC P n (.seq (.cond c x y) z) Γ H Q:=VC.seq (VC.cond g j h)
end
def Z0:(∀cs:List Value,jb cs []=some cs)/\
 (∀(cs:List Value) (o s:Nat) (v:Value) (r:List (Nat×Nat×Value)),jb cs ((o,s,v)::r)=if v.cells.size=s/\o+s<=cs.length then jb (cs.take o++v.cells.toList++cs.drop (o+s)) r else none)/\
 (∀ρ:Operand->Value,ja ρ []=[])/\(∀(ρ:Operand->Value) (o s:Nat) (x:Operand) (r:List (Nat×Nat×Operand)),ja ρ ((o,s,x)::r)=(o,s,ρ x)::ja ρ r)/\
 (∀(Γ:Env) (x:Operand),Au Γ x=(ev Γ x).getD undef)/\(∀(Γ:Env) (t:Nat),ev Γ (.tmp t)=look Γ t)/\(∀(Γ:Env) (v:Value),ev Γ (.const v)=some v)/\
 (∀(Γ:Env) (g:Nat),ev Γ (.global g)=some (.pointer (some ⟨g,0,none⟩)))/\(∀(Γ:Env) (f:Nat),ev Γ (.func f)=some (.func (.func f) #[] #[]))/\
 (∀(s t:Nat) (v:Value) (r:Env),look ((s,v)::r) t=if s=t then some v else look r t)/\(∀(d:Nat) (v:Value) (Γ:Env),au (some d) v Γ=(d,v)::Γ)/\(∀(v:Value) (Γ:Env),au none v Γ=Γ)/\
 (∀v d:Value,(some v).getD d=v)/\(∀l:List Value,l.toArray.size=l.length)/\(∀l:List Value,l.toArray.toList=l)/\(∀(a:Value) (l:List Value),(a::l).length=l.length+1)/\(([]:List Value).length=0)/\
 (∀(a:Value) (l:List Value) (n:Nat),(a::l).take (n+1)=a::l.take n)/\(∀l:List Value,l.take 0=[])/\(∀(a:Value) (l:List Value) (n:Nat),(a::l).drop (n+1)=l.drop n)/\(∀l:List Value,l.drop 0=l)/\
 (∀(a:Value) (l m:List Value),a::l++m=a::(l++m))/\(∀l:List Value,[]++l=l)/\(∀l:List Value,l++[]=l):=
 ⟨λ_=>rfl,λ_ _ _ _ _=>rfl,λ_=>rfl,λ_ _ _ _ _=>rfl,λ_ _=>rfl,λ_ _=>rfl,λ_ _=>rfl,λ_ _=>rfl,λ_ _=>rfl,λ_ _ _ _=>rfl,λ_ _ _=>rfl,λ_ _=>rfl,λ_ _=>rfl,λ_=>List.size_toArray,λ_=>rfl,
   λ_ _=>rfl,rfl,λ_ _ _=>rfl,λ_=>rfl,λ_ _ _=>rfl,λ_=>rfl,λ_ _ _=>rfl,λ_=>rfl,λ_=>vm _⟩
def jI {κ β:Type}[DecidableEq κ](k:κ):List (κ×β)->Option β
 |[]=>none
 |(a,v)::r=>if a=k then some v else jI k r
def js {κ β:Type}[DecidableEq κ](k:κ)(v:β):List (κ×β)->List (κ×β)
 |[]=>[(k,v)]
 |(a,u)::r=>if a=k then(a,v)::r else(a,u)::js k v r
def Jz {κ β:Type}[DecidableEq κ](k:κ):List (κ×β)->List (κ×β)
 |[]=>[]
 |(a,u)::r=>if a=k then r else(a,u)::Jz k r
structure OY (κ:Type)[DecidableEq κ] where
 sk:SK
 enc:κ->Value
 same:∀a b,Ou sk (enc a) (enc b)=some (decide (a=b))
def yw:OY ByteArray:=⟨.str,.string,λ_ _=>rfl⟩
def oA(ok:Bool)(zero:Value):Option Value->Value
 |some v=>if ok then .tuple #[v,.bool true]else v
 |none=>if ok then .tuple #[zero,.bool false]else zero
section
variable {κ β:Type} [DecidableEq κ] {E:OY κ} {V:β->Value}
def nk(E:OY κ)(V:β->Value)(es:List MapEntry)(m:List (κ×β)):Prop:=es.map (λe=>(e.key,e.val))=m.map λp=>(E.enc p.1,V p.2)
structure yQ (E:OY κ)(V:β->Value)(es:Array MapEntry)(c:Nat)(m:List (κ×β)):Prop where
 of:nk E V es.toList m
 born:es.toList.Pairwise λa b=>a.born<b.born
 clock:∀e∈es.toList,e.born<c
def yQ.nil:yQ E V #[] 0 []:=⟨rfl,.nil,Zs⟩
def Gi {k:κ}:∀{es:List MapEntry} {m:List (κ×β)} {i:Nat},nk E V es m->
 ∃r,nY E.sk (E.enc k) es i=some r/\r.map (·.2)=(jI k m).map V/\∀j v,r=some (j,v)->i<=j/\j-i<es.length/\∃e,es[j-i]? =some e/\e.key=E.enc k/\
  (∀g u,g.val=V u->(nk E V (es.set (j-i) g) (js k u m)↔g.key=E.enc k))/\nk E V (es.eraseIdx (j-i)) (Jz k m):=by
 intro es
 induction es with
 |nil=>
  intro m i h;cases m with
  |nil=>exact⟨none,rfl,rfl,λ_ _ h=>by cases h⟩
  |cons p m=>simp[nk]at h
 |cons e es ih=>
  intro m i h;cases m with
  |nil=>simp[nk]at h
  |cons p m=>
   obtain⟨a,u⟩:=p;simp only[nk,QE,vp,XA]at h;obtain⟨⟨q,B⟩,C⟩:=h;simp only[nY,q,E.same,B];by_cases ek:k=a
   .subst ek;refine⟨some (i,V u),Zs,by simp[jI],λj v D=>?_⟩;cases D;refine⟨Qs _,Zs,e,Zs,q,λg u' d=>?_,?_⟩
    .simp only[Qy,List.set_cons_zero,js,if_true,nk,QE,vp,XA,d,and_true];exact⟨λh=>h.1,λh=>⟨h,C⟩⟩
    .simpa[Jz,nk]using C
   .obtain⟨r,F,G,H⟩:=ih (m:=m) (i:=i+1) C;have A:¬a=k:=λe=>ek e.symm
    refine⟨r,by simp[ek,F],by simp[jI,A,G],λj v D=>?_⟩;obtain⟨g1,g2,x,I,J,K,L⟩:=H j v D;have s:j-i=(j-(i+1))+1:=by omega
    refine⟨Zo,by simp;omega,x,by rw[s];simpa using I,J,λg u' d=>?_,?_⟩
    .rw[s];simp only[List.set_cons_succ,js,A,if_false,nk,QE,vp,q,B,true_and];exact K g u' d
    .rw[s];simp only[List.eraseIdx_cons_succ,Jz,A,if_false,nk,QE,vp,q,B,true_and];exact L
def gp {k:κ}{v:β}:∀{m:List (κ×β)},jI k m=none->js k v m=m++[(k,v)]:=by
 intro m
 induction m with
 |nil=>intro _;rfl
 |cons p m ih=>
  obtain⟨a,u⟩:=p;intro h;simp only[jI]at h;split at h
  .cases h
  .rename_i d;simp[js,d,ih h]
def yQ.modify {es:Array MapEntry}{c:Nat}{m:List (κ×β)}(h:yQ E V es c m){k:κ}{j:Nat}{u key:Value}{v:β}(H:nY E.sk (E.enc k) es.toList 0=some (some (j,u)))(I:key=E.enc k):
 yQ E V (es.modify j λe=>{e with key,val:=V v}) c (js k v m):=by
 subst I;obtain⟨r,B,f2,G⟩:=Gi (k:=k) (i:=0) h.of;rw[H]at B;cases B;obtain⟨_,d,e,g,g4,C,_⟩:=G j u rfl;simp only[Nat.sub_zero]at d g C;have q:(es.modify j λe=>{e with key:=E.enc k,val:=V v}).toList=es.toList.set j {e with key:=E.enc k,val:=V v}:=by
  apply vz;intro i;rw[vC,vA,Vx];by_cases hi:j=i
  .subst hi;have:es[j]? =some e:=by simpa using g
   have g2':j<es.size:=by simpa using d
   exact zFD
  .simp[hi]
 have A:(es.toList.set j {e with key:=E.enc k,val:=V v}).map (·.born)=es.toList.map (·.born):=by
  apply vz;intro i;simp only[Vu,Vx];by_cases hi:j=i
  .subst hi;have g2':j<es.size:=by simpa using d
   have:es[j]? =some e:=by simpa using g
   exact zFD
  .simp[hi]
 refine⟨?_,?_,?_⟩
 .rw[q];exact(C {e with key:=E.enc k,val:=V v} v rfl).2 rfl
 .rw[q];have D:=h.born;have F:∀l:List MapEntry,l.Pairwise (λa b=>a.born<b.born)↔(l.map MapEntry.born).Pairwise (·< ·):=λl=>List.pairwise_map.symm
  rw[F]at D|-;have L:(es.toList.set j {e with key:=E.enc k,val:=V v}).map MapEntry.born=es.toList.map MapEntry.born:=A;rw[L];exact D
 .rw[q];intro x J;have:x.born∈(es.toList.set j {e with key:=E.enc k,val:=V v}).map (·.born):=QO.2 ⟨x,J,rfl⟩;rw[A]at this;obtain⟨y,K,s⟩:=QO.1 this;rw[<- s];exact h.clock y K
def yQ.push {es:Array MapEntry}{c:Nat}{m:List (κ×β)}(h:yQ E V es c m){k:κ}{v:β}(d:jI k m=none):
 yQ E V (es.push {key:=E.enc k,val:=V v,born:=c}) (c+1) (js k v m):=by
 refine⟨?_,?_,?_⟩
 .rw[gp d];have:=h.of;simp only[nk]at this|-;simp[this]
 .exact zEL
 .exact zDV
variable {P:Program} {n:Nat} {rs:List RO} {Γ:Env} {H:SH} {Z:List PanicEntry->Env->SH->Prop} {K:Env->SH->Prop} {d:Option Nat}
inductive AU:SH->Nat->Obj->Prop where
 |here {b:Nat} {o:Obj} {L:SH}:AU ([.obj b o]::L) b o
 |there {A:List kC} {L:SH} {b:Nat} {o:Obj}:AU L b o->AU (A::L) b o
 |among {A:List kC} {L:SH} {b:Nat} {o:Obj}:kC.obj b o∈A->AU (A::L) b o
def AU.mem {b:Nat}{o:Obj}(h:AU H b o):kC.obj b o∈H.flatten:=by
 induction h with
 |here=>simp
 |there _ ih=>simp only[Vd,QH];exact .inr ih
 |among h=>simp only[Vd,QH];exact .inl h
def iT {b:Nat}{o:Obj}{L F:List kC}{w:World}(d:kC.obj b o∈L)(g:Sat w (L++F)):(getObj b).run P w=.ok o w:=by
 obtain⟨h1,h2⟩:=g.obj (Zw F d);cases o<;>simp_all [Go.getObj,Sem.run,zF]
def zO {j:SK}{zero:Value}{ok:Bool}{m x:Operand}{b c:Nat}{es:Array MapEntry}{k:κ}{l:List (κ×β)}(D:ev Γ m=some (.map (some b)))(J:ev Γ x=some (E.enc k))(A:j=E.sk)
 (G:AU H b (.map es c)) (C:yQ E V es c l) (h:VO P n rs (au d (oA ok zero ((jI k l).map V)) Γ) H Z K):VO P n (⟨d,none,.lookup j zero ok m x⟩::rs) Γ H Z K:=by
 subst A;refine VO.read rfl rfl (λρ g=>⟨_,rfl,λF w I=>?_⟩) h;obtain⟨r,q,s,_⟩:=Gi (k:=k) (i:=0) C.of;have B:=iT (P:=P) G.mem I;rw[g _ _ D,g _ _ J];simp only[wg,Sem.run_bind,B,Result.andThen_ok,Sem.run_pure,q];rw[<- s];cases r with
 |none=>rfl
 |some p=>rfl
def zN {G:SK}{m x y:Operand}{b c:Nat}{es:Array MapEntry}{k:κ}{v:β}{l:List (κ×β)}{R:SH}(N:ev Γ m=some (.map (some b)))(Q:ev Γ x=some (E.enc k))(S:ev Γ y=some (V v))(M:G=E.sk)
 (O:Tk H [.obj b (.map es c)] R) (A:yQ E V es c l) (h:∀C B,yQ E V C B (js k v l)->VO P n rs (au d undef Γ) ([.obj b (.map C B)]::R) Z K):VO P n (⟨d,none,.Cv G m x y⟩::rs) Γ H Z K:=by
 subst M;refine VO.act rfl rfl (λρ s=>⟨_,rfl,?_⟩);rw[s _ _ N,s _ _ Q,s _ _ S];refine aS.perm O.perm ?_;refine Kg (m:=b) (c:=c) (es:=es) Zs ?_;obtain⟨r,D,I,J⟩:=Gi (k:=k) (i:=0) A.of;simp only[D];cases r with
 |none=>
  refine aS.bind (aS.setObj rfl (aS.pure ⟨undef,_,.inr ⟨rfl,rfl⟩,?_,h _ _ (A.push (by simpa using I.symm))⟩));simp
 |some p=>
  obtain⟨j,u⟩:=p;obtain⟨_,g2,e,F,L,_⟩:=J j u rfl;simp only[Nat.sub_zero]at F;have g:((es[j]?).map (·.key)).getD (E.enc k)=E.enc k:=by
   have:es[j]? =some e:=by simpa using F
   simp[this,L]
  refine aS.bind (OM _ _ (λU T=>?_));have q:U=E.enc k:=by rcases T with h|h;rw[h,g];exact h
  refine aS.bind (aS.setObj rfl (aS.pure ⟨undef,_,.inr ⟨rfl,rfl⟩,?_,h _ _ (A.modify D q)⟩));simp
end
inductive ke (size:Nat):Value->Nat->List Value->List Value->Prop where
 |mk {b o n c:Nat} {xs sp:List Value}:xs.length=n*size->xs.length+sp.length=c*size->n<=c->ke size (.slice (some ⟨b,o,none⟩) n c) n xs sp
 |nil:ke size Nz 0 [] []
def aj:Value->List Value->List Value->List kC
 |.slice (some ⟨b,o,none⟩) _ _,xs,sp=>kA b o (xs++sp)
 |_,_,_=>[]
def ke.len {size n v xs sp}(h:ke size v n xs sp):xs.length=n*size:=by
 cases h with
 |mk h1 _ _=>exact h1
 |nil=>simp
def ke.some {size n v xs sp}(h:ke size v n xs sp)(hn:0 < n):∃b o c,v=.slice (some ⟨b,o,none⟩) n c/\n<=c/\xs.length+sp.length=c*size:=by
 cases h with
 |mk h1 h2 h3=>exact⟨_,_,_,rfl,h3,h2⟩
 |nil=>omega
def ke.form {size n v xs sp}(h:ke size v n xs sp):∃a c,v=.slice a n c:=by
 cases h with
 |mk h1 h2 h3=>exact⟨_,_,rfl⟩
 |nil=>exact⟨_,_,rfl⟩
def P8(aD):∀(r c:Nat),c<=2*aD+192->Builtin.growBy aD r c<=2*aD+192:=by
 intro r
 induction r with
 |zero=>intro c h;exact h
 |succ r ih=>
  intro c h;simp only[Builtin.growBy];split
  .exact h
  .exact ih _ Zo
def MJ {aD c}(h:c < aD):Builtin.nextslicecap aD c<=2*aD+192:=by
 unfold Builtin.nextslicecap;split
 .omega
 .split
  .omega
  .exact P8 aD 4 c Zo
def Src.mono {H H' size n vs v}(d:∀x∈H,x∈H')(h:Src H size n vs v):Src H' size n vs v:=by
 unfold Src at*;split at h
 .exact⟨h.1,λx g=>d x (h.2 x g)⟩
 .exact h
 .exact h
 .exact h.elim
def Dt(n z):(jA n z).length=n*z.length:=by simp[jA]
section
variable {P:Program} {n:Nat} {rs:List RO} {Γ:Env} {H:SH} {Z:List PanicEntry->Env->SH->Prop} {K:Env->SH->Prop} {d:Option Nat}
def kX {t:TypeId}{size bytes:Nat}{zero:List Value}{s x:Operand}{sv q:Value}{k m:Nat}{xs sp ys:List Value}{R:SH}(hs:ev Γ s=some sv)(B:ev Γ x=some q)(E:ke size sv k xs sp)
 (ht:Tk H (aj sv xs sp) R) (O:eZ q=some m) (S:Src R.flatten size m ys q) (j:ys.length=m*size) (W:ys.all jk=true) (hz:zero.length=size) (hb:bytes≠0) (T:(2*(k+m)+192)*bytes<=2 ^ 48)
 (h:∀F N,ke size F (k+m) (xs++ys) N->VO P n rs (au d F Γ) (aj F (xs++ys) N::R) Z K):VO P n (⟨d,none,.append t size bytes zero s x⟩::rs) Γ H Z K:=by
 refine VO.act' rfl rfl (λρ M=>⟨_,rfl,?_⟩);rw[M _ _ hs,M _ _ B];refine aS.perm ht.perm ?_;have D:Src (aj sv xs sp++R.flatten) size m ys q:=S.mono (λx B=>QI _ B);have grow:∀(a:Option Addr) (c:Nat),sv=.slice a k c->¬(k+m<=c)->Src (aj sv xs sp++R.flatten) size k xs sv->
  aS P (if Builtin.nextslicecap (k + m) c * bytes>2 ^ 48 ∨ bytes = 0 then stuck "size" else do
   let cap <- choose (.appendCap (k+m) c t)
   let old <- Builtin.firstCells size k sv
   let new <- Builtin.firstCells size m q
   let b <- newObj (.cells (old++new++(jA (cap-(k+m)) zero).toArray) t)
   pure (Next.value (.slice (Option.some ⟨b,0,none⟩) (k+m) cap)):Sem Next) (aj sv xs sp++R.flatten) λC L=>∃v H' X,(C=.value v∨(C=.skip/\v=undef))/\L.Perm (List.flatten H'++X)/\VO P n rs (au d v Γ) H' Z K:=by
  intro a c gP g J;have hnc:Builtin.nextslicecap (k+m) c*bytes<=2 ^ 48:=Qu (Qx _ (MJ Zo)) T;rw[if_neg Zo];have fin:∀cap,k+m<=cap->aS P (do
   let old <- Builtin.firstCells size k sv
   let new <- Builtin.firstCells size m q
   let b <- newObj (.cells (old++new++(jA (cap-(k+m)) zero).toArray) t)
   pure (Next.value (.slice (Option.some ⟨b,0,none⟩) (k+m) cap)):Sem Next) (aj sv xs sp++R.flatten) λC L=>∃v H' X,(C=.value v∨(C=.skip/\v=undef))/\L.Perm (List.flatten H'++X)/\VO P n rs (au d v Γ) H' Z K:=by
   intro cap Q;refine aS.bind (aS.firstCells J (aS.bind (aS.firstCells D (Hh (λb=>?_)))));have G:ke size (.slice (Option.some ⟨b,0,none⟩) (k+m) cap) (k+m) (xs++ys) (jA (cap-(k+m)) zero):=by
    refine .mk ?_ ?_ Q
    .rw[Vz,E.len,j,Nat.add_mul]
    .rw[Vz,E.len,j,Dt,hz,<- Nat.add_mul,<- Nat.add_mul]
     congr 1;omega
   refine⟨_,_,aj sv xs sp,.inl rfl,?_,h _ _ G⟩;have:(xs.toArray++ys.toArray++(jA (cap-(k+m)) zero).toArray).toList=xs++ys++jA (cap-(k+m)) zero:=by simp
   rw[this];simp only[Vd,vj];refine List.Perm.trans ?_ (vY _ QZ);simp only[aj,vj];exact vd _
  refine aS.bind (aS.choose (λhf=>by simp[Question.forced]at hf) (λt'=>fin _ ?_));simp only[Question.cut];omega
 cases E with
 |@mk b o _ c _ _ h1 h2 h3=>
  simp only[O];by_cases g:k+m<=c
  .rw[if_pos g];refine aS.bind (aS.firstCells D ?_);have fj:ys.length<=sp.length:=by
    have Y:(k+m)*size<=c*size:=Qx _ g;rw[Nat.add_mul]at Y;omega
   have ux:kA b o (xs++sp)=kA b o xs++(kA b (o+k*size) (sp.take ys.length)++kA b (o+k*size+ys.length) (sp.drop ys.length)):=by
    rw[j7,h1]
    congr 1
    conv=>lhs;rw[<- Qj ys.length sp]
    rw[j7]
    congr 2
    simp;omega
   have G:ke size (.slice (Option.some ⟨b,o,none⟩) (k+m) c) (k+m) (xs++ys) (sp.drop ys.length):=by
    refine .mk ?_ ?_ g
    .rw[Vz,h1,j,Nat.add_mul]
    .rw[Vz,Q1];omega
   have A:((⟨b,o,none⟩:Addr).add (k*size))=⟨b,o+k*size,none⟩:=gS b o _;simp only[A];have U:(aj (.slice (Option.some ⟨b,o,none⟩) k c) xs sp++R.flatten).Perm (kA b (o+k*size) (sp.take ys.length)++(kA b o xs++(kA b (o+k*size+ys.length) (sp.drop ys.length)++R.flatten))):=by
    simp only[aj,ux,vj];exact ww _ _ _
   refine aS.perm U (aS.bind (aS.storeCells tK (vf.1 W) (aS.pure ?_)));refine⟨_,_,[],.inl rfl,?_,h _ _ G⟩;simp only[aj,Vd,vm,j7,h1,vj];exact ww _ _ _
  .rw[if_neg g];refine grow _ c rfl g ⟨h1,λx B=>?_⟩;simp only[aj,j7,QH];exact .inl (.inl B)
 |nil=>
  simp only[O];by_cases g:0+m<=0
  .rw[if_pos g];have I:m=0:=by omega
   subst I;obtain rfl:ys=[]:=by simpa using j
   refine aS.bind (aS.firstCells D (aS.pure ?_));exact⟨_,_,[],.inl rfl,by simp[aj],h _ _ .nil⟩
  .rw[if_neg g];exact grow _ 0 rfl g rfl
end
def xy {α g:Type}{f:α->List g}{n}:∀{l:List α},(∀x∈l,(f x).length=n)->(l.flatMap f).length=l.length*n:=by
 intro l
 induction l with
 |nil=>intro _;simp
 |cons a l ih=>
  intro h;simp only[VV,Vz,Q0,h a Zs,ih (λx d=>h x (by simp[d]))];rw[Nat.add_mul];omega
def ap.left {A B}:ap (A++B) A:=⟨B,by simp[fq]⟩
def ap.perm {A B}(h:A.flatten.Perm B.flatten):ap A B:=⟨[],by simpa[fq]using h⟩
def VO.imp {P n rs Γ H H' Z K}(i:ap H H')(h:VO P n rs Γ H' Z K):VO P n rs Γ H Z K:=
 λl j a w F d Q g q m s=>h l j a w F d Q g (q.imp i) m s
def kG {d:List RV}{Q e Γ H dl vs}(g:e=.normal∨e=.ret)(m:SR Γ H d vs)(j:Q (bU vs) dl)(h:ap H dl):tY d Q e Γ H:=⟨g,vs,dl,m,h,j⟩
inductive Ij:SH->Nat->Nat->Nat->List Value->Prop where
 |cells {b o k n:Nat} {vs us:List Value} {L:SH}:o<=k->k-o+n<=vs.length->(vs.drop (k-o)).take n=us->us.length=n->Ij (kA b o vs::L) b k n us
 |there {A:List kC} {L:SH} {b k n:Nat} {us:List Value}:Ij L b k n us->Ij (A::L) b k n us
def Ij.row {H b k n us}(h:Ij H b k n us):K3 H b k us/\us.length=n:=by
 induction h with
 |cells h1 _ h2 h3=>exact⟨.cells h1 (by rw[h3,h2]) h3,h3⟩
 |there _ ih=>exact⟨.there ih.1,ih.2⟩
def eP {P n rs Γ H Z K d m x b o us}(j:ev Γ x=some (.pointer (some ⟨b,o,none⟩)))(g:Ij H b o m us)(h:VO P n rs (au d (.agg us.toArray) Γ) H Z K):VO P n (⟨d,none,.ny m x⟩::rs) Γ H Z K:=
 Yt j g.row.1 g.row.2 h
inductive K1 (Γ:Env)(d:Nat):Option Operand->Nat->Prop where
 |Zy:K1 Γ d none d
 |num {x:Operand} {k:IntKind} {m:Nat}:ev Γ x=some (.int k m)->K1 Γ d (some x) m
def K1.val {Γ d y m o ρ}(h:K1 Γ d o m)(j:m<=y)(g:∀x u,ev Γ x=some u->ρ x=u):wX y (some d) (o.map ρ)=some m:=by
 cases h with
 |Zy=>rfl
 |num hx=>simp[wX,g _ _ hx,bound,j]
section
variable {P:Program} {n:Nat} {rs:List RO} {Γ:Env} {H:SH} {Z:List PanicEntry->Env->SH->Prop} {K:Env->SH->Prop} {d:Option Nat}
def eg {l h:Nat}{x:Operand}{A m:Option Operand}{s:ByteArray}(G:ev Γ x=some (.string s))(B:K1 Γ 0 A l)(j:K1 Γ s.size m h)(q:l<=h/\h<=s.size)
 (F:VO P n rs (au d (.string (s.extract l h)) Γ) H Z K):VO P n (⟨d,none,.M5 x A m⟩::rs) Γ H Z K:=
 VO.pure rfl (λρ g=>by
  have C:=B.val (y:=h) q.1 g;have D:=j.val (y:=s.size) q.2 g;have E:wX s.size (some s.size) none=some s.size:=rfl;simp[kb,g _ _ G,yD,C,D,E]) F
end
def HK {P n rs Γ H Z K d i x vs v}(m:ev Γ x=some (.tuple vs))(j:vs[i]? =some v)(h:VO P n rs (au d v Γ) H Z K):VO P n (⟨d,none,.ext x i⟩::rs) Γ H Z K:=
 VO.pure rfl (λρ g=>by simp[kb,g _ _ m,j]) h
section
variable {P:Program} {n:Nat} {rs:List RO} {Γ:Env} {H R:SH} {Z:List PanicEntry->Env->SH->Prop} {K:Env->SH->Prop} {A B C:List kC} {c:IC} {Q:Exit->Env->SH->Prop}
end
section
variable {κ β:Type} [DecidableEq κ]
def Cz {k:κ}{v:β}:∀{m:List (κ×β)},jI k m=some v->(k,v)∈m:=by
 intro m
 induction m with
 |nil=>intro h;simp[jI]at h
 |cons p m ih=>
  obtain⟨a,u⟩:=p;intro h;simp only[jI]at h;split at h
  .rename_i e;cases h;subst e;simp
  .simp[ih h]
def RN {k:κ}:∀{m:List (κ×β)},jI k m=none↔k∉m.map (·.1):=by
 intro m
 induction m with
 |nil=>simp[jI]
 |cons p m ih=>
  obtain⟨a,u⟩:=p;simp only[jI,QE,QJ];split
  .rename_i e;simp[e]
  .rename_i e;rw[ih];simp only[not_or];exact⟨λh=>⟨λx=>e x.symm,h⟩,λh=>h.2⟩
def wT {k j:κ}{v:β}:∀{m:List (κ×β)},jI j (js k v m)=if k=j then some v else jI j m:=by
 intro m
 induction m with
 |nil=>simp[js,jI]
 |cons p m ih=>
  obtain⟨a,u⟩:=p;simp only[js];split
  .rename_i e;subst e;simp only[jI];split<;>rfl
  .rename_i e;simp only[jI,ih];by_cases h1:a=j
   .subst h1;simp[show ¬k=a from λx=>e x.symm]
   .simp[h1]
def RQ {k:κ}{v:β}:∀{m:List (κ×β)},(js k v m).map (·.1)=if k∈m.map (·.1)then m.map (·.1)else m.map (·.1)++[k]:=by
 intro m
 induction m with
 |nil=>simp[js]
 |cons p m ih=>
  obtain⟨a,u⟩:=p;simp only[js];split
  .rename_i e;simp[e]
  .rename_i e;have d:¬k=a:=λx=>e x.symm
   simp only[QE,ih,QJ,d,false_or];split<;>simp
def ru {k:κ}{v:β}{m:List (κ×β)}(h:(m.map (·.1)).Nodup):((js k v m).map (·.1)).Nodup:=by
 rw[RQ];split
 .exact h
 .rename_i j;rw[QW];refine⟨h,Zs,?_⟩;intro a g b d;simp at d
  rintro rfl
  exact j (d ▸ g)
def W4 {k:κ}:∀{m:List (κ×β)},(Jz k m).Sublist m:=by
 intro m
 induction m with
 |nil=>exact .slnil
 |cons p m ih=>
  obtain⟨a,u⟩:=p;simp only[Jz];split
  .exact Qh _ _
  .exact ih.cons_cons _
def RS {k:κ}{x:β}:∀{m:List (κ×β)},(js k x m).Perm ((k,x)::Jz k m):=by
 intro m
 induction m with
 |nil=>exact .refl _
 |cons p m ih=>
  obtain⟨a,u⟩:=p;simp only[js,Jz];split
  .rename_i e;subst e;simp
  .exact(ih.cons _).trans (List.Perm.swap _ _ _)
def E3 {k:κ}{x y:β}:∀{m:List (κ×β)},js k y (js k x m)=js k y m:=by
 intro m
 induction m with
 |nil=>simp[js]
 |cons p m ih=>
  obtain⟨a,u⟩:=p;simp only[js];split
  .rename_i e;simp[js,e]
  .rename_i e;simp[js,e,ih]
def JD {k:κ}{v:β}{q:κ×β}:∀{m:List (κ×β)},q∈js k v m->q=(k,v)∨q∈m:=by
 intro m d;have:=RS.mem_iff.1 d;rcases QJ.1 this with h|h
 .exact .inl h
 .exact .inr (W4.subset h)
end
def Kv.Yk {b o i k vs u L}(d:o+i=k)(h:i < vs.length):Kv (kA b o vs::L) b k [u] (kA b o (vs.set i u)::L):=by
 subst d;refine .cells Zo tK ?_;rw[Nat.add_sub_cancel_left,List.set_eq_take_append_cons_drop,if_pos h];simp
section
variable {κ β:Type} [DecidableEq κ] {E:OY κ} {V:β->Value}
end
def VC.mW {P n Γ H Q c x y z}(g:ev Γ c=some (.bool true))(h:VC P n x Γ H (bP (λd H'=>VC P n z d H' Q) Q)):VC P n (.seq (.cond c x y) z) Γ H Q:=VC.seq (VC.tT g h)
def VC.mV {P n Γ H Q c x y z}(g:ev Γ c=some (.bool false))(h:VC P n y Γ H (bP (λd H'=>VC P n z d H' Q) Q)):VC P n (.seq (.cond c x y) z) Γ H Q:=VC.seq (VC.tS g h)
abbrev vi (n:Int):Value:=.int .i64 n
abbrev kE (b:Nat):Value:=.pointer (some ⟨b,0,none⟩)
def ap.cut {H M Δ}(h:ap H M)(k:ap M Δ):ap H Δ:=by
 obtain⟨X,d⟩:=h;obtain⟨Y,g⟩:=k;refine⟨Y++X,?_⟩;simp only[fq,Vc]at*;refine d.trans ?_;rw[<- vj];exact g.append_right _
def kR {P n rs Γ H Z K d m x b o us}(A:ev Γ x=some (.pointer (some ⟨b,o,none⟩)))(j:∀a∈kA b o us,a∈H.flatten)(q:us.length=m)(h:VO P n rs (au d (.agg us.toArray) Γ) H Z K):VO P n (⟨d,none,.ny m x⟩::rs) Γ H Z K:=
 VO.read rfl rfl (λρ g=>⟨_,rfl,λF w s=>by
  simp[g _ _ A,Instr.sureAddr,run_loadCells q j s]⟩) h
def AM {P:Program}{n:Nat}{rs:List RO}{Γ:Env}{H:SH}{Z:List PanicEntry->Env->SH->Prop}{K:Env->SH->Prop}{d:Option Nat}{i:Nat}{x:Operand}{l:List Value}{v:Value}(m:ev Γ x=some (.tuple l.toArray))(j:l[i]? =some v)(h:VO P n rs (au d v Γ) H Z K):VO P n (⟨d,none,.ext x i⟩::rs) Γ H Z K:=
 VO.pure rfl (λρ g=>by simp[kb,g _ _ m,j]) h
def Kb {P n rs Γ H Z K d r s b}(m:look Γ s=some undef)(h:VO P n rs (au d undef Γ) H Z K):VO P n (⟨d,some (s,b),r⟩::rs) Γ H Z K:=by
 intro l g a w F ZZ Q ha lD hq hz;obtain⟨o,l',rfl,Ad,ops,j⟩:=zi g;obtain⟨g1,g2,g3,g4⟩:=jP j;have hw:jM (some (s,b)) a=false:=by simp[jM,ha.slots _ _ m,undef]
 exact zC3
structure Tv (R:Prop):Prop where
 out:R
end Go.V

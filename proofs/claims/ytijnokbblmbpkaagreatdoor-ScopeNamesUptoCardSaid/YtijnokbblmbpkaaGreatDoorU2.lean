/-
  A part of the proof.
-/
import Derived.Test.YtijnokbblmbpkaaGreatDoorU1
import Derived.Orders
import Derived.RangeFuncIn
import Derived.RangeFuncLeaves
import Derived.OwnWalkIn
set_option linter.all false
namespace Go.V
open Go
def jB(n:Nat)(zero:List Value):List Value:=(List.range (n*zero.length)).map λi=>zero[i % zero.length]!
def NJ:SK->Value->Value->Option Bool
 |.int,.int k a,.int k' b=>if k=k' then some (a==b)else none
 |.str,.string a,.string b=>some (decide (a=b))
 |.bool,.bool a,.bool b=>some (a==b)
 |_,_,_=>none
def nJ(sk:SK)(k:Value):List MapEntry->Nat->Option (Option (Nat×Value))
 |[],_=>some none
 |e::es,i=>
  match NJ sk k e.key with
  |some true=>some (some (i,e.val))
  |some false=>nJ sk k es (i+1)
  |none=>none
def wg:Value->Sem (Array MapEntry×Nat)
 |.map none=>pure (#[],0)
 |.map (some r)=>do
  match <- getObj r with
  |.map es c=>pure (es,c)
  | _ => stuck "map"
 | _ => stuck "map"
def xX(ok:Bool)(zero:Value):Option (Nat×Value)->Value
 |some (_,v)=>if ok then .tuple #[v,.bool true]else v
 |none=>if ok then .tuple #[zero,.bool false]else zero
def fA:Value->Option Nat
 |.slice _ n _=>some n
 |.string s=>some s.size
 |_=>none
def wZ(ρ:Operand->Value):R->Option (Sem Next)
 |.dc x=>some do let a <- Instr.sureAddr (ρ x);let v <- load a;pure (.value v)
 |.ij n x=>some do let a <- Instr.sureAddr (ρ x);let cs <- loadCells a n;pure (.value (.agg cs))
 |.Wz m=>some do let(es,_) <- wg (ρ m);pure (.value (.int .i64 es.size))
 |.lookup sk zero ok m key=>some do
  let(es,_) <- wg (ρ m)
  match nJ sk (ρ key) es.toList 0 with
  |some r=>pure (.value (xX ok zero r))
  | none => stuck "key"
 |.entry it=>some do let v <- Instr.entry (ρ it);pure (.value v)
 |.b2s x=>some do let v <- Conv.bytesToString (ρ x);pure (.value v)
 |.alloc t zero=>some do let b <- newObj (.cells zero.toArray t);pure (.value (.pointer (some ⟨b,0,none⟩)))
 |.box t x=>some do let b <- newObj (.cells (ρ x).cells t);pure (.value (.pointer (some ⟨b,0,none⟩)))
 |.nA t len zero parts=>some <|match jh (jB len zero) (jb ρ parts)with
  |some out=>do let b <- newObj (.cells out.toArray t);pure (.value (.slice (some ⟨b,0,none⟩) len len))
  | none => stuck "parts"
 |.pQ=>some do let b <- newObj (.map #[] 0);pure (.value (.map (some b)))
 |.Gp t size bytes zero l c=>some <|match ρ l,ρ c with
  |.int _ l,.int _ c=>if 0<=l/\l<=c/\c<=9223372036854775807/\bytes*c<=2 ^ 48 then if zero.length=size then do
    let b <- newObj (.cells (jB c.toNat zero).toArray t);pure (.value (.slice (some ⟨b,0,none⟩) l.toNat c.toNat))
   else stuck "size" else stuck "size"
  | _, _ => stuck "size"
 |.Xv x=>some <|match ρ x with
  |.string s=>do let b <- newObj (.stringIter s 0);pure (.value (.pointer (some ⟨b,0,none⟩)))
  | _ => stuck "string"
 |.Xu x=>some <|match ρ x with
  |.map none=>do let b <- newObj (.mapIter none 0 #[] 0);pure (.value (.pointer (some ⟨b,0,none⟩)))
  |.map (some m)=>do let(_,clock) <- wg (.map (some m));let b <- newObj (.mapIter (some m) clock #[] clock);pure (.value (.pointer (some ⟨b,0,none⟩)))
  | _ => stuck "map"
 |.s2b t x=>some <|match ρ x with
  |.string s=>do let v <- Conv.stringToBytes t s;pure (.value v)
  | _ => stuck "string"
 | .store n x v => some do let a ← Instr.sureAddr (ρ x); if (ρ v).cells.size = n then (do storeCells a (ρ v).cells.toList; pure .skip) else stuck "size"
 |.Bn sk m key v=>some <|match ρ m with
  |.map (some r)=>do
   let(es,clock) <- wg (.map (some r))
   match nJ sk (ρ key) es.toList 0 with
   |some (some (i,_))=>do
    let key <- Instr.keyThatStays (((es[i]?).map (·.key)).getD (ρ key)) (ρ key)
    setObj r (.map (es.modify i λe=>{e with key,val:=ρ v}) clock);pure .skip
   |some none=>do setObj r (.map (es.push {key:=ρ key,val:=ρ v,born:=clock}) (clock+1));pure .skip
   | none => stuck "key"
  | _ => stuck "map"
 |.delete sk m key=>some <|match ρ m with
  |.map (some r)=>do
   let(es,clock) <- wg (.map (some r))
   match nJ sk (ρ key) es.toList 0 with
   |some (some (i,_))=>do setObj r (.map (es.eraseIdxIfInBounds i) clock);pure (.value (.tuple #[]))
   |some none=>do setObj r (.map es clock);pure (.value (.tuple #[]))
   | none => stuck "key"
  |.map none=>pure (.value (.tuple #[]))
  | _ => stuck "map"
 |.append t size bytes zero s x=>some <|match ρ s,fA (ρ x)with
  |.slice base n c,some m=>
   if n+m<=c then do
    let new <- Builtin.firstCells size m (ρ x)
    if let some a:=base then storeCells (a.add (n*size)) new.toList
    pure (.value (.slice base (n+m) c))
   else if Builtin.nextslicecap (n + m) c * bytes > 2 ^ 48 ∨ bytes = 0 then stuck "size" else do
    let cap <- choose (.appendCap (n+m) c t)
    let old <- Builtin.firstCells size n (ρ s)
    let new <- Builtin.firstCells size m (ρ x)
    let b <- newObj (.cells (old++new++(jB (cap - (n+m)) zero).toArray) t)
    pure (.value (.slice (some ⟨b,0,none⟩) (n+m) cap))
  | _, _ => stuck "append"
 |.grow t size bytes zero s x=>some <|match ρ s,ρ x with
  |.slice base n c,.int _ l=>
   if l < 0 ∨ l * bytes > 2 ^ 48 ∨ IntKind.i64.wrap l ≠ l ∨ size = 0 then stuck "grow" else
   if n+l.toNat<=c then do
    if let some a:=base then storeCells (a.add (n*size)) (jB l.toNat zero)
    pure (.value (.slice base (n+l.toNat) c))
   else if Builtin.nextslicecap (n + l.toNat) c * bytes > 2 ^ 48 ∨ bytes = 0 ∨ ((n + l.toNat : Nat) : Int) > IntKind.i64.max then stuck "size" else do
    let cap <- choose (.appendCap (n+l.toNat) c t)
    let old <- Builtin.firstCells size n (ρ s)
    let b <- newObj (.cells (old++(jB l.toNat zero).toArray++(jB (cap - (n+l.toNat)) zero).toArray) t)
    pure (.value (.slice (some ⟨b,0,none⟩) (n+l.toNat) cap))
  | _, _ => stuck "grow"
 |.copy size d s=>some <|match ρ d,fA (ρ s)with
  |.slice base n _,some m=>do
   let cells <- Builtin.firstCells size (Nat.min m n) (ρ s)
   if let some a:=base then storeCells a cells.toList
   pure (.value (.int .i64 (Nat.min m n)))
  | _, _ => stuck "copy"
 |.clr zero x=>some <|match ρ x with
  |.slice base n _=>do
   if let some a:=base then storeCells a (jB n zero)
   pure (.value (.tuple #[]))
  | _ => stuck "clear"
 |.next it s=>some do let v <- Instr.next (ρ it) s 0;pure (.value v)
 |.YY op t x y=>some do eqGuard op t x y (ρ x) (ρ y);let v <- Go.binOp op t (ρ x) (ρ y);pure (.value v)
 |.IW t ok m k=>some do let v <- Instr.lookup t (ρ m) (ρ k) ok;pure (.value v)
 |.updt t m k v=>some do Instr.mapUpdate t (ρ m) (ρ k) (ρ v);pure .skip
 |.ment t m k=>some do let v <- Instr.mapEntry t (ρ m) (ρ k);pure (.value v)
 |.mst t m s v=>some do Instr.entryStore t (ρ m) (ρ s) (ρ v);pure .skip
 |_=>none
section
variable {P:Program} {ρ:Operand->Value} {w w':World} {n:Next} {r:R} {s:Sem Next}
theorem Mb {d:TypeDesc}{g:SK}(h:ow d=some g)(a b:Value):Instr.sameNow d a b=NJ g a b:=by
 cases d <;> simp[ow]at h <;> subst h <;> cases a <;> cases b <;> simp[Instr.sameNow,NJ];rename_i a b;rw[beq_toListBytes,Mo]
theorem KT {d:TypeDesc}{g:SK}(h:ow d=some g)(k:Value):∀(es:List MapEntry) (i:Nat),Instr.findNow d k es i=nJ g k es i:=by
 intro es
 induction es with
 |nil=>intro i;rfl
 |cons e es ih=>
  intro i;simp only[Instr.findNow,nJ,Mb h,ih];split <;> simp_all
theorem yb {t:TypeId}{d:TypeDesc}{j:SK}(g:P.underlying t=some d)(h:ow d=some j)(e:Bool)(v:Value):(Instr.checkKey e 10000 t v).run P w=.ok () w:=by
 show(Instr.checkKey e (9999+1) t v).run P w=_;generalize 9999=n;cases d <;> simp[ow]at h <;> cases v <;> simp[Instr.checkKey,kF g]
theorem run_findKey {t:TypeId}{d:TypeDesc}{g:SK}(m:P.underlying t=some d)(h:ow d=some g){k:Value}{es:List MapEntry}{r:Option (Nat×Value)}(j:nJ g k es 0=some r):
 (Instr.findKey t k es).run P w=.ok r w:=by
 simp[Instr.findKey,kF m,KT h,j]
theorem XS {t:TypeId}{g:SK}(h:(P.underlying t).bind ow=some g):∃d,P.underlying t=some d/\ow d=some g:=X6.1 h
theorem rF(n:Nat)(z:Array Value):(jB n z.toList).toArray=(Array.range (n*z.size)).map (z[·% z.size]!):=by
 apply vD.1;simp only[jB,vE,Array.toList_range,Array.length_toList];apply QC;intro a _;rw[getElem!_def,getElem!_def];simp
theorem yZ(n:Nat)(z:Array Value):(jB n z.toList).toArray=Builtin.zeroCells z n:=by
 rw[rF];rfl
theorem fg {x:Value}{es:Array MapEntry}{c:Nat}(h:(wg x).run P w=.ok (es,c) w'):
 w'=w/\((x=.map none/\es=#[]/\c=0)∨∃r,x=.map (some r)/\(getObj r).run P w=.ok (.map es c) w):=by
 unfold wg at h;split at h
 .simp at h;obtain⟨⟨rfl,rfl⟩,rfl⟩:=h;exact⟨rfl,.inl ⟨rfl,rfl,rfl⟩⟩
 .rename_i r;simp only[Sem.run_bind]at h;have g:∀o d,(getObj r).run P w=.ok o d->d=w:=by
   intro o d h;simp only[getObj,Sem.run]at h;split at h <;> first|(cases h;done)|(cases h;rfl)
  cases hg:(getObj r).run P w with
  |halt x d=>rw[hg]at h;simp at h
  |ok o d=>
   rw[hg]at h;obtain rfl:=g _ _ hg;simp only[Result.andThen_ok]at h;cases o <;> simp at h;obtain⟨⟨rfl,rfl⟩,rfl⟩:=h;exact⟨rfl,.inr ⟨r,rfl,hg⟩⟩
 .simp at h
theorem jC {α j:Type}{x:Result α}{f:α->World->Result j}{b:j}{g:World}(h:x.andThen f=.ok b g):∃a d,x=.ok a d/\f a d=.ok b g:=by
 cases x with
 |ok a d=>exact⟨a,d,rfl,h⟩
 |halt h d=>simp at h
theorem j7 {α d h:Type}(x:Result α)(f:α->World->Result d)(g:d->World->Result h):(x.andThen f).andThen g=x.andThen λa w=>(f a w).andThen g:=by
 cases x <;> rfl
theorem upd_aux {t j e:TypeId}{s:SK}{d:TypeDesc}{m k v:Operand}
 (hu:P.underlying t=some (.map j e)) (hd:P.underlying j=some d) (Iq:ow d=some s) (g:(match ρ m with
 |.map (some r)=>do
  let(es,clock) <- wg (.map (some r))
  match nJ s (ρ k) es.toList 0 with
  |some (some (i,_))=>do
   let key <- Instr.keyThatStays (((es[i]?).map (·.key)).getD (ρ k)) (ρ k)
   setObj r (.map (es.modify i λe=>{e with key,val:=ρ v}) clock);pure .skip
  |some none=>do setObj r (.map (es.push {key:=ρ k,val:=ρ v,born:=clock}) (clock+1));pure .skip
  | none => stuck "key"
 | _ => stuck "map" : Sem Next).run P w = .ok n w') : (do Instr.mapUpdate t (ρ m) (ρ k) (ρ v); pure .skip : Sem Next).run P w = .ok n w' := by
 split at g
 case h_2=>simp at g
 rename_i q hx;simp only[Sem.run_bind]at g;obtain⟨⟨es,c⟩,w1,A,h2⟩:=jC g;obtain⟨rfl,Nh⟩:=fg A;simp at Nh;simp only at h2;split at h2
 .rename_i i v' hf;exact zDF
 .rename_i hf;exact zDF
 .simp at h2
set_option maxHeartbeats 1000000 in
theorem uf {o:Oper}(aP:∀u,ρ (.const u)=u)(g:jG P o.op=some r)(hs:wZ ρ r=some s)(hr:s.run P w=.ok n w'):(execOp ρ o).run P w=.ok n w':=by
 obtain⟨dst,op,K,pos,after,guard⟩:=o;simp only at g;cases op
 case load t x=>
  simp only[jG]at g;split at g <;> cases g
  .exact zDI
  .exact zDI
  .rename_i d j C h2 hu hj;simp only[wZ,XD]at hs;subst hs;have ha:∀w,(isAgg t).run P w=.ok false w:=by intro w;rw[eS hu];cases d <;> simp_all
   simpa[execOp,Instr.loadAt,loadVar,ha]using hr
 case store t x v=>
  simp only[jG,X9]at g;obtain⟨i,hi,rfl⟩:=g;simp only[wZ,XD]at hs;subst hs;simp only[Sem.run_bind]at hr;obtain⟨a,T,C,h2⟩:=jC hr;split at h2
  .rename_i B;simp only[execOp,Instr.storeAt,storeVar,Sem.run_bind,C,Result.andThen_ok,kd hi,B];simpa[B]using h2
  .simp at h2
 case alloc t=>
  simp only[jG,X9]at g;obtain⟨z,B,rfl⟩:=g;obtain⟨i,u,hi,hu,rfl⟩:=iB B;simp only[wZ,XD]at hs;subst hs;simpa[execOp,Instr.alloc,ke hi hu,newVar,newRow]using hr
 case box t x=>
  simp only[jG,XD]at g;subst g;simp only[wZ,XD]at hs;subst hs;simpa[execOp,Instr.box,newVar,newRow]using hr
 case buildSlice t len parts=>
  simp only[jG]at g;split at g <;> try (cases g;done)
  rename_i e hu;split at g <;> try (cases g;done)
  rename_i i z hi B;split at g <;> try (cases g;done)
  rename_i D;obtain⟨h24,hzl⟩:=D;simp only[X9]at g;obtain⟨l,hlp,rfl⟩:=g;obtain⟨i',u,F,J,rfl⟩:=iB B;rw[hi]at F;cases F;simp only[wZ,XD]at hs;subst hs;split at hr
  case h_2=>simp at hr
  rename_i out ho;have nL:=Cn (ρ:=ρ) (λj=>some (j*i.size,i.size)) parts.toList l _ out hlp ho;have AV:(parts.map λp=>(p.1,ρ p.2)).toList=parts.toList.map λp=>(p.1,ρ p.2):=by simp
  have Q:u.cells.size=i.size:=by simpa using hzl
  rw[rF,Q]at nL;have hb:(Instr.buildSlice t len (parts.map λp=>(p.1,ρ p.2))).run P w=((newObj (.cells out.toArray e)).run P w).andThen λb w=>.ok (.slice (some ⟨b,0,none⟩) len len) w:=by
   simp only[Instr.buildSlice,Sem.run_bind,kF hu,Result.andThen_ok,kd hi,show ¬(len*i.size > 2 ^ 24) by omega,if_false,AV];by_cases h0:len*i.size=0
   .have e1:(Array.range (len*i.size)).map (u.cells[·% i.size]!)=(Array.range (len*i.size)).map ((#[]:Array Value)[·% (#[]:Array Value).size]!):=by rw[h0];simp
    rw[e1]at nL;simp only[if_pos h0,Sem.run_bind,Sem.run_pure,Result.andThen_ok];rw[nL];simp[newRow]
   .rw[<- Q]at nL;simp only[if_neg h0,Sem.run_bind,ke hi J,Sem.run_pure,Result.andThen_ok];rw[<- Q,nL];simp[newRow]
  simp only[execOp,Sem.run_bind,hb];simpa[j7]using hr
 case makeMap t h=>
  simp only[jG]at g;split at g <;> try (cases g;done)
  rename_i k e hu;split at g <;> cases g
  .simp only[wZ,XD]at hs;subst hs;simpa[execOp,Instr.makeMap,j7]using hr
  .simp only[wZ,XD]at hs;subst hs;simpa[execOp,Instr.makeMap,j7,kF hu,aP,asInt,asIntOf]using hr
 case makeSlice t l c=>
  simp only[jG]at g;split at g <;> try (cases g;done)
  rename_i e hu;split at g <;> cases g;rename_i i z hi B;obtain⟨i',u,F,J,rfl⟩:=iB B;rw[hi]at F;cases F;simp only[wZ,XD]at hs;subst hs;split at hr
  case h_2=>simp at hr
  rename_i kl l' kc M s6 OX;split at hr
  case isFalse=>simp at hr
  rename_i hb;obtain⟨b1,b2,b3,b4⟩:=hb;split at hr
  case isFalse=>simp at hr
  rename_i hzl;have wl:IntKind.i64.wrap l'=l':=by
   exact zE5
  have wc:IntKind.i64.wrap M=M:=by
   exact zE5
  have W:((decide (M < 0)||decide ((i.bytes:Int)*M > 2 ^ 48))||decide (l' < 0)||decide (l' > M))=false:=by
   simp;omega
  have Q:u.cells.size=i.size:=by simpa using hzl
  have hm:(Instr.makeSlice t (ρ l) (ρ c)).run P w=((newObj (.cells (jB M.toNat u.cells.toList).toArray e)).run P w).andThen λb w=>.ok (.slice (some ⟨b,0,none⟩) l'.toNat M.toNat) w:=by
   simp only[Instr.makeSlice,Sem.run_bind,kF hu,Result.andThen_ok,s6,OX,asInt,asIntOf,Sem.run_pure,we hi,wl,wc,W,vM,if_false,run_askRoom,kd hi];rw[rF,Q];by_cases h0:M.toNat*i.size=0
   .simp only[if_pos h0,Sem.run_bind,Sem.run_pure,Result.andThen_ok];have e0:Array.range (M.toNat*i.size)=#[]:=by rw[h0];rfl
    simp only[e0];simp[newRow]
   .simp only[if_neg h0,Sem.run_bind,ke hi J,Sem.run_pure,Result.andThen_ok];simp[newRow,Q]
  simp only[execOp,Sem.run_bind,hm];simpa[j7]using hr
 case lookup t m k ok=>
  simp only[jG]at g;split at g <;> try (cases g;done)
  rename_i kt e hu;split at g <;> cases g
  case h_2=>
   exact zBO
  rename_i sk z Ee B;obtain⟨d,hd,Iq⟩:=XS Ee;obtain⟨i,hi,hiz⟩:=X6.1 B;simp only[wZ,XD]at hs;subst hs;simp only[Sem.run_bind]at hr;obtain⟨⟨es,c⟩,T,C,h2⟩:=jC hr;obtain⟨rfl,hx⟩:=fg C;simp only at h2;split at h2
  case h_2=>simp at h2
  rename_i r hf;have g:(Instr.lookup t (ρ m) (ρ k) ok).run P T=.ok (xX ok z r) T:=by
   rcases hx with⟨hx,rfl,rfl⟩|⟨q,hx,G⟩
   .rw[hx];simp only[Instr.lookup,Sem.run_bind,kF hu,Result.andThen_ok,Sem.run_pure,yb hd Iq,run_findKey hd Iq hf];exact zEF
   .rw[hx];simp only[Instr.lookup,Sem.run_bind,kF hu,Result.andThen_ok,Sem.run_pure,yb hd Iq,G,run_findKey hd Iq hf];exact zEF
  simp only[execOp,Sem.run_bind,g,Result.andThen_ok];exact h2
 case mapUpdate t m k v=>
  simp only[jG]at g;split at g <;> try (cases g;done)
  rename_i kt e hu;split at g <;> cases g
  case h_2=>
   exact zBO
  exact zE1
 case insert t m k v=>
  simp only[jG]at g;split at g <;> try (cases g;done)
  rename_i kt e hu;split at g <;> cases g
  case h_2=>
   exact zBO
  exact zE1
 case mapEntry t m k=>
  simp only[jG,XD]at g;subst g;exact zBO
 case entryStore t m s v=>
  simp only[jG,XD]at g;subst g;exact zBO
 case range t x=>
  simp only[jG]at g;split at g <;> cases g
  .rename_i hu;simp only[wZ,XD]at hs;subst hs;split at hr
   case h_2=>simp at hr
   rename_i s hx;simpa[execOp,Instr.range,kF hu,hx,j7]using hr
  .rename_i k e hu;simp only[wZ,XD]at hs;subst hs;split at hr
   .rename_i hx;simpa[execOp,Instr.range,kF hu,hx,j7]using hr
   .rename_i q hx;simp only[Sem.run_bind]at hr;obtain⟨⟨es,c⟩,T,C,h2⟩:=jC hr;obtain⟨rfl,Nh⟩:=fg C;simp at Nh;simpa[execOp,Instr.range,kF hu,hx,j7,Nh]using h2
   .simp at hr
 case next it s=>
  simp only[jG,XD]at g;subst g;simp only[wZ,XD]at hs;subst hs;have:Instr.next (ρ it) s K=Instr.next (ρ it) s 0:=rfl;simpa[execOp,this]using hr
 case entry it=>
  simp only[jG,XD]at g;subst g;exact zBO
 case convert s d x=>
  simp only[jG]at g;split at g <;> try (cases g;done)
  .cases g;simp[wZ]at hs
  .cases g;simp[wZ]at hs
  .rename_i e xV X;split at g <;> cases g;rename_i Y;simp only[wZ,XD]at hs;subst hs;split at hr
   case h_2=>simp at hr
   rename_i b hx;simpa[execOp,Go.convert,kF xV,kF X,hx,kF Y]using hr
  .rename_i e xV X;split at g <;> cases g;rename_i Y;simp only[wZ,XD]at hs;subst hs;simp only[Sem.run_bind]at hr;obtain⟨b,T,C,h2⟩:=jC hr;have:(Go.convert s d (ρ x)).run P w=.ok b T:=by
    cases hx:ρ x with
    |slice a n c=>rw[hx]at C;simpa[Go.convert,kF xV,kF X,kF Y]using C
    |_=>rw[hx]at C;simp[Conv.bytesToString]at C
   simpa[execOp,this]using h2
 case call c=>
  obtain⟨callee,args,S7⟩:=c;obtain⟨args⟩:=args;obtain⟨S7⟩:=S7;simp only[jG]at g;split at g
  .split at g <;> cases g;simp[wZ]at hs
  .cases g;simp[wZ]at hs
  .split at g <;> try (cases g;done)
   rename_i x t;split at g <;> cases g <;> simp only[wZ]at hs <;> try (cases hs;done)
   rename_i k e hu;simp only[XD]at hs;subst hs;simp only[Sem.run_bind]at hr;obtain⟨⟨es,c⟩,T,C,h2⟩:=jC hr;obtain⟨rfl,hx⟩:=fg C;rcases hx with⟨hx,rfl,rfl⟩|⟨q,hx,G⟩
   .simpa[execOp,resolve,invoke,Go.builtin,Builtin.len_,kF hu,hx,goInt]using h2
   .simpa[execOp,resolve,invoke,Go.builtin,Builtin.len_,kF hu,hx,G,goInt]using h2
  .split at g <;> try (cases g;done)
   split at g <;> cases g <;> simp[wZ]at hs
  .split at g <;> cases g;simp[wZ]at hs
  .split at g <;> cases g;simp[wZ]at hs
  .split at g <;> try (cases g;done)
   rename_i sx x t xt;split at g <;> try (cases g;done)
   rename_i e hu;split at g <;> try (cases g;done)
   rename_i i z hi B;split at g
   case isFalse=>
    split at g
    case isFalse=>cases g
    rename_i G;cases g;obtain⟨i',u,F,J,rfl⟩:=iB B;rw[hi]at F;cases F;obtain⟨E,L,k,Z,hut⟩:∃E L k,xt=E::L/\P.underlying E=some (.int k):=by
     cases xt with
     |nil=>simp[Ln]at G
     |cons E L=>
      simp only[Ln]at G;split at G
      .rename_i k h;exact⟨E,L,k,rfl,h⟩
      .cases G
    subst Z;simp only[wZ,XD]at hs;subst hs;split at hr
    case h_2=>simp at hr
    rename_i base O U k0 l UN A;split at hr
    case isTrue=>simp at hr
    rename_i iE;have hb0:¬l < 0:=λh=>iE (.inl h)
    have fC:¬(l*i.bytes > 2 ^ 48):=λh=>iE (.inr (.inl h))
    have rG:IntKind.i64.wrap l=l:=Classical.byContradiction λh=>iE (.inr (.inr (.inl h)))
    have Q:i.size≠0:=λh=>iE (.inr (.inr (.inr h)))
    have H:∀(n:Nat) (w:World),(if n*i.size=0 then pure #[]else do pure (Builtin.zeroCells (<- zeroValue e).cells n):Sem (Array Value)).run P w=.ok (jB n u.cells.toList).toArray w:=by
     intro n w;by_cases h0:n*i.size=0
     .obtain rfl:n=0:=by
       rcases Nat.mul_eq_zero.1 h0 with h|h
       .exact h
       .exact absurd h Q
      simp[jB]
     .simp[h0,ke hi J,yZ]
    have N:(asInt (.int k0 l)).run P w=.ok l w:=by simp[asInt,asIntOf]
    simp only[execOp,resolve,invoke,Go.builtin,Sem.run_bind,List.map_toArray,QD,QF,Sem.run_pure,Result.andThen_ok];simp only[Builtin.append_,Vx,Vn,Vm,Sem.run_bind,kF hu,kF hut,Result.andThen_ok,UN,A,N,Sem.run_pure,kd hi,if_true,rG];simp only[hb0,if_false,Sem.run_bind,we hi,Result.andThen_ok,fC,Sem.run_pure,vQ,vM];by_cases D:O+l.toNat<=U
    .simp only[D,if_true,Sem.run_bind]at hr|-;rw[H];cases base <;> simpa[j7]using hr
    .simp only[D,if_false]at hr|-;split at hr
     case isTrue=>simp at hr
     rename_i W;have g1:¬(Builtin.nextslicecap (O+l.toNat) U*i.bytes > 2 ^ 48):=λh=>W (.inl h)
     have g2:¬(((O+l.toNat:Nat):Int) > IntKind.i64.max):=λh=>W (.inr (.inr h))
     simp only[Sem.run_bind,we hi,Result.andThen_ok,g2,false_and,g1,if_false,run_askRoom];simp only[Sem.run_bind]at hr;rw[<- UN];simp only[H,Result.andThen_ok];simpa[j7,newRow,ke hi J,<- yZ]using hr
   cases g;rename_i G;obtain⟨i',u,F,J,rfl⟩:=iB B;rw[hi]at F;cases F;obtain⟨E,L,Z,S⟩:∃E L,xt=E::L/\((∃e',P.underlying E=some (.slice e'))∨P.underlying E=some .string):=by
    cases xt with
    |nil=>simp[U9]at G
    |cons E L=>
     refine⟨E,L,rfl,?_⟩;simp only[U9]at G;split at G
     .rename_i e' h;exact .inl ⟨e',h⟩
     .rename_i h;exact .inr h
     .cases G
   subst Z;simp only[wZ,XD]at hs;subst hs;split at hr
   case h_2=>simp at hr
   rename_i base O U m0 UN A;have I:(Builtin.lenOf (ρ x)).run P w=.ok m0 w:=by
    cases hx:ρ x <;> rw[hx]at A <;> simp[fA]at A <;> subst A <;> simp[Builtin.lenOf]
   have B:(do pure ((<- underlying E) matches .int _):Sem Bool).run P w=.ok false w:=by
    rcases S with⟨e',h⟩|h <;> simp[kF h]
   have H:Builtin.append_ (t::E::L).toArray K #[ρ sx,ρ x]=Builtin.append_ (t::E::L).toArray K #[ρ sx,ρ x]:=rfl;simp only[execOp,resolve,invoke,Go.builtin,Sem.run_bind,List.map_toArray,QD,QF,Sem.run_pure,Result.andThen_ok];simp only[Builtin.append_,Vx,Vn,Vm,Sem.run_bind,kF hu,Result.andThen_ok,UN,kd hi];simp only[Sem.run_bind,Sem.run_pure]at B;have hfirst:∀n:Nat,(if(!false)=true then Builtin.firstCells i.size n (ρ x)else if n*i.size=0 then pure #[]else do pure (Builtin.zeroCells (<- zeroValue e).cells n):Sem (Array Value))=Builtin.firstCells i.size n (ρ x):=λ_=>rfl
   rcases S with⟨e',hut⟩|hut
   all_goals
    simp only[kF hut,Result.andThen_ok,Sem.run_pure,vM,if_false,Sem.run_bind,I];by_cases D:O+m0<=U
    .simp only[D,if_true,Sem.run_bind]at hr|-;simp only[vP,if_true];cases base <;> simpa[j7]using hr
    .simp only[D,if_false]at hr|-;split at hr
     case isTrue=>simp at hr
     rename_i W;have fC:¬(Builtin.nextslicecap (O+m0) U*i.bytes > 2 ^ 48):=λh=>W (.inl h)
     have rG:¬(i.bytes=0):=λh=>W (.inr h)
     simp only[Sem.run_bind,we hi,Result.andThen_ok,false_or,rG,and_false,fC,if_false,vP,if_true,run_askRoom,ke hi J,<- yZ];simp only[Sem.run_bind]at hr;rw[<- UN];simpa[j7,newRow,ke hi J,<- yZ]using hr
  .split at g <;> try (cases g;done)
   rename_i dx sx t xt;split at g <;> try (cases g;done)
   rename_i e hu;simp only[X9]at g;obtain⟨i,hi,rfl⟩:=g;simp only[wZ,XD]at hs;subst hs;split at hr
   case h_2=>simp at hr
   rename_i base O U m0 hdx A;have I:(Builtin.lenOf (ρ sx)).run P w=.ok m0 w:=by
    cases hx:ρ sx <;> rw[hx]at A <;> simp[fA]at A <;> subst A <;> simp[Builtin.lenOf]
   simp only[execOp,resolve,invoke,Go.builtin,Sem.run_bind,List.map_toArray,QD,QF,Sem.run_pure,Result.andThen_ok];simp only[Builtin.copy_,Vx,Vn,Vm,Sem.run_bind,kF hu,Result.andThen_ok,hdx,kd hi,I];simp only[Sem.run_bind]at hr;cases base <;> simpa[j7,goInt]using hr
  .split at g <;> try (cases g;done)
   rename_i cx t;split at g <;> try (cases g;done)
   rename_i e hu;simp only[X9]at g;obtain⟨z,B,rfl⟩:=g;obtain⟨i',u,F,J,rfl⟩:=iB B;simp only[wZ,XD]at hs;subst hs;split at hr
   case h_2=>simp at hr
   rename_i base O U hcx;simp only[execOp,resolve,invoke,Go.builtin,Sem.run_bind,List.map_toArray,QD,QF,Sem.run_pure,Result.andThen_ok];simp only[Builtin.clear_,Vx,Vn,Sem.run_bind,kF hu,Result.andThen_ok,hcx];cases base with
   |none=>simpa using hr
   |some a=>
    cases O with
    |zero=>simpa[jB,storeCells]using hr
    |succ m=>simpa[ke F J,<- yZ,j7]using hr
  .split at g <;> try (cases g;done)
   rename_i mx kx t xt;split at g <;> try (cases g;done)
   rename_i kt e hu;simp only[X9]at g;obtain⟨sk,Ee,rfl⟩:=g;obtain⟨d,hd,Iq⟩:=XS Ee;simp only[wZ,XD]at hs;subst hs;simp only[execOp,resolve,invoke,Go.builtin,Sem.run_bind,List.map_toArray,QD,QF,Sem.run_pure,Result.andThen_ok];simp only[Builtin.delete_,Vx,Vn,Vm,Sem.run_bind,kF hu,Result.andThen_ok];split at hr
   .rename_i q hx;simp only[Sem.run_bind]at hr;obtain⟨⟨es,c⟩,T,C,h2⟩:=jC hr;obtain⟨rfl,Nh⟩:=fg C;simp at Nh;simp only at h2;split at h2
    .rename_i j v' hf;exact zE4
    .rename_i hf;exact zE4
    .simp at h2
   .rename_i hx;simp only[hx,Sem.run_bind,yb hd Iq,Result.andThen_ok];simpa using hr
   .simp at hr
  .cases g
 case binOp op t x y yt=>
  simp only[jG]at g
  repeat' split at g
  all_goals first
   |(cases g;done)
   |(cases g;simp[wZ]at hs;done)
   |(cases g;simp only[wZ,XD]at hs;subst hs;simpa[execOp,j7]using hr)
 all_goals (try simp only[jG]at g)
 all_goals (repeat' split at g)
 all_goals first
  |(cases g;done)
  |(cases g;simp[wZ]at hs;done)
  |(simp only[X9]at g;obtain⟨_,_,rfl⟩:=g;simp[wZ]at hs;done)
end
section
variable {P:Program} {ρ:Operand->Value} {H:List kC} {K:Next->List kC->Prop}
theorem ku(b:Nat)(us vs:List Value):∀o,kA b o (us++vs)=kA b o us++kA b (o+us.length) vs:=by
 induction us with
 |nil=>intro o;simp[kA]
 |cons u us ih=>intro o;simp only[vr,kA,ih,Vz];congr 3;omega
theorem G4 {b o:Nat}{K:Array Value->List kC->Prop}:∀(vs:List Value) (i:Nat) (d:Array Value),(∀x∈kA b (o+i) vs,x∈H)->K (d++vs.toArray) H->
 aL P (loadCellsFrom ⟨b,o,none⟩ i vs.length d) H K:=by
 intro vs
 induction vs with
 |nil=>intro i d _ h;exact aL.pure (by simpa using h)
 |cons v vs ih=>
  intro i d g h;simp only[Vz,loadCellsFrom,hO];refine aL.bind (aL.load (v:=v) (g _ MJ) ?_);refine ih (i+1) (d.push v) (λx j=>g x (by simp only[kA,QI];exact .inr j)) ?_;have:d.push v++vs.toArray=d++(v::vs).toArray:=by simp
  rw[this];exact h
theorem aL.loadCells {b o n:Nat}{vs:List Value}{K:Array Value->List kC->Prop}(g:vs.length=n)(d:∀x∈kA b o vs,x∈H)(h:K vs.toArray H):aL P (Go.loadCells ⟨b,o,none⟩ n) H K:=by
 subst g;exact G4 vs 0 #[] (by simpa using d) (by simpa using h)
theorem Dy {b o:Nat}{K:Unit->List kC->Prop}:∀(vs us:List Value) (i:Nat) (L:List kC),vs.length=us.length->(∀v∈vs,jo v=true)->
 (∀L',L'.Perm (kA b (o+i) vs++L)->K () L')->∀M:List kC,M.Perm (kA b (o+i) us++L)->aL P (storeCells ⟨b,o,none⟩ vs i) M K:=by
 intro vs
 induction vs with
 |nil=>
  intro us i L d _ h M j;cases us <;> simp at d;exact aL.pure (h M (by simpa[kA]using j))
 |cons v vs ih=>
  intro us i L d m h M j;cases us with
  |nil=>simp at d
  |cons u us=>
   simp only[storeCells,hO];refine aL.perm j (aL.bind ?_);simp only[kA,vr];refine aL.store (m v Zs) ?_;refine ih us (i+1) (.cell b (o+i) v::L) (by simpa using d) (λx q=>m x (by simp[q])) (λL' g=>h L' ?_) _ ?_
   .refine g.trans ?_;simp only[kA,vr,Qn];exact Qe
   .simp only[Qn];exact Qe.symm
theorem aL.storeCells {b o:Nat}{vs us:List Value}{R:List kC}{K:Unit->List kC->Prop}(A:vs.length=us.length)(g:∀v∈vs,jo v=true)
 (h:K () (kA b o vs++R)):aL P (Go.storeCells ⟨b,o,none⟩ vs) (kA b o us++R) K:=by
 have:=Dy (P:=P) (b:=b) (o:=o) (K:=λ_ L=>L.Perm (kA b o vs++R)) vs us 0 R A g (λL' d=>by simpa using d) (kA b o us++R) Zs;intro F w B;obtain⟨v,w',H',j,m,q,s⟩:=this F w B;exact⟨v,w',_,j,h,q.perm (m.append_right F),s⟩
def Src(H:List kC)(size n:Nat)(vs:List Value):Value->Prop
 |.slice (some ⟨b,o,none⟩) _ _=>vs.length=n*size/\∀x∈kA b o vs,x∈H
 |.slice none _ _=>vs=[]
 |.string s=>vs=(s.data.toList.take n).map λc=>.int .u8 c.toNat
 |_=>False
theorem aL.firstCells {size n:Nat}{x:Value}{vs:List Value}{K:Array Value->List kC->Prop}(d:Src H size n vs x)(h:K vs.toArray H):aL P (Builtin.firstCells size n x) H K:=by
 unfold Src at d;split at d
 .exact aL.loadCells d.1 d.2 h
 .subst d;exact aL.pure h
 .rename_i s;subst d;refine aL.pure ?_;have:(s.extract 0 n).data.map (λb=>Value.int .u8 b.toNat)=((s.data.toList.take n).map λc=>Value.int .u8 c.toNat).toArray:=by
   apply vD.1;simp[ByteArray.data_extract,Array.toList_extract]
  rw[this];exact h
 .exact d.elim
theorem Pt {n:Nat}{x v:Operand}{b o:Nat}{us:List Value}{R:List kC}(m:ρ x=.pointer (some ⟨b,o,none⟩))(d:(ρ v).cells.size=n)(j:us.length=n)(g:∀c∈(ρ v).cells.toList,jo c=true)
 (h:K .skip (kA b o (ρ v).cells.toList++R)):
 aL P (do let a ← Instr.sureAddr (ρ x); if (ρ v).cells.size = n then (do storeCells a (ρ v).cells.toList; pure .skip) else stuck "size") (kA b o us ++ R) K := by
 rw[m];refine aL.bind (aL.pure ?_);rw[if_pos d];exact aL.bind (aL.storeCells (by simp[d,j]) g (aL.pure h))
theorem Gl {c:Array Value}{t:TypeId}{f:Nat->Next}(h:∀b,K (f b) (kA b 0 c.toList++H)):aL P (do let b <- newObj (.cells c t);pure (f b)) H K:=
 aL.bind (aL.Rl λb=>aL.pure (h b))
theorem LN {o:Obj}{f:Nat->Next}(d:zD o=false)(h:∀b,K (f b) (.obj b o::H)):aL P (do let b <- newObj o;pure (f b)) H K:=
 aL.bind (aL.new_obj d λb=>aL.pure (h b))
theorem JV {m c:Nat}{es:Array MapEntry}{α:Type}{f:Array MapEntry×Nat->Sem α}{K:α->List kC->Prop}(d:kC.obj m (.map es c)∈H)(h:aL P (f (es,c)) H K):aL P (wg (.map (some m)) >>=f) H K:=by
 refine aL.bind ?_;unfold wg;exact aL.bind (aL.getObj d (aL.pure h))
theorem NQ(d new:Value){K:Value->List kC->Prop}(h:∀k,k=d∨k=new->K k H):aL P (Instr.keyThatStays d new) H K:=by
 unfold Instr.keyThatStays;split
 .exact aL.pure (h _ (.inr rfl))
 .refine aL.bind (aL.choose (λ_=>aL.pure ?_) (λn=>aL.pure ?_))
  .exact h _ (.inr rfl)
  .split
   .exact h _ (.inr rfl)
   .exact h _ (.inl rfl)
end
structure RO where
 dst:Option Nat
 guard:Option (Nat×Bool)
 op:R
def eU(P:Program)(n:Nat)(ops:Array Oper)(o:Oper):Option RO:=
 match jG P o.op with
 |none=>none
 |some r=>
  if o.dst.all (·< n)then
   match o.guard with
   |none=>some ⟨o.dst,none,r⟩
   |some (j,b)=>match(ops[j]?).bind (·.dst)with
    |some s=>some ⟨o.dst,some (s,b),r⟩
    |none=>none
  else none
def jL:R->Bool
 |.dc .. |.ij .. |.Wz .. |.lookup .. |.entry .. |.b2s .. |.YY .. |.IW .. =>true
 |_=>false
def nZ:R->Bool
 |.alloc .. |.box .. |.nA .. |.pQ|.s2b .. =>true
 |.append _ _ _ _ (.const (.slice none 0 0)) _=>true
 |_=>false
def Ext(w w':World):Prop:=∀(i:Nat) (o:Obj),w.heap[i]? =some o->w'.heap[i]? =some o
theorem Ext.refl(w:World):Ext w w:=λ_ _ h=>h
theorem Ext.trans {a b c:World}(h:Ext a b)(k:Ext b c):Ext a c:=λi o e=>k i o (h i o e)
theorem Sat.ext {w w':World}{L:List kC}(h:Sat w L)(e:Ext w w'):Sat w' L:=⟨λx q=>by
 have:=h.holds x q;cases x with
 |cell b off v=>obtain⟨c,t,m,j,d,g⟩:=this;exact⟨c,t,m,j,e _ _ d,g⟩
 |obj b o=>exact⟨e _ _ this.1,this.2⟩
 |row b n=>obtain⟨c,t,m,j,d,g⟩:=this;exact⟨c,t,m,j,e _ _ d,g⟩
 |own b n=>obtain⟨c,t,m,j,d,g⟩:=this;exact⟨c,t,m,j,e _ _ d,g⟩,h.nodup⟩
def kg:R->Bool
 |.mv .. |.pick .. |.bin .. |.eqb .. |.D0 .. |.DZ .. |.un .. |.conv .. |.cvs .. |.I2 .. |.C4 .. |.ext .. |.build .. |.uU .. |.Ha .. |.KU .. |.Pc .. |.Lh .. |.xM .. |.Li .. |.Mk ..
 |.sL .. |.Mj .. |.Ga .. |.Lq .. |.cap .. |.min2 .. |.max2 .. |.iv .. =>true
 |_=>false
def jK(g:Option (Nat×Bool))(a:Act):Bool:=
 match g with
 |none=>true
 |some (s,b)=>match a.tmps[s]? with|some (.bool c)=>c==b|_=>false
def wi:Exit->Act->World->Prop:=λ_ _ _=>False
abbrev C1 (ρ:Option Nat):Fence:={fn:=λ_=>True,depth:=none,alive:=false,round:=ρ}
def jz(P:Program)(o:Oper)(a:Act)(next:Act->World->Prop)(Z:Exit->Act->World->Prop):Result Next->Prop
 |.ok (.value v) w'=>next (a.put o.dst v) w'
 |.ok .skip w'=>next (a.put o.dst undef) w'
 |.ok (.enter f args) w'=>Calls P f args w' fun
   |.returned v,pS=>next (a.put o.dst v) pS
   |.panicked chain,pS=>Z (.panic chain) a pS
   |.outgrown,_=>False
 |.ok (.round l f tmps assign body) w'=>RoundIn Fence.wide 0 P l f tmps assign body w' fun
   |.returned v,pS=>next (a.put o.dst v) pS
   |.panicked chain,pS=>Z (.panic chain) a pS
   |.outgrown,_=>False
 |.halt (.panic v) w'=>Z (.panic [{v,recovered:=false}]) a w'
 |_=>False
def CW(P:Program)(o:Oper)(a:Act)(w:World)(next:Act->World->Prop)(Z:Exit->Act->World->Prop):Prop:=jz P o a next Z ((execOp a.eval o).run P w)
theorem DP {P:Program}{ρ:Option Nat}{n:Nat}{f:FuncId}{args:Array Value}{w:World}{R:Ending->World->Prop}(h:Calls P f args w R):CallsIn (C1 ρ) n P f args w R:=
 ⟨trivial,λcs _=>let⟨e,w',fr,r,s,x⟩:=h cs;⟨e,w',fr,r,comesIn_wide.2 s,x⟩⟩
theorem Yp {P:Program}{ρ:Option Nat}{o:Oper}{a:Act}{next:Act->World->Prop}{Z:Exit->Act->World->Prop}{r:Result Next}(h:jz P o a next Z r):o.uponIn (C1 ρ) 0 P a next Z r:=by
 cases r with
 |ok n w'=>
  cases n <;> simp only[jz]at h <;> simp only[Oper.uponIn] <;> first
   |exact h
   |exact h.elim
   |exact⟨λh=>by simp at h,DP (Calls.mono h (λe g d=>by cases e <;> first|exact d|exact d.elim))⟩
   |exact⟨λh=>by simp at h,RoundIn.mono h (λe g d=>by cases e <;> first|exact d|exact d.elim)⟩
 |halt x w'=>cases x <;> simp only[jz]at h <;> simp only[Oper.uponIn] <;> exact h
def wpA(P:Program)(Z:Exit->Act->World->Prop)(x:RO×Oper)(next:Act->World->Prop)(a:Act)(w:World):Prop:=
 (nZ x.1.op=true->∃u w',(execOp a.eval x.2).run P w=.ok (.value u) w'/\Ext w w')/\CW P x.2 a w next Z
def wJ(P:Program)(Z:Exit->Act->World->Prop)(x:RO×Oper)(next:Act->World->Prop)(a:Act)(w:World):Prop:=
 if jK x.1.guard a then
  if kg x.1.op then ∃v,kW a.eval x.1.op=some v/\next (a.put x.1.dst v) w
  else if jL x.1.op then ∃s v,wZ a.eval x.1.op=some s/\(∀w',Ext w w'->s.run P w'=.ok (.value v) w')/\next (a.put x.1.dst v) w
  else wpA P Z x next a w
 else next (a.put x.1.dst undef) w
def cH(P:Program)(Z:Exit->Act->World->Prop)(Q:Act->World->Prop):List (RO×Oper)->Act->World->Prop
 |[],a,w=>Q a w
 |x::rest,a,w=>wJ P Z x (cH P Z Q rest) a w
section
variable {P:Program} {Z:Exit->Act->World->Prop} {Q Q':Act->World->Prop} {a:Act} {w:World}
theorem CO {o:Oper}{K K':Act->World->Prop}(h:∀a w,K a w->K' a w)(d:CW P o a w K Z):CW P o a w K' Z:=by
 unfold CW at*;generalize (execOp a.eval o).run P w=r at*;cases r with
 |ok n w'=>
  cases n <;> simp only[jz]at d|- <;> first
   |exact h _ _ d
   |exact Calls.mono d (λe j g=>by cases e <;> first|exact h _ _ g|exact g)
   |exact RoundIn.mono d (λe j g=>by cases e <;> first|exact h _ _ g|exact g)
 |halt x w'=>cases x <;> simp only[jz]at d|- <;> exact d
theorem fY {x:RO×Oper}(h:∀a w,Q a w->Q' a w)(d:wJ P Z x Q a w):wJ P Z x Q' a w:=by
 unfold wJ at*;split
 .rename_i g;rw[if_pos g]at d;split
  .rename_i j;rw[if_pos j]at d;obtain⟨v,e,q⟩:=d;exact⟨v,e,h _ _ q⟩
  .rename_i j;rw[if_neg j]at d;split
   .rename_i m;rw[if_pos m]at d;obtain⟨s,v,e,A,q⟩:=d;exact⟨s,v,e,A,h _ _ q⟩
   .rename_i m;rw[if_neg m]at d;exact⟨d.1,CO h d.2⟩
 .rename_i g;rw[if_neg g]at d;exact h _ _ d
theorem J7 {l:List (RO×Oper)}(h:∀a w,Q a w->Q' a w):∀{a w},cH P Z Q l a w->cH P Z Q' l a w:=by
 induction l with
 |nil=>intro a w d;exact h _ _ d
 |cons x l ih=>intro a w d;exact fY (λa w h=>ih h) d
theorem Si {o:Oper}{K:Act->World->Prop}(d:CW P o a w K wi):CW P o a w K Z:=by
 unfold CW at*;generalize (execOp a.eval o).run P w=r at*;cases r with
 |ok n w'=>
  cases n <;> simp only[jz]at d|- <;> first
   |exact d
   |exact Calls.mono d (λe h g=>by cases e <;> first|exact g|exact g.elim)
   |exact RoundIn.mono d (λe h g=>by cases e <;> first|exact g|exact g.elim)
 |halt x w'=>cases x <;> simp only[jz]at d|- <;> exact d.elim
theorem E3 {l:List (RO×Oper)}:∀{a w},cH P wi Q l a w->cH P Z Q l a w:=by
 induction l with
 |nil=>intro a w q;exact q
 |cons x l ih=>
  intro a w q;have d:wJ P wi x (cH P Z Q l) a w:=fY (λa w h=>ih h) q;show wJ P Z x (cH P Z Q l) a w;unfold wJ at*;split
  .rename_i g;rw[if_pos g]at d;split
   .rename_i j;rw[if_pos j]at d;exact d
   .rename_i j;rw[if_neg j]at d;split
    .rename_i m;rw[if_pos m]at d;exact d
    .rename_i m;rw[if_neg m]at d;exact⟨d.1,Si d.2⟩
  .rename_i g;rw[if_neg g]at d;exact d
theorem jP {n:Nat}{ops:Array Oper}{o:Oper}{r:RO}(h:eU P n ops o=some r):jG P o.op=some r.op/\r.dst=o.dst/\(∀d,r.dst=some d->d < n)/\
 ∀a:Act,Region.wanted o (yielded ops a.tmps)=jK r.guard a:=by
 unfold eU at h;split at h
 .cases h
 .rename_i r' A;split at h
  case isFalse=>cases h
  rename_i q;have m:∀d,o.dst=some d->d < n:=by intro d e;rw[e]at q;simpa using q
  split at h
  .rename_i g;cases h;exact⟨A,rfl,m,λa=>by simp[Region.wanted,g,jK]⟩
  .rename_i j b g;split at h
   case h_2=>cases h
   rename_i s B;cases h;refine⟨A,rfl,m,λa=>?_⟩;simp only[Region.wanted,g,yielded,B,Option.bind_some,jK];cases a.tmps[s]? with
   |none=>simp
   |some v=>cases v <;> simp
theorem yU(a:Act)(u:Value):a.eval (.const u)=u:=rfl
theorem fZ {ρ:Option Nat}{n:Nat}{ops:Array Oper}{X:Nat->RO×Oper}{QQ:Exit->Act->World->Prop}(F:∀i,i < ops.size->ops[i]? =some (X i).2/\eU P n ops (X i).2=some (X i).1):
 ∀(l:List Nat) (a:Act) (w:World),(∀i∈l,i < ops.size)->cH P QQ (QQ .normal) (l.map X) a w->wpOpsIn (C1 ρ) 0 P ops QQ l a w:=by
 intro l
 induction l with
 |nil=>intro a w _ h;exact h
 |cons i l ih=>
  intro a w B h;obtain⟨D,E⟩:=F i (B i Zs);obtain⟨g,m,g3,C⟩:=jP E;have d:=λa w=>ih a w (λj G=>B j (by simp[G]))
  have K:∀c,(X i).2.op≠.defer c:=λc e=>by rw[e]at g;simp[jG]at g
  simp only[QD,cH,wJ]at h;simp only[wpOpsIn,D,C a];split
  .rename_i A;rw[if_pos A]at h;refine⟨λ_ _=>trivial,?_⟩;rw[Oper.semAt_plain _ _ _ K];refine Yp ?_;split at h
   .obtain⟨v,J,q⟩:=h;simp only[ri (w:=w) (yU a) g J,jz,<- m];exact d _ _ q
   .split at h
    .obtain⟨s,v,I,H,q⟩:=h;simp only[uf (yU a) g I (H w (.refl w)),jz,<- m];exact d _ _ q
    .exact CO d h.2
  .rename_i A;rw[if_neg A]at h;refine⟨λ_ _=>trivial,?_⟩;rw[<- m];exact d _ _ h
end
def dC(g:Option (Nat×Bool)):List Nat:=match g with|some (s,_)=>[s]|none=>[]
def pD(x:Option Operand):List Operand:=x.toList
def mq:R->List Operand
 |.mv x|.un _ x|.conv _ x|.cvs x|.I2 _ x|.ext x _|.uU x|.Ha _ x|.KU _ _ _ x|.Ga x|.Lq x|.cap x|.iv _ _ _ x|.D0 _ _ x|.dc x|.ij _ x|.Wz x|.entry x|.b2s x=>[x]
 |.pick c a b=>[c,a,b]
 |.bin _ x y|.eqb _ x y|.DZ _ _ x y|.Pc _ _ x y|.Lh _ x y|.xM x y|.Li _ _ _ x y|.min2 x y|.max2 x y|.lookup _ _ _ x y|.YY _ _ x y|.IW _ _ x y=>[x,y]
 |.C4 _ f c=>f++c
 |.build _ ps=>ps.map (·.2.2)
 |.Mk x lo hi=>x::(pD lo++pD hi)
 |.sL _ x lo hi mx=>x::(pD lo++pD hi++pD mx)
 |.Mj _ _ x lo hi=>x::(pD lo++pD hi)
 |_=>[]
def dN(l:List Operand):List Nat:=l.filterMap fun|.tmp t=>some t|_=>none
def looks(x:RO×Oper):List Nat:=dC x.1.guard++(if kg x.1.op||jL x.1.op then dN (mq x.1.op)else dN x.2.op.operands.toList)
def tq(x y:RO×Oper):Bool:=match x.1.dst with|some d=>!(looks y).contains d&&y.1.dst !=some d|none=>true
def indep(x y:RO×Oper):Bool:=tq x y&&tq y x&&(kg x.1.op||kg y.1.op||(jL x.1.op&&jL y.1.op)||(nZ x.1.op&&jL y.1.op))
theorem ly {ρ d:Operand->Value}{o:Option Operand}(h:∀x∈pD o,ρ x=d x):o.map ρ=o.map d:=by
 cases o with
 |none=>rfl
 |some x=>simp[h x (by simp[pD])]
theorem im {ρ d:Operand->Value}{r:R}(g:kg r=true)(h:∀x∈mq r,ρ x=d x):kW ρ r=kW d r:=by
 cases r <;> simp only[kg]at g <;> first|(cases g;done)|skip
 case C4 f first c=>
  simp only[mq,QG]at h;simp only[kW];rw[QC (λx j=>h x (.inl j)),QC (λx j=>h x (.inr j))]
 case build z ps=>
  simp only[mq,QO]at h;simp only[kW];have:jb ρ ps=jb d ps:=by
   simp only[jb];refine QC (λp g=>?_);obtain⟨a,b,c⟩:=p;simp[h c ⟨_,g,rfl⟩]
  rw[this]
 case Mk x lo hi=>
  exact zD4
 case sL z x lo hi mx=>
  simp only[mq,QI,QG]at h;simp only[kW,h x (.inl rfl),ly (λy hy=>h y (.inr (.inl (.inl hy)))),ly (λy hy=>h y (.inr (.inl (.inr hy)))),ly (λy hy=>h y (.inr (.inr hy)))]
 case Mj n z x lo hi=>
  exact zD4
 case un op x=>cases op <;> simp only[mq,QU,forall_eq]at h <;> simp only[kW,h]
 all_goals (simp only[mq,QI,QZ,or_false,forall_eq_or_imp,forall_eq]at h;simp only[kW,h])
theorem LK {ρ d:Operand->Value}{r:R}(g:jL r=true)(h:∀x∈mq r,ρ x=d x):wZ ρ r=wZ d r:=by
 cases r <;> simp only[jL]at g <;> first|(cases g;done)|skip
 all_goals (simp only[mq,QI,QZ,or_false,forall_eq_or_imp,forall_eq]at h;simp only[wZ,h])
section
variable {P:Program}
theorem nH {a:Act}{d:Option Nat}{v:Value}{l:List Operand}(h:∀t,d=some t->t∉dN l){x:Operand}(j:x∈l):(a.put d v).eval x=a.eval x:=by
 refine Act.eval_put (λt e g=>?_);subst g;exact h t e (by simp only[dN,List.mem_filterMap];exact⟨_,j,rfl⟩)
theorem eE {a:Act}{d:Option Nat}{v:Value}{g:Option (Nat×Bool)}(h:∀t,d=some t->t∉dC g):jK g (a.put d v)=jK g a:=by
 cases g with
 |none=>rfl
 |some p=>
  obtain⟨s,b⟩:=p;cases d with
  |none=>rfl
  |some t=>
   have j:t≠s:=λe=>h t rfl (by simp[dC,e])
   simp[jK,Act.put,vB j]
def Yv(P:Program)(x:RO×Oper)(a:Act)(w:World)(v:Value):Prop:=
 if jK x.1.guard a then
  if kg x.1.op then kW a.eval x.1.op=some v else ∃s,wZ a.eval x.1.op=some s/\∀w',Ext w w'->s.run P w'=.ok (.value v) w'
 else v=undef
theorem wU {Z:Exit->Act->World->Prop}{x:RO×Oper}(q:(kg x.1.op||jL x.1.op)=true){K:Act->World->Prop}{a:Act}{w:World}:wJ P Z x K a w↔∃v,Yv P x a w v/\K (a.put x.1.dst v) w:=by
 unfold wJ Yv;split
 .split
  .exact Iff.rfl
  .rename_i m;have A:jL x.1.op=true:=by simpa[m]using q
   rw[if_pos A];constructor
   .rintro⟨s,v,d,g,j⟩;exact⟨v,⟨s,d,g⟩,j⟩
   .rintro⟨v,⟨s,d,g⟩,j⟩;exact⟨s,v,d,g,j⟩
 .constructor
  .intro h;exact⟨_,rfl,h⟩
  .rintro⟨v,rfl,h⟩;exact h
theorem zf {x:RO×Oper}{t:Nat}(h:t∉looks x):t∉dC x.1.guard/\((kg x.1.op||jL x.1.op)=true->t∉dN (mq x.1.op))/\((kg x.1.op||jL x.1.op)=false->t∉dN x.2.op.operands.toList):=by
 simp only[looks,QG,not_or]at h;refine⟨h.1,λe=>?_,λe=>?_⟩
 .rw[if_pos e]at h;exact h.2
 .rw[if_neg (by simp[e])]at h;exact h.2
theorem pZ {x:RO×Oper}(m:(kg x.1.op||jL x.1.op)=true){d:Option Nat}(h:∀t,d=some t->t∉looks x){a:Act}{w:World}{u v:Value}:Yv P x (a.put d u) w v↔Yv P x a w v:=by
 unfold Yv;rw[eE (λt e=>(zf (h t e)).1)];have j:∀y∈mq x.1.op,(a.put d u).eval y=a.eval y:=λy s=>nH (λt e=>(zf (h t e)).2.1 m) s
 split
 .split
  .rename_i g;rw[im g j]
  .rename_i g;have q:jL x.1.op=true:=by simpa[g]using m
   rw[LK q j]
 .exact Iff.rfl
theorem MI {x:RO×Oper}(d:kg x.1.op=true){a:Act}{w w':World}{v:Value}:Yv P x a w v↔Yv P x a w' v:=by
 unfold Yv;simp[d]
theorem Yv_ext {x:RO×Oper}{a:Act}{w w':World}{v:Value}(h:Yv P x a w v)(e:Ext w w'):Yv P x a w' v:=by
 unfold Yv at*;split at h
 .rename_i g;rw[if_pos g];split at h
  .rename_i d;rw[if_pos d];exact h
  .rename_i d;rw[if_neg d];obtain⟨s,m,q⟩:=h;exact⟨s,m,λA j=>q A (e.trans j)⟩
 .rename_i g;rw[if_neg g];exact h
theorem Yv_fun {x:RO×Oper}{a:Act}{w:World}{u v:Value}(h:Yv P x a w u)(k:Yv P x a w v):u=v:=by
 unfold Yv at*;split at h
 .rename_i g;rw[if_pos g]at k;split at h
  .rename_i d;rw[if_pos d]at k;rw[h]at k;cases k;rfl
  .rename_i d;rw[if_neg d]at k;obtain⟨s,q,A⟩:=h;obtain⟨s',m,B⟩:=k;rw[q]at m;cases m;have j:=A w (.refl w);rw[B w (.refl w)]at j;cases j;rfl
 .rename_i g;rw[if_neg g]at k;rw[h,k]
end
section
variable {P:Program}
theorem Yq {o:Oper}{a:Act}{d:Nat}{u:Value}(A:o.dst≠some d){K:Act->World->Prop}{r:Result Next}
 (h:jz P o a (λm w'=>K (m.put (some d) u) w') wi r):jz P o (a.put (some d) u) K wi r:=by
 have j:∀v,(a.put o.dst v).put (some d) u=(a.put (some d) u).put o.dst v:=λv=>Act.put_comm a v u (λe q s=>A (by rw[q,<- s]))
 cases r with
 |ok n w'=>
  cases n <;> simp only[jz]at h|-
  case value v=>rw[<- j];exact h
  case skip=>rw[<- j];exact h
  case enter f args=>exact Calls.mono h (λe B g=>by cases e <;> first|(simp only at g|-;rw[<- j];exact g)|exact g)
  case round l f tmps assign body=>exact RoundIn.mono h (λe B g=>by cases e <;> first|(simp only at g|-;rw[<- j];exact g)|exact g)
 |halt x w'=>cases x <;> simp only[jz]at h|- <;> exact h
theorem R8 {o:Oper}{a:Act}{d:Nat}{u:Value}(A:o.dst≠some d){K:Act->World->Prop}{r:Result Next}
 (h:jz P o (a.put (some d) u) K wi r):jz P o a (λm w'=>K (m.put (some d) u) w') wi r:=by
 have j:∀v,(a.put o.dst v).put (some d) u=(a.put (some d) u).put o.dst v:=λv=>Act.put_comm a v u (λe q s=>A (by rw[q,<- s]))
 cases r with
 |ok n w'=>
  cases n <;> simp only[jz]at h|-
  case value v=>rw[j];exact h
  case skip=>rw[j];exact h
  case enter f args=>exact Calls.mono h (λe B g=>by cases e <;> first|(simp only at g|-;rw[j];exact g)|exact g)
  case round l f tmps assign body=>exact RoundIn.mono h (λe B g=>by cases e <;> first|(simp only at g|-;rw[j];exact g)|exact g)
 |halt x w'=>cases x <;> simp only[jz]at h|- <;> exact h
theorem J1 {o:Oper}{a:Act}{K:Act->World->Prop}{r:Result Next}(h:jz P o a K wi r):∃ds v w',K ({a with defers:=ds}.put o.dst v) w':=by
 cases r with
 |ok n w'=>
  cases n <;> simp only[jz]at h
  case value v=>exact⟨a.defers,v,w',h⟩
  case skip=>exact⟨a.defers,undef,w',h⟩
  case enter f args=>
   obtain⟨e,w1,fr,hR,_⟩:=h [];exact zEA
  case round l f tmps assign body=>
   obtain⟨e,w1,hR,_⟩:=h.2 default [] (room_wide _);exact zEA
 |halt x w'=>cases x <;> simp only[jz]at h <;> exact h.elim
theorem H7(a:Act)(ds:List Deferred):({a with defers:=ds}:Act).eval=a.eval:=by funext x;cases x <;> rfl
theorem ti {x:RO×Oper}{a:Act}{ds:List Deferred}{w:World}{v:Value}:Yv P x {a with defers:=ds} w v↔Yv P x a w v:=by
 unfold Yv;rw[H7];have:jK x.1.guard {a with defers:=ds}=jK x.1.guard a:=by cases x.1.guard <;> rfl
 rw[this]
structure Good (P:Program)(n:Nat)(ops:Array Oper)(x:RO×Oper):Prop where
 low:eU P n ops x.2=some x.1
 aQ:∀cs b,x.2.op≠.select cs b
theorem Gi {op:Op}{r:R}(h:jG P op=some r)(cs:Array SelectCase)(b:Bool):op≠.select cs b:=by
 rintro rfl;simp[jG]at h
theorem Good.Xa {n:Nat}{ops:Array Oper}{x:RO×Oper}(h:eU P n ops x.2=some x.1):Good P n ops x:=⟨h,Gi (jP h).1⟩
theorem zj {x y:RO×Oper}(h:tq x y=true):∀d,x.1.dst=some d->d∉looks y/\y.1.dst≠some d:=by
 intro d e;simp only[tq,e,vG,vO,bne_iff_ne]at h;exact⟨by simpa using h.1,h.2⟩
variable {n:Nat} {ops:Array Oper}
theorem swap {x y:RO×Oper}(Z:Good P n ops x)(gy:Good P n ops y)(h:indep x y=true){K:Act->World->Prop}{a:Act}{w:World}
 (g:wJ P wi y (λa w=>wJ P wi x K a w) a w):wJ P wi x (λa w=>wJ P wi y K a w) a w:=by
 simp only[indep,vG]at h;obtain⟨⟨U,W⟩,N⟩:=h;have m:=zj U;have A:=zj W;have D:∀(b:Act) (u v:Value),(b.put x.1.dst u).put y.1.dst v=(b.put y.1.dst v).put x.1.dst u:=λb u v=>Act.put_comm b u v (λd e=>(m d e).2)
 by_cases qx:(kg x.1.op||jL x.1.op)=true
 .by_cases E:(kg y.1.op||jL y.1.op)=true
  .obtain⟨v,H,j⟩:=(wU E).1 g;obtain⟨u,I,F⟩:=(wU qx).1 j;refine(wU qx).2 ⟨u,(pZ qx (λt e=>(A t e).1)).1 I,(wU E).2 ⟨v,(pZ E (λt e=>(m t e).1)).2 H,?_⟩⟩;rw[D];exact F
  .-- x is pure,y acts
   have C:(kg y.1.op||jL y.1.op)=false:=by simpa using E
   have px:kg x.1.op=true:=by
    try simp only[vT,vG]at N
    simp only[vS]at C;rcases N with((h|h)|h)|h
    .exact h
    .rw[C.1]at h;cases h
    .rw[C.2]at h;cases h.2
    .rw[C.2]at h;cases h.2
   simp only[vS]at C;by_cases hw:jK y.1.guard a=true
   .unfold wJ at g;rw[if_pos hw,if_neg (by simp[C.1]),if_neg (by simp[C.2])]at g;obtain⟨M,g⟩:=g
    replace g:=CO (K':=λa w=>∃v,Yv P x a w v/\K (a.put x.1.dst v) w) (λa w h=>(wU qx).1 h) g
    obtain⟨Q,B,S,_⟩:=jP gy.low;obtain⟨ds,v0,w0,u,I,_⟩:=J1 g;have pO:∀w,Yv P x a w u:=λw=>by
     rw[<- B]at I;have:=(pZ qx (λt e=>(A t e).1)).1 I;exact(MI px).1 (ti.1 this)
    refine(wU qx).2 ⟨u,pO w,?_⟩;have tS:jK y.1.guard (a.put x.1.dst u)=true:=by rw[eE (λt e=>(zf (m t e).1).1)];exact hw
    show wJ P wi y K (a.put x.1.dst u) w;unfold wJ;rw[if_pos tS,if_neg (by simp[C.1]),if_neg (by simp[C.2])];have s:execOp (a.put x.1.dst u).eval y.2=execOp a.eval y.2:=
     execOp_congr y.2 gy.aQ (λz X=>nH (λt e=>(zf (m t e).1).2.2 (by simp[C.1,C.2])) (by simpa using X))
    refine⟨λe=>by rw[s];exact M e,?_⟩;unfold CW at g|-;rw[s];have step:jz P y.2 a (λO w'=>K (O.put x.1.dst u) w') wi ((execOp a.eval y.2).run P w):=by
     generalize (execOp a.eval y.2).run P w=r at g;have fin:∀{b:Act} {w':World},(∃ds v,b={a with defers:=ds}.put y.2.dst v)->(∃u',Yv P x b w' u'/\K (b.put x.1.dst u') w')->K (b.put x.1.dst u) w':=by
      rintro b w' ⟨ds,v,rfl⟩ ⟨u',j,F⟩
      rw[<- B]at j;have h3:=(pZ qx (λt e=>(A t e).1)).1 j;have h4:=ti.1 h3;rw[Yv_fun (pO w') h4];exact F
     cases r with
     |ok L w'=>
      cases L <;> simp only[jz]at g|-
      case value v=>exact fin ⟨a.defers,v,rfl⟩ g
      case skip=>exact fin ⟨a.defers,undef,rfl⟩ g
      case enter f args=>exact Calls.mono g (λe Y s=>by cases e <;> first|exact fin ⟨a.defers,_,rfl⟩ s|exact s)
      case round l f tmps assign body=>exact RoundIn.mono g (λe Y s=>by cases e <;> first|exact fin ⟨a.defers,_,rfl⟩ s|exact s)
     |halt z w'=>cases z <;> simp only[jz]at g|- <;> exact g
    cases hxd:x.1.dst with
    |none=>rw[hxd]at step;exact step
    |some d=>
     rw[hxd]at step;exact Yq (by rw[<- B];exact(m d hxd).2) step
   .unfold wJ at g;rw[if_neg hw]at g;obtain⟨u,I,F⟩:=(wU qx).1 g;refine(wU qx).2 ⟨u,(pZ qx (λt e=>(A t e).1)).1 I,?_⟩;show wJ P wi y K (a.put x.1.dst u) w;unfold wJ;rw[if_neg (by rw[eE (λt e=>(zf (m t e).1).1)];exact hw),D];exact F
 .-- x acts,y is pure
  have q:(kg x.1.op||jL x.1.op)=false:=by simpa using qx
  have pq:kg y.1.op=true∨(nZ x.1.op=true/\jL y.1.op=true):=by
   try simp only[vT,vG]at N
   simp only[vS]at q;rcases N with((h|h)|h)|h
   .rw[q.1]at h;cases h
   .exact .inl h
   .rw[q.2]at h;cases h.1
   .exact .inr h
  have E:(kg y.1.op||jL y.1.op)=true:=by rcases pq with h|h <;> simp[h]
  simp only[vS]at q;obtain⟨v,H,j⟩:=(wU E).1 g;have T:jK x.1.guard (a.put y.1.dst v)=jK x.1.guard a:=eE (λt e=>(zf (A t e).1).1);unfold wJ at j|-;rw[T]at j;by_cases hw:jK x.1.guard a=true
  .rw[if_pos hw,if_neg (by simp[q.1]),if_neg (by simp[q.2])]at j|-;obtain⟨Q,B,S,_⟩:=jP Z.low;obtain⟨M,j⟩:=j;unfold CW at j;have s:execOp (a.put y.1.dst v).eval x.2=execOp a.eval x.2:=
    execOp_congr x.2 Z.aQ (λz X=>nH (λt e=>(zf (A t e).1).2.2 (by simp[q.1,q.2])) (by simpa using X))
   rw[s]at j M;refine⟨M,?_⟩;unfold CW;have step:jz P x.2 a (λO w'=>K (O.put y.1.dst v) w') wi ((execOp a.eval x.2).run P w):=by
    cases hyd:y.1.dst with
    |none=>rw[hyd]at j;exact j
    |some d=>
     rw[hyd]at j;exact R8 (by rw[<- B];exact(A d hyd).2) j
   have G:∀{b:Act} {w':World},(∃ds u,b={a with defers:=ds}.put x.2.dst u)->Yv P y a w' v->K (b.put y.1.dst v) w'->wJ P wi y K b w':=by
    rintro b w' ⟨ds,u,rfl⟩ H F
    refine(wU E).2 ⟨v,?_,F⟩;rw[<- B];exact(pZ E (λt e=>(m t e).1)).2 (ti.2 H)
   rcases pq with py|⟨L,_⟩
   rotate_left
   .obtain⟨u,w',bJ,J⟩:=M L;rw[bJ]at step|-;exact G ⟨a.defers,u,rfl⟩ (Yv_ext H J) step
   have fin:∀{b:Act} {w':World},(∃ds u,b={a with defers:=ds}.put x.2.dst u)->K (b.put y.1.dst v) w'->wJ P wi y K b w':=λhb F=>G hb ((MI py).1 H) F
   generalize (execOp a.eval x.2).run P w=r at step;cases r with
   |ok L w'=>
    cases L <;> simp only[jz]at step|-
    case value u=>exact fin ⟨a.defers,u,rfl⟩ step
    case skip=>exact fin ⟨a.defers,undef,rfl⟩ step
    case enter f args=>exact Calls.mono step (λe Y s=>by cases e <;> first|exact fin ⟨a.defers,_,rfl⟩ s|exact s)
    case round l f tmps assign body=>exact RoundIn.mono step (λe Y s=>by cases e <;> first|exact fin ⟨a.defers,_,rfl⟩ s|exact s)
   |halt z w'=>cases z <;> simp only[jz]at step|- <;> exact step
  .rw[if_neg hw]at j|-;refine(wU E).2 ⟨v,(pZ E (λt e=>(m t e).1)).2 H,?_⟩;rw[D];exact j
theorem toFront {X:Nat->RO×Oper}{Q:Act->World->Prop}(i:Nat)(g:List Nat)(q:Good P n ops (X i)):∀(d:List Nat),(∀j∈d,Good P n ops (X j)/\indep (X i) (X j)=true)->
 ∀{a w},cH P wi Q ((d++i::g).map X) a w->cH P wi Q ((i::(d++g)).map X) a w:=by
 intro d
 induction d with
 |nil=>intro _ a w h;exact h
 |cons j d ih=>
  intro m a w h;have A:wJ P wi (X j) (cH P wi Q ((i::(d++g)).map X)) a w:=fY (λa w h=>ih (λk B=>m k (by simp[B])) h) h;obtain⟨s,C⟩:=m j Zs;exact swap q s C A
theorem reorder {X:Nat->RO×Oper}{Q:Act->World->Prop}:∀(l o:List Nat),o.Perm l->l.Nodup->(∀i∈l,Good P n ops (X i))->
 o.Pairwise (λx y=>indep (X y) (X x)=true∨[x,y].Sublist l)->∀{a w},cH P wi Q (o.map X) a w->cH P wi Q (l.map X) a w:=by
 intro l
 induction l with
 |nil=>intro o q _ _ _ a w h;rw[List.perm_nil.1 q]at h;exact h
 |cons i l ih=>
  intro o q K C E a w h;have I:i∈o:=q.mem_iff.2 Zs;obtain⟨o1,d,rfl⟩:=List.append_of_mem I;have B:=QX.1 K;have m:∀x∈o1,indep (X i) (X x)=true:=by
   intro x g;have F:=(List.pairwise_append.1 E).2.2 x g i Zs;rcases F with h|h
   .exact h
   .exfalso;cases h with
    |cons _ h=>exact B.1 (h.subset Zs)
    |cons_cons _ h=>exact B.1 (h.subset Zs)
  have H:=toFront i d (C i Zs) o1 (λx g=>⟨C x (q.mem_iff.1 (by simp[g])),m x g⟩) h;have s:(o1++d).Perm l:=by
   have:=(Qe (a:=i) (l₁:=o1) (l₂:=d)).symm.trans q;exact List.Perm.cons_inv this
  refine fY (λa w h=>ih (o1++d) s B.2 (λj J=>C j (by simp[J])) ?_ h) H;have G:(o1++d).Sublist (o1++i::d):=List.Sublist.append_left (Qh i d) o1;have A:=E.sublist G;refine A.imp_of_mem (λ{x y} g hy h=>?_);rcases h with h|h
  .exact .inl h
  .right;have D:x≠i:=by rintro rfl;exact B.1 (s.mem_iff.1 g)
   cases h with
   |cons _ h=>exact h
   |cons_cons _ h=>exact absurd rfl D
end
def MG(l:List Nat)(x y:Nat):Prop:=x∈l/\y∈l/\l.idxOf x < l.idxOf y
theorem eP {a x:Nat}{l:List Nat}(h:a≠x):List.idxOf x (a::l)=List.idxOf x l+1:=by
 rw[List.idxOf_cons,show(a==x)=false from beq_eq_false_iff_ne.2 h];rfl
theorem MG.trans {l:List Nat}{x y z:Nat}(h:MG l x y)(k:MG l y z):MG l x z:=⟨h.1,k.2.1,Nat.lt_trans h.2.2 k.2.2⟩
theorem MG.sub {x y:Nat}:∀{l:List Nat},MG l x y->[x,y].Sublist l:=by
 intro l
 induction l with
 |nil=>rintro⟨h,_⟩;simp at h
 |cons a l ih=>
  rintro⟨m,j,d⟩
  by_cases ex:a=x
  .subst ex;refine List.Sublist.cons_cons _ (List.singleton_sublist.2 ?_);rcases QI.1 j with rfl|h
   .simp at d
   .exact h
  .refine List.Sublist.cons _ (ih ?_);have q:x∈l:=by rcases QI.1 m with rfl|h;exact absurd rfl ex;exact h
   have g:a≠y:=by
    rintro rfl
    simp[List.idxOf_cons]at d
   have s:y∈l:=by rcases QI.1 j with rfl|h;exact absurd rfl g;exact h
   refine⟨q,s,?_⟩;rw[eP ex,eP g]at d;omega
theorem yq {x y:Nat}:∀{l:List Nat},l.Nodup->[x,y].Sublist l->MG l x y:=by
 intro l
 induction l with
 |nil=>intro _ h;cases h
 |cons a l ih=>
  intro A h;have d:=QX.1 A;cases h with
  |cons _ h=>
   obtain⟨j,m,h3⟩:=ih d.2 h;have s:a≠x:=by rintro rfl;exact d.1 j
   have g:a≠y:=by rintro rfl;exact d.1 m
   exact⟨by simp[j],by simp[m],by rw[eP s,eP g];omega⟩
  |cons_cons _ h=>
   have q:y∈l:=List.singleton_sublist.1 h;have g:x≠y:=by rintro rfl;exact d.1 q
   exact⟨Zs,by simp[q],by rw[eP g];simp⟩
section
variable {ops:Array Oper}
def jq(ops:Array Oper)(iD t:Nat)(listed:Array Bool):List Nat:=Region.linearise.go .any ops iD t listed []
theorem Mc(g t:Nat)(d:Array Bool):jq ops (g+1) t d=
 match(Region.ready .any ops d)[t % (Region.ready .any ops d).length]? with
 |some i=>i::jq ops g (t / (Region.ready .any ops d).length) (d.setIfInBounds i true)
 |none=>[]:=by
 unfold jq;simp only[Region.linearise.go];change (match(Region.ready .any ops d)[t % (Region.ready .any ops d).length]? with
  |some i=>Region.linearise.go .any ops g (t / (Region.ready .any ops d).length) (d.setIfInBounds i true) [i]
  |none=>[].reverse)=_
 split
 .rw[linearise_go_acc];simp
 .simp
def zO(ops:Array Oper):Bool:=ops.toList.zipIdx.all fun(o,i)=>o.after.all λe=>!Region.binds .any e||e.on < i
theorem gq(h:zO ops=true){i:Nat}{o:Oper}(q:ops[i]? =some o){e:Edge}(j:e∈o.after)(g:Region.binds .any e=true):e.on < i:=by
 simp only[zO,vg]at h;have m:(o,i)∈ops.toList.zipIdx:=by
  rw[List.mem_zipIdx_iff_getElem?];simpa using q
 have d:=Array.all_eq_true_iff_forall_mem.1 (h _ m) e j;simpa[g]using d
def pR(ops:Array Oper)(listed:Array Bool):List Nat:=(List.range ops.size).filter λi=>!listed.getD i true
theorem Xy(h:zO ops=true){d:Array Bool}(hs:d.size=ops.size)(I:pR ops d≠[]):Region.ready .any ops d≠[]:=by
 obtain⟨i,A,m⟩:∃i,i∈pR ops d/\∀j,j < i->j∉pR ops d:=by
  obtain⟨k,g⟩:=List.exists_mem_of_ne_nil _ I;have:∀n,∀k,k<=n->k∈pR ops d->∃i,i∈pR ops d/\∀j,j < i->j∉pR ops d:=by
   intro n
   induction n with
   |zero=>intro k D g;exact⟨k,g,λj B=>by omega⟩
   |succ n ih=>
    intro k D g;by_cases hex:∃j,j < k/\j∈pR ops d
    .obtain⟨j,B,q⟩:=hex;exact ih j Zo q
    .exact⟨k,g,λj B q=>hex ⟨j,B,q⟩⟩
  exact this k k (Qt _) g
 intro H;have:i∈Region.ready .any ops d:=by
  simp only[pR,QL,QS,vO]at A;rw[mem_ready];obtain⟨o,C⟩:∃o,ops[i]? =some o:=⟨ops[i],by simp[A.1]⟩;refine⟨A.2,o,C,λe s G=>?_⟩;have E:=gq h C s G;have:=m e.on E;simp only[pR,QL,QS,vO,not_and,Bool.not_eq_false]at this;have F:=this Zo;have J:e.on < d.size:=by omega
  simpa[J]using F
 rw[H]at this;cases this
theorem yR(U:zO ops=true):∀(m t:Nat) (d:Array Bool),d.size=ops.size->(pR ops d).length<=m->
 (jq ops m t d).Nodup/\(∀i,i∈jq ops m t d↔i∈pR ops d)/\
 ∀i∈jq ops m t d,∀o,ops[i]? =some o->∀e∈o.after,Region.binds .any e=true->d.getD e.on false=true∨MG (jq ops m t d) e.on i:=by
 intro m
 induction m with
 |zero=>
  intro t d C Y;have D:pR ops d=[]:=Q4.1 Zo;have:jq ops 0 t d=[]:=by simp[jq,Region.linearise.go]
  rw[this,D];simp
 |succ m ih=>
  intro t d C Y;rw[Mc];cases hr:(Region.ready .any ops d)[t % (Region.ready .any ops d).length]? with
  |none=>
   have D:pR ops d=[]:=by
    by_cases hu:pR ops d=[]
    .exact hu
    .have S:=Xy U C hu;have Q:t % (Region.ready .any ops d).length < (Region.ready .any ops d).length:=Nat.mod_lt _ (List.length_pos_iff.2 S);rw[Zg Q]at hr;cases hr
   simp[D]
  |some i=>
   have W:=Zv hr;obtain⟨G,o,L,q⟩:=mem_ready.1 W;have J:i < ops.size:=(v8.1 L).1;have s:i∈pR ops d:=by simp only[pR,QL,QS,vO];exact⟨J,G⟩
   have O:∀j,(d.setIfInBounds i true).getD j true=if j=i then true else d.getD j true:=by
    intro j;by_cases e:j=i
    .subst e;simp[C,J]
    .rw[getD_set_ne true (Ne.symm e)];simp[e]
   have F:∀j,j∈pR ops (d.setIfInBounds i true)↔j∈pR ops d/\j≠i:=by
    intro j;simp only[pR,QL,QS,vO,O];by_cases e:j=i <;> simp[e]
   have B:(pR ops (d.setIfInBounds i true)).length<=m:=by
    have Z:(pR ops (d.setIfInBounds i true)).Perm ((pR ops d).erase i):=by
     have N:(pR ops d).Nodup:=QY.filter _;refine(Qd (QY.filter _) (N.erase i)).2 (λj=>?_);rw[N.mem_erase_iff];rw[show(j∈List.filter (λk=>!(d.setIfInBounds i true).getD k true) (List.range ops.size))↔_ from F j];exact And.comm
    have:=Z.length_eq;rw[List.length_erase_of_mem s]at this;have lh:0 < (pR ops d).length:=List.length_pos_of_mem s;omega
   obtain⟨n1,M,n3⟩:=ih (t / (Region.ready .any ops d).length) (d.setIfInBounds i true) (by simp[C]) B;have g:i∉jq ops m (t / (Region.ready .any ops d).length) (d.setIfInBounds i true):=λh=>((F i).1 ((M i).1 h)).2 rfl
   refine⟨QX.2 ⟨g,n1⟩,λj=>?_,λj X o' E e K I=>?_⟩
   .rw[QI,M,F];constructor
    .rintro(rfl|h);exact s;exact h.1
    .intro h;by_cases e:j=i;exact .inl e;exact .inr ⟨h,e⟩
   .rcases QI.1 X with rfl|M9
    .rw[L]at E;cases E;exact .inl (q e K I)
    .have H:i≠j:=λe=>g (e ▸ M9)
     rcases n3 j M9 o' E e K I with h|h
     .by_cases A:e.on=i
      .right;exact⟨by simp[A],by simp[M9],by rw[A,eP H];simp⟩
      .left;rw[getD_set_ne false (Ne.symm A)]at h;exact h
     .right;have A:i≠e.on:=λT=>g (T ▸ h.1)
      exact⟨by simp[h.1],by simp[M9],by rw[eP A,eP H];have:=h.2.2;omega⟩
inductive SB (ops:Array Oper):Nat->Nat->Prop where
 |Tr {i:Nat} {o:Oper} {e:Edge}:ops[i]? =some o->e∈o.after->Region.binds .any e=true->SB ops e.on i
 |step {i j:Nat} {o:Oper} {e:Edge}:ops[i]? =some o->e∈o.after->Region.binds .any e=true->SB ops j e.on->SB ops j i
def tk(s:List Nat)(l:List Nat):List Nat:=l.foldl (λs x=>if s.contains x then s else x::s) s
theorem Bo {x:Nat}:∀{l s:List Nat},x∈tk s l->x∈s∨x∈l:=by
 intro l
 induction l with
 |nil=>intro s h;exact .inl h
 |cons a l ih=>
  intro s h;simp only[tk,Vg]at h;rcases ih (s:=if s.contains a then s else a::s) h with h|h
  .split at h
   .exact .inl h
   .rcases QI.1 h with rfl|h
    .exact .inr Zs
    .exact .inl h
  .exact .inr (by simp[h])
def rL(acc:List (List Nat))(o:Oper):List Nat:=
 o.after.toList.foldl (λs e=>if Region.binds .any e then tk (tk s [e.on]) (acc.getD e.on [])else s) []
def S5:List Oper->List (List Nat)->List (List Nat)
 |[],acc=>acc
 |o::r,acc=>S5 r (acc++[rL acc o])
def iV(ops:Array Oper):List (List Nat):=S5 ops.toList []
theorem C3 {d:List (List Nat)}{k:Nat}{o:Oper}(C:ops[k]? =some o)(D:∀j x,x∈d.getD j []->SB ops x j){x:Nat}(g:x∈rL d o):SB ops x k:=by
 unfold rL at g;have:∀(l:List Edge) (s:List Nat),(∀e∈l,e∈o.after)->(∀x∈s,SB ops x k)->∀x∈l.foldl (λs e=>if Region.binds .any e then tk (tk s [e.on]) (d.getD e.on [])else s) s,SB ops x k:=by
  intro l
  induction l with
  |nil=>intro s _ m x g;exact m x g
  |cons e l ih=>
   intro s A m x g;simp only[Vg]at g;refine ih _ (λe q=>A e (by simp[q])) (λy hy=>?_) x g;split at hy
   .rename_i B;rcases Bo hy with hy|hy
    .rcases Bo hy with hy|hy
     .exact m y hy
     .rw[QU.1 hy];exact .Tr C (A e Zs) B
    .exact .step C (A e Zs) B (D _ _ hy)
   .exact m y hy
 exact this o.after.toList [] (λe q=>by simpa using q) (λ_ h=>by cases h) x g
theorem HH:∀(l:List Oper) (d:List (List Nat)),(∀j,l[j]? =ops[d.length+j]?)->(∀j x,x∈d.getD j []->SB ops x j)->∀j x,x∈(S5 l d).getD j []->SB ops x j:=by
 intro l
 induction l with
 |nil=>intro d _ h;exact h
 |cons o l ih=>
  intro d q s;refine ih (d++[rL d o]) (λj=>?_) (λj x g=>?_)
  .have:=q (j+1);simp only[Vm]at this;rw[this];simp;congr 1;omega
  .by_cases e:j < d.length
   .rw[Vh,Vj e,<- Vh]at g;exact s j x g
   .rw[Vh,Vl Zo]at g;by_cases e2:j - d.length=0
    .rw[e2]at g;have A:j=d.length:=by omega
     subst A;have m:=q 0;simp at m g;exact C3 m.symm s g
    .have:([rL d o]:List (List Nat))[j - d.length]? =none:=by
      rw[Vp];simp;omega
     rw[this]at g;simp at g
theorem lT {x j:Nat}(h:x∈(iV ops).getD j []):SB ops x j:=HH ops.toList [] Zs Zs j x h
theorem xS(q:zO ops=true){m t:Nat}(A:ops.size<=m){x y:Nat}(h:SB ops x y):y < ops.size->MG (jq ops m t (Array.replicate ops.size false)) x y:=by
 have s:pR ops (Array.replicate ops.size false)=List.range ops.size:=by
  exact zAV
 obtain⟨s1,B,C⟩:=yR q m t (Array.replicate ops.size false) Zs (by rw[s];simpa using A);have Tr:∀{i:Nat} {o:Oper} {e:Edge},ops[i]? =some o->e∈o.after->Region.binds .any e=true->MG (jq ops m t (Array.replicate ops.size false)) e.on i:=by
  intro i o e d j g;have hi:i < ops.size:=(v8.1 d).1;rcases C i ((B i).2 (by rw[s];simpa using hi)) o d e j g with h|h
  .have:e.on < ops.size:=Nat.lt_trans (gq q d j g) hi;simp[this]at h
  .exact h
 induction h with
 |Tr d j g=>intro _;exact Tr d j g
 |step d j g _ ih=>
  intro hi;exact(ih (Nat.lt_trans (gq q d j g) hi)).trans (Tr d j g)
def A8(x:Nat):List Nat->List (List Nat)
 |[]=>[[x]]
 |y::r=>(x::y::r)::(A8 x r).map (y::·)
def Jj:List Nat->List (List Nat)
 |[]=>[[]]
 |x::r=>(Jj r).flatMap (A8 x)
theorem LM {x:Nat}(d g:List Nat):d++x::g∈A8 x (d++g):=by
 induction d with
 |nil=>cases g <;> simp[A8]
 |cons a d ih=>simp only[vr,A8,QI,QO];right;exact⟨_,ih,rfl⟩
theorem ue:∀{d s:List Nat},s.Perm d->s∈Jj d:=by
 intro d
 induction d with
 |nil=>intro s h;rw[List.perm_nil.1 h];simp[Jj]
 |cons x d ih=>
  intro s h;have m:x∈s:=h.mem_iff.2 Zs;obtain⟨g,j,rfl⟩:=List.append_of_mem m;have:=ih (List.Perm.cons_inv ((Qe (a:=x) (l₁:=g) (l₂:=j)).symm.trans h));simp only[Jj,QM];exact⟨_,this,LM g j⟩
def ZN(x y:Nat):List Nat->Bool
 |[]=>false
 |z::r=>if z=x then r.contains y else ZN x y r
theorem S9 {x y:Nat}:∀{l:List Nat},ZN x y l=true->[x,y].Sublist l:=by
 intro l
 induction l with
 |nil=>intro h;cases h
 |cons z r ih=>
  intro h;simp only[ZN]at h;split at h
  .rename_i e;subst e;exact List.Sublist.cons_cons _ (List.singleton_sublist.2 (by simpa using h))
  .exact List.Sublist.cons _ (ih h)
def yE(p:Nat->Nat->Bool):List Nat->Bool
 |[]=>true
 |x::r=>r.all (p x)&&yE p r
theorem Dq {p:Nat->Nat->Bool}:∀{l:List Nat},yE p l=true->l.Pairwise λx y=>p x y=true:=by
 intro l
 induction l with
 |nil=>intro _;exact .nil
 |cons x r ih=>
  intro h;simp only[yE,vG,vg]at h;exact .cons h.1 (ih h.2)
theorem I1 {n:Nat}:∀{o:List Nat},o.Nodup->(∀x∈o,x < n)->o.length=n->∀{x},x < n->x∈o:=by
 induction n with
 |zero=>intro o _ _ _ x G;omega
 |succ n ih=>
  intro o j s C x G;have A:n∈o:=by
   refine Classical.byContradiction λD=>?_
   have g:∀x∈o,x < n:=λy d=>by
    have:=s y d;have:y≠n:=λe=>D (e ▸ d)
    omega
   have q:∀(m:Nat) (l:List Nat),l.Nodup->(∀y∈l,y < m)->l.length<=m:=by
    intro m
    induction m with
    |zero=>intro l _ h;cases l with|nil=>simp|cons a l=>exact absurd (h a Zs) Zo
    |succ m ihm=>
     intro l B F;have:=ihm (l.erase m) (B.erase m) (λy d=>by
      have E:=F y (List.mem_of_mem_erase d);have g:y≠m:=λe=>by rw[e]at d;exact(B.mem_erase_iff.1 d).1 rfl
      omega)
     by_cases hm:m∈l
     .rw[List.length_erase_of_mem hm]at this;omega
     .rw[List.erase_of_not_mem hm]at this;omega
   have:=q n o j g;omega
  by_cases e:x=n
  .exact e ▸ A
  .have:=ih (o:=o.erase n) (j.erase n) (λy d=>by
    have E:=s y (List.mem_of_mem_erase d);have g:y≠n:=λe=>by rw[e]at d;exact(j.mem_erase_iff.1 d).1 rfl
    omega) (by rw[List.length_erase_of_mem A];omega) (x:=x) Zo
   exact List.mem_of_mem_erase this
instance:Inhabited RO:=⟨⟨none,none,.pQ⟩⟩
def oG(rs:List (RO×Oper))(x y:Nat):Bool:=match rs[x]?,rs[y]? with|some a,some b=>indep b a|_,_=>false
def nodupB:List Nat->Bool
 |[]=>true
 |x::r=>!r.contains x&&nodupB r
theorem uV:∀{l:List Nat},nodupB l=true->l.Nodup:=by
 intro l
 induction l with
 |nil=>intro _;exact .nil
 |cons x r ih=>
  intro h;simp only[nodupB,vG,vO]at h;exact QX.2 ⟨by simpa using h.1,ih h.2⟩
def HX(both:Bool)(rs:List (RO×Oper))(an:List (List Nat))(n:Nat):List Nat:=
 (List.range n).filter λx=>(List.range n).any λy=>x !=y&&!(an.getD x []).contains y&&!(an.getD y []).contains x&&!(if both then oG rs x y&&oG rs y x else oG rs x y||oG rs y x)
def gw(both:Bool)(rs:List (RO×Oper))(ops:Array Oper)(orders:List (List Nat)):Bool:=
 let an:=iV ops
 let n:=ops.size
 let d:=HX both rs an n
 zO ops&&nodupB d&&orders.all (λo=>o.length==n&&nodupB o&&o.all (·< n))&&
 (Jj d).all λs=>!(yE (λx y=>!(an.getD x []).contains y) s)||orders.any λo=>yE (λx y=>oG rs x y||(an.getD y []).contains x||ZN x y s) o
def qq(rs:List (RO×Oper))(ops:Array Oper)(orders:List (List Nat)):Bool:=gw false rs ops orders||gw true rs ops orders
theorem MS {j:Bool}{P:Program}{n:Nat}{rs:List (RO×Oper)}{g:List (List Nat)}{Q:Act->World->Prop}{a:Act}{w:World}(E:rs.length=ops.size)(L:∀(i:Nat) x,rs[i]? =some x->Good P n ops x)
 (D:gw j rs ops g=true) (h:∀o∈g,cH P wi Q (o.map λi=>rs.getD i default) a w) (t:Nat):
 cH P wi Q ((jq ops ops.size t (Array.replicate ops.size false)).map λi=>rs.getD i default) a w:=by
 simp only[gw,vG]at D;obtain⟨⟨⟨C,hd⟩,N⟩,hp⟩:=D;have F:pR ops (Array.replicate ops.size false)=List.range ops.size:=by
  exact zAV
 obtain⟨s1,G,_⟩:=yR C ops.size t (Array.replicate ops.size false) Zs (by rw[F];simp);generalize M:jq ops ops.size t (Array.replicate ops.size false)=l at s1 G|-;have ε:∀{x y:Nat},y < ops.size->x∈(iV ops).getD y []->MG l x y:=λhy hx=>M ▸ xS C (Qt _) (lT hx) hy
 have bV:∀i,i∈l↔i < ops.size:=λi=>by rw[G,F];simp
 generalize K1:HX j rs (iV ops) ops.size=d at hd hp;have hdlt:∀x∈d,x < ops.size:=by
  exact zCV
 have I:(l.filter (d.contains ·)).Perm d:=by
  exact zBF
 have m:=vg.1 hp _ (ue I);simp only[vT,vO,vj]at m;have H:yE (λx y=>!((iV ops).getD x []).contains y) (l.filter (d.contains ·))=true:=by
  exact zAD
 rcases m with m|⟨o,B,hpo⟩
 .rw[H]at m;cases m
 have A:=vg.1 N o B;simp only[vG,beq_iff_eq,vg,decide_eq_true_eq]at A;obtain⟨⟨o1,o2⟩,o3⟩:=A;have K:o.Perm l:=by
  exact zAI
 refine reorder (P:=P) (n:=n) (ops:=ops) l o K s1 (λi hi=>?_) ?_ (h o B)
 .have bU:=(bV i).1 hi;have:rs[i]? =some (rs.getD i default):=by
   rw[Vh];have J:i < rs.length:=by omega
   simp[J]
  exact L i _ this
 .exact zAN
theorem cover {P:Program}{n:Nat}{rs:List (RO×Oper)}{d:List (List Nat)}{Q:Act->World->Prop}{a:Act}{w:World}(g:rs.length=ops.size)(j:∀(i:Nat) x,rs[i]? =some x->Good P n ops x)
 (hc:qq rs ops d=true) (h:∀o∈d,cH P wi Q (o.map λi=>rs.getD i default) a w) (t:Nat):
 cH P wi Q ((jq ops ops.size t (Array.replicate ops.size false)).map λi=>rs.getD i default) a w:=by
 unfold qq at hc;rcases vU.1 hc with hc|hc
 .exact MS g j hc h t
 .exact MS g j hc h t
end
abbrev Env:=List (Nat×Value)
abbrev SH:=List (List kC)
def look:Env->Nat->Option Value
 |[],_=>none
 |(s,v)::r,t=>if s=t then some v else look r t
def ev(Γ:Env):Operand->Option Value
 |.tmp t=>look Γ t
 |.const v=>some v
 |.global g=>some (.pointer (some ⟨g,0,none⟩))
 |.func f=>some (.func (.func f) #[] #[])
def nt(Γ:Env):List Operand->Option (List Value)
 |[]=>some []
 |x::r=>match ev Γ x,nt Γ r with
  |some v,some l=>some (v::l)
  |_,_=>none
structure wH (n:Nat)(Γ:Env)(a:Act):Prop where
 size:a.tmps.size=n
 slots:∀t v,look Γ t=some v->a.tmps[t]? =some v
def Sub(Γ Δ:Env):Prop:=∀t v,look Δ t=some v->look Γ t=some v
theorem wH.sub {n:Nat}{Γ Δ:Env}{a:Act}(h:wH n Γ a)(s:Sub Γ Δ):wH n Δ a:=⟨h.size,λt v e=>h.slots t v (s t v e)⟩
theorem wH.put {n:Nat}{Γ:Env}{a:Act}(h:wH n Γ a){d:Nat}(m:d < n)(v:Value):wH n ((d,v)::Γ) (a.put (some d) v):=by
 refine⟨by simp[Act.put,h.size],λt u e=>?_⟩;simp only[look]at e;split at e
 .rename_i g;subst g;cases e;simp[Act.put,h.size,m]
 .rename_i j;simp only[Act.put,vB j];exact h.slots t u e
theorem wH.ev {n:Nat}{Γ:Env}{a:Act}(h:wH n Γ a){x:Operand}{v:Value}(e:ev Γ x=some v):a.eval x=v:=by
 cases x with
 |tmp t=>simp only[V.ev]at e;simp[Act.eval,Array.getD_eq_getD_getElem?,h.slots t v e]
 |const u=>simpa[V.ev,Act.eval]using e
 |global g=>simpa[V.ev,Act.eval]using e
 |func f=>simpa[V.ev,Act.eval]using e
theorem wH.nt {n:Nat}{Γ:Env}{a:Act}(h:wH n Γ a):∀{l:List Operand} {vs:List Value},nt Γ l=some vs->l.map a.eval=vs:=by
 intro l
 induction l with
 |nil=>intro vs e;simp[V.nt]at e;subst e;rfl
 |cons x r ih=>
  intro vs e;simp only[V.nt]at e;split at e
  .rename_i v l g d;cases e;simp[h.ev g,ih d]
  .cases e
def aq(d:Option Nat)(v:Value)(Γ:Env):Env:=match d with|some d=>(d,v)::Γ|none=>Γ
theorem wH.aq {n:Nat}{Γ:Env}{a:Act}(h:wH n Γ a){d:Option Nat}(g:∀t,d=some t->t < n)(v:Value):wH n (V.aq d v Γ) (a.put d v):=by
 cases d with
 |none=>exact h
 |some d=>exact h.put (g d rfl) v
def tf(P:Program)(n:Nat)(rs:List RO)(l:List (RO×Oper)):Prop:=l.map (·.1)=rs/\∀x∈l,∃ops,eU P n ops x.2=some x.1
theorem jr(a:Act)(d:Option Nat)(v:Value):(a.put d v).defers=a.defers:=by cases d <;> rfl
def VO(P:Program)(n:Nat)(rs:List RO)(Γ:Env)(H:SH)(Z:List PanicEntry->Env->SH->Prop)(K:Env->SH->Prop):Prop:=
 ∀l,tf P n rs l->∀a w F (ZZ:Exit->Act->World->Prop) (Q:Act->World->Prop),wH n Γ a->Sat w (H.flatten++F)->
  (∀a' w' aw H',K aw H'->wH n aw a'->a'.defers=a.defers->Sat w' (H'.flatten++F)->kz w w'->Q a' w')->
  (∀ch a' w' aw H',Z ch aw H'->wH n aw a'->a'.defers=a.defers->Sat w' (H'.flatten++F)->kz w w'->ZZ (.panic ch) a' w')->cH P ZZ Q l a w
def au(P:Program)(f:Nat)(args:List Value)(bx:SH)(Q:Value->SH->Prop):Prop:=
 wK P f=true/\∀F w,Sat w (bx.flatten++F)->
  Calls P f args.toArray w λe w'=>∃v Post,e=.returned v/\Q v Post/\Sat w' (Post.flatten++F)/\kz w w'
def fJ(H bx R:SH):Prop:=H.flatten.Perm (bx.flatten++R.flatten)
section
variable {P:Program} {n:Nat} {rs:List RO} {Γ Δ:Env} {H:SH} {Z:List PanicEntry->Env->SH->Prop} {K:Env->SH->Prop}
theorem VO.nil(h:K Γ H):VO P n [] Γ H Z K:=by
 intro l g a w F ZZ Q d m j hz;obtain rfl:l=[]:=by simpa using g.1
 exact j a w Γ H h d rfl m (.refl w)
theorem VO.sub(s:Sub Γ Δ)(h:VO P n rs Δ H Z K):VO P n rs Γ H Z K:=λl j a w F d Q g q m A=>h l j a w F d Q (g.sub s) q m A
theorem VO.mono {K':Env->SH->Prop}(h:VO P n rs Γ H Z K)(q:∀Γ H,K Γ H->K' Γ H):VO P n rs Γ H Z K':=λl s a w F d Q m B A C=>h l s a w F d Q m B (λg w' j H' k=>A g w' j H' (q _ _ k)) C
theorem ze {r:RO}{l:List (RO×Oper)}(h:tf P n (r::rs) l):∃o j,l=(r,o)::j/\tf P n rs j/\∃ops,eU P n ops o=some r:=by
 obtain⟨d,g⟩:=h;cases l with
 |nil=>simp at d
 |cons x l=>
  simp at d;obtain⟨rfl,d⟩:=d;exact⟨x.2,l,rfl,⟨d,λy m=>g y (by simp[m])⟩,g x Zs⟩
theorem VO.pure {d:Option Nat}{r:R}{v:Value}(O:kg r=true)(U:∀ρ:Operand->Value,(∀x u,ev Γ x=some u->ρ x=u)->kW ρ r=some v)(h:VO P n rs (aq d v Γ) H Z K):VO P n (⟨d,none,r⟩::rs) Γ H Z K:=by
 intro l M a w F j Q G T S W;obtain⟨o,I,rfl,X,ops,N⟩:=ze M;obtain⟨g1,g2,L,g4⟩:=jP N;show wJ P j (_,o) (cH P j Q I) a w;unfold wJ;simp only[jK,O,if_true];exact⟨v,U a.eval (λx u e=>G.ev e),h I X _ w F j Q (G.aq L v) T (λm E q g s A B C D=>S m E q g s A (B.trans (jr ..)) C D) (λJ m E q g s A B C D=>W J m E q g s A (B.trans (jr ..)) C D)⟩
theorem VO.read {d:Option Nat}{r:R}{v:Value}(X:kg r=false)(hr:jL r=true)(hv:∀ρ:Operand->Value,(∀x u,ev Γ x=some u->ρ x=u)->∃s,wZ ρ r=some s/\∀F w,Sat w (H.flatten++F)->s.run P w=.ok (.value v) w)
 (h:VO P n rs (aq d v Γ) H Z K):VO P n (⟨d,none,r⟩::rs) Γ H Z K:=by
 intro l U a w F m Q I J Y hz;obtain⟨o,L,rfl,s6,ops,W⟩:=ze U;obtain⟨g1,g2,O,g4⟩:=jP W;show wJ P m (_,o) (cH P m Q L) a w;unfold wJ;obtain⟨s,S,T⟩:=hv a.eval (λx u e=>I.ev e);simp only[jK,X,hr,if_true,vM,if_false];exact⟨s,v,S,λg N=>T F g (J.ext N),h L s6 _ w F m Q (I.aq O v) J (λq g A j B C D E G=>Y q g A j B C (D.trans (jr ..)) E G) (λM q g A j B C D E G=>hz M q g A j B C (D.trans (jr ..)) E G)⟩
theorem rT {w:World}(o:Obj):Ext w {w with heap:=w.heap.push o}:=λi x h=>by
 have d:=(v8.1 h).1;show(w.heap.push o)[i]? =_;rw[Array.getElem?_push,if_neg (Nat.ne_of_lt d)];exact h
theorem KR {w:World}{a:Addr}{n:Nat}(h:w.heap.size<=a.block):∀{w':World},Ext w w'->Ext w (w'.freeze a n):=by
 intro w' e i o d;have hl:=(v8.1 d).1;unfold World.freeze;split
 .exact e _ _ d
 .have:=e _ _ d;simp only[vA,this,if_neg (show ¬a.block=i by omega)]
theorem iq {w w':World}{c:Array Value}{t:TypeId}{f:Nat->Next}{d:Next}(h:(do let b <- Go.newObj (.cells c t);pure (f b):Sem Next).run P w=.ok d w'):d=f w.heap.size/\Ext w w':=by
 simp only[Go.newObj,Sem.run_bind,Sem.run,Sem.run_pure,Result.andThen_ok]at h;cases h;exact⟨rfl,rT _⟩
theorem JD {w w':World}{t:TypeId}{s:ByteArray}{v:Value}(h:(Conv.stringToBytes t s).run P w=.ok v w'):Ext w w':=by
 unfold Conv.stringToBytes at h;rw[Sem.run_bind]at h;obtain⟨cap,g,j,q⟩:=jC h;have D:g.heap=w.heap:=by
  simp only[Go.choose,Sem.run]at j;split at j <;> (cases j;rfl)
 have F:Ext w g:=λi o e=>by rw[D];exact e
 refine F.trans ?_;rw[Sem.run_bind]at q;obtain⟨a,E,A,B⟩:=jC q;have m:a=⟨g.heap.size,0,none⟩/\E={g with heap:=g.heap.push (.cells (s.data.map (λb=>Value.int .u8 b.toNat)++Array.replicate (cap - s.size) (.int .u8 0)) t)}:=by
  simp only[newRow,Go.newObj,Sem.run_bind,Sem.run,Sem.run_pure,Result.andThen_ok]at A;cases A;exact⟨rfl,rfl⟩
 obtain⟨rfl,rfl⟩:=m;rw[Sem.run_bind]at B;obtain⟨_,w3,d,C⟩:=jC B;rw[Sem.run_pure]at C;cases C;unfold markStringish at d;rw[Sem.run_bind]at d;simp only[Go.shape,Sem.run,Result.andThen_ok]at d;split at d
 .simp only[Go.freeze,Sem.run]at d;cases d;exact KR (Qt _) (rT _)
 .rw[Sem.run_pure]at d;cases d;exact rT _
theorem Gg {P:Program}{a:Addr}:∀(k i:Nat) (acc:Array Value) (w1:World) (r:Array Value) (w2:World),(loadCellsFrom a i k acc).run P w1=.ok r w2->w2=w1:=by
 exact zBC
theorem qF {P:Program}{size n:Nat}{x:Value}{w w':World}{c:Array Value}(h:(Builtin.firstCells size n x).run P w=.ok c w'):w'=w:=by
 unfold Builtin.firstCells at h;split at h
 .exact Gg _ _ _ _ _ _ h
 .rw[Sem.run_pure]at h;cases h;rfl
 .rw[Sem.run_pure]at h;cases h;rfl
 .simp[stuck,Sem.run]at h
theorem Wt {ρ:Operand->Value}{r:R}{s:Sem Next}{w w':World}{D:Next}(E:∀u,ρ (.const u)=u)(j:nZ r=true)(q:wZ ρ r=some s)(h:s.run P w=.ok D w'):∃u,D=.value u/\Ext w w':=by
 cases r
 case append t size bytes zero sx x=>
  have e:sx=.const Nz :=by
   unfold nZ at j;split at j <;> first|(rename_i e;cases e;done)|(rename_i e;cases e;rfl)|cases j
  subst e;simp only[wZ,E,XD]at q;subst q;cases hm:fA (ρ x)with
  |none=>rw[hm]at h;simp[stuck,Sem.run]at h
  |some m=>
   rw[hm]at h;simp only at h;split at h
   .rw[Sem.run_bind]at h;obtain⟨c,A,g,d⟩:=jC h;rw[qF g]at d;simp only[Sem.run_bind,Sem.run_pure,Result.andThen_ok]at d;cases d;exact⟨_,rfl,.refl _⟩
   .split at h
    .simp[stuck,Sem.run]at h
    .rw[Sem.run_bind]at h;obtain⟨cap,A,g,d⟩:=jC h;have F:A.heap=w.heap:=by
      simp only[Go.choose,Sem.run]at g;split at g <;> (cases g;rfl)
     have J:Ext w A:=λi o e=>by rw[F];exact e
     rw[Sem.run_bind]at d;obtain⟨I,w2,G,B⟩:=jC d;rw[qF G]at B;rw[Sem.run_bind]at B;obtain⟨new,w3,H,C⟩:=jC B;rw[qF H]at C;obtain⟨rfl,e⟩:=iq C;exact⟨_,rfl,J.trans e⟩
 all_goals simp only[nZ]at j
 all_goals first|(cases j;done)|skip
 all_goals (simp only[wZ,XD]at q;subst q)
 case alloc=>obtain⟨rfl,e⟩:=iq h;exact⟨_,rfl,e⟩
 case box=>obtain⟨rfl,e⟩:=iq h;exact⟨_,rfl,e⟩
 case nA=>
  split at h
  .obtain⟨rfl,e⟩:=iq h;exact⟨_,rfl,e⟩
  .simp[stuck,Sem.run]at h
 case pQ=>
  simp only[Go.newObj,Sem.run_bind,Sem.run,Sem.run_pure,Result.andThen_ok]at h;cases h;exact⟨_,rfl,rT _⟩
 case s2b=>
  split at h
  .rw[Sem.run_bind]at h;obtain⟨v,A,g,d⟩:=jC h;rw[Sem.run_pure]at d;cases d;exact⟨_,rfl,JD g⟩
  .simp[stuck,Sem.run]at h
theorem VO.act {d:Option Nat}{r:R}(hp:kg r=false)(hr:jL r=false)
 (hv:∀ρ:Operand->Value,(∀x u,ev Γ x=some u->ρ x=u)->∃s,wZ ρ r=some s/\aL P s H.flatten λN L=>∃v H',(N=.value v∨(N=.skip/\v=undef))/\L.Perm H'.flatten/\VO P n rs (aq d v Γ) H' Z K):
 VO P n (⟨d,none,r⟩::rs) Γ H Z K:=by
 intro l hl a w F h Q U hs hq hz;obtain⟨o,M,rfl,s6,ops,ho⟩:=ze hl;obtain⟨g1,g2,g3,g4⟩:=jP ho;show wJ P h (_,o) (cH P h Q M) a w;unfold wJ;obtain⟨s,T,h2⟩:=hv a.eval (λx u e=>U.ev e);simp only[jK,hp,hr,if_true,vM,if_false];obtain⟨N,w',L,S,⟨v,H',B,hL,C⟩,X,W⟩:=h2 F w hs;have m:=uf (yU a) g1 T S;refine⟨λhn=>?_,?_⟩
 .obtain⟨u,hu,g⟩:=Wt (yU a) hn T S;exact⟨u,w',by rw[m,hu],g⟩
 have fin:cH P h Q M (a.put o.dst v) w':=by
  rw[<- g2];exact C M s6 _ w' F h Q (U.aq g3 v) (X.perm (hL.append_right F)) (λq O A j D E G I J=>hq q O A j D E (G.trans (jr ..)) I (W.trans J)) (λY q O A j D E G I J=>hz Y q O A j D E (G.trans (jr ..)) I (W.trans J))
 rcases B with rfl|⟨rfl,rfl⟩
 .simpa only[CW,m,jz]using fin
 .simpa only[CW,m,jz]using fin
theorem VO.act' {d:Option Nat}{r:R}(A:kg r=false)(B:jL r=false)
 (D:∀ρ:Operand->Value,(∀x u,ev Γ x=some u->ρ x=u)->∃s,wZ ρ r=some s/\aL P s H.flatten λg L=>∃v H' X,(g=.value v∨(g=.skip/\v=undef))/\L.Perm (List.flatten H'++X)/\VO P n rs (aq d v Γ) H' Z K):
 VO P n (⟨d,none,r⟩::rs) Γ H Z K:=by
 refine VO.act A B (λρ j=>?_);obtain⟨s,m,q⟩:=D ρ j;refine⟨s,m,λF w C=>?_⟩;obtain⟨g,w',L,E,⟨v,H',X,G,I,J⟩,M,N⟩:=q F w C;refine⟨g,w',H'.flatten,E,⟨v,H',G,.refl _,J⟩,?_,N⟩;have:=M.perm (I.append_right F);exact zEO
theorem zn {f:Nat}{args:Array Value}{w:World}(h:wK P f=true):(callFunc f args).run P w=.ok (.enter f args) w:=by
 unfold wK at h;split at h
 .rename_i fn g;simp only[vG,bne_iff_ne]at h;obtain⟨c,d⟩:=X8.1 h.2;simp[callFunc,g,h.1,d]
 .cases h
theorem NU {o:Oper}{a:Act}{w:World}{f:Nat}{args:List Value}{next:Act->World->Prop}{j:Exit->Act->World->Prop}(m:(execOp a.eval o).run P w=.ok (.enter f args.toArray) w)
 (h:Calls P f args.toArray w λe w'=>(∃v,e=.returned v/\next (a.put o.dst v) w')∨(∃d,e=.panicked d/\j (.panic d) a w')):CW P o a w next j:=by
 simp only[CW,m,jz];refine h.mono ?_
 rintro e w' (⟨v,rfl,g⟩|⟨d,rfl,g⟩)
 .exact g
 .exact g
theorem VO.Tf {d:Option Nat}{r:R}{f:Nat}{args:List Value}{g R:SH}{Q:Value->SH->Prop}(C:kg r=false)(D:jL r=false)(j:nZ r=false)
 (E:∀(a:Act) (w:World) (o:Oper),(∀x u,ev Γ x=some u->a.eval x=u)->jG P o.op=some r->(execOp a.eval o).run P w=.ok (.enter f args.toArray) w)
 (s:au P f args g Q) (hs:fJ H g R) (h:∀v Post,Q v Post->VO P n rs (aq d v Γ) (Post++R) Z K):VO P n (⟨d,none,r⟩::rs) Γ H Z K:=by
 intro l A a w F ZZ Q' ha lj hq hz;obtain⟨o,l',rfl,s6,ops,B⟩:=ze A;obtain⟨q,g2,g3,g4⟩:=jP B;show wJ P ZZ (_,o) (cH P ZZ Q' l') a w;unfold wJ;simp only[jK,C,D,if_true,vM,if_false];refine⟨λe=>(by rw[j]at e;cases e),?_⟩;refine NU (E a w o (λx u e=>ha.ev e) q) ?_;have m:Sat w (g.flatten++(R.flatten++F)):=by
  exact zDD
 refine(s.2 (R.flatten++F) w m).mono ?_
 rintro e w' ⟨v,Post,rfl,hQ,AX,hk⟩
 refine .inl ⟨v,rfl,?_⟩;exact zBP
theorem sh {op:Op}{f:Nat}{xs:List Operand}(h:jG P op=some (.call f xs)):∃c,op=.call c/\c.callee=.value (.func f)/\c.args.toList=xs/\wK P f=true:=by
 cases op
 case call c=>
  refine⟨c,rfl,?_⟩;obtain⟨d,args,S7⟩:=c;simp only[jG]at h;split at h
  .split at h
   .rename_i g;cases h;exact⟨rfl,rfl,g⟩
   .cases h
  .cases h
  all_goals (repeat' split at h)
  all_goals first
   |(cases h;done)
   |(simp only[X9]at h;obtain⟨_,_,h⟩:=h;cases h;done)
 all_goals (exfalso;try simp only[jG]at h)
 all_goals (repeat' split at h)
 all_goals first
  |(cases h;done)
  |(simp only[X9]at h;obtain⟨_,_,h⟩:=h;cases h;done)
theorem Em {op:Op}{x:Operand}{xs:List Operand}(h:jG P op=some (.rR x xs)):∃c,op=.call c/\c.callee=.value x/\c.args.toList=xs:=by
 cases op
 case call c=>
  refine⟨c,rfl,?_⟩;obtain⟨d,args,S7⟩:=c;simp only[jG]at h;split at h
  .split at h
   .cases h
   .cases h
  .cases h;exact⟨rfl,rfl⟩
  all_goals (repeat' split at h)
  all_goals first
   |(cases h;done)
   |(simp only[X9]at h;obtain⟨_,_,h⟩:=h;cases h;done)
 all_goals (exfalso;try simp only[jG]at h)
 all_goals (repeat' split at h)
 all_goals first
  |(cases h;done)
  |(simp only[X9]at h;obtain⟨_,_,h⟩:=h;cases h;done)
theorem VO.call {d:Option Nat}{f:Nat}{xs:List Operand}{args:List Value}{j R:SH}{Q:Value->SH->Prop}(D:au P f args j Q)(C:nt Γ xs=some args)(E:fJ H j R)
 (h:∀v Post,Q v Post->VO P n rs (aq d v Γ) (Post++R) Z K):VO P n (⟨d,none,.call f xs⟩::rs) Γ H Z K:=by
 refine VO.Tf rfl rfl rfl (λa w o B g=>?_) D E h;obtain⟨c,q,s,h3,A⟩:=sh g;have hm:xs.map a.eval=args:=by
  have:∀{l:List Operand} {vs:List Value},nt Γ l=some vs->l.map a.eval=vs:=by
   intro l
   induction l with
   |nil=>intro vs e;simp[nt]at e;subst e;rfl
   |cons x r ih=>
    intro vs e;simp only[nt]at e;split at e
    .rename_i v l F g;cases e;simp[B _ _ F,ih g]
    .cases e
  exact this C
 have m:(c.args.map a.eval)=args.toArray:=by
  exact zEX
 simp[execOp,q,resolve,s,Act.eval,Deferred.ofValue,invoke,m,zn A]
end
inductive IC where
 |skip
 |mY (rs:List RO) (aV:List Nat)
 |draw (s8:List (List RO)) (aV:List Nat)
 |seq (a b:IC)
 |cond (c:Operand) (a b:IC)
 |block (id:Nat) (b:IC)
 |loop (b:IC)
 |exit (id:Nat)
 |ret
 |iM (g:Operand) (ps:List Nat) (KC b:IC)
 |free (rs:List RO) (an:List (List Nat)) (aV:List Nat)
 |scope (b:IC)
 |label (l:Nat)
def yO(P:Program)(n:Nat)(ops:Array Oper):List Oper->Option (List RO)
 |[]=>some []
 |o::r=>match eU P n ops o,yO P n ops r with
  |some x,some l=>some (x::l)
  |_,_=>none
def zS(P:Program)(n:Nat)(kp:Nat->List Nat)(od:Nat->List (List Nat)):Code->Option IC
 |.skip=>some .skip
 |.region id ops false=>(yO P n ops ops.toList).map λrs=>.mY rs (kp id)
 |.region id ops true=>
  match yO P n ops ops.toList with
  |some rs=>if(od id).isEmpty then(if P.follows .mixedOrders&&zO ops then some (.free rs (iV ops) (kp id))else none)else
   if P.follows .mixedOrders&&qq (rs.zip ops.toList) ops (od id)then some (.draw ((od id).map λo=>o.map λi=>rs.getD i default) (kp id))else none
  |none=>none
 |.seq a b=>match zS P n kp od a,zS P n kp od b with
  |some x,some y=>some (.seq x y)
  |_,_=>none
 |.cond c a b=>match zS P n kp od a,zS P n kp od b with
  |some x,some y=>some (.cond c x y)
  |_,_=>none
 |.block id b=>(zS P n kp od b).map (IC.block id)
 |.loop b=>(zS P n kp od b).map IC.loop
 |.exit id=>some (.exit id)
 |.ret=>some .ret
 |.rangeFunc g ps x b=>match zS P n kp od x,zS P n kp od b with
  |some x,some y=>if ps.all (·< n)then some (.iM g ps.toList x y)else none
  |_,_=>none
 |.scope b=>(zS P n kp od b).map IC.scope
 |.label l=>some (.label l)
 |_=>none
def LowInv(P:Program)(n:Nat)(kp:Nat->List Nat)(od:Nat->List (List Nat)):IC->Code->Prop
 |.skip,code=>code=.skip
 |.mY rs aV,code=>∃id ops,code=.region id ops false/\yO P n ops ops.toList=some rs/\aV=kp id
 |.draw s8 aV,code=>∃id ops rs,code=.region id ops true/\yO P n ops ops.toList=some rs/\P.follows .mixedOrders=true/\qq (rs.zip ops.toList) ops (od id)=true/\s8=((od id).map λo=>o.map λi=>rs.getD i default)/\aV=kp id
 |.free rs an aV,code=>∃id ops,code=.region id ops true/\yO P n ops ops.toList=some rs/\P.follows .mixedOrders=true/\zO ops=true/\an=iV ops/\aV=kp id
 |.seq x y,code=>∃a b,code=.seq a b/\zS P n kp od a=some x/\zS P n kp od b=some y
 |.cond c x y,code=>∃a b,code=.cond c a b/\zS P n kp od a=some x/\zS P n kp od b=some y
 |.block id x,code=>∃a,code=.block id a/\zS P n kp od a=some x
 |.loop x,code=>∃a,code=.loop a/\zS P n kp od a=some x
 |.exit id,code=>code=.exit id
 |.ret,code=>code=.ret
 |.iM g ps x y,code=>∃qs a b,code=.rangeFunc g qs a b/\qs.toList=ps/\(∀t∈ps,t < n)/\zS P n kp od a=some x/\zS P n kp od b=some y
 |.scope x,code=>∃a,code=.scope a/\zS P n kp od a=some x
 |.label l,code=>code=.label l
theorem jn {P:Program}{n:Nat}{m:Nat->List Nat}{s:Nat->List (List Nat)}{d:Code}{c:IC}(h:zS P n m s d=some c):LowInv P n m s c d:=by
 cases d with
 |skip=>simp only[zS]at h;cases h;rfl
 |region id ops b=>
  cases b
  .simp only[zS,X9]at h;obtain⟨rs,h1,rfl⟩:=h;exact⟨id,ops,rfl,h1,rfl⟩
  .simp only[zS]at h;split at h
   case h_2=>cases h
   rename_i rs h1;split at h
   .split at h
    case isFalse=>cases h
    rename_i j;simp only[vG]at j;cases h;exact⟨id,ops,rfl,h1,j.1,j.2,rfl,rfl⟩
   split at h
   case isFalse=>cases h
   rename_i j;simp only[vG]at j;cases h;exact⟨id,ops,rs,rfl,h1,j.1,j.2,rfl,rfl⟩
 |seq a b=>
  exact zEI
 |cond q a b=>
  exact zEI
 |block id b=>
  exact zD2
 |loop b=>
  exact zD2
 |exit id=>simp only[zS]at h;cases h;rfl
 |ret=>simp only[zS]at h;cases h;rfl
 |rangeFunc g ps a b=>
  simp only[zS]at h;split at h
  case h_2=>cases h
  rename_i x y h1 h2;split at h
  case isFalse=>cases h
  rename_i A;cases h;exact⟨ps,a,b,rfl,rfl,λt B=>by have:=Array.all_eq_true_iff_forall_mem.1 A t (by simpa using B);simpa using this,h1,h2⟩
 |scope b=>
  exact zD2
 |label l=>simp only[zS]at h;cases h;rfl
 |_=>simp only[zS]at h;cases h
def aT:List Nat->Env->Env
 |[],_=>[]
 |t::r,Γ=>match look Γ t with
  |some v=>(t,v)::aT r Γ
  |none=>aT r Γ
theorem o7(k:List Nat)(Γ:Env):Sub Γ (aT k Γ):=by
 induction k with
 |nil=>intro t v h;simp[aT,look]at h
 |cons s r ih=>
  intro t v h;simp only[aT]at h;split at h
  .rename_i u d;simp only[look]at h;split at h
   .rename_i e;subst e;cases h;exact d
   .exact ih t v h
  .exact ih t v h
def qh(r:Nat):Deferred:={target:=.collected r,args:=#[]}
def marks(X:List Nat):List kC:=X.map λr=>.obj r (.deferred (some []))
def Rnd(ρ:Option Nat)(F:List kC):Prop:=∀l,ρ=some l->∃r,kC.obj l (.loop r)∈F
theorem Rnd.more {ρ:Option Nat}{F d:List kC}(h:Rnd ρ F)(g:∀x∈F,x∈d):Rnd ρ d:=λl e=>let⟨r,hr⟩:=h l e;⟨r,g _ hr⟩
def VC(P:Program)(n:Nat)(c:IC)(Γ:Env)(H:SH)(Q:Exit->Env->SH->Prop):Prop:=
 ∀ρ kp od code,zS P n kp od code=some c->∀a w F (QQ:Exit->Act->World->Prop),Rnd ρ F->wH n Γ a->Sat w (H.flatten++F)->
  (∀e a' w' aw H' X,Q e aw H'->wH n aw a'->a'.defers=X.map qh++a.defers->Sat w' (H'.flatten++(F++marks X))->kz w w'->QQ e a' w')->code.wpIn (C1 ρ) 0 P QQ a w
def ai(H H':SH):Prop:=∃R,fJ H H' R
theorem ai.refl(H:SH):ai H H:=⟨[],by simp[fJ]⟩
theorem Sat.imp {w:World}{H H':SH}{F:List kC}(h:ai H H')(g:Sat w (H.flatten++F)):Sat w (H'.flatten++F):=by
 obtain⟨R,d⟩:=h;have:=g.perm (d.append_right F);exact zEO
def bK(K:Env->SH->Prop)(Q:Exit->Env->SH->Prop):Exit->Env->SH->Prop
 |.normal,Γ,H=>K Γ H
 |e,Γ,H=>Q e Γ H
def bG(id:Nat)(Q:Exit->Env->SH->Prop):Exit->Env->SH->Prop
 |.exit i,Γ,H=>if i=id then Q .normal Γ H else Q (.exit i) Γ H
 |e,Γ,H=>Q e Γ H
section
variable {P:Program} {n:Nat} {Γ Δ:Env} {H:SH} {Q Q':Exit->Env->SH->Prop}
theorem Ps(X Y:List Nat):marks (X++Y)=marks X++marks Y:=by simp[marks]
theorem Sat.marks {w:World}{L F:List kC}{X Y:List Nat}(h:Sat w (L++((F++marks X)++marks Y))):Sat w (L++(F++marks (Y++X))):=by
 refine h.perm (vZ _ ?_);rw[Ps,vm];exact zDX
theorem Sat.cy {w:World}{L F:List kC}(h:Sat w (L++F)):Sat w (L++(F++V.marks [])):=by simpa[V.marks]using h
theorem VC.mono {c:IC}(h:VC P n c Γ H Q)(B:∀e Γ H,Q e Γ H->Q' e Γ H):VC P n c Γ H Q':=λρ E G d A a w F QQ C m D s=>
 h ρ E G d A a w F QQ C m D (λe g w' j H' X q=>s e g w' j H' X (B _ _ _ q))
theorem VC.sub {c:IC}(s:Sub Γ Δ)(h:VC P n c Δ H Q):VC P n c Γ H Q:=λρ B C d m a w F QQ q g A j=>h ρ B C d m a w F QQ q (g.sub s) A j
theorem VC.imp {c:IC}{H':SH}(i:ai H H')(h:VC P n c Γ H' Q):VC P n c Γ H Q:=λρ A B d m a w F QQ q g s j=>h ρ A B d m a w F QQ q g (s.imp i) j
theorem VC.skip(h:Q .normal Γ H):VC P n .skip Γ H Q:=by
 intro ρ kp od d m a w F QQ hr g q j;obtain rfl:=jn m;exact wpIn_skip (j _ _ _ _ _ [] h g rfl q.cy (.refl w))
theorem VC.exit {id:Nat}(h:Q (.exit id) Γ H):VC P n (.exit id) Γ H Q:=by
 intro ρ kp od d m a w F QQ hr g q j;obtain rfl:=jn m;exact wpIn_exit (j _ _ _ _ _ [] h g rfl q.cy (.refl w))
theorem VC.ret(h:Q .ret Γ H):VC P n .ret Γ H Q:=by
 intro ρ kp od d m a w F QQ hr g q j;obtain rfl:=jn m;exact wpIn_ret (j _ _ _ _ _ [] h g rfl q.cy (.refl w))
theorem VC.cond {c:Operand}{x y:IC}{t:Bool}(D:ev Γ c=some (.bool t))(I:t=true->VC P n x Γ H Q)(E:t=false->VC P n y Γ H Q):VC P n (.cond c x y) Γ H Q:=by
 intro ρ s A g G a w F QQ j d m h;obtain⟨p,q,rfl,B,C⟩:=jn G;exact wpIn_cond_split (d.ev D) (λe=>I e ρ s A _ B a w F QQ j d m h) (λe=>E e ρ s A _ C a w F QQ j d m h)
theorem VC.seq {x y:IC}(h:VC P n x Γ H (bK (λd H'=>VC P n y d H' Q) Q)):VC P n (.seq x y) Γ H Q:=by
 intro ρ D E g O a w F QQ C N S B;obtain⟨p,q,rfl,L,M⟩:=jn O;refine wpIn_seq (h ρ D E _ L a w F _ C N S (λe I w' d H' X q j m s A=>?_));cases e <;> first
  |exact q ρ D E _ M I w' (F++marks X) QQ (C.more (λx T=>Zw _ T)) j s (λe J w2 K G Y q2 U W Z k4=>B e J w2 K G (Y++X) q2 U (by rw[W,m];simp) Z.marks (A.trans k4))
  |exact B _ _ _ _ _ X q j m s A
theorem VC.block {id:Nat}{x:IC}(h:VC P n x Γ H (bG id Q)):VC P n (.block id x) Γ H Q:=by
 intro ρ I J A D a w F QQ E C G s;obtain⟨p,rfl,B⟩:=jn D;refine wpIn_block (h ρ I J _ B a w F _ E C G (λe a' w' aw H' X q d g j m=>?_));cases e <;> first
  |exact s _ _ _ _ _ X q d g j m
  |skip
 rename_i i;simp only[bG]at q;simp only[Exit.inBlock];split at q
 .rename_i e;rw[if_pos e];exact s _ _ _ _ _ X q d g j m
 .rename_i e;rw[if_neg e];exact s _ _ _ _ _ X q d g j m
theorem zm {P:Program}{b:Frame}{a:Act}{k:List Item}{cs:List Frame}{w:World}{c:Code}:step P (lone (b.atR a (.code (.scope c)::k)) cs w)=.next (lone (b.atR a (.code c:: .inScope c::k)) cs w):=
 step_lone_go (by simp[stepG,stepG.exec,Frame.atR])
theorem Cu {P:Program}{b:Frame}{a:Act}{k:List Item}{cs:List Frame}{w:World}{c:Code}:step P (lone (b.atR a (.inScope c::k)) cs w)=.next (lone (b.atR a k) cs w):=
 step_lone_go (by simp[stepG,stepG.exec,Frame.atR])
theorem J6 {F:Fence}{n:Nat}{P:Program}{Q:Exit->Act->World->Prop}{a:Act}{w:World}{c:Code}(h:c.wpIn F n P (λe a w=>(∀l,e≠.goto l)/\Q e a w) a w):(Code.scope c).wpIn F n P Q a w:=by
 intro b k cs C s B;have d:(lone (b.atR a (.code (.scope c)::k)) cs w).fenced P F:=fenced_calm s B rfl;obtain⟨e,j,m,⟨E,q⟩,g⟩:=h b (.inScope c::k) cs C s B;cases e with
 |normal=>exact⟨.normal,j,m,q,.head d zm (StepsIn.trans g (.one (fenced_calm s B rfl) Cu))⟩
 |exit id=>
  have D:exitTo id (.inScope c::k)=exitTo id k:=by simp[exitTo]
  exact⟨.exit id,j,m,q,λG A=>.head d zm (g.1 G (by rw[D];exact A)),
   λH A=>let⟨k₁,h1,h2⟩:=g.2 H (by rw[D];exact A);⟨k₁,h1,.head d zm h2⟩⟩
 |goto l=>exact absurd rfl (E l)
 |ret=>exact⟨_,j,m,q,.of_steps (.one d zm) g⟩
 |panic ch=>exact⟨_,j,m,q,.of_steps (.one d zm) g⟩
 |outgrown=>exact⟨_,j,m,q,.of_steps (.one d zm) g⟩
theorem VC.scope {x:IC}(h:VC P n x Γ H λe d H'=>(∀l,e≠.goto l)/\Q e d H'):VC P n (.scope x) Γ H Q:=by
 intro ρ J K g E a w F QQ G C I D;obtain⟨p,rfl,B⟩:=jn E;exact J6 (h ρ J K _ B a w F _ G C I λe a' w' d H' X q j m s A=>⟨q.1,D _ _ _ _ _ X q.2 j m s A⟩)
theorem VC.label {l:Nat}(h:Q .normal Γ H):VC P n (.label l) Γ H Q:=by
 intro ρ kp od d m a w F QQ hr g q j;obtain rfl:=jn m;exact wpIn_label (j _ _ _ _ _ [] h g rfl q.cy (.refl w))
theorem wD {ops:Array Oper}:∀{l:List Oper} {rs:List RO},yO P n ops l=some rs->rs.length=l.length/\∀(i:Nat) r o,rs[i]? =some r->l[i]? =some o->eU P n ops o=some r:=by
 intro l
 induction l with
 |nil=>intro rs h;simp[yO]at h;subst h;simp
 |cons o l ih=>
  intro rs h;simp only[yO]at h;split at h
  .rename_i x l' s q;cases h;obtain⟨j,m⟩:=ih q;refine⟨by simp[j],λi r A g d=>?_⟩;cases i with
   |zero=>simp at g d;subst g d;exact s
   |succ i=>simp at g d;exact m i r A g d
  .cases h
theorem zI {ops:Array Oper}{rs:List RO}(h:yO P n ops ops.toList=some rs){i:Nat}(d:i < ops.size):
 ops[i]? =some ((rs.zip ops.toList).getD i default).2/\((rs.zip ops.toList).getD i default).1=rs.getD i default/\eU P n ops ((rs.zip ops.toList).getD i default).2=some ((rs.zip ops.toList).getD i default).1:=by
 obtain⟨j,m⟩:=wD h;have g:i < rs.length:=by rw[j];simpa using d
 have s:(rs.zip ops.toList)[i]? =some (rs[i],ops[i]):=by
  rw[Zg (by rw[List.length_zip];simp only[Array.length_toList];omega)];simp
 have q:(rs.zip ops.toList).getD i default=(rs[i],ops[i]):=by rw[Vh,s];rfl
 rw[q];refine⟨by simp[d],by simp[Vh,g],?_⟩;exact m i rs[i] ops[i] (by simp[g]) (by simp[d])
theorem VC.mY {rs:List RO}{s:List Nat}(h:VO P n rs Γ H (λj d H'=>Q (.panic j) d H') λd H'=>Q .normal (aT s d) H'):VC P n (.mY rs s) Γ H Q:=by
 intro ρ kp od A E a w F QQ hr D G B;obtain⟨id,ops,rfl,h1,rfl⟩:=jn E;refine wpIn_region ?_;refine fZ (P:=P) (ρ:=ρ) (n:=n) (ops:=ops) (X:=λi=>(rs.zip ops.toList).getD i default) (QQ:=QQ) (λi hi=>?_) (List.range ops.size) a w (λi hi=>by simpa using hi) ?_
 .exact zDH
 .have hlen:=(wD h1).1;have C:(List.range ops.size).map (λi=>(rs.zip ops.toList).getD i default)=rs.zip ops.toList:=by
   exact zBA
  rw[C];refine h (rs.zip ops.toList) ⟨?_,?_⟩ a w F _ _ D G (λg w' d H' q g1 g2 g3 m=>B .normal g w' _ H' [] q (g1.sub (o7 _ _)) g2 g3.cy m) (λj g w' d H' q g1 g2 g3 m=>B (.panic j) g w' _ H' [] q g1 g2 g3.cy m)
  .rw[List.map_fst_zip];simp[hlen]
  .exact zBH
theorem VC.draw {E:List (List RO)}{s:List Nat}(h:∀rs∈E,VO P n rs Γ H (λ_ _ _=>False) λA H'=>Q .normal (aT s A) H'):VC P n (.draw E s) Γ H Q:=by
 intro ρ kp od B S a w F QQ hr N U O;obtain⟨id,ops,rs,rfl,h1,T,hc,rfl,rfl⟩:=jn S;have d:=(wD h1).1;refine wpIn_region_draw (λt=>?_);have W:Region.schedule (P.follows .mixedOrders) ops t=jq ops ops.size t (Array.replicate ops.size false):=by simp[Region.schedule,T,Region.linearise,jq]
 rw[W];have D:pR ops (Array.replicate ops.size false)=List.range ops.size:=by
  exact zAV
 have L:zO ops=true:=by
  exact zEM
 have K:=(yR L ops.size t (Array.replicate ops.size false) Zs (by rw[D];simp)).2.1;refine fZ (P:=P) (ρ:=ρ) (n:=n) (ops:=ops) (X:=λi=>(rs.zip ops.toList).getD i default) (QQ:=QQ) (λi hi=>?_) _ a _ (λi hi=>by rw[K,D]at hi;simpa using hi) ?_
 .exact zDH
 .refine E3 ?_;refine cover (P:=P) (n:=n) (by simp[d]) (λi x g=>?_) hc (λo C=>?_) t
  .have G:i < (rs.zip ops.toList).length:=(Vt.1 g).1;have j:i < ops.size:=by simp[d]at G;omega
   obtain⟨g1,g2,g3⟩:=zI h1 j;have:(rs.zip ops.toList).getD i default=x:=by rw[Vh,g];rfl
   rw[this]at g3;exact Good.Xa g3
  .have J:o.all (·< ops.size)=true:=by
    rcases vU.1 hc with hc|hc <;>
    .simp only[gw,vG,vg]at hc;have:=hc.1.2 o C;simp only[vg];exact this.2
   have m:∀i∈o,i < ops.size:=by simpa[vg]using J
   refine h (o.map λi=>rs.getD i default) (QO.2 ⟨o,C,rfl⟩) _ ⟨?_,?_⟩ a {w with drawn:=w.drawn+1} F _ _ N (U.drawn _) (λI w' A H' q g1 g2 g3 M=>O .normal I w' _ H' [] q (g1.sub (o7 _ _)) g2 g3.cy ?_) (λ_ _ _ _ _ q=>q.elim)
   .rw[QE];refine QC (λi hi=>?_);obtain⟨g1,g2,g3⟩:=zI h1 (m i hi);exact g2
   .intro x g;obtain⟨i,hi,rfl⟩:=QO.1 g;obtain⟨g1,g2,g3⟩:=zI h1 (m i hi);exact⟨ops,g3⟩
   .exact((kz.refl w).drawn _).trans M
theorem VC.loop {x:IC}{α:Type}(bg:α->Env)(Hf:α->SH)(I:α->Prop)(μ:α->Nat)(L:α)(h0:I L)(bq:Sub Γ (bg L))(hH:ai H (Hf L))
 (D:∀s,I s->VC P n x (bg s) (Hf s) (bK (λaw H'=>∃d,I d/\μ d < μ s/\Sub aw (bg d)/\ai H' (Hf d)) Q)):VC P n (.loop x) Γ H Q:=by
 intro ρ kp od code hl a w F QQ hr ha hs hh;obtain⟨body,rfl,h1⟩:=jn hl;intro b k cs O xU M;have Z:∀m s X,μ s=m->I s->∀G K,wH n (bg s) G->G.defers=X.map qh++a.defers->Sat K ((Hf s).flatten++(F++marks X))->kz w K->
  ∃e g w',QQ e g w'/\ArrivesIn (Machine.fenced P (C1 ρ)) P (lone (b.atR G (.code body:: .inLoop body::k)) cs K) b k cs e g w':=by
  intro m
  induction m using Nat.strongRecOn with
  |_ m ih=>
   intro s X hm hI G K N J nU xI;have Ed:=D s hI ρ kp od body h1 G K (F++marks X) (Exit.then (λg w'=>∃d Y,I d/\μ d < μ s/\wH n (bg d) g/\g.defers=(Y++X).map qh++a.defers/\Sat w' ((Hf d).flatten++(F++marks (Y++X)))/\kz w w') QQ) (hr.more (λx hx=>Zw _ hx)) N nU (λe g w' aw H' Y q g1 g2 g3 g4=>by
    cases e <;> first
     |(obtain⟨d,S,T,i3,W⟩:=q;exact⟨d,Y,S,T,g1.sub i3,by rw[g2,J];simp,(g3.imp W).marks,xI.trans g4⟩)
     |exact hh _ _ _ _ _ (Y++X) q g1 (by rw[g2,J];simp) g3.marks (xI.trans g4))
   obtain⟨e,B,E,j,A⟩:=Ed b (.inLoop body::k) cs O xU M;cases e with
   |normal=>
    obtain⟨d,Y,S,T,i3,U,W,i5⟩:=j;obtain⟨e2,a3,w3,lR,C⟩:=ih (μ d) (hm ▸ T) d (Y++X) rfl S B E i3 U W i5;exact⟨e2,a3,w3,lR,.of_steps (StepsIn.trans A (.one (fenced_calm (n:=0) (fr:=b.atR B (.inLoop body::k)) xU M rfl) stepR_inLoop)) C⟩
   |exit id=>exact⟨_,B,E,j,.pass (x:=.inLoop body) rfl (λ_ _=>.inl Zs) A⟩
   |goto l=>exact⟨_,B,E,j,.pass (x:=.inLoop body) rfl (λ_ _=>.inl Zs) A⟩
   |ret=>exact⟨_,B,E,j,.pass (x:=.inLoop body) rfl (λ_ _=>.inl Zs) A⟩
   |panic ch=>exact⟨_,B,E,j,.pass (x:=.inLoop body) rfl (λ_ _=>.inl Zs) A⟩
   |outgrown=>exact⟨_,B,E,j,.pass (x:=.inLoop body) rfl (λ_ _=>.inl Zs) A⟩
 obtain⟨e,g,w',j,A⟩:=Z _ L [] rfl h0 a w (ha.sub bq) rfl (hs.imp hH).cy (.refl w);exact⟨e,g,w',j,.of_steps (.one (fenced_calm (n:=0) (fr:=b.atR a (.code (.loop body)::k)) xU M rfl) stepR_loop) A⟩
theorem VC.join {x y:IC}{α:Type}(bg:α->Env)(Hf:α->SH)(I:α->Prop)(g:VC P n x Γ H (bK (λd H'=>∃s,I s/\Sub d (bg s)/\ai H' (Hf s)) Q))
 (h:∀s,I s->VC P n y (bg s) (Hf s) Q):VC P n (.seq x y) Γ H Q:=by
 refine VC.seq (g.mono ?_);intro e d H' q;cases e <;> first
  |(obtain⟨s,j,m,i3⟩:=q;exact VC.sub m (VC.imp i3 (h s j)))
  |exact q
end
def zW {α:Type}(l:List (Nat×List α))(i:Nat):List α:=match l with
 |[]=>[]
 |(k,v)::r=>if k=i then v else zW r i
def rep(n:Nat)(l:List Value):List Value:=match n with
 |0=>[]
 |n+1=>l++rep n l
inductive RV where
 |tmp (t:Nat)
 |cq (t:Nat)
 |aI (t n:Nat)
structure aO where
 n:Nat
 bO:List RV
 body:IC
def zB(P:Program):List ResultVar->Option (List RV)
 |[]=>some []
 |.tmp t::r=>(zB P r).map (.tmp t::·)
 |.cell a t::r=>match P.underlying t,P.info? t with
  |some (.struct _),some i=>(zB P r).map (.aI a i.size::·)
  |some (.array _ _),some i=>(zB P r).map (.aI a i.size::·)
  |some _,some _=>(zB P r).map (.cq a::·)
  |_,_=>none
def pC(P:Program)(kp:Nat->List Nat)(od:Nat->List (List Nat))(f:Nat):Option aO:=
 match P.funcs[f]? with
 |none=>none
 |some fn=>match fn.body with
  |none=>none
  | some c => if fn.name != "runtime.NumGoroutine" then
     match zS P fn.ntmps kp od c,zB P fn.results.toList with
     |some b,some r=>some ⟨fn.ntmps,r,b⟩
     |_,_=>none
    else none
def aM:Nat->List Value->Env
 |_,[]=>[]
 |k,v::r=>(k,v)::aM (k+1) r
def bN:List Value->Value
 |[v]=>v
 |vs=>.tuple vs.toArray
inductive Sm (Γ:Env)(H:SH):List RV->List Value->Prop where
 |nil:Sm Γ H [] []
 |tmp {t:Nat} {v:Value} {r:List RV} {vs:List Value}:look Γ t=some v->Sm Γ H r vs->Sm Γ H (.tmp t::r) (v::vs)
 |cq {t b o:Nat} {v:Value} {r:List RV} {vs:List Value}:look Γ t=some (.pointer (some ⟨b,o,none⟩))->kC.cell b o v∈H.flatten->Sm Γ H r vs->Sm Γ H (.cq t::r) (v::vs)
 |aI {t b o n:Nat} {us:List Value} {r:List RV} {vs:List Value}:look Γ t=some (.pointer (some ⟨b,o,none⟩))->us.length=n->(∀x∈kA b o us,x∈H.flatten)->Sm Γ H r vs->Sm Γ H (.aI t n::r) (.agg us.toArray::vs)
def tG(bO:List RV)(Q:Value->SH->Prop):Exit->Env->SH->Prop:=λe Γ H=>(e=.normal∨e=.ret)/\∃vs Post,Sm Γ H bO vs/\ai H Post/\Q (bN vs) Post
theorem Gh:∀{vs:List Value} {k t:Nat} {v:Value},look (aM k vs) t=some v->k<=t/\vs[t - k]? =some v:=by
 intro vs
 induction vs with
 |nil=>intro k t v h;simp[aM,look]at h
 |cons u r ih=>
  intro k t v h;simp only[aM,look]at h;split at h
  .rename_i e;subst e;cases h;simp
  .obtain⟨h1,d⟩:=ih h;refine⟨Zo,?_⟩;have:t - k=(t - (k+1))+1:=by omega
   rw[this];simpa using d
theorem Dk {P:Program}{b o:Nat}:∀(k i:Nat) (acc:Array Value) (w1:World) (r:Array Value) (w2:World),(loadCellsFrom ⟨b,o,none⟩ i k acc).run P w1=.ok r w2->w2=w1:=by
 exact zBC
theorem run_loadCells {P:Program}{b o m:Nat}{us:List Value}{H:List kC}{F:List kC}{w:World}(j:us.length=m)(h:∀x∈kA b o us,x∈H)(q:Sat w (H++F)):
 (loadCells ⟨b,o,none⟩ m).run P w=.ok us.toArray w:=by
 have d:aL P (loadCells ⟨b,o,none⟩ m) H (λr L=>r=us.toArray/\L=H):=aL.loadCells j h ⟨rfl,rfl⟩;obtain⟨r,w',L,g,⟨rfl,rfl⟩,h3,h4⟩:=d F w q;obtain rfl:=Dk _ _ _ _ _ _ g;exact g
theorem ir {P:Program}{fn:Func}{r:List RV}{a:Act}{n:Nat}{Γ:Env}{vs:List Value}{w:World}{H:SH}{F:List kC}(hs:Sat w (H.flatten++F))(B:zB P fn.results.toList=some r)(s:wH n Γ a)(C:Sm Γ H r vs):
 (results fn a.tmps).run P w=.ok (bN vs) w:=by
 have q:∀(l:List ResultVar) (r:List RV) (vs:List Value) (f:ResultVar->Sem Value),(∀t,f (.tmp t)=pure (a.tmps.getD t undef))->(∀x t,f (.cell x t)=(do loadVar t (<- asAddr (a.tmps.getD x undef))))->
  zB P l=some r->Sm Γ H r vs->(l.mapM f).run P w=.ok vs w:=by
  intro l
  induction l with
  |nil=>intro r vs f _ _ h1 h2;simp[zB]at h1;subst h1;cases h2;simp
  |cons x l ih=>
   intro r vs f hf Fm h1 h2;cases x with
   |cell x t=>
    simp only[zB]at h1;have slot:∀{v},look Γ x=some v->a.tmps.getD x undef=v:=λh=>by simp[Array.getD_eq_getD_getElem?,s.slots x _ h]
    split at h1
    .exact zBR
    .exact zBR
    .rename_i d j g1 g2 hu hj;simp only[X9]at h1;obtain⟨r',h3,rfl⟩:=h1;have m:(isAgg t).run P w=.ok false w:=by rw[eS hu];cases d <;> simp_all
     cases h2 with
     |cq k1 k2 k4=>
      have A:=(hs.cell (Zw F k2)).1;simp only[List.mapM_cons,Sem.run_bind,Fm,slot k1,asAddr,Sem.run_pure,Result.andThen_ok,loadVar,m,vM,if_false,run_load,A,ih r' _ f hf Fm h3 k4]
    .cases h1
   |tmp t=>
    simp only[zB,X9]at h1;obtain⟨r',h3,rfl⟩:=h1;cases h2 with
    |tmp k1 k2=>
     rename_i D _;have g:a.tmps.getD t undef=D:=by simp[Array.getD_eq_getD_getElem?,s.slots t _ k1]
     simp only[List.mapM_cons,Sem.run_bind,hf,Sem.run_pure,Result.andThen_ok,ih r' _ f hf Fm h3 k2,g]
 unfold results;simp only[Sem.run_bind];rw[Array.mapM_eq_mapM_toList];simp only[Sem.run_map];rw[q fn.results.toList r vs _ (λt=>rfl) (λx t=>rfl) B C];cases vs with
 |nil=>simp[bN]
 |cons v l=>cases l <;> simp[bN]
theorem au.intro {P:Program}{G:Nat->List Nat}{H:Nat->List (List Nat)}{f:Nat}{F:aO}{args:List Value}{s:SH}{Q:Value->SH->Prop}(d:pC P G H f=some F)(N:args.length<=F.n)
 (h:VC P F.n F.body (aM 0 args) s (tG F.bO Q)):au P f args s Q:=by
 unfold pC at d;split at d
 .cases d
 rename_i fn I;split at d
 .cases d
 rename_i c E;split at d
 case isFalse=>cases d
 rename_i U;split at d
 case h_2=>cases d
 rename_i b r j S;cases d;refine⟨by simp only[wK,I,U,E];rfl,λFF w T=>?_⟩;refine(callsIn_wide (n:=0)).1 (callsIn_of_wp_marks I E trivial (h none G H c j _ w FF _ (λl e=>by cases e) ⟨?_,λt v e=>?_⟩ T (λe m w' aw H' X q J A B C=>?_)))
 .simp at N|-;omega
 .exact zAQ
 .obtain⟨M,vs,Post,K,h2,L⟩:=q;have j:LeavesInM (C1 none) 0 P fn m.tmps (λe w'=>∃v Post,e=.returned v/\Q v Post/\Sat w' (Post.flatten++FF)/\kz w w') m.defers .returning w':=by
   rw[A,vp];clear A
   induction X generalizing w' with
   |nil=>
    have g:Sat w' (H'.flatten++FF):=by simpa[V.marks]using B
    exact⟨_,ir g S J K,_,Post,rfl,L,g.imp h2,C⟩
   |cons r X ih=>
    have O:(H'.flatten++(FF++V.marks (r::X))).Perm (.obj r (.deferred (some []))::(H'.flatten++(FF++V.marks X))):=by
     exact zCQ
    have D:=B.perm O;obtain⟨k1,k2⟩:=D.obj (QK ..);obtain⟨W,Y⟩:=Sat.setObj (u:=.deferred none) D rfl;refine⟨Zs,.inl ⟨r,_,rfl,?_,ih _ (W.sub (Qh ..)) (C.trans Y)⟩⟩;exact zEJ
  rcases M with rfl|rfl <;> exact j
theorem au.mono {P:Program}{f:Nat}{args:List Value}{d:SH}{Q Q':Value->SH->Prop}(h:au P f args d Q)(g:∀v Post,Q v Post->Q' v Post):au P f args d Q':=
 ⟨h.1,λF w j=>(h.2 F w j).mono λ_ _ ⟨v,Post,a,b,c⟩=>⟨v,Post,a,g _ _ b,c⟩⟩
inductive Tk:SH->List kC->SH->Prop where
 |here {A:List kC} {L:SH}:Tk (A::L) A L
 |there {A B:List kC} {L R:SH}:Tk L A R->Tk (B::L) A (B::R)
theorem zo(A B X:List kC):(A++(B++X)).Perm (B++(A++X)):=by
 exact zAU
theorem Tk.perm {L R:SH}{A:List kC}(h:Tk L A R):L.flatten.Perm (A++R.flatten):=by
 induction h with
 |here=>simp
 |there _ ih=>
  simp only[Vd];refine(vZ _ ih).trans ?_;exact zAU
theorem fJ.nil {H:SH}:fJ H [] H:=by simp[fJ]
theorem fJ.cons {H R d g:SH}{A:List kC}(h:Tk H A R)(k:fJ R g d):fJ H (A::g) d:=by
 simp only[fJ,Vd,vm];exact h.perm.trans (vZ _ k)
theorem ai.nil {H:SH}:ai H []:=⟨H,by simp[fJ]⟩
theorem ai.cons {H R Δ:SH}{A:List kC}(h:Tk H A R)(k:ai R Δ):ai H (A::Δ):=by
 obtain⟨X,d⟩:=k;refine⟨X,?_⟩;simp only[fJ,Vd,vm];exact h.perm.trans (vZ _ d)
theorem Sub.nil {Γ:Env}:Sub Γ []:=λt v h=>by simp[look]at h
theorem Sub.cons {Γ Δ:Env}{t:Nat}{v:Value}(h:look Γ t=some v)(k:Sub Γ Δ):Sub Γ ((t,v)::Δ):=λs u e=>by
 simp only[look]at e;split at e
 .rename_i es;subst es;cases e;exact h
 .exact k s u e
theorem Sub.refl {Γ:Env}:Sub Γ Γ:=λ_ _ h=>h
inductive Has:SH->Nat->Nat->Value->Prop where
 |cells {b o k:Nat} {vs:List Value} {v:Value} {L:SH}:o<=k->vs[k - o]? =some v->Has (kA b o vs::L) b k v
 |there {A:List kC} {L:SH} {b k:Nat} {v:Value}:Has L b k v->Has (A::L) b k v
 |among {A:List kC} {L:SH} {b k:Nat} {v:Value}:kC.cell b k v∈A->Has (A::L) b k v
theorem Has.mem {H:SH}{b k:Nat}{v:Value}(h:Has H b k v):kC.cell b k v∈H.flatten:=by
 induction h with
 |cells h1 h2=>
  simp only[Vd,QG];left;exact kJ.2 ⟨_,_,h2,by congr 1;omega⟩
 |there _ ih=>simp only[Vd,QG];exact .inr ih
 |among h=>simp only[Vd,QG];exact .inl h
inductive Ku:SH->Nat->Nat->List Value->Prop where
 |cells {b o k n:Nat} {vs us:List Value} {L:SH}:o<=k->(vs.drop (k - o)).take us.length=us->us.length=n->Ku (kA b o vs::L) b k us
 |there {A:List kC} {L:SH} {b k:Nat} {us:List Value}:Ku L b k us->Ku (A::L) b k us
theorem Ku.mem {H:SH}{b k:Nat}{us:List Value}(h:Ku H b k us):∀x∈kA b k us,x∈H.flatten:=by
 induction h with
 |cells h1 h2 _=>
  intro x g;obtain⟨i,v,d,rfl⟩:=kJ.1 g;simp only[Vd,QG];left;rw[<- h2]at d;simp only[List.getElem?_take,Vo]at d;split at d
  .exact kJ.2 ⟨_,v,d,by congr 1;omega⟩
  .cases d
 |there _ ih=>intro x g;simp only[Vd,QG];exact .inr (ih x g)
def G9(Γ:Env)(x:Operand):Value:=(ev Γ x).getD undef
def known(Γ:Env)(x:Operand):Bool:=(ev Γ x).isSome
theorem Tx {Γ:Env}{x:Operand}{ρ:Operand->Value}(h:known Γ x=true)(g:∀x u,ev Γ x=some u->ρ x=u):ρ x=G9 Γ x:=by
 obtain⟨u,d⟩:=X8.1 h;simp[G9,d,g _ _ d]
def ptr(b o:Nat):Value:=.pointer (some ⟨b,o,none⟩)
section
variable {P:Program} {n:Nat} {rs:List RO} {Γ Δ:Env} {H:SH} {Z:List PanicEntry->Env->SH->Prop} {K:Env->SH->Prop} {d:Option Nat} {g:Option (Nat×Bool)}
theorem o6 {r:R}{v:Value}(g:kg r=true)(m:(mq r).all (known Γ)=true)(q:kW (G9 Γ) r=some v)(h:VO P n rs (aq d v Γ) H Z K):VO P n (⟨d,none,r⟩::rs) Γ H Z K:=
 VO.pure g (λρ j=>by
  rw[<- q];exact im g (λx s=>Tx (vg.1 m x s) j)) h
theorem sR {x:Operand}{v:Value}(j:ev Γ x=some v)(h:VO P n rs (aq d v Γ) H Z K):VO P n (⟨d,none,.mv x⟩::rs) Γ H Z K:=
 VO.pure rfl (λρ g=>by simp[kW,g _ _ j]) h
theorem z8 {off:Nat}{x:Operand}{b o g:Nat}(q:ev Γ x=some (.pointer (some ⟨b,o,none⟩)))(m:o+off=g)(h:VO P n rs (aq d (.pointer (some ⟨b,g,none⟩)) Γ) H Z K):VO P n (⟨d,none,.Ha off x⟩::rs) Γ H Z K:=
 VO.pure rfl (λρ j=>by simp[kW,j _ _ q,m]) h
theorem GZ {x:Operand}{a:Addr}(j:ev Γ x=some (.pointer (some a)))(h:VO P n rs (aq d (.pointer (some a)) Γ) H Z K):VO P n (⟨d,none,.uU x⟩::rs) Γ H Z K:=
 VO.pure rfl (λρ g=>by simp[kW,g _ _ j]) h
theorem wrap64 {z:Int}(h:-9223372036854775808<=z/\z<=9223372036854775807):IntKind.i64.wrap z=z:=by
 exact zE5
theorem GQ {x y:Operand}{a b:Int}(m:ev Γ x=some (.int .i64 a))(q:ev Γ y=some (.int .i64 b))(j:-9223372036854775808<=a+b/\a+b<=9223372036854775807)(h:VO P n rs (aq d (.int .i64 (a+b)) Γ) H Z K):
 VO P n (⟨d,none,.bin .add x y⟩::rs) Γ H Z K:=
 VO.pure rfl (λρ g=>by simp[kW,g _ _ m,g _ _ q,y9,nY,wrap64 j]) h
theorem G3 {x y:Operand}{a b:Int}(m:ev Γ x=some (.int .i64 a))(q:ev Γ y=some (.int .i64 b))(j:-9223372036854775808<=a - b/\a - b<=9223372036854775807)(h:VO P n rs (aq d (.int .i64 (a - b)) Γ) H Z K):
 VO P n (⟨d,none,.bin .sub x y⟩::rs) Γ H Z K:=
 VO.pure rfl (λρ g=>by simp[kW,g _ _ m,g _ _ q,y9,nY,wrap64 j]) h
theorem GY {x y:Operand}{a b:Int}(m:ev Γ x=some (.int .i64 a))(q:ev Γ y=some (.int .i64 b))(j:-9223372036854775808<=a*b/\a*b<=9223372036854775807)(h:VO P n rs (aq d (.int .i64 (a*b)) Γ) H Z K):
 VO P n (⟨d,none,.bin .mul x y⟩::rs) Γ H Z K:=
 VO.pure rfl (λρ g=>by simp[kW,g _ _ m,g _ _ q,y9,nY,wrap64 j]) h
theorem G0 {x y:Operand}{k:IntKind}{a b:Int}(m:ev Γ x=some (.int k a))(q:ev Γ y=some (.int k b))(j:b≠0)(h:VO P n rs (aq d (.int k (a.tmod b)) Γ) H Z K):
 VO P n (⟨d,none,.bin .rem x y⟩::rs) Γ H Z K:=
 VO.pure rfl (λρ g=>by simp[kW,g _ _ m,g _ _ q,y9,nY,j]) h
theorem st_conv {k q:IntKind}{x:Operand}{a b:Int}(m:ev Γ x=some (.int q a))(j:k.wrap a=b)(h:VO P n rs (aq d (.int k b) Γ) H Z K):VO P n (⟨d,none,.conv k x⟩::rs) Γ H Z K:=
 VO.pure rfl (λρ g=>by simp[kW,g _ _ m,j]) h
theorem sQ {size:Nat}{x i:Operand}{b o j len cap:Nat}{k:IntKind}{m:Int}(B:ev Γ x=some (.slice (some ⟨b,o,none⟩) len cap))(s:ev Γ i=some (.int k m))(q:0<=m/\m < len)
 (A:o+m.toNat*size=j) (h:VO P n rs (aq d (.pointer (some ⟨b,j,none⟩)) Γ) H Z K):VO P n (⟨d,none,.Lh size x i⟩::rs) Γ H Z K:=
 VO.pure rfl (λρ g=>by simp[kW,g _ _ B,g _ _ s,q,A]) h
theorem ym {len size:Nat}{x i:Operand}{b o j:Nat}{k:IntKind}{m:Int}(B:ev Γ x=some (.pointer (some ⟨b,o,none⟩)))(s:ev Γ i=some (.int k m))(q:0<=m/\m < len)
 (A:o+m.toNat*size=j) (h:VO P n rs (aq d (.pointer (some ⟨b,j,none⟩)) Γ) H Z K):VO P n (⟨d,none,.Pc len size x i⟩::rs) Γ H Z K:=
 VO.pure rfl (λρ g=>by simp[kW,g _ _ B,g _ _ s,q,A]) h
theorem wO {x i:Operand}{s:ByteArray}{k:IntKind}{m:Int}{j:Nat}{c:UInt8}(C:ev Γ x=some (.string s))(A:ev Γ i=some (.int k m))(B:m=(j:Int))(q:s[j]? =some c)
 (h:VO P n rs (aq d (.int .u8 c.toNat) Γ) H Z K):VO P n (⟨d,none,.xM x i⟩::rs) Γ H Z K:=
 VO.pure rfl (λρ g=>by subst B;simp[kW,g _ _ C,g _ _ A,q]) h
theorem lJ {c a b:Operand}{v:Value}(m:ev Γ c=some (.bool true))(j:ev Γ a=some v)(h:VO P n rs (aq d v Γ) H Z K):VO P n (⟨d,none,.pick c a b⟩::rs) Γ H Z K:=
 VO.pure rfl (λρ g=>by simp[kW,g _ _ m,g _ _ j]) h
theorem lI {c a b:Operand}{v:Value}(m:ev Γ c=some (.bool false))(j:ev Γ b=some v)(h:VO P n rs (aq d v Γ) H Z K):VO P n (⟨d,none,.pick c a b⟩::rs) Γ H Z K:=
 VO.pure rfl (λρ g=>by simp[kW,g _ _ m,g _ _ j]) h
theorem NM {s:Nat}{c:Bool}(d:look Γ s=some (.bool c))(h:c=true->VO P n rs ((s,.bool true)::Γ) H Z K)(g:c=false->VO P n rs ((s,.bool false)::Γ) H Z K):VO P n rs Γ H Z K:=by
 cases c with
 |true=>exact VO.sub (Sub.cons d Sub.refl) (h rfl)
 |false=>exact VO.sub (Sub.cons d Sub.refl) (g rfl)
theorem sP {r:R}{s:Nat}{b:Bool}(L:look Γ s=some (.bool b))(h:VO P n (⟨d,none,r⟩::rs) Γ H Z K):VO P n (⟨d,some (s,b),r⟩::rs) Γ H Z K:=by
 intro l G a w F g Q B O J N;obtain⟨o,m,rfl,C,ops,I⟩:=ze G;obtain⟨A,j,D,g4⟩:=jP I;have M:jK (some (s,b)) a=true:=by simp[jK,B.slots _ _ L]
 have:=h ((⟨d,none,r⟩,{o with guard:=none})::m) ⟨by simp[C.1],λx hx=>by
  rcases QI.1 hx with rfl|hx
  .refine⟨ops,?_⟩;have E:o.dst.all (λx=>decide (x < n))=true:=by
    rw[<- j];cases K1:d with
    |none=>rfl
    |some t=>have:=D t K1;simpa using this
   simp only at j A;simp[eU,A,E,j]
  .exact C.2 x hx⟩ a w F g Q B O J N
 have q:wJ P g (⟨d,none,r⟩,{o with guard:=none}) (cH P g Q m) a w:=this;show wJ P g (⟨d,some (s,b),r⟩,o) (cH P g Q m) a w;unfold wJ at q|-;rw[if_pos (show jK _ a=true from M)];rw[if_pos (show jK none a=true from rfl)]at q;exact q
theorem EX {r:R}{s:Nat}{b c:Bool}(q:look Γ s=some (.bool c))(g:(c==b)=false)(h:VO P n rs (aq d undef Γ) H Z K):VO P n (⟨d,some (s,b),r⟩::rs) Γ H Z K:=by
 intro l j a w F ZZ Q ha lj hq hz;obtain⟨o,l',rfl,s6,ops,m⟩:=ze j;obtain⟨g1,g2,g3,g4⟩:=jP m;have hw:jK (some (s,b)) a=false:=by simpa[jK,ha.slots _ _ q]using g
 exact zBL
theorem jg {x:Operand}{b o:Nat}{v:Value}(q:ev Γ x=some (.pointer (some ⟨b,o,none⟩)))(j:Has H b o v)(h:VO P n rs (aq d v Γ) H Z K):VO P n (⟨d,none,.dc x⟩::rs) Γ H Z K:=
 VO.read rfl rfl (λρ g=>⟨_,rfl,λF w m=>by
  have:=(m.cell (Zw F j.mem)).1;simp[g _ _ q,Instr.sureAddr,this]⟩) h
theorem XZ {m:Nat}{x:Operand}{b o:Nat}{us:List Value}(A:ev Γ x=some (.pointer (some ⟨b,o,none⟩)))(j:Ku H b o us)(q:us.length=m)(h:VO P n rs (aq d (.agg us.toArray) Γ) H Z K):VO P n (⟨d,none,.ij m x⟩::rs) Γ H Z K:=
 VO.read rfl rfl (λρ g=>⟨_,rfl,λF w s=>by
  simp[g _ _ A,Instr.sureAddr,run_loadCells q j.mem s]⟩) h
inductive Ad:SH->Nat->Nat->List Value->SH->Prop where
 |cells {b o k:Nat} {vs us ws:List Value} {L:SH}:o<=k->k - o+us.length<=vs.length->vs.take (k - o)++us++vs.drop (k - o+us.length)=ws->Ad (kA b o vs::L) b k us (kA b o ws::L)
 |there {A:List kC} {L L':SH} {b k:Nat} {us:List Value}:Ad L b k us L'->Ad (A::L) b k us (A::L')
theorem Ad.split {H H':SH}{b k:Nat}{us:List Value}(h:Ad H b k us H'):∃(d:List Value) (R:List kC),d.length=us.length/\H.flatten.Perm (kA b k d++R)/\H'.flatten.Perm (kA b k us++R):=by
 induction h with
 |@cells b o k vs us ws L m q g=>
  subst g;have C:vs=vs.take (k - o)++((vs.drop (k - o)).take us.length++vs.drop (k - o+us.length)):=by
   rw[<- List.drop_drop,Qj,Qj]
  have B:(vs.take (k - o)).length=k - o:=by simp;omega
  have j:((vs.drop (k - o)).take us.length).length=us.length:=by simp;omega
  have s:o+(k - o)=k:=by omega
  refine⟨(vs.drop (k - o)).take us.length,kA b o (vs.take (k - o))++(kA b (k+us.length) (vs.drop (k - o+us.length))++L.flatten),j,?_,?_⟩
  .have e:kA b o vs=kA b o (vs.take (k - o))++(kA b k ((vs.drop (k - o)).take us.length)++kA b (k+us.length) (vs.drop (k - o+us.length))):=by
    conv=>lhs;rw[C]
    rw[ku,B,s,ku,j]
   simp only[Vd,e,vm];exact zo _ _ _
  .simp only[Vd,ku,B,s,vm];exact zo _ _ _
 |@there A L L' b k us _ ih=>
  obtain⟨d,R,m,q,g⟩:=ih;refine⟨d,A++R,m,?_,?_⟩
  .simp only[Vd];refine(vZ A q).trans ?_;exact zAU
  .simp only[Vd];refine(vZ A g).trans ?_;exact zAU
theorem JR {m:Nat}{x y:Operand}{b o:Nat}{v:Value}{H':SH}(G:ev Γ x=some (.pointer (some ⟨b,o,none⟩)))(I:ev Γ y=some v)(s:v.cells.size=m)(B:v.cells.toList.all jo=true)
 (F:Ad H b o v.cells.toList H') (h:VO P n rs (aq d undef Γ) H' Z K):VO P n (⟨d,none,.store m x y⟩::rs) Γ H Z K:=by
 refine VO.act rfl rfl (λρ q=>⟨_,rfl,?_⟩);obtain⟨j,R,C,D,E⟩:=F.split;refine aL.perm D ?_;have g:ρ y=v:=q _ _ I;have:=Pt (P:=P) (ρ:=ρ) (n:=m) (x:=x) (v:=y) (us:=j) (R:=R) (b:=b) (o:=o) (K:=λA L=>∃v H',(A=.value v∨(A=.skip/\v=undef))/\L.Perm H'.flatten/\VO P n rs (aq d v Γ) H' Z K)
  (q _ _ G) (by rw[g];exact s) (by rw[C];simpa using s) (by rw[g];exact vg.1 B) ⟨undef,H',.inr ⟨rfl,rfl⟩,by rw[g];exact E.symm,h⟩
 exact this
theorem yX {m:Nat}{x y:Operand}{b o:Nat}{v:Value}{us:List Value}{H':SH}(A:ev Γ x=some (.pointer (some ⟨b,o,none⟩)))(B:ev Γ y=some v)(s:v.cells.toList=us)(j:us.length=m)(g:us.all jo=true)
 (q:Ad H b o us H') (h:VO P n rs (aq d undef Γ) H' Z K):VO P n (⟨d,none,.store m x y⟩::rs) Γ H Z K:=by
 subst s;exact JR A B (by simpa using j) g q h
theorem sM {z:List Value}{g:List (Nat×Nat×Operand)}{out:List Value}(hk:(g.map (·.2.2)).all (known Γ)=true)(j:jh z (jb (G9 Γ) g)=some out)
 (h:VO P n rs (aq d (.agg out.toArray) Γ) H Z K):VO P n (⟨d,none,.build z g⟩::rs) Γ H Z K:=by
 refine VO.pure rfl (λρ aP=>?_) h;have:jb ρ g=jb (G9 Γ) g:=by
  exact zD5
 simp[kW,this,j]
theorem kX {t:TypeId}{x:Operand}{v:Value}(j:ev Γ x=some v)(h:∀b,VO P n rs (aq d (.pointer (some ⟨b,0,none⟩)) Γ) (kA b 0 v.cells.toList::H) Z K):VO P n (⟨d,none,.box t x⟩::rs) Γ H Z K:=by
 refine VO.act rfl rfl (λρ g=>⟨_,rfl,?_⟩);refine Gl (λb=>⟨_,_,.inl rfl,?_,h b⟩);rw[g _ _ j];simp
theorem kK {t:TypeId}{z:List Value}(h:∀b,VO P n rs (aq d (.pointer (some ⟨b,0,none⟩)) Γ) (kA b 0 z::H) Z K):VO P n (⟨d,none,.alloc t z⟩::rs) Γ H Z K:=by
 refine VO.act rfl rfl (λρ aP=>⟨_,rfl,?_⟩);exact zEK
theorem lH(h:∀b,VO P n rs (aq d (.map (some b)) Γ) ([.obj b (.map #[] 0)]::H) Z K):VO P n (⟨d,none,.pQ⟩::rs) Γ H Z K:=by
 refine VO.act rfl rfl (λρ aP=>⟨_,rfl,?_⟩);refine LN rfl (λb=>⟨_,_,.inl rfl,?_,h b⟩);simp
theorem st_mkslice {t:TypeId}{size bytes:Nat}{z:List Value}{l c:Operand}{D C:IntKind}{j g:Int}(A:ev Γ l=some (.int D j))(s:ev Γ c=some (.int C g))(q:0<=j/\j<=g/\g<=9223372036854775807/\bytes*g<=2 ^ 48)
 (B:z.length=size) (h:∀b,VO P n rs (aq d (.slice (some ⟨b,0,none⟩) j.toNat g.toNat) Γ) (kA b 0 (jB g.toNat z)::H) Z K):VO P n (⟨d,none,.Gp t size bytes z l c⟩::rs) Γ H Z K:=by
 refine VO.act rfl rfl (λρ m=>⟨_,rfl,?_⟩);rw[m _ _ A,m _ _ s];simp only[q,B,and_self,if_true];exact zEK
theorem j8 {t:TypeId}{len:Nat}{z:List Value}{g:List (Nat×Nat×Operand)}{out:List Value}(hk:(g.map (·.2.2)).all (known Γ)=true)(j:jh (jB len z) (jb (G9 Γ) g)=some out)
 (h:∀b,VO P n rs (aq d (.slice (some ⟨b,0,none⟩) len len) Γ) (kA b 0 out::H) Z K):VO P n (⟨d,none,.nA t len z g⟩::rs) Γ H Z K:=by
 refine VO.act rfl rfl (λρ aP=>⟨_,rfl,?_⟩);have:jb ρ g=jb (G9 Γ) g:=by
  exact zD5
 rw[this,j];exact zEK
theorem kH {f:Nat}{xs:List Operand}{args:List Value}{g R:SH}{Q:Value->SH->Prop}(m:au P f args g Q)(j:nt Γ xs=some args)(q:fJ H g R)
 (h:∀v Post,Q v Post->VO P n rs (aq d v Γ) (Post++R) Z K):VO P n (⟨d,none,.call f xs⟩::rs) Γ H Z K:=VO.call m j q h
variable {Q:Exit->Env->SH->Prop} {aV:List Nat}
theorem VC.DT(h:VO P n rs Γ H (λ_ _ _=>False) λd H'=>Q .normal (aT aV d) H'):VC P n (.draw [rs] aV) Γ H Q:=VC.draw (by simpa using h)
theorem VC.x8 {y:IC}(h:VO P n rs Γ H (λg d H'=>Q (.panic g) d H') λd H'=>VC P n y (aT aV d) H' Q):VC P n (.seq (.mY rs aV) y) Γ H Q:=VC.seq (VC.mY h)
theorem VC.oY {y:IC}(h:VO P n rs Γ H (λ_ _ _=>False) λd H'=>VC P n y (aT aV d) H' Q):VC P n (.seq (.draw [rs] aV) y) Γ H Q:=VC.seq (VC.DT h)
theorem VC.GL {x y z:IC}(h:VC P n (.seq x y) Γ H (bK (λd H'=>VC P n z d H' Q) Q)):VC P n (.seq (.seq x y) z) Γ H Q:=VC.seq h
theorem VC.oX {id:Nat}{x z:IC}(h:VC P n x Γ H (bG id (bK (λd H'=>VC P n z d H' Q) Q))):VC P n (.seq (.block id x) z) Γ H Q:=VC.seq (VC.block h)
theorem VC.sI {y:IC}(h:VC P n y Γ H Q):VC P n (.seq .skip y) Γ H Q:=VC.seq (VC.skip h)
theorem VC.tB {c:Operand}{x y:IC}(d:ev Γ c=some (.bool true))(h:VC P n x Γ H Q):VC P n (.cond c x y) Γ H Q:=VC.cond d (λ_=>h) (λe=>by cases e)
theorem VC.tA {c:Operand}{x y:IC}(d:ev Γ c=some (.bool false))(h:VC P n y Γ H Q):VC P n (.cond c x y) Γ H Q:=VC.cond d (λe=>by cases e) (λ_=>h)
theorem VC.sH {c:Operand}{x y z:IC}{t:Bool}(g:ev Γ c=some (.bool t))(j:t=true->VC P n x Γ H (bK (λd H'=>VC P n z d H' Q) Q))(h:t=false->VC P n y Γ H (bK (λd H'=>VC P n z d H' Q) Q)):
 VC P n (.seq (.cond c x y) z) Γ H Q:=VC.seq (VC.cond g j h)
end
theorem Zn:(∀cs:List Value,jh cs []=some cs)/\
 (∀(cs:List Value) (o s:Nat) (v:Value) (r:List (Nat×Nat×Value)),jh cs ((o,s,v)::r)=if v.cells.size=s/\o+s<=cs.length then jh (cs.take o++v.cells.toList++cs.drop (o+s)) r else none)/\
 (∀ρ:Operand->Value,jb ρ []=[])/\(∀(ρ:Operand->Value) (o s:Nat) (x:Operand) (r:List (Nat×Nat×Operand)),jb ρ ((o,s,x)::r)=(o,s,ρ x)::jb ρ r)/\
 (∀(Γ:Env) (x:Operand),G9 Γ x=(ev Γ x).getD undef)/\(∀(Γ:Env) (t:Nat),ev Γ (.tmp t)=look Γ t)/\(∀(Γ:Env) (v:Value),ev Γ (.const v)=some v)/\
 (∀(Γ:Env) (g:Nat),ev Γ (.global g)=some (.pointer (some ⟨g,0,none⟩)))/\(∀(Γ:Env) (f:Nat),ev Γ (.func f)=some (.func (.func f) #[] #[]))/\
 (∀(s t:Nat) (v:Value) (r:Env),look ((s,v)::r) t=if s=t then some v else look r t)/\(∀(d:Nat) (v:Value) (Γ:Env),aq (some d) v Γ=(d,v)::Γ)/\(∀(v:Value) (Γ:Env),aq none v Γ=Γ)/\
 (∀v d:Value,(some v).getD d=v)/\(∀l:List Value,l.toArray.size=l.length)/\(∀l:List Value,l.toArray.toList=l)/\(∀(a:Value) (l:List Value),(a::l).length=l.length+1)/\(([]:List Value).length=0)/\
 (∀(a:Value) (l:List Value) (n:Nat),(a::l).take (n+1)=a::l.take n)/\(∀l:List Value,l.take 0=[])/\(∀(a:Value) (l:List Value) (n:Nat),(a::l).drop (n+1)=l.drop n)/\(∀l:List Value,l.drop 0=l)/\
 (∀(a:Value) (l m:List Value),a::l++m=a::(l++m))/\(∀l:List Value,[]++l=l)/\(∀l:List Value,l++[]=l):=
 ⟨λ_=>rfl,λ_ _ _ _ _=>rfl,λ_=>rfl,λ_ _ _ _ _=>rfl,λ_ _=>rfl,λ_ _=>rfl,λ_ _=>rfl,λ_ _=>rfl,λ_ _=>rfl,λ_ _ _ _=>rfl,λ_ _ _=>rfl,λ_ _=>rfl,λ_ _=>rfl,λ_=>List.size_toArray,λ_=>rfl,
   λ_ _=>rfl,rfl,λ_ _ _=>rfl,λ_=>rfl,λ_ _ _=>rfl,λ_=>rfl,λ_ _ _=>rfl,λ_=>rfl,λ_=>vp _⟩
def jE {κ β:Type}[DecidableEq κ](k:κ):List (κ×β)->Option β
 |[]=>none
 |(a,v)::r=>if a=k then some v else jE k r
def jv {κ β:Type}[DecidableEq κ](k:κ)(v:β):List (κ×β)->List (κ×β)
 |[]=>[(k,v)]
 |(a,u)::r=>if a=k then(a,v)::r else(a,u)::jv k v r
def I0 {κ β:Type}[DecidableEq κ](k:κ):List (κ×β)->List (κ×β)
 |[]=>[]
 |(a,u)::r=>if a=k then r else(a,u)::I0 k r
structure N1 (κ:Type)[DecidableEq κ] where
 sk:SK
 enc:κ->Value
 same:∀a b,NJ sk (enc a) (enc b)=some (decide (a=b))
def yc:N1 ByteArray:=⟨.str,.string,λ_ _=>rfl⟩
def ob(ok:Bool)(zero:Value):Option Value->Value
 |some v=>if ok then .tuple #[v,.bool true]else v
 |none=>if ok then .tuple #[zero,.bool false]else zero
section
variable {κ β:Type} [DecidableEq κ] {E:N1 κ} {V:β->Value}
def mQ(E:N1 κ)(V:β->Value)(es:List MapEntry)(m:List (κ×β)):Prop:=es.map (λe=>(e.key,e.val))=m.map λp=>(E.enc p.1,V p.2)
structure yK (E:N1 κ)(V:β->Value)(es:Array MapEntry)(c:Nat)(m:List (κ×β)):Prop where
 of:mQ E V es.toList m
 born:es.toList.Pairwise λa b=>a.born < b.born
 clock:∀e∈es.toList,e.born < c
theorem yK.nil:yK E V #[] 0 []:=⟨rfl,.nil,Zs⟩
theorem Fc {k:κ}:∀{es:List MapEntry} {m:List (κ×β)} {i:Nat},mQ E V es m->
 ∃r,nJ E.sk (E.enc k) es i=some r/\r.map (·.2)=(jE k m).map V/\∀j v,r=some (j,v)->i<=j/\j - i < es.length/\∃e,es[j - i]? =some e/\e.key=E.enc k/\
  (∀g u,g.val=V u->(mQ E V (es.set (j - i) g) (jv k u m)↔g.key=E.enc k))/\mQ E V (es.eraseIdx (j - i)) (I0 k m):=by
 intro es
 induction es with
 |nil=>
  intro m i h;cases m with
  |nil=>exact⟨none,rfl,rfl,λ_ _ h=>by cases h⟩
  |cons p m=>simp[mQ]at h
 |cons e es ih=>
  intro m i h;cases m with
  |nil=>simp[mQ]at h
  |cons p m=>
   obtain⟨a,u⟩:=p;simp only[mQ,QD,vq,XE]at h;obtain⟨⟨q,B⟩,C⟩:=h;simp only[nJ,q,E.same,B];by_cases ek:k=a
   .subst ek;refine⟨some (i,V u),Zs,by simp[jE],λj v D=>?_⟩;cases D;refine⟨Qt _,Zs,e,Zs,q,λg u' d=>?_,?_⟩
    .simp only[Qz,List.set_cons_zero,jv,if_true,mQ,QD,vq,XE,d,and_true];exact⟨λh=>h.1,λh=>⟨h,C⟩⟩
    .simpa[I0,mQ]using C
   .obtain⟨r,F,G,H⟩:=ih (m:=m) (i:=i+1) C;have A:¬a=k:=λe=>ek e.symm
    refine⟨r,by simp[ek,F],by simp[jE,A,G],λj v D=>?_⟩;obtain⟨g1,g2,x,I,J,K,L⟩:=H j v D;have s:j - i=(j - (i+1))+1:=by omega
    refine⟨Zo,by simp;omega,x,by rw[s];simpa using I,J,λg u' d=>?_,?_⟩
    .rw[s];simp only[List.set_cons_succ,jv,A,if_false,mQ,QD,vq,q,B,true_and];exact K g u' d
    .rw[s];simp only[List.eraseIdx_cons_succ,I0,A,if_false,mQ,QD,vq,q,B,true_and];exact L
theorem gK {k:κ}{v:β}:∀{m:List (κ×β)},jE k m=none->jv k v m=m++[(k,v)]:=by
 intro m
 induction m with
 |nil=>intro _;rfl
 |cons p m ih=>
  obtain⟨a,u⟩:=p;intro h;simp only[jE]at h;split at h
  .cases h
  .rename_i d;simp[jv,d,ih h]
theorem yK.modify {es:Array MapEntry}{c:Nat}{m:List (κ×β)}(h:yK E V es c m){k:κ}{j:Nat}{u key:Value}{v:β}(H:nJ E.sk (E.enc k) es.toList 0=some (some (j,u)))(I:key=E.enc k):
 yK E V (es.modify j λe=>{e with key,val:=V v}) c (jv k v m):=by
 subst I;obtain⟨r,B,f2,G⟩:=Fc (k:=k) (i:=0) h.of;rw[H]at B;cases B;obtain⟨_,d,e,g,g4,C,_⟩:=G j u rfl;simp only[X0]at d g C;have q:(es.modify j λe=>{e with key:=E.enc k,val:=V v}).toList=es.toList.set j {e with key:=E.enc k,val:=V v}:=by
  apply V0;intro i;rw[vC,vA,Vw];by_cases hi:j=i
  .subst hi;have:es[j]? =some e:=by simpa using g
   have g2':j < es.size:=by simpa using d
   exact zEH
  .simp[hi]
 have A:(es.toList.set j {e with key:=E.enc k,val:=V v}).map (·.born)=es.toList.map (·.born):=by
  apply V0;intro i;simp only[Vu,Vw];by_cases hi:j=i
  .subst hi;have g2':j < es.size:=by simpa using d
   have:es[j]? =some e:=by simpa using g
   exact zEH
  .simp[hi]
 refine⟨?_,?_,?_⟩
 .rw[q];exact(C {e with key:=E.enc k,val:=V v} v rfl).2 rfl
 .rw[q];have D:=h.born;have F:∀l:List MapEntry,l.Pairwise (λa b=>a.born < b.born)↔(l.map MapEntry.born).Pairwise (·< ·):=λl=>List.pairwise_map.symm
  rw[F]at D|-;have L:(es.toList.set j {e with key:=E.enc k,val:=V v}).map MapEntry.born=es.toList.map MapEntry.born:=A;rw[L];exact D
 .rw[q];intro x J;have:x.born∈(es.toList.set j {e with key:=E.enc k,val:=V v}).map (·.born):=QO.2 ⟨x,J,rfl⟩;rw[A]at this;obtain⟨y,K,s⟩:=QO.1 this;rw[<- s];exact h.clock y K
theorem yK.push {es:Array MapEntry}{c:Nat}{m:List (κ×β)}(h:yK E V es c m){k:κ}{v:β}(d:jE k m=none):
 yK E V (es.push {key:=E.enc k,val:=V v,born:=c}) (c+1) (jv k v m):=by
 refine⟨?_,?_,?_⟩
 .rw[gK d];have:=h.of;simp only[mQ]at this|-;simp[this]
 .exact zDU
 .exact zD6
variable {P:Program} {n:Nat} {rs:List RO} {Γ:Env} {H:SH} {Z:List PanicEntry->Env->SH->Prop} {K:Env->SH->Prop} {d:Option Nat}
inductive yx:SH->Nat->Obj->Prop where
 |here {b:Nat} {o:Obj} {L:SH}:yx ([.obj b o]::L) b o
 |there {A:List kC} {L:SH} {b:Nat} {o:Obj}:yx L b o->yx (A::L) b o
 |among {A:List kC} {L:SH} {b:Nat} {o:Obj}:kC.obj b o∈A->yx (A::L) b o
theorem yx.mem {b:Nat}{o:Obj}(h:yx H b o):kC.obj b o∈H.flatten:=by
 induction h with
 |here=>simp
 |there _ ih=>simp only[Vd,QG];exact .inr ih
 |among h=>simp only[Vd,QG];exact .inl h
theorem iO {b:Nat}{o:Obj}{L F:List kC}{w:World}(d:kC.obj b o∈L)(g:Sat w (L++F)):(getObj b).run P w=.ok o w:=by
 obtain⟨h1,h2⟩:=g.obj (Zw F d);cases o <;> simp_all [Go.getObj,Sem.run,zD]
theorem zM {j:SK}{zero:Value}{ok:Bool}{m x:Operand}{b c:Nat}{es:Array MapEntry}{k:κ}{l:List (κ×β)}(D:ev Γ m=some (.map (some b)))(J:ev Γ x=some (E.enc k))(A:j=E.sk)
 (G:yx H b (.map es c)) (C:yK E V es c l) (h:VO P n rs (aq d (ob ok zero ((jE k l).map V)) Γ) H Z K):VO P n (⟨d,none,.lookup j zero ok m x⟩::rs) Γ H Z K:=by
 subst A;refine VO.read rfl rfl (λρ g=>⟨_,rfl,λF w I=>?_⟩) h;obtain⟨r,q,s,_⟩:=Fc (k:=k) (i:=0) C.of;have B:=iO (P:=P) G.mem I;rw[g _ _ D,g _ _ J];simp only[wg,Sem.run_bind,B,Result.andThen_ok,Sem.run_pure,q];rw[<- s];cases r with
 |none=>rfl
 |some p=>rfl
theorem zL {G:SK}{m x y:Operand}{b c:Nat}{es:Array MapEntry}{k:κ}{v:β}{l:List (κ×β)}{R:SH}(N:ev Γ m=some (.map (some b)))(Q:ev Γ x=some (E.enc k))(S:ev Γ y=some (V v))(M:G=E.sk)
 (O:Tk H [.obj b (.map es c)] R) (A:yK E V es c l) (h:∀C B,yK E V C B (jv k v l)->VO P n rs (aq d undef Γ) ([.obj b (.map C B)]::R) Z K):VO P n (⟨d,none,.Bn G m x y⟩::rs) Γ H Z K:=by
 subst M;refine VO.act rfl rfl (λρ s=>⟨_,rfl,?_⟩);rw[s _ _ N,s _ _ Q,s _ _ S];refine aL.perm O.perm ?_;refine JV (m:=b) (c:=c) (es:=es) Zs ?_;obtain⟨r,D,I,J⟩:=Fc (k:=k) (i:=0) A.of;simp only[D];cases r with
 |none=>
  refine aL.bind (aL.setObj rfl (aL.pure ⟨undef,_,.inr ⟨rfl,rfl⟩,?_,h _ _ (A.push (by simpa using I.symm))⟩));simp
 |some p=>
  obtain⟨j,u⟩:=p;obtain⟨_,g2,e,F,L,_⟩:=J j u rfl;simp only[X0]at F;have g:((es[j]?).map (·.key)).getD (E.enc k)=E.enc k:=by
   have:es[j]? =some e:=by simpa using F
   simp[this,L]
  refine aL.bind (NQ _ _ (λT U=>?_));have q:T=E.enc k:=by rcases U with h|h;rw[h,g];exact h
  refine aL.bind (aL.setObj rfl (aL.pure ⟨undef,_,.inr ⟨rfl,rfl⟩,?_,h _ _ (A.modify D q)⟩));simp
end
inductive ky (size:Nat):Value->Nat->List Value->List Value->Prop where
 |mk {b o n c:Nat} {xs sp:List Value}:xs.length=n*size->xs.length+sp.length=c*size->n<=c->ky size (.slice (some ⟨b,o,none⟩) n c) n xs sp
 |nil:ky size Nz 0 [] []
def ao:Value->List Value->List Value->List kC
 |.slice (some ⟨b,o,none⟩) _ _,xs,sp=>kA b o (xs++sp)
 |_,_,_=>[]
theorem ky.len {size n:Nat}{v:Value}{xs sp:List Value}(h:ky size v n xs sp):xs.length=n*size:=by
 cases h with
 |mk h1 _ _=>exact h1
 |nil=>simp
theorem ky.some {size n:Nat}{v:Value}{xs sp:List Value}(h:ky size v n xs sp)(hn:0 < n):∃b o c,v=.slice (some ⟨b,o,none⟩) n c/\n<=c/\xs.length+sp.length=c*size:=by
 cases h with
 |mk h1 h2 h3=>exact⟨_,_,_,rfl,h3,h2⟩
 |nil=>omega
theorem ky.form {size n:Nat}{v:Value}{xs sp:List Value}(h:ky size v n xs sp):∃a c,v=.slice a n c:=by
 cases h with
 |mk h1 h2 h3=>exact⟨_,_,rfl⟩
 |nil=>exact⟨_,_,rfl⟩
theorem OT(bi:Nat):∀(r c:Nat),c<=2*bi+192->Builtin.growBy bi r c<=2*bi+192:=by
 intro r
 induction r with
 |zero=>intro c h;exact h
 |succ r ih=>
  intro c h;simp only[Builtin.growBy];split
  .exact h
  .exact ih _ Zo
theorem LS {bi c:Nat}(h:c < bi):Builtin.nextslicecap bi c<=2*bi+192:=by
 unfold Builtin.nextslicecap;split
 .omega
 .split
  .omega
  .exact OT bi 4 c Zo
theorem Src.mono {H H':List kC}{size n:Nat}{vs:List Value}{v:Value}(d:∀x∈H,x∈H')(h:Src H size n vs v):Src H' size n vs v:=by
 unfold Src at*;split at h
 .exact⟨h.1,λx g=>d x (h.2 x g)⟩
 .exact h
 .exact h
 .exact h.elim
theorem CQ(n:Nat)(z:List Value):(jB n z).length=n*z.length:=by simp[jB]
section
variable {P:Program} {n:Nat} {rs:List RO} {Γ:Env} {H:SH} {Z:List PanicEntry->Env->SH->Prop} {K:Env->SH->Prop} {d:Option Nat}
theorem kw {t:TypeId}{size bytes:Nat}{zero:List Value}{s x:Operand}{sv q:Value}{k m:Nat}{xs sp ys:List Value}{R:SH}(hs:ev Γ s=some sv)(B:ev Γ x=some q)(E:ky size sv k xs sp)
 (ht:Tk H (ao sv xs sp) R) (O:fA q=some m) (S:Src R.flatten size m ys q) (j:ys.length=m*size) (W:ys.all jo=true) (hz:zero.length=size) (hb:bytes≠0) (T:(2*(k+m)+192)*bytes<=2 ^ 48)
 (h:∀F N,ky size F (k+m) (xs++ys) N->VO P n rs (aq d F Γ) (ao F (xs++ys) N::R) Z K):VO P n (⟨d,none,.append t size bytes zero s x⟩::rs) Γ H Z K:=by
 refine VO.act' rfl rfl (λρ M=>⟨_,rfl,?_⟩);rw[M _ _ hs,M _ _ B];refine aL.perm ht.perm ?_;have D:Src (ao sv xs sp++R.flatten) size m ys q:=S.mono (λx B=>QH _ B);have grow:∀(a:Option Addr) (c:Nat),sv=.slice a k c->¬(k+m<=c)->Src (ao sv xs sp++R.flatten) size k xs sv->
  aL P (if Builtin.nextslicecap (k + m) c * bytes > 2 ^ 48 ∨ bytes = 0 then stuck "size" else do
   let cap <- choose (.appendCap (k+m) c t)
   let old <- Builtin.firstCells size k sv
   let new <- Builtin.firstCells size m q
   let b <- newObj (.cells (old++new++(jB (cap - (k+m)) zero).toArray) t)
   pure (Next.value (.slice (Option.some ⟨b,0,none⟩) (k+m) cap)):Sem Next) (ao sv xs sp++R.flatten) λC L=>∃v H' X,(C=.value v∨(C=.skip/\v=undef))/\L.Perm (List.flatten H'++X)/\VO P n rs (aq d v Γ) H' Z K:=by
  intro a c iG g J;have hnc:Builtin.nextslicecap (k+m) c*bytes<=2 ^ 48:=Qv (Qy _ (LS Zo)) T;rw[if_neg Zo];have fin:∀cap,k+m<=cap->aL P (do
   let old <- Builtin.firstCells size k sv
   let new <- Builtin.firstCells size m q
   let b <- newObj (.cells (old++new++(jB (cap - (k+m)) zero).toArray) t)
   pure (Next.value (.slice (Option.some ⟨b,0,none⟩) (k+m) cap)):Sem Next) (ao sv xs sp++R.flatten) λC L=>∃v H' X,(C=.value v∨(C=.skip/\v=undef))/\L.Perm (List.flatten H'++X)/\VO P n rs (aq d v Γ) H' Z K:=by
   intro cap Q;refine aL.bind (aL.firstCells J (aL.bind (aL.firstCells D (Gl (λb=>?_)))));have G:ky size (.slice (Option.some ⟨b,0,none⟩) (k+m) cap) (k+m) (xs++ys) (jB (cap - (k+m)) zero):=by
    refine .mk ?_ ?_ Q
    .rw[Vy,E.len,j,Nat.add_mul]
    .rw[Vy,E.len,j,CQ,hz,<- Nat.add_mul,<- Nat.add_mul]
     congr 1;omega
   refine⟨_,_,ao sv xs sp,.inl rfl,?_,h _ _ G⟩;have:(xs.toArray++ys.toArray++(jB (cap - (k+m)) zero).toArray).toList=xs++ys++jB (cap - (k+m)) zero:=by simp
   rw[this];simp only[Vd,vm];refine List.Perm.trans ?_ (vZ _ Qa);simp only[ao,vm];exact ve _
  refine aL.bind (aL.choose (λhf=>by simp[Question.forced]at hf) (λt'=>fin _ ?_));simp only[Question.cut];omega
 cases E with
 |@mk b o _ c _ _ h1 h2 h3=>
  simp only[O];by_cases g:k+m<=c
  .rw[if_pos g];refine aL.bind (aL.firstCells D ?_);have dE:ys.length<=sp.length:=by
    have Y:(k+m)*size<=c*size:=Qy _ g;rw[Nat.add_mul]at Y;omega
   have tR:kA b o (xs++sp)=kA b o xs++(kA b (o+k*size) (sp.take ys.length)++kA b (o+k*size+ys.length) (sp.drop ys.length)):=by
    rw[ku,h1]
    congr 1
    conv=>lhs;rw[<- Qj ys.length sp]
    rw[ku]
    congr 2
    simp;omega
   have G:ky size (.slice (Option.some ⟨b,o,none⟩) (k+m) c) (k+m) (xs++ys) (sp.drop ys.length):=by
    refine .mk ?_ ?_ g
    .rw[Vy,h1,j,Nat.add_mul]
    .rw[Vy,Q0];omega
   have A:((⟨b,o,none⟩:Addr).add (k*size))=⟨b,o+k*size,none⟩:=hO b o _;simp only[A];have U:(ao (.slice (Option.some ⟨b,o,none⟩) k c) xs sp++R.flatten).Perm (kA b (o+k*size) (sp.take ys.length)++(kA b o xs++(kA b (o+k*size+ys.length) (sp.drop ys.length)++R.flatten))):=by
    simp only[ao,tR,vm];exact zo _ _ _
   refine aL.perm U (aL.bind (aL.storeCells tj (vg.1 W) (aL.pure ?_)));refine⟨_,_,[],.inl rfl,?_,h _ _ G⟩;simp only[ao,Vd,vp,ku,h1,vm];exact zo _ _ _
  .rw[if_neg g];refine grow _ c rfl g ⟨h1,λx B=>?_⟩;simp only[ao,ku,QG];exact .inl (.inl B)
 |nil=>
  simp only[O];by_cases g:0+m<=0
  .rw[if_pos g];have I:m=0:=by omega
   subst I;obtain rfl:ys=[]:=by simpa using j
   refine aL.bind (aL.firstCells D (aL.pure ?_));exact⟨_,_,[],.inl rfl,by simp[ao],h _ _ .nil⟩
  .rw[if_neg g];exact grow _ 0 rfl g rfl
end
theorem ai.left {A B:SH}:ai (A++B) A:=⟨B,by simp[fJ]⟩
theorem ai.perm {A B:SH}(h:A.flatten.Perm B.flatten):ai A B:=⟨[],by simpa[fJ]using h⟩
theorem VO.imp {P:Program}{n:Nat}{rs:List RO}{Γ:Env}{H H':SH}{Z:List PanicEntry->Env->SH->Prop}{K:Env->SH->Prop}(i:ai H H')(h:VO P n rs Γ H' Z K):VO P n rs Γ H Z K:=
 λl j a w F d Q g q m s=>h l j a w F d Q g (q.imp i) m s
theorem kG {d:List RV}{Q:Value->SH->Prop}{e:Exit}{Γ:Env}{H Post:SH}{vs:List Value}(g:e=.normal∨e=.ret)(m:Sm Γ H d vs)(j:Q (bN vs) Post)(h:ai H Post):tG d Q e Γ H:=⟨g,vs,Post,m,h,j⟩
inductive Hu:SH->Nat->Nat->Nat->List Value->Prop where
 |cells {b o k n:Nat} {vs us:List Value} {L:SH}:o<=k->k - o+n<=vs.length->(vs.drop (k - o)).take n=us->us.length=n->Hu (kA b o vs::L) b k n us
 |there {A:List kC} {L:SH} {b k n:Nat} {us:List Value}:Hu L b k n us->Hu (A::L) b k n us
theorem Hu.row {H:SH}{b k n:Nat}{us:List Value}(h:Hu H b k n us):Ku H b k us/\us.length=n:=by
 induction h with
 |cells h1 _ h2 h3=>exact⟨.cells h1 (by rw[h3,h2]) h3,h3⟩
 |there _ ih=>exact⟨.there ih.1,ih.2⟩
theorem yC {P:Program}{n:Nat}{rs:List RO}{Γ:Env}{H:SH}{Z:List PanicEntry->Env->SH->Prop}{K:Env->SH->Prop}{d:Option Nat}{m:Nat}{x:Operand}{b o:Nat}{us:List Value}(j:ev Γ x=some (.pointer (some ⟨b,o,none⟩)))(g:Hu H b o m us)(h:VO P n rs (aq d (.agg us.toArray) Γ) H Z K):VO P n (⟨d,none,.ij m x⟩::rs) Γ H Z K:=
 XZ j g.row.1 g.row.2 h
inductive Ks (Γ:Env)(d:Nat):Option Operand->Nat->Prop where
 |YW:Ks Γ d none d
 |num {x:Operand} {k:IntKind} {m:Nat}:ev Γ x=some (.int k m)->Ks Γ d (some x) m
theorem Ks.val {Γ:Env}{d y m:Nat}{o:Option Operand}{ρ:Operand->Value}(h:Ks Γ d o m)(j:m<=y)(g:∀x u,ev Γ x=some u->ρ x=u):wY y (some d) (o.map ρ)=some m:=by
 cases h with
 |YW=>rfl
 |num hx=>simp[wY,g _ _ hx,bound,j]
section
variable {P:Program} {n:Nat} {rs:List RO} {Γ:Env} {H:SH} {Z:List PanicEntry->Env->SH->Prop} {K:Env->SH->Prop} {d:Option Nat}
theorem eD {l h:Nat}{x:Operand}{A m:Option Operand}{s:ByteArray}(G:ev Γ x=some (.string s))(B:Ks Γ 0 A l)(j:Ks Γ s.size m h)(q:l<=h/\h<=s.size)
 (F:VO P n rs (aq d (.string (s.extract l h)) Γ) H Z K):VO P n (⟨d,none,.Mk x A m⟩::rs) Γ H Z K:=
 VO.pure rfl (λρ g=>by
  have C:=B.val (y:=h) q.1 g;have D:=j.val (y:=s.size) q.2 g;have E:wY s.size (some s.size) none=some s.size:=rfl;simp[kW,g _ _ G,y8,C,D,E]) F
end
theorem GW {P:Program}{n:Nat}{rs:List RO}{Γ:Env}{H:SH}{Z:List PanicEntry->Env->SH->Prop}{K:Env->SH->Prop}{d:Option Nat}{i:Nat}{x:Operand}{vs:Array Value}{v:Value}(m:ev Γ x=some (.tuple vs))(j:vs[i]? =some v)(h:VO P n rs (aq d v Γ) H Z K):VO P n (⟨d,none,.ext x i⟩::rs) Γ H Z K:=
 VO.pure rfl (λρ g=>by simp[kW,g _ _ m,j]) h
section
variable {P:Program} {n:Nat} {rs:List RO} {Γ:Env} {H R:SH} {Z:List PanicEntry->Env->SH->Prop} {K:Env->SH->Prop} {A B C:List kC} {c:IC} {Q:Exit->Env->SH->Prop}
end
section
variable {κ β:Type} [DecidableEq κ]
theorem Bp {k:κ}{v:β}:∀{m:List (κ×β)},jE k m=some v->(k,v)∈m:=by
 intro m
 induction m with
 |nil=>intro h;simp[jE]at h
 |cons p m ih=>
  obtain⟨a,u⟩:=p;intro h;simp only[jE]at h;split at h
  .rename_i e;cases h;subst e;simp
  .simp[ih h]
theorem Pu {k:κ}:∀{m:List (κ×β)},jE k m=none↔k∉m.map (·.1):=by
 intro m
 induction m with
 |nil=>simp[jE]
 |cons p m ih=>
  obtain⟨a,u⟩:=p;simp only[jE,QD,QI];split
  .rename_i e;simp[e]
  .rename_i e;rw[ih];simp only[not_or];exact⟨λh=>⟨λx=>e x.symm,h⟩,λh=>h.2⟩
theorem wT {k j:κ}{v:β}:∀{m:List (κ×β)},jE j (jv k v m)=if k=j then some v else jE j m:=by
 intro m
 induction m with
 |nil=>simp[jv,jE]
 |cons p m ih=>
  obtain⟨a,u⟩:=p;simp only[jv];split
  .rename_i e;subst e;simp only[jE];split <;> rfl
  .rename_i e;simp only[jE,ih];by_cases h1:a=j
   .subst h1;simp[show ¬k=a from λx=>e x.symm]
   .simp[h1]
theorem Pw {k:κ}{v:β}:∀{m:List (κ×β)},(jv k v m).map (·.1)=if k∈m.map (·.1)then m.map (·.1)else m.map (·.1)++[k]:=by
 intro m
 induction m with
 |nil=>simp[jv]
 |cons p m ih=>
  obtain⟨a,u⟩:=p;simp only[jv];split
  .rename_i e;simp[e]
  .rename_i e;have d:¬k=a:=λx=>e x.symm
   simp only[QD,ih,QI,d,false_or];split <;> simp
theorem qW {k:κ}{v:β}{m:List (κ×β)}(h:(m.map (·.1)).Nodup):((jv k v m).map (·.1)).Nodup:=by
 rw[Pw];split
 .exact h
 .rename_i j;rw[QW];refine⟨h,Zs,?_⟩;intro a g b d;simp at d
  rintro rfl
  exact j (d ▸ g)
theorem Ws {k:κ}:∀{m:List (κ×β)},(I0 k m).Sublist m:=by
 intro m
 induction m with
 |nil=>exact .slnil
 |cons p m ih=>
  obtain⟨a,u⟩:=p;simp only[I0];split
  .exact Qh _ _
  .exact ih.cons_cons _
theorem Px {k:κ}{x:β}:∀{m:List (κ×β)},(jv k x m).Perm ((k,x)::I0 k m):=by
 intro m
 induction m with
 |nil=>exact .refl _
 |cons p m ih=>
  obtain⟨a,u⟩:=p;simp only[jv,I0];split
  .rename_i e;subst e;simp
  .exact(ih.cons _).trans (List.Perm.swap _ _ _)
theorem Ep {k:κ}{x y:β}:∀{m:List (κ×β)},jv k y (jv k x m)=jv k y m:=by
 intro m
 induction m with
 |nil=>simp[jv]
 |cons p m ih=>
  obtain⟨a,u⟩:=p;simp only[jv];split
  .rename_i e;simp[jv,e]
  .rename_i e;simp[jv,e,ih]
theorem I4 {k:κ}{v:β}{q:κ×β}:∀{m:List (κ×β)},q∈jv k v m->q=(k,v)∨q∈m:=by
 intro m d;have:=Px.mem_iff.1 d;rcases QI.1 this with h|h
 .exact .inl h
 .exact .inr (Ws.subset h)
end
theorem Ad.set1 {b o i k:Nat}{vs:List Value}{u:Value}{L:SH}(d:o+i=k)(h:i < vs.length):Ad (kA b o vs::L) b k [u] (kA b o (vs.set i u)::L):=by
 subst d;refine .cells Zo tj ?_;rw[Qo,List.set_eq_take_append_cons_drop,if_pos h];simp
section
variable {κ β:Type} [DecidableEq κ] {E:N1 κ} {V:β->Value}
end
theorem VC.mw {P:Program}{n:Nat}{Γ:Env}{H:SH}{Q:Exit->Env->SH->Prop}{c:Operand}{x y z:IC}(g:ev Γ c=some (.bool true))(h:VC P n x Γ H (bK (λd H'=>VC P n z d H' Q) Q)):VC P n (.seq (.cond c x y) z) Γ H Q:=VC.seq (VC.tB g h)
theorem VC.mu {P:Program}{n:Nat}{Γ:Env}{H:SH}{Q:Exit->Env->SH->Prop}{c:Operand}{x y z:IC}(g:ev Γ c=some (.bool false))(h:VC P n y Γ H (bK (λd H'=>VC P n z d H' Q) Q)):VC P n (.seq (.cond c x y) z) Γ H Q:=VC.seq (VC.tA g h)
abbrev vi (n:Int):Value:=.int .i64 n
abbrev kE (b:Nat):Value:=.pointer (some ⟨b,0,none⟩)
theorem ai.cut {H M Δ:SH}(h:ai H M)(k:ai M Δ):ai H Δ:=by
 obtain⟨X,d⟩:=h;obtain⟨Y,g⟩:=k;refine⟨Y++X,?_⟩;simp only[fJ,Vc]at*;refine d.trans ?_;rw[<- vm];exact g.append_right _
theorem kR {P:Program}{n:Nat}{rs:List RO}{Γ:Env}{H:SH}{Z:List PanicEntry->Env->SH->Prop}{K:Env->SH->Prop}{d:Option Nat}{m:Nat}{x:Operand}{b o:Nat}{us:List Value}(A:ev Γ x=some (.pointer (some ⟨b,o,none⟩)))(j:∀a∈kA b o us,a∈H.flatten)(q:us.length=m)(h:VO P n rs (aq d (.agg us.toArray) Γ) H Z K):VO P n (⟨d,none,.ij m x⟩::rs) Γ H Z K:=
 VO.read rfl rfl (λρ g=>⟨_,rfl,λF w s=>by
  simp[g _ _ A,Instr.sureAddr,run_loadCells q j s]⟩) h
theorem yl {P:Program}{n:Nat}{rs:List RO}{Γ:Env}{H:SH}{Z:List PanicEntry->Env->SH->Prop}{K:Env->SH->Prop}{d:Option Nat}{i:Nat}{x:Operand}{l:List Value}{v:Value}(m:ev Γ x=some (.tuple l.toArray))(j:l[i]? =some v)(h:VO P n rs (aq d v Γ) H Z K):VO P n (⟨d,none,.ext x i⟩::rs) Γ H Z K:=
 VO.pure rfl (λρ g=>by simp[kW,g _ _ m,j]) h
theorem JQ {P:Program}{n:Nat}{rs:List RO}{Γ:Env}{H:SH}{Z:List PanicEntry->Env->SH->Prop}{K:Env->SH->Prop}{d:Option Nat}{r:R}{s:Nat}{b:Bool}(m:look Γ s=some undef)(h:VO P n rs (aq d undef Γ) H Z K):VO P n (⟨d,some (s,b),r⟩::rs) Γ H Z K:=by
 intro l g a w F ZZ Q ha lj hq hz;obtain⟨o,l',rfl,s6,ops,j⟩:=ze g;obtain⟨g1,g2,g3,g4⟩:=jP j;have hw:jK (some (s,b)) a=false:=by simp[jK,ha.slots _ _ m,undef]
 exact zBL
structure SJ (R:Prop):Prop where
 out:R
end Go.V

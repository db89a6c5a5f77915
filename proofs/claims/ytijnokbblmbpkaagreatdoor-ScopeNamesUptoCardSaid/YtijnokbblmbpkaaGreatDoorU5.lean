/-
  A part of the proof.
-/
import Derived.Test.YtijnokbblmbpkaaGreatDoorU2
import Derived.Test.YtijnokbblmbpkaaGreatDoorU4
import Derived.Test.YtijnokbblmbpkaaGreatDoorU3
set_option linter.all false
namespace Go.V
open Go
def z4(L:List kC)(b:Nat):Prop:=(∃n,kC.own b n∈L)/\∃v,kC.cell b 0 v∈L
theorem z4.more {L M:List kC}{b:Nat}(h:z4 L b)(d:∀x∈L,x∈M):z4 M b:=⟨h.1.imp λ_ k=>d _ k,h.2.imp λ_ k=>d _ k⟩
section
variable {P:Program} {w:World} {L:List kC}
theorem JC(m:Sat w L){b:Nat}(h:z4 L b):(frozen ⟨b,0,none⟩).run P w=.ok false w/\(noView ⟨b,0,none⟩).run P w=.ok () w/\(stringish ⟨b,0,none⟩).run P w=.ok false w/\∃r:Bool,(do pure ((<- shape b) matches some (_,0)):Sem Bool).run P w=.ok r w:=by
 obtain⟨⟨n,B⟩,⟨v,C⟩⟩:=h;obtain⟨c,t,E,hi,j,hn,D⟩:=m.holds _ B;obtain⟨_,s⟩:=m.cell C;have g:(frozen ⟨b,0,none⟩).run P w=.ok false w:=by
  simp only[frozen,Sem.run,s]
 have q:w.shape? b=some (t,c.size):=by simp[World.shape?,j]
 have d:(shape b).run P w=.ok (some (t,c.size)) w:=by simp only[shape,Sem.run,q]
 have A:w.frozen? ⟨b,c.size,none⟩=false:=by
  simp only[World.frozen?,j];simp only[vF,decide_eq_false_iff_not];by_cases h:E<=n
  .right;intro h';exact D ⟨h,Zo⟩
  .left;omega
 refine⟨g,?_,?_,?_⟩
 .simp[noView,viewAt,d]
 .simp only[stringish,Sem.run_bind,g,Result.andThen_ok];simp only[vM,if_false,Sem.run_bind,d,Result.andThen_ok];simp only[frozen,Sem.run,A]
 .simp only[Sem.run_bind,d,Result.andThen_ok];exact⟨_,rfl⟩
theorem GK(d:Sat w L){a b:Nat}(C:z4 L a)(D:z4 L b):(sameAddr ⟨a,0,none⟩ ⟨b,0,none⟩).run P w=.ok (decide (a=b)) w:=by
 unfold sameAddr;by_cases h:a=b
 .subst h;simp
 .obtain⟨g,j,m,ra,a4⟩:=JC (P:=P) d C;obtain⟨q,s,A,rb,b4⟩:=JC (P:=P) d D;have B:(a==b)=false:=by simpa using h
  simp[B,g,q,j,s,mayBeOne,m,A,h]
theorem ES(j:Sat w L){t e:TypeId}{i:TypeInfo}(m:P.underlying t=some (.pointer e))(h:P.info? e=some i)(q:i.size≠0){a b:Nat}(d:z4 L a)(g:z4 L b)(n:Nat):
 (Op.equalIn (n+1) t (.pointer (some ⟨a,0,none⟩)) (.pointer (some ⟨b,0,none⟩))).run P w=.ok (decide (a=b)) w:=by
 simp[Op.equalIn,kF m,kd h,q,GK j d g]
end
structure ThP (P:Program)(t mt e:TypeId):Prop where
 fs : ∃ f0 f1 : Field, P.underlying t = some (.struct #[f0, f1]) ∧ f0.offset = 0 ∧ f1.offset = 1 ∧ f0.name ≠ "_" ∧ f1.name ≠ "_" ∧ P.underlying f0.type = some (.pointer e) ∧ P.underlying f1.type = some (.int .i64)
 sz:∃i,P.info? e=some i/\i.size≠0
 stood:P.stoodInHeld t=false
 guard:P.eqGuardType P.depth t=false
 map:∃it i,P.underlying mt=some (.map t it)/\P.info? it=some i/\i.zero=some (.int .i64 0)
def iw(k:Nat×Int):Value:=.agg #[.pointer (some ⟨k.1,0,none⟩),.int .i64 k.2]
def CR(es:List MapEntry)(m:List ((Nat×Int)×Int)):Prop:=es.map (λe=>(e.key,e.val))=m.map λp=>(iw p.1,.int .i64 p.2)
def ya(k:Nat×Int):List ((Nat×Int)×Int)->Nat->Option (Nat×Value)
 |[],_=>none
 |p::r,i=>if k=p.1 then some (i,.int .i64 p.2)else ya k r (i+1)
section
variable {P:Program} {w:World} {L:List kC} {t mt e:TypeId}
theorem JB(H:Sat w L)(h:ThP P t mt e){k j:Nat×Int}(G:z4 L k.1)(F:z4 L j.1):(Op.equal t (iw k) (iw j)).run P w=.ok (decide (k=j)) w:=by
 obtain⟨g,d,q,M,o1,J,K,B,u1⟩:=h.fs;obtain⟨i,E,I⟩:=h.sz;have m:P.underlying t=some (.struct (P.fieldsOf t)):=by simp[Program.fieldsOf,q]
 have C:P.fieldsOf t=#[g,d]:=by simp[Program.fieldsOf,q]
 show(Op.equalIn (9999+1) t (iw k) (iw j)).run P w=_;unfold iw;rw[run_equalIn_struct w 9999 t _ _ m h.stood,C];have N:∀x y:Value,(part g.type #[x,y] g.offset).run P w=.ok x w:=λx y=>by
  simp[part,isAgg,kF B,M]
 have s:∀x y:Value,(part d.type #[x,y] d.offset).run P w=.ok y w:=λx y=>by
  simp[part,isAgg,kF u1,o1]
 have A:∀x y:Int,(Op.equalIn 9999 d.type (.int .i64 x) (.int .i64 y)).run P w=.ok (decide (x=y)) w:=λx y=>dR (n:=9998) u1 rfl rfl
 simp only[Op.eqFields,ne_eq,J,K,not_false_eq_true,if_true,Sem.run_bind,N,s,Result.andThen_ok,ES (n:=9998) H B E I G F,A];have D:decide (k=j)=(decide (k.1=j.1)&&decide (k.2=j.2)):=by
  rw[<- Bool.decide_and];exact decide_eq_decide.2 ⟨λh=>h ▸ ⟨rfl,rfl⟩,λh=>Prod.ext h.1 h.2⟩
 rw[D];by_cases c1:k.1=j.1 <;> by_cases c2:k.2=j.2 <;> simp[c1,c2,s,A]
theorem L9(D:Sat w L)(h:ThP P t mt e){k:Nat×Int}(B:z4 L k.1):∀(es:List MapEntry) (m:List ((Nat×Int)×Int)) (i:Nat),CR es m->(∀p∈m,z4 L p.1.1)->(Instr.findAsking t (iw k) es i).run P w=.ok (ya k m i) w:=by
 intro es
 induction es with
 |nil=>
  intro m i d _;cases m with
  |nil=>simp[Instr.findAsking,ya]
  |cons p r=>simp[CR]at d
 |cons q es ih=>
  intro m i d g;cases m with
  |nil=>simp[CR]at d
  |cons p r=>
   simp only[CR,QD,vq,XE]at d;obtain⟨⟨j,s⟩,A⟩:=d;simp only[Instr.findAsking,Sem.run_bind,j,JB D h B (g p Zs),Result.andThen_ok,ya];by_cases c:k=p.1
   .simp[c,s]
   .simp only[c,decide_false,vM,if_false];exact ih r (i+1) A (λp C=>g p (by simp[C]))
theorem xg(C:Sat w L)(h:ThP P t mt e){k:Nat×Int}(A:z4 L k.1){es:List MapEntry}{m:List ((Nat×Int)×Int)}(d:CR es m)(B:∀p∈m,z4 L p.1.1):(Instr.findKey t (iw k) es).run P w=.ok (ya k m 0) w:=by
 obtain⟨g,j,s,_⟩:=h.fs;unfold Instr.findKey;simp only[Sem.run_bind,kF s,Result.andThen_ok];cases es with
 |nil=>
  cases m with
  |nil=>simp[Instr.findNow,ya]
  |cons p r=>simp[CR]at d
 |cons q es=>
  have:Instr.findNow (.struct #[g,j]) (iw k) (q::es) 0=none:=by simp[Instr.findNow,Instr.sameNow]
  rw[this];exact L9 C h A _ _ _ d B
theorem xf(h:ThP P t mt e)(b:Bool)(k:Nat×Int):(Instr.checkKey b 10000 t (iw k)).run P w=.ok () w:=by
 obtain⟨d,g,m,A,o1,q,s,j,u1⟩:=h.fs;have B:∀x y:Value,(part d.type #[x,y] d.offset).run P w=.ok x w:=λx y=>by
  simp[part,isAgg,kF j,A]
 have C:∀x y:Value,(part g.type #[x,y] g.offset).run P w=.ok y w:=λx y=>by
  simp[part,isAgg,kF u1,o1]
 show(Instr.checkKey b (9998+1+1) t (iw k)).run P w=_;unfold iw;generalize 9998=N;simp[Instr.checkKey,kF m,q,s,B,C,kF j,kF u1]
end
theorem rD {k:Nat×Int}:∀{m:List ((Nat×Int)×Int)} {i:Nat},(ya k m i).map (·.2)=(jE k m).map (Value.int .i64):=by
 intro m
 induction m with
 |nil=>intro i;rfl
 |cons p r ih=>
  intro i;obtain⟨a,v⟩:=p;simp only[ya,jE];by_cases h:k=a
  .rw[if_pos h,if_pos h.symm];rfl
  .rw[if_neg h,if_neg (λe=>h e.symm)];exact ih
theorem Mv {k:Nat×Int}{v:Int}{u:Value}{q:MapEntry}(E:q.key=iw k)(F:q.val=.int .i64 v):∀{m:List ((Nat×Int)×Int)} {es:List MapEntry} {i j:Nat},CR es m->ya k m i=some (j,u)->
 i<=j/\(∃x,es[j - i]? =some x/\x.key=iw k)/\CR (es.set (j - i) q) (jv k v m):=by
 intro m
 induction m with
 |nil=>intro es i j _ h;cases h
 |cons p r ih=>
  intro es i j d h;obtain⟨a,w⟩:=p;cases es with
  |nil=>simp[CR]at d
  |cons x es=>
   simp only[CR,QD,vq,XE]at d;obtain⟨⟨g,D⟩,s⟩:=d;simp only[ya]at h;by_cases c:k=a
   .rw[if_pos c]at h;simp only[XD,XE]at h;obtain⟨rfl,rfl⟩:=h;subst c;refine⟨Qt _,⟨x,Zs,g⟩,?_⟩;simp only[Qz,List.set_cons_zero,jv,if_true,CR,QD,E,F,s]
   .rw[if_neg c]at h;obtain⟨g1,⟨y,A,B⟩,C⟩:=ih s h;have e:j - i=(j - (i+1))+1:=by omega
    refine⟨Zo,⟨y,by rw[e];simpa using A,B⟩,?_⟩;rw[e];simp only[List.set_cons_succ,jv];rw[if_neg (λe=>c e.symm)];simp only[CR,QD,g,D,vq,true_and];exact C
theorem xp {k:Nat×Int}:∀{m:List ((Nat×Int)×Int)} {i:Nat},ya k m i=none->jE k m=none:=λ{m i} h=>by
 have:=rD (k:=k) (m:=m) (i:=i);rw[h]at this;cases e:jE k m with
 |none=>rfl
 |some x=>rw[e]at this;cases this
theorem aL.step {P:Program}{α g:Type}{H:List kC}{K:g->List kC->Prop}{s:Sem α}{f:α->Sem g}{v:α}(h:∀F w,Sat w (H++F)->s.run P w=.ok v w)(k:aL P (f v) H K):aL P (s >>=f) H K:=
 aL.bind (λF w d=>⟨v,w,H,h F w d,k,d,.refl w⟩)
section
variable {P:Program} {n:Nat} {rs:List RO} {Γ:Env} {H R:SH} {Z:List PanicEntry->Env->SH->Prop} {K:Env->SH->Prop} {d:Option Nat} {t mt e:TypeId}
theorem st_eqp {x y:Operand}{a b:Nat}{i:TypeInfo}(ht:P.underlying t=some (.pointer e))(hi:P.info? e=some i)(hz:i.size≠0)(hx:ev Γ x=some (.pointer (some ⟨a,0,none⟩)))(hy:ev Γ y=some (.pointer (some ⟨b,0,none⟩)))(ha:z4 H.flatten a)(hb:z4 H.flatten b)
 (h:VO P n rs (aq d (.bool (decide (a=b))) Γ) H Z K):VO P n (⟨d,none,.YY .eql t x y⟩::rs) Γ H Z K:=by
 exact zB7
theorem Yb {x y:Operand}{a b:Nat}{i:TypeInfo}(ht:P.underlying t=some (.pointer e))(hi:P.info? e=some i)(hz:i.size≠0)(hx:ev Γ x=some (.pointer (some ⟨a,0,none⟩)))(hy:ev Γ y=some (.pointer (some ⟨b,0,none⟩)))(ha:z4 H.flatten a)(hb:z4 H.flatten b)
 (h:VO P n rs (aq d (.bool (!decide (a=b))) Γ) H Z K):VO P n (⟨d,none,.YY .neq t x y⟩::rs) Γ H Z K:=by
 exact zB7
theorem st_eqth {x y:Operand}{k j:Nat×Int}(m:ThP P t mt e)(G:ev Γ x=some (iw k))(I:ev Γ y=some (iw j))(A:z4 H.flatten k.1)(B:z4 H.flatten j.1)
 (h:VO P n rs (aq d (.bool (decide (k=j))) Γ) H Z K):VO P n (⟨d,none,.YY .eql t x y⟩::rs) Γ H Z K:=by
 refine VO.read rfl rfl (λρ g=>⟨_,rfl,λF w E=>?_⟩) h;rw[g _ _ G,g _ _ I];have q:∀c∈H.flatten,c∈H.flatten++F:=λc C=>Zw _ C
 have s:=JB (P:=P) E m (A.more q) (B.more q);rw[Sem.run_bind];have D:(eqGuard .eql t x y (iw k) (iw j)).run P w=.ok () w:=run_eqGuard_agg w _ t x y _ _ m.guard;rw[D];simp only[Result.andThen_ok,Sem.run_bind,Go.binOp,iw]at*;simp[s]
theorem uC {m x:Operand}{b c:Nat}{es:Array MapEntry}{k:Nat×Int}{l:List ((Nat×Int)×Int)}(s:ThP P t mt e)(Q:ev Γ m=some (.map (some b)))(U:ev Γ x=some (iw k))
 (S:yx H b (.map es c)) (O:CR es.toList l) (N:z4 H.flatten k.1) (G:∀p∈l,z4 H.flatten p.1.1) (h:VO P n rs (aq d (.int .i64 ((jE k l).getD 0)) Γ) H Z K):VO P n (⟨d,none,.IW mt false m x⟩::rs) Γ H Z K:=by
 refine VO.read rfl rfl (λρ C=>⟨_,rfl,λF w E=>?_⟩) h;rw[C _ _ Q,C _ _ U];have D:∀c∈H.flatten,c∈H.flatten++F:=λc I=>Zw _ I
 obtain⟨it,i,B,M,A⟩:=s.map;have L:=iO (P:=P) S.mem E;have J:=xg (P:=P) E s (N.more D) O (λp T=>(G p T).more D);have g:=rD (k:=k) (m:=l) (i:=0);simp only[Instr.lookup,Sem.run_bind,kF B,Result.andThen_ok,L,Sem.run_pure,xf s,J];cases K4:ya k l 0 with
 |none=>
  rw[xp K4];simp[ke M A]
 |some q=>
  obtain⟨j,u⟩:=q;rw[K4]at g;cases K5:jE k l with
  |none=>rw[K5]at g;cases g
  |some z=>
   rw[K5]at g;simp only[XB,XD]at g;simp[g]
theorem st_allocO {t:TypeId}{z:List Value}(h:∀b,VO P n rs (aq d (.pointer (some ⟨b,0,none⟩)) Γ) ((.own b z.length::kA b 0 z)::H) Z K):VO P n (⟨d,none,.alloc t z⟩::rs) Γ H Z K:=by
 refine VO.act rfl rfl (λρ aP=>⟨_,rfl,?_⟩);intro F w j;refine⟨_,_,(.own w.heap.size z.length::kA w.heap.size 0 z)++H.flatten,rfl,⟨_,(.own w.heap.size z.length::kA w.heap.size 0 z)::H,.inl rfl,?_,h _⟩,?_⟩
 .simp
 .have g:=Sat.push j (.cells z.toArray t (0,0)) (.own w.heap.size z.length::kA w.heap.size 0 z) (λx hx=>?_) ?_
  .rw[vm];exact g
  .have hb:({w with heap:=w.heap.push (.cells z.toArray t (0,0))}:World).heap[w.heap.size]? =some (.cells z.toArray t (0,0)):=by simp
   exact zCX
  .rw[QD,QX];refine⟨λhm=>?_,?_⟩
   .exact zCO
   .exact ej _ _ _
structure iC (es:Array MapEntry)(c:Nat)(m:List ((Nat×Int)×Int)):Prop where
 of:CR es.toList m
 born:es.toList.Pairwise λa b=>a.born < b.born
 clock:∀e∈es.toList,e.born < c
theorem iC.nil:iC #[] 0 []:=⟨rfl,.nil,Zs⟩
theorem iC.push {es:Array MapEntry}{c:Nat}{m:List ((Nat×Int)×Int)}(h:iC es c m){k:Nat×Int}{v:Int}(d:jE k m=none):iC (es.push {key:=iw k,val:=.int .i64 v,born:=c}) (c+1) (jv k v m):=by
 refine⟨?_,?_,?_⟩
 .rw[gK d];have:=h.of;simp only[CR]at this|-;simp[this]
 .exact zDU
 .exact zD6
def SX(es:Array MapEntry)(s:Nat)(k:Nat×Int):Prop:=∃(i:Nat) (e:MapEntry),es[i]? =some e/\e.born=s/\e.key=iw k
theorem RX {es:Array MapEntry}{c:Nat}{m:List ((Nat×Int)×Int)}(h:iC es c m){s:Nat}{k:Nat×Int}(E:SX es s k):∃(i:Nat) (e:MapEntry),es.findIdx? (λe=>((e.born:Int)==(s:Int)))=some i/\es[i]? =some e/\e.key=iw k:=by
 obtain⟨i,e,g,A,D⟩:=E;have q:=(v8.1 g).1;refine⟨i,e,?_,g,D⟩;rw[Array.findIdx?_eq_some_iff_getElem];have d:es[i]=e:=by rw[v7 q]at g;exact XC g
 refine⟨q,by simp[d,A],λj B=>?_⟩;have C:=List.pairwise_iff_getElem.1 h.born j i (by simpa using Nat.lt_trans B q) (by simpa using q) B;simp only[Array.getElem_toList]at C;rw[d,A]at C;have:((es[j].born:Int)==(s:Int))=false:=by
  rw[beq_eq_false_iff_ne];omega
 simp[this]
theorem iC.at_ {es:Array MapEntry}{c:Nat}{m:List ((Nat×Int)×Int)}(h:iC es c m){k:Nat×Int}{v:Int}{i:Nat}{e:MapEntry}(B:es[i]? =some e)(K:e.key=iw k)(U:(m.map (·.1)).Nodup):
 iC (es.modify i λe=>{e with val:=.int .i64 v}) c (jv k v m):=by
 have F:=(v8.1 B).1;have A:es[i]=e:=by rw[v7 F]at B;exact XC B
 have s:(es.modify i λe=>{e with val:=.int .i64 v}).toList=es.toList.set i {e with val:=.int .i64 v}:=by
  apply V0;intro j;rw[vC,vA,Vw];by_cases hj:i=j
  .subst hj;simp[F,A]
  .simp[hj]
 have J:(es.toList.set i {e with val:=.int .i64 v}).map MapEntry.born=es.toList.map MapEntry.born:=by
  apply V0;intro j;simp only[Vu,Vw];by_cases hj:i=j
  .subst hj;simp[F,A]
  .simp[hj]
 have O:∀(es:List MapEntry) (m:List ((Nat×Int)×Int)) (i:Nat),CR es m->es[i]? =some e->(m.map (·.1)).Nodup->CR (es.set i {e with val:=.int .i64 v}) (jv k v m):=by
  intro es
  induction es with
  |nil=>intro m i _ h;simp at h
  |cons x es ih=>
   intro m i G C H;cases m with
   |nil=>simp[CR]at G
   |cons p r=>
    obtain⟨a,w⟩:=p;simp only[CR,QD,vq,XE]at G;obtain⟨⟨D,S⟩,E⟩:=G;have g:∀a b:Nat×Int,iw a=iw b->a=b:=λa b d=>by
     simp only[iw,Value.agg.injEq]at d;simp at d;exact Prod.ext d.1 d.2
    simp only[QD,QX]at H;cases i with
    |zero=>
     obtain rfl:x=e:=by simpa using C
     have:a=k:=g _ _ (D.symm.trans K);subst this;simp only[List.set_cons_zero,jv,if_true,CR,QD,D,E]
    |succ i=>
     have N:es[i]? =some e:=by simpa using C
     have P:a≠k:=by
      rintro rfl
      have:(e.key,e.val)∈es.map (λe=>(e.key,e.val)):=QO.2 ⟨e,Zv N,rfl⟩;rw[E]at this;obtain⟨q,T,M⟩:=QO.1 this;simp only[XE]at M;exact H.1 (QO.2 ⟨q,T,g _ _ (M.1.trans K)⟩)
     simp only[List.set_cons_succ,jv];rw[if_neg P];simp only[CR,QD,D,S,vq,true_and];exact ih r i E N H.2
 refine⟨?_,?_,?_⟩
 .rw[s];exact O _ _ _ h.of (by simpa using B) U
 .rw[s];have L:=h.born;have Q:∀l:List MapEntry,l.Pairwise (λa b=>a.born < b.born)↔(l.map MapEntry.born).Pairwise (·< ·):=λl=>List.pairwise_map.symm
  rw[Q]at L|-;rw[J];exact L
 .rw[s];intro x C;have:x.born∈(es.toList.set i {e with val:=.int .i64 v}).map MapEntry.born:=QO.2 ⟨x,C,rfl⟩;rw[J]at this;obtain⟨y,W,I⟩:=QO.1 this;rw[<- I];exact h.clock y W
theorem NO {m x:Operand}{b c:Nat}{es:Array MapEntry}{k:Nat×Int}{l:List ((Nat×Int)×Int)}(J:ThP P t mt e)(hm:ev Γ m=some (.map (some b)))(hx:ev Γ x=some (iw k))
 (ht:Tk H [.obj b (.map es c)] R) (E:iC es c l) (Y:z4 R.flatten k.1) (T:∀p∈l,z4 R.flatten p.1.1)
 (h:∀I g s,iC I g (if(jE k l).isSome then l else jv k 0 l)->SX I s k->g<=c+1->VO P n rs (aq d (.tuple #[.int .i64 ((jE k l).getD 0),.int .i64 s]) Γ) ([.obj b (.map I g)]::R) Z K):VO P n (⟨d,none,.ment mt m x⟩::rs) Γ H Z K:=by
 refine VO.act rfl rfl (λρ Q=>⟨_,rfl,?_⟩);rw[Q _ _ hm,Q _ _ hx];refine aL.perm ht.perm ?_;obtain⟨it,i,M,X,L⟩:=J.map;have S:∀(F:List kC) (g:kC),g∈R.flatten->g∈([kC.obj b (.map es c)]++R.flatten)++F:=λF g h'=>Zw _ (QH _ h')
 refine aL.bind ?_;unfold Instr.mapEntry;refine aL.step (v:=.map t it) (λF w _=>kF M) ?_;simp only;refine aL.bind (aL.getObj (o:=.map es c) Zs ?_);simp only;refine aL.step (v:=()) (λF w _=>xf J false k) ?_;refine aL.step (v:=ya k l 0) (λF w hs=>xg hs J (Y.more (S F)) E.of (λp hp=>(T p hp).more (S F))) ?_;have B:=rD (k:=k) (m:=l) (i:=0);cases hf:ya k l 0 with
 |none=>
  have N:=xp hf;refine aL.step (v:=.int .i64 0) (λF w _=>ke X L) ?_;refine aL.bind (aL.setObj rfl (aL.pure (aL.pure ⟨_,[.obj b (.map (es.push {key:=iw k,val:=.int .i64 0,born:=c}) (c+1))]::R,.inl rfl,?_,?_⟩)))
  .simp
  .have:=h (es.push {key:=iw k,val:=.int .i64 0,born:=c}) (c+1) c (by rw[N];exact E.push N) ⟨es.size,{key:=iw k,val:=.int .i64 0,born:=c},Zs,rfl,rfl⟩ (Qt _);rw[N]at this;exact this
 |some q=>
  obtain⟨j,u⟩:=q;obtain⟨_,⟨z,O,A⟩,_⟩:=Mv (q:=⟨iw k,.int .i64 0,0⟩) rfl rfl E.of hf;simp only[X0]at O;have G:es[j]? =some z:=by simpa using O
  rw[hf]at B;cases K5:jE k l with
  |none=>rw[K5]at B;cases B
  |some y=>
  rw[K5]at B;simp only[XB,XD]at B;have C:((es[j]?).map (·.key)).getD (iw k)=iw k:=by simp[G,A]
  refine aL.bind (NQ _ _ (λkk mV=>?_));have D:kk=iw k:=by rcases mV with h'|h';rw[h',C];exact h'
  subst D;have U:(es.modify j λe=>{e with key:=iw k})=es:=by
   apply Array.ext_getElem?;intro i;rw[vA];by_cases Ξ:j=i
   .subst Ξ;rw[G];simp;rw[<- A]
   .simp[Ξ]
  rw[U];have hb:z.born < c:=E.clock z (by have:=Zv O;exact this);refine aL.bind (aL.setObj rfl (aL.pure (aL.pure ⟨_,[.obj b (.map es c)]::R,.inl rfl,?_,?_⟩)))
  .simp
  .have:=h es c z.born (by rw[K5];exact E) ⟨j,z,G,rfl,A⟩ (Qu _);rw[K5]at this;have W:goInt (((es[j]?).map (·.born)).getD 0)=.int .i64 (z.born:Int):=by
    rw[G];rfl
   rw[W,B];exact this
theorem Ya {m x y:Operand}{b c s:Nat}{es:Array MapEntry}{k:Nat×Int}{v:Int}{l:List ((Nat×Int)×Int)}(D:ev Γ m=some (.map (some b)))(J:ev Γ x=some (.int .i64 s))(L:ev Γ y=some (.int .i64 v))
 (G:Tk H [.obj b (.map es c)] R) (q:iC es c l) (E:SX es s k) (I:(l.map (·.1)).Nodup)
 (h:∀j,iC j c (jv k v l)->VO P n rs (aq d undef Γ) ([.obj b (.map j c)]::R) Z K):VO P n (⟨d,none,.mst mt m x y⟩::rs) Γ H Z K:=by
 refine VO.act rfl rfl (λρ g=>⟨_,rfl,?_⟩);rw[g _ _ D,g _ _ J,g _ _ L];refine aL.perm G.perm ?_;obtain⟨i,z,A,B,C⟩:=RX q E;refine aL.bind ?_;unfold Instr.entryStore;simp only;refine aL.bind (aL.getObj (o:=.map es c) Zs ?_);simp only;refine aL.step (v:=(s:Int)) (λF w _=>by simp[asInt,asIntOf]) ?_;rw[A];refine(aL.setObj rfl (aL.pure ⟨undef,[.obj b (.map (es.modify i λe=>{e with val:=.int .i64 v}) c)]::R,.inr ⟨rfl,rfl⟩,?_,h _ (q.at_ B C I)⟩));simp
theorem st_boxO {t:TypeId}{x:Operand}{u:Value}(hx:ev Γ x=some u)(h:∀b,VO P n rs (aq d (.pointer (some ⟨b,0,none⟩)) Γ) ((.own b u.cells.toList.length::kA b 0 u.cells.toList)::H) Z K):VO P n (⟨d,none,.box t x⟩::rs) Γ H Z K:=by
 refine VO.act rfl rfl (λρ g=>⟨_,rfl,?_⟩);rw[g _ _ hx];intro F w m;refine⟨_,_,(.own w.heap.size u.cells.toList.length::kA w.heap.size 0 u.cells.toList)++H.flatten,rfl,⟨_,(.own w.heap.size u.cells.toList.length::kA w.heap.size 0 u.cells.toList)::H,.inl rfl,?_,h _⟩,?_⟩
 .simp
 .have j:=Sat.push m (.cells u.cells t (0,0)) (.own w.heap.size u.cells.toList.length::kA w.heap.size 0 u.cells.toList) (λx hx=>?_) ?_
  .rw[vm];exact j
  .have hb:({w with heap:=w.heap.push (.cells u.cells t (0,0))}:World).heap[w.heap.size]? =some (.cells u.cells t (0,0)):=by simp
   exact zCX
  .rw[QD,QX];refine⟨λhm=>?_,ej _ _ _⟩;exact zCO
end
structure UC where
 q:Nat
 args:Nat
 locals:Nat
 ay:Nat
 outer:Option Nat
 num:Nat
 ab:List Nat
 tv:Value
 lM:List Value
 nb:Nat
 es:Array MapEntry
 cl:Nat
 dZ:List (Nat×Int)
 cv:Value
 cC:List Value
 body:Value
structure ax where
 q:Nat
 unit:Nat
 arg:Int
 fixed:Bool
 remote:Bool
 slot:Nat
def kO:Option Nat->Value
 |some b=>.pointer (some ⟨b,0,none⟩)
 |none=>.pointer none
def ja(t:Nat×Int):List Value:=[.pointer (some ⟨t.1,0,none⟩),.int .i64 t.2]
def UC.row(u:UC):List Value:=[.int .i64 u.args,.int .i64 u.locals,.int .i64 u.ay,kO u.outer,.int .i64 u.num,u.tv,.map (some u.nb),u.cv,u.body]
def UC.atoms(u:UC):List kC:=.own u.q 9::(kA u.q 0 u.row++(ao u.tv (u.ab.map λb=>kO (some b)) u.lM++(ao u.cv (u.dZ.flatMap ja) u.cC++[.obj u.nb (.map u.es u.cl)])))
def ax.row(v:ax):List Value:=[kO (some v.unit),.int .i64 v.arg,.bool v.fixed,.bool v.remote,.int .i64 v.slot]
def ax.atoms(v:ax):List kC:=kA v.q 0 v.row
def WK(U:List UC)(V:List ax):List kC:=U.flatMap UC.atoms++V.flatMap ax.atoms
theorem lX {α g:Type}(f:α->List g){l:List α}{i:Nat}{x:α}(h:l[i]? =some x):∃R,∀y,((l.set i y).flatMap f).Perm (f y++R):=by
 induction l generalizing i with
 |nil=>simp at h
 |cons a l ih=>
  cases i with
  |zero=>
   exact⟨l.flatMap f,λy=>by simp⟩
  |succ i=>
   obtain⟨R,d⟩:=ih (i:=i) (by simpa using h);refine⟨f a++R,λy=>?_⟩;simp only[List.set_cons_succ,List.flatMap_cons];refine(vZ _ (d y)).trans ?_;exact zAU
theorem za {α:Type}{l:List α}{i:Nat}{x:α}(h:l[i]? =some x):l.set i x=l:=by
 apply V0;intro k;rw[Vw];by_cases e:i=k
 .subst e;have:=(Vt.1 h).1;rw[if_pos rfl,if_pos this,h]
 .rw[if_neg e]
theorem wk_unit {U:List UC}{V:List ax}{i:Nat}{u:UC}(h:U[i]? =some u):∃R,(WK U V).Perm (u.atoms++R)/\∀u',(WK (U.set i u') V).Perm (u'.atoms++R):=by
 obtain⟨R,g⟩:=lX UC.atoms h;have d:∀u',(WK (U.set i u') V).Perm (u'.atoms++(R++V.flatMap ax.atoms)):=λu'=>by
  unfold WK;rw[<- vm];exact vd _ (g u')
 refine⟨R++V.flatMap ax.atoms,?_,d⟩;have:=d u
 rwa [za h]at this
theorem wk_var {U:List UC}{V:List ax}{i:Nat}{v:ax}(h:V[i]? =some v):∃R,(WK U V).Perm (v.atoms++R)/\∀d,(WK U (V.set i d)).Perm (d.atoms++R):=by
 obtain⟨R,j⟩:=lX ax.atoms h;have g:∀d,(WK U (V.set i d)).Perm (d.atoms++(U.flatMap UC.atoms++R)):=λd=>by
  unfold WK;refine(vZ _ (j d)).trans ?_;exact zAU
 refine⟨U.flatMap UC.atoms++R,?_,g⟩;have:=g v
 rwa [za h]at this
theorem yP {U:List UC}{V:List ax}{i:Nat}{u:UC}(h:U[i]? =some u):∀x∈u.atoms,x∈WK U V:=λ_ d=>Zw _ (QM.2 ⟨u,Zv h,d⟩)
theorem mN {U:List UC}{V:List ax}{i:Nat}{v:ax}(h:V[i]? =some v):∀x∈v.atoms,x∈WK U V:=λ_ d=>QH _ (QM.2 ⟨v,Zv h,d⟩)
theorem iz {U:List UC}{V:List ax}{i:Nat}{u:UC}(h:U[i]? =some u):z4 (WK U V) u.q:=
 ⟨⟨9,yP h _ (QK ..)⟩,⟨_,yP h _ (QJ _ (Zw _ (kJ.2 ⟨0,_,rfl,rfl⟩)))⟩⟩
theorem Yz(U:List UC)(V:List ax)(u:UC):(WK (U++[u]) V).Perm (u.atoms++WK U V):=by
 unfold WK;rw[VV,Vb,vm,<- vm];refine(vd _ Qa).trans ?_;rw[vm]
theorem J4(U:List UC)(V:List ax)(v:ax):(WK U (V++[v])).Perm (v.atoms++WK U V):=by
 unfold WK;rw[VV,Vb,<- vm];exact Qa
def Cz:ax:=⟨0,0,0,false,false,0⟩
def ah.ab(st:ah)(i:Nat):List Nat:=(List.range st.vars.length).filter λv=>decide (st.af v=i)&&decide (st.bt v < 0)
structure cQ (st:ah)(nf:Nat->Nat×Int->Bool)(rf:Nat->Bool)(N:Nat->Nat)(U:List UC)(V:List ax):Prop where
 wf:Wf st
 ul:U.length=st.outer.length
 vl:V.length=st.vars.length
 inj:(U.map UC.q).Nodup
 un:∀(i:Nat) u,U[i]? =some u->u.args=st.args.getD i 0/\u.locals=0/\u.ay=0/\u.num=i/\u.dZ=[]/\u.cv=Nz/\u.cC=[]
 ou:∀(i:Nat) u,U[i]? =some u->u.outer=(if st.outer.getD i (-1) < 0 then none else(U[(st.outer.getD i (-1)).toNat]?).map UC.q)
 tm:∀(i:Nat) u,U[i]? =some u->u.ab=(st.ab i).map (λv=>(V.getD v Cz).q)/\ky 1 u.tv u.ab.length (u.ab.map λb=>kO (some b)) u.lM
 nd:∀(i:Nat) u,U[i]? =some u->∃m:List ((Nat×Int)×Int),iC u.es u.cl m/\(m.map (·.1)).Nodup/\(∀p∈m,(∃(j:Nat) (w:UC),U[j]? =some w/\p.1.1=w.q)/\0 < p.2/\p.2<=N i)/\
  ∀(j:Nat) (w:UC) (a:Int),U[j]? =some w->((jE (w.q,a) m).isSome=true↔nf i (j,a)=true)
 vn:∀(v:Nat) x y,st.vars[v]? =some x->V[v]? =some y->(∃w,U[x.unit]? =some w/\y.unit=w.q)/\y.arg=x.own/\y.fixed=x.arg/\y.remote=rf v/\y.slot=0
def df(st:ah)(U:List UC)(V:List ax):Prop:=cQ st st.bi st.rem (λ_=>st.uses.length) U V
theorem G7 {U:List UC}{V:List ax}{i:Nat}{u:UC}(h:U[i]? =some u){X Y:List kC}(hx:u.atoms.Perm (X++Y)):∃R,(WK U V).Perm (X++R)/\∀u' X',u'.atoms.Perm (X'++Y)->(WK (U.set i u') V).Perm (X'++R):=by
 obtain⟨R,h1,h2⟩:=wk_unit (V:=V) h;exact zCS
theorem Yy {U:List UC}{V:List ax}{i:Nat}{v:ax}(h:V[i]? =some v){X Y:List kC}(hx:v.atoms.Perm (X++Y)):∃R,(WK U V).Perm (X++R)/\∀d X',d.atoms.Perm (X'++Y)->(WK U (V.set i d)).Perm (X'++R):=by
 obtain⟨R,h1,h2⟩:=wk_var (U:=U) h;exact zCS
theorem Yx {U:List UC}{V:List ax}{i:Nat}{u:UC}(h:U[i]? =some u):∃R,(WK U V).Perm ([.obj u.nb (.map u.es u.cl)]++R)/\∀d g,(WK (U.set i {u with es:=d,cl:=g}) V).Perm ([.obj u.nb (.map d g)]++R):=by
 have j:∀d g,({u with es:=d,cl:=g}:UC).atoms.Perm ([.obj u.nb (.map d g)]++(.own u.q 9::(kA u.q 0 u.row++(ao u.tv (u.ab.map λb=>kO (some b)) u.lM++ao u.cv (u.dZ.flatMap ja) u.cC)))):=λd g=>by
  unfold UC.atoms;show(kC.own u.q 9::(kA u.q 0 u.row++(ao u.tv (u.ab.map λb=>kO (some b)) u.lM++(ao u.cv (u.dZ.flatMap ja) u.cC++[.obj u.nb (.map d g)])))).Perm _;rw[<- vm,<- vm,<- vm,<- vr];refine Qa.trans ?_;simp only[vm];exact ve _
 obtain⟨R,m,s⟩:=G7 (V:=V) h (j u.es u.cl);exact⟨R,m,λd g=>s _ _ (j d g)⟩
theorem Sf {U:List UC}{V:List ax}{i:Nat}{v:ax}(h:V[i]? =some v):∃R,(WK U V).Perm (kA v.q 3 [.bool v.remote]++R)/\∀b,(WK U (V.set i {v with remote:=b})).Perm (kA v.q 3 [.bool b]++R):=by
 have d:∀b,({v with remote:=b}:ax).atoms.Perm (kA v.q 3 [.bool b]++(kA v.q 0 [kO (some v.unit),.int .i64 v.arg,.bool v.fixed]++kA v.q 4 [.int .i64 v.slot])):=λb=>by
  unfold ax.atoms ax.row;simp only[kA,vr,QV];exact(List.Perm.swap _ _ _).trans (ve _)|>.trans (by
   refine List.Perm.trans (List.Perm.swap _ _ _) ?_;exact Qe (l₁:=[_,_,_])|>.trans (ve _))
 obtain⟨R,g,j⟩:=Yy (U:=U) h (d v.remote);exact⟨R,g,λb=>j _ _ (d b)⟩
theorem iA {A R X:List kC}(g:A.Perm (X++R)){x:kC}(j:x∈A)(d:x∉X):x∈R:=by
 rcases QG.1 (g.mem_iff.1 j)with h|h
 .exact absurd h d
 .exact h
theorem cQ.congr {st:ah}{B d:Nat->Nat×Int->Bool}{C g:Nat->Bool}{N A:Nat->Nat}{U:List UC}{V:List ax}(h:cQ st B C N U V)(H:∀i t,d i t=B i t)(I:∀v,g v=C v)(G:∀i,N i<=A i):cQ st d g A U V:=by
 refine⟨h.wf,h.ul,h.vl,h.inj,h.un,h.ou,h.tm,λi u J=>?_,λv x y L M=>?_⟩
 .obtain⟨m,D,E,q,F⟩:=h.nd i u J;exact⟨m,D,E,λp s=>⟨(q p s).1,(q p s).2.1,by have:=(q p s).2.2;have:=G i;omega⟩,λj w a K=>by rw[H];exact F j w a K⟩
 .rw[I];exact h.vn v x y L M
theorem mC {α:Type}{l:List α}{c:Nat}{x y:α}(g:l[c]? =some x){i:Nat}{z:α}(h:(l.set c y)[i]? =some z):(i=c/\z=y)∨(i≠c/\l[i]? =some z):=by
 rw[Vw]at h;by_cases e:c=i
 .subst e;rw[if_pos rfl,if_pos (Vt.1 g).1]at h;exact .inl ⟨rfl,(XC h).symm⟩
 .rw[if_neg e]at h;exact .inr ⟨λd=>e d.symm,h⟩
theorem zp {U:List UC}{c:Nat}{w w':UC}(d:U[c]? =some w)(g:w'.q=w.q):(U.set c w').map UC.q=U.map UC.q:=by
 rw[List.map_set,g];exact za (by rw[Vu,d];rfl)
theorem tZ {U:List UC}{c:Nat}{w w':UC}(d:U[c]? =some w)(g:w'.body=w.body):(U.set c w').map UC.body=U.map UC.body:=by
 rw[List.map_set,g];exact za (by rw[Vu,d];rfl)
theorem Fg {U d:List UC}(h:d.map UC.q=U.map UC.q)(i:Nat):(d[i]?).map UC.q=(U[i]?).map UC.q:=by
 have:=congrArg (λl=>l[i]?) h;simpa using this
theorem cQ.Xs {st:ah}{E:Nat->Nat×Int->Bool}{F:Nat->Bool}{N:Nat->Nat}{U:List UC}{V:List ax}(h:cQ st E F N U V){i j:Nat}{u w:UC}(C:U[i]? =some u)(D:U[j]? =some w)(e:u.q=w.q):i=j:=by
 have g:(U.map UC.q)[i]? =some u.q:=by rw[Vu,C];rfl
 have m:(U.map UC.q)[j]? =some u.q:=by rw[Vu,D,e];rfl
 have s:=(Vt.1 g).1;have d:=(Vt.1 m).1;have A:(U.map UC.q)[i]=(U.map UC.q)[j]:=by
  rw[Zg s]at g;rw[Zg d]at m;rw[XC g,XC m]
 have B:=List.pairwise_iff_getElem.1 h.inj;rcases Nat.lt_trichotomy i j with c|c|c
 .exact absurd A (B i j s d c)
 .exact c
 .exact absurd A.symm (B j i d s c)
theorem cQ.put {st:ah}{Y:Nat->Nat×Int->Bool}{rf:Nat->Bool}{N:Nat->Nat}{U:List UC}{V:List ax}(h:cQ st Y rf N U V){c J:Nat}{w x0:UC}{a:Int}(L:U[c]? =some w)(X:U[J]? =some x0){m:List ((Nat×Int)×Int)}
 (hu:(m.map (·.1)).Nodup) (hm:∀p∈m,(∃(j:Nat) (w:UC),U[j]? =some w/\p.1.1=w.q)/\0 < p.2/\p.2<=N c) (hn:∀(j:Nat) (w:UC) (a:Int),U[j]? =some w->((jE (w.q,a) m).isSome=true↔Y c (j,a)=true))
 {n:Int} {A:Array MapEntry} {C:Nat} (nk:iC A C (jv (x0.q,a) n m)) (S:0 < n) (O5:n<=N c+1):
 cQ st (λi t=>Y i t||(decide ((J,a)=t)&&decide (i=c))) rf (λi=>N i+(if i=c then 1 else 0)) (U.set c {w with es:=A,cl:=C}) V:=by
 have hq:=zp (w':={w with es:=A,cl:=C}) L rfl;have M:=Fg hq;have K:∀{i:Nat} {u:UC},(U.set c {w with es:=A,cl:=C})[i]? =some u->∃d,U[i]? =some d/\(u=d∨(i=c/\u={d with es:=A,cl:=C})):=λ{i u} B=>by
  rcases mC L B with⟨rfl,rfl⟩|⟨_,h'⟩
  .exact⟨w,L,.inr ⟨rfl,rfl⟩⟩
  .exact⟨u,h',.inl rfl⟩
 refine⟨h.wf,by rw[Q8];exact h.ul,h.vl,by rw[hq];exact h.inj,λi u B=>?_,λi u B=>?_,λi u B=>?_,λi u B=>?_,λv x y T W=>?_⟩
 .obtain⟨d,g,e|⟨_,e⟩⟩:=K B
  .rw[e];exact h.un i d g
  .rw[e];exact h.un i d g
 .rw[M];obtain⟨d,g,e|⟨_,e⟩⟩:=K B
  .rw[e];exact h.ou i d g
  .rw[e];exact h.ou i d g
 .obtain⟨d,g,e|⟨_,e⟩⟩:=K B
  .rw[e];exact h.tm i d g
  .rw[e];exact h.tm i d g
 .have O:∀{j:Nat} {u:UC},U[j]? =some u->∃u',(U.set c {w with es:=A,cl:=C})[j]? =some u'/\u'.q=u.q:=λ{j u} G=>by
   have:=M j;rw[G]at this;cases e:(U.set c {w with es:=A,cl:=C})[j]? with
   |none=>rw[e]at this;cases this
   |some u'=>rw[e]at this;exact⟨u',rfl,XC this⟩
  have O0:∀{j:Nat} {u:UC},(U.set c {w with es:=A,cl:=C})[j]? =some u->∃u',U[j]? =some u'/\u.q=u'.q:=λ{j u} G=>by
   obtain⟨d,g,e|⟨_,e⟩⟩:=K G
   .exact⟨d,g,by rw[e]⟩
   .exact⟨d,g,by rw[e]⟩
  rcases mC L B with⟨rfl,rfl⟩|⟨cI,h'⟩
  .refine⟨_,nk,qW hu,λp hp=>?_,λj Z H G=>?_⟩
   .rcases I4 hp with rfl|hp
    .obtain⟨u',D,E⟩:=O X;exact⟨⟨J,u',D,E.symm⟩,S,by rw[if_pos rfl];omega⟩
    .obtain⟨⟨j,Z,D,E⟩,I,h4⟩:=hm p hp;obtain⟨u',s,F⟩:=O D;exact⟨⟨j,u',s,E.trans F.symm⟩,I,by rw[if_pos rfl];omega⟩
   .obtain⟨u',s,F⟩:=O0 G;rw[wT,F];have hk:((x0.q,a)=(u'.q,H))↔((J,a)=(j,H)):=by
     simp only[XE];constructor
     .rintro⟨P,Q⟩;exact⟨h.Xs X s P,Q⟩
     .rintro⟨P,Q⟩
      subst P;rw[X]at s;exact⟨by rw[XC s],Q⟩
    by_cases e:(J,a)=(j,H)
    .rw[if_pos (hk.2 e)];simp[e]
    .rw[if_neg (λe'=>e (hk.1 e'))];simp only[e,decide_false,vL,vV];exact hn j u' H s
  .obtain⟨m',D,E,I,h4⟩:=h.nd i u h';refine⟨m',D,E,λp hp=>?_,λj Z H G=>?_⟩
   .obtain⟨⟨j,Z,s,F⟩,h7,h8⟩:=I p hp;obtain⟨u',h9,AJ⟩:=O s;exact⟨⟨j,u',h9,F.trans AJ.symm⟩,h7,by simp only[if_neg cI];omega⟩
   .obtain⟨u',s,F⟩:=O0 G;rw[F,h4 j u' H s];simp[cI]
 .obtain⟨⟨u,D,E⟩,I⟩:=h.vn v x y T W;refine⟨?_,I⟩;have:=M x.unit;rw[D]at this;cases e:(U.set c {w with es:=A,cl:=C})[x.unit]? with
  |none=>rw[e]at this;cases this
  |some u'=>rw[e]at this;exact⟨u',rfl,E.trans (XC this).symm⟩
theorem cQ.far {st:ah}{C:Nat->Nat×Int->Bool}{D:Nat->Bool}{N:Nat->Nat}{U:List UC}{V:List ax}(h:cQ st C D N U V){v:Nat}{y:ax}(j:V[v]? =some y):
 cQ st C (λw=>D w||decide (v=w)) N U (V.set v {y with remote:=true}):=by
 have F:∀w,((V.set v {y with remote:=true}).getD w Cz).q=(V.getD w Cz).q:=λw=>by
  rw[Vh,Vh,Vw];by_cases e:v=w
  .subst e;rw[if_pos rfl,if_pos (Vt.1 j).1,j];rfl
  .rw[if_neg e]
 refine⟨h.wf,h.ul,by rw[Q8];exact h.vl,h.inj,h.un,h.ou,λi u E=>?_,h.nd,λw x z B G=>?_⟩
 .obtain⟨d,g⟩:=h.tm i u E;refine⟨?_,g⟩;rw[d];exact QC λw _=>(F w).symm
 .rcases mC j G with⟨rfl,rfl⟩|⟨cI,h'⟩
  .obtain⟨d,g,m,A,s⟩:=h.vn w x y B j;exact⟨d,g,m,Zs,s⟩
  .obtain⟨d,g,m,A,s⟩:=h.vn w x z B h';refine⟨d,g,m,?_,s⟩;rw[A];have:decide (v=w)=false:=Zf (λe=>cI e.symm);rw[this,vV]
theorem cQ.useS {st:ah}{d:Nat->Nat×Int->Bool}{g:Nat->Bool}{N:Nat->Nat}{U:List UC}{V:List ax}(h:cQ st d g N U V){u v:Nat}(j:u < st.outer.length)(m:v < st.vars.length):cQ (st.use u v) d g N U V:=
 ⟨h.wf.use j m,h.ul,h.vl,h.inj,h.un,h.ou,h.tm,h.nd,h.vn⟩
def nG(st:ah)(v:Nat)(l:List Nat)(i:Nat)(t:Nat×Int):Bool:=st.bi i t||(decide ((st.af v,st.bt v)=t)&&decide (i∈l))
theorem DS(st:ah)(v i:Nat)(t:Nat×Int):nG st v [] i t=st.bi i t:=by simp[nG]
theorem KN(st:ah)(v:Nat)(l:List Nat)(c i:Nat)(t:Nat×Int):nG st v (l++[c]) i t=(nG st v l i t||(decide ((st.af v,st.bt v)=t)&&decide (i=c))):=by
 unfold nG;rw[vR,<- Bool.and_or_distrib_left]
 congr 2
 rw[<- Bool.decide_or];simp
theorem On(st:ah)(v u i:Nat)(t:Nat×Int):(st.use u v).bi i t=nG st v (st.way u v) i t:=Ja st u v i t
theorem R0(st:ah)(x:yA)(i:Nat):(st.aX x).ab i=st.ab i++(if x.unit=i/\x.own < 0 then [st.vars.length]else []):=by
 unfold ah.ab;have h:(st.aX x).vars.length=st.vars.length+1:=by unfold ah.aX;simp
 rw[h,List.range_succ,V5]
 congr 1
 .refine List.filter_congr λv j=>?_
  have:=QS.1 j;rw[dT st x this,ui st x this]
 .have d:(st.aX x).af st.vars.length=x.unit:=by unfold ah.af ah.aX;simp
  have g:(st.aX x).bt st.vars.length=x.own:=by unfold ah.bt ah.aX;simp
  simp only[V6,List.filter_nil,d,g];by_cases h1:x.unit=i <;> by_cases h2:x.own < 0 <;> simp[h1,h2]
theorem Cw {st:ah}{i v:Nat}(h:v∈st.ab i):v < st.vars.length:=by
 unfold ah.ab at h;exact QS.1 (QL.1 h).1
theorem cQ.aX {st:ah}{U s:List UC}{V:List ax}(h:df st U V){x:yA}{y:ax}{i:Nat}{u u':UC}(L:x.unit=i)(g:U[i]? =some u)(ho:-1<=x.own/\x.own < st.args.getD i 0)
 (hy:y.unit=u.q/\y.arg=x.own/\y.fixed=x.arg/\y.remote=false/\y.slot=0) (W:s=U.set i u') (N:u'={u with ab:=u'.ab,tv:=u'.tv,lM:=u'.lM}) (ht:u'.ab=u.ab++(if x.own < 0 then [y.q]else [])) (hs:ky 1 u'.tv u'.ab.length (u'.ab.map λb=>kO (some b)) u'.lM):
 df (st.aX x) s (V++[y]):=by
 have K:u'.q=u.q:=by rw[N]
 have X:s.map UC.q=U.map UC.q:=by rw[W];exact zp g K
 have Y:=Fg X;have cL:i < st.outer.length:=by have:=(Vt.1 g).1;rw[h.ul]at this;exact this
 have F:∀{j:Nat} {w:UC},s[j]? =some w->(j≠i/\U[j]? =some w)∨(j=i/\w=u'):=λ{j w} d=>by
  rw[W]at d;rcases mC g d with⟨rfl,rfl⟩|⟨G,H⟩
  .exact .inr ⟨rfl,rfl⟩
  .exact .inl ⟨G,H⟩
 have O:∀{j:Nat} {w:UC},U[j]? =some w->∃w',s[j]? =some w'/\w'.q=w.q:=λ{j w} d=>by
  have:=Y j;rw[d]at this;cases e:s[j]? with
  |none=>rw[e]at this;cases this
  |some w'=>rw[e]at this;exact⟨w',rfl,XC this⟩
 have O0:∀{j:Nat} {w:UC},s[j]? =some w->∃w',U[j]? =some w'/\w.q=w'.q:=λ{j w} d=>by
  rcases F d with⟨_,h'⟩|⟨rfl,rfl⟩
  .exact⟨w,h',rfl⟩
  .exact⟨u,g,K⟩
 have J:∀{v:Nat},v < st.vars.length->(V++[y]).getD v Cz=V.getD v Cz:=λ{v} C=>dB (by rw[h.vl];exact C)
 have xJ:(V++[y]).getD st.vars.length Cz=y:=by
  rw[Vh,Vl (by rw[h.vl];exact Qt _),h.vl,Qz];rfl
 refine⟨h.wf.aX (by rw[L];exact cL) (by rw[L];exact ho),by rw[W,Q8];exact h.ul,?_,by rw[X];exact h.inj,λj w d=>?_,λj w d=>?_,λj w d=>?_,λj w d=>?_,λv a b ha M=>?_⟩
 .show(V++[y]).length=(st.vars++[x]).length;rw[Vy,Vy,h.vl];rfl
 .rcases F d with⟨_,h'⟩|⟨rfl,rfl⟩
  .exact h.un j w h'
  .rw[N];exact h.un j u g
 .show w.outer=(if st.outer.getD j (-1) < 0 then none else(s[(st.outer.getD j (-1)).toNat]?).map UC.q);rw[Y];rcases F d with⟨_,h'⟩|⟨rfl,rfl⟩
  .exact h.ou j w h'
  .rw[N];exact h.ou j u g
 .rw[R0,QB];have Z:(st.ab j).map (λv=>((V++[y]).getD v Cz).q)=(st.ab j).map (λv=>(V.getD v Cz).q):=QC λv C=>by rw[J (Cw C)]
  rw[Z];rcases F d with⟨cI,h'⟩|⟨rfl,rfl⟩
  .rw[if_neg (by rintro⟨e,_⟩;exact cI (e.symm.trans L))];rw[QF,vp];exact h.tm j w h'
  .refine⟨?_,hs⟩;rw[ht,(h.tm j u g).1]
   congr 1
   by_cases hn:x.own < 0
   .rw[if_pos hn,if_pos ⟨L,hn⟩,List.map_singleton,xJ]
   .rw[if_neg hn,if_neg (λe=>hn e.2)];rfl
 .have Hk:∃m:List ((Nat×Int)×Int),iC w.es w.cl m/\(m.map (·.1)).Nodup/\(∀p∈m,(∃(j:Nat) (w:UC),U[j]? =some w/\p.1.1=w.q)/\0 < p.2/\p.2<=st.uses.length)/\∀(k:Nat) (w:UC) (a:Int),U[k]? =some w->((jE (w.q,a) m).isSome=true↔st.bi j (k,a)=true):=by
   rcases F d with⟨_,h'⟩|⟨rfl,rfl⟩
   .exact h.nd j w h'
   .rw[N];exact h.nd j u g
  obtain⟨m,G,H,P,Q⟩:=Hk;refine⟨m,G,H,λp hp=>?_,λk z a hk=>?_⟩
  .obtain⟨⟨k,z,S,T⟩,h7⟩:=P p hp;obtain⟨D,A,B⟩:=O S;exact⟨⟨k,D,A,T.trans B.symm⟩,h7⟩
  .obtain⟨D,A,B⟩:=O0 hk;rw[B,Q k D a A,h.wf.WZ]
 .have E:(st.vars++[x])[v]? =some a:=ha;rw[Vi]at E;split at E
  .rename_i C;rw[Vj (by rw[h.vl];exact C)]at M;obtain⟨⟨z,G,H⟩,P,Q,S,T⟩:=h.vn v a b E M;obtain⟨D,A,B⟩:=O G;exact⟨⟨D,A,H.trans B.symm⟩,P,Q,by rw[S,h.wf.rem_add x C],T⟩
  .rename_i C;have I:=(Vt.1 E).1;simp only[Q9]at I;have e:v=st.vars.length:=by omega
   subst e;rw[Qz]at E;obtain rfl:x=a:=by simpa using E
   rw[Vl (by rw[h.vl];exact Qt _),h.vl,Qz]at M;obtain rfl:y=b:=by simpa using M
   obtain⟨y1,y2,y3,y4,y5⟩:=hy;obtain⟨D,A,B⟩:=O g;exact⟨⟨D,by rw[L];exact A,y1.trans B.symm⟩,y2,y3,by rw[y4,h.wf.rem_new],y5⟩
theorem YC {U:List UC}{V:List ax}{i:Nat}{u:UC}(h:U[i]? =some u):∃R,(WK U V).Perm ((kA u.q 5 [u.tv]++ao u.tv (u.ab.map λb=>kO (some b)) u.lM)++R)/\
 ∀l j m,(WK (U.set i {u with ab:=l,tv:=j,lM:=m}) V).Perm ((kA u.q 5 [j]++ao j (l.map λb=>kO (some b)) m)++R):=by
 have A:∀l j m,({u with ab:=l,tv:=j,lM:=m}:UC).atoms.Perm ((kA u.q 5 [j]++ao j (l.map λb=>kO (some b)) m)++
  (.own u.q 9::(kA u.q 0 [.int .i64 u.args,.int .i64 u.locals,.int .i64 u.ay,kO u.outer,.int .i64 u.num]++(kA u.q 6 [.map (some u.nb),u.cv,u.body]++(ao u.cv (u.dZ.flatMap ja) u.cC++[.obj u.nb (.map u.es u.cl)]))))):=λl j m=>by
  unfold UC.atoms UC.row;simp only[kA,vr,QV,vm];generalize ao j (l.map λb=>kO (some b)) m=B;generalize ao u.cv (u.dZ.flatMap ja) u.cC++[.obj u.nb (.map u.es u.cl)]=C;have G:∀(a b c d e f g:kC) (X Y:List kC),(a::b::c::d::e::f::g::(X++Y)).Perm (g::X++(a::b::c::d::e::f::Y)):=λa b c d e f g X Y=>by
   have s:(a::b::c::d::e::f::g::(X++Y))=[a,b,c,d,e,f]++((g::X)++Y):=rfl;rw[s,<- vm];exact zCN
  have F:∀(a b c:kC) (X Y:List kC),(a::b::c::(X++Y)).Perm (X++(a::b::c::Y)):=λa b c X Y=>by
   have s:(a::b::c::(X++Y))=[a,b,c]++(X++Y):=rfl;rw[s,<- vm];exact zCN
  have:=G (.own u.q 9) (.cell u.q 0 (.int .i64 u.args)) (.cell u.q (0+1) (.int .i64 u.locals)) (.cell u.q (0+1+1) (.int .i64 u.ay)) (.cell u.q (0+1+1+1) (kO u.outer)) (.cell u.q (0+1+1+1+1) (.int .i64 u.num)) (.cell u.q 5 j) B (.cell u.q 6 (.map (some u.nb)):: .cell u.q 7 u.cv:: .cell u.q 8 u.body::C);refine List.Perm.trans ?_ this;refine List.Perm.cons _ (List.Perm.cons _ (List.Perm.cons _ (List.Perm.cons _ (List.Perm.cons _ (List.Perm.cons _ (List.Perm.cons _ ?_))))));exact F _ _ _ _ _
 obtain⟨R,D,E⟩:=G7 (V:=V) h (A u.ab u.tv u.lM);exact⟨R,D,λl j m=>E _ _ (A l j m)⟩
def ah.nameOf(st:ah)(v:Nat):ByteArray:=((st.vars[v]?).map (·.name)).getD e0
def xd(V:List ax)(v:Nat):Nat:=(V.getD v Cz).q
def ng(st:ah)(V:List ax)(env:List Nat):List (ByteArray×Nat):=env.map λv=>(st.nameOf v,xd V v)
structure zT (st:ah)(V:List ax)(env:List Nat)(es:Array MapEntry)(c:Nat):Prop where
 is:yK yc (λb=>kO (some b)) es c (ng st V env)
 lt:∀v∈env,v < st.vars.length
 one:(env.map st.nameOf).Nodup
theorem TT {α:Type}(p:α->Bool):∀{l:List α} {x:α},x∈l->p x=true->(∀y∈l,p y=true->y=x)->l.reverse.find? p=some x:=λ{l x} q j m=>by
 cases h:l.reverse.find? p with
 |none=>
  have:=List.find?_eq_none.1 h x (by simpa using q);exact absurd j this
 |some y=>
  have d:=List.find?_some h;have g:=List.mem_of_find?_eq_some h;rw[m y (by simpa using g) d]
theorem Dn {α j:Type}{f:α->j}:∀{l:List α},(l.map f).Nodup->∀{x y:α},x∈l->y∈l->f x=f y->x=y:=by
 intro l
 induction l with
 |nil=>intro _ x y d;cases d
 |cons a l ih=>
  intro h x y d g e;simp only[QD,QX]at h;rcases QI.1 d with h1|h1
  .rcases QI.1 g with h2|h2
   .exact h1.trans h2.symm
   .exact absurd (QO.2 ⟨y,h2,by rw[<- e,h1]⟩:f a∈l.map f) h.1
  .rcases QI.1 g with h2|h2
   .exact absurd (QO.2 ⟨x,h1,by rw[e,h2]⟩:f a∈l.map f) h.1
   .exact ih h.2 h1 h2 e
theorem Pv {st:ah}{V:List ax}{nm:ByteArray}:∀{env:List Nat},jE nm (ng st V env)=((env.find? λv=>decide (st.nameOf v=nm)).map (xd V)):=by
 intro env
 induction env with
 |nil=>rfl
 |cons v r ih=>
  show jE nm ((st.nameOf v,xd V v)::ng st V r)=_;simp only[jE,List.find?_cons];by_cases h:st.nameOf v=nm
  .rw[if_pos h,Zt h];rfl
  .rw[if_neg h,Zf h];exact ih
theorem zT.find {st:ah}{V:List ax}{env:List Nat}{es:Array MapEntry}{c:Nat}(h:zT st V env es c)(nm:ByteArray):jE nm (ng st V env)=(jk st.vars env nm).map (xd V)/\∀v,jk st.vars env nm=some v->v∈env/\v < st.vars.length/\st.nameOf v=nm:=by
 have q:∀v∈env,(decide ((st.vars[v]?).map (·.name)=some nm)=decide (st.nameOf v=nm)):=λv d=>by
  have C:=h.lt v d;unfold ah.nameOf;rw[Zg C];simp
 have A:jk st.vars env nm=env.find? λv=>decide (st.nameOf v=nm):=by
  unfold jk;cases e:env.find? (λv=>decide (st.nameOf v=nm))with
  |none=>
   rw[List.find?_eq_none]at e|-;intro v d;have s:v∈env:=by simpa using d
   rw[q v s];exact e v s
  |some v=>
   have j:=List.find?_some e;have g:=List.mem_of_find?_eq_some e;refine TT _ g (by rw[q v g];exact j) (λy B m=>?_);rw[q y B]at m;simp only[decide_eq_true_eq]at j m;exact Dn h.one B g (m.trans j.symm)
 refine⟨by rw[Pv,A],λv d=>?_⟩;rw[A]at d;have g:=List.mem_of_find?_eq_some d;exact⟨g,h.lt v g,by simpa using List.find?_some d⟩
theorem Br(st:ah)(x:yA){v:Nat}(d:v < st.vars.length):(st.aX x).nameOf v=st.nameOf v:=by
 unfold ah.nameOf ah.aX;simp only;rw[Vj d]
theorem Bs(st:ah)(x:yA):(st.aX x).nameOf st.vars.length=x.name:=by
 unfold ah.nameOf ah.aX;simp
theorem qOf_add {V:List ax}(y:ax){v:Nat}(d:v < V.length):xd (V++[y]) v=xd V v:=by
 unfold xd;rw[dB d]
theorem qOf_new(V:List ax)(y:ax):xd (V++[y]) V.length=y.q:=by
 unfold xd;exact zC7
theorem zT.add {st:ah}{V:List ax}{env:List Nat}{es A:Array MapEntry}{c s:Nat}(h:zT st V env es c)(H:V.length=st.vars.length){x:yA}{y:ax}(G:jk st.vars env x.name=none)
 (E:yK yc (λb=>kO (some b)) A s (jv x.name y.q (ng st V env))):zT (st.aX x) (V++[y]) (env++[st.vars.length]) A s:=by
 have g:ng (st.aX x) (V++[y]) env=ng st V env:=QC λv d=>by
  have:=h.lt v d;rw[Br st x this,qOf_add y Zo]
 have j:=(h.find x.name).1;rw[G]at j;refine⟨?_,λv d=>?_,?_⟩
 .have e:ng (st.aX x) (V++[y]) (env++[st.vars.length])=ng st V env++[(x.name,y.q)]:=by
   show List.map _ (env++[st.vars.length])=_;rw[QB];have:=g;unfold ng at this;rw[this];simp only[QD,QF];rw[Bs,<- H,qOf_new];rfl
  rw[e,<- gK j];exact E
 .show v < (st.vars++[x]).length;rw[Vy,Q9];rcases QG.1 d with h1|h1
  .have:=h.lt v h1;omega
  .rw[QU.1 h1];omega
 .rw[QB];have F:env.map (st.aX x).nameOf=env.map st.nameOf:=QC λv d=>Br st x (h.lt v d)
  rw[F,List.map_singleton,Bs,QW];refine⟨h.one,Zs,λa C b D=>?_⟩;obtain⟨v,m,rfl⟩:=QO.1 C;rw[QU.1 D];intro e;have B:=Pu.1 j;exact B (QO.2 ⟨(st.nameOf v,xd V v),QO.2 ⟨v,m,rfl⟩,e⟩)
theorem zT.more {st m:ah}{V g:List ax}{env:List Nat}{es:Array MapEntry}{c:Nat}(h:zT st V env es c)(s:st.vars <+:m.vars)(C:V.map ax.q <+:g.map ax.q)(hv:V.length=st.vars.length):zT m g env es c:=by
 have A:∀v∈env,m.nameOf v=st.nameOf v:=λv d=>by
  obtain⟨r,j⟩:=s;unfold ah.nameOf;rw[<- j,Vj (h.lt v d)]
 have E:∀v∈env,xd g v=xd V v:=λv d=>by
  obtain⟨r,j⟩:=C;have hl:=h.lt v d;have e:∀W:List ax,v < W.length->xd W v=((W.map ax.q)[v]?).getD 0:=λW D=>by
   unfold xd;rw[Vh,Vu,Zg D];rfl
  have B:v < g.length:=by
   have:=congrArg List.length j;simp only[Vy,Q6]at this;omega
  rw[e g B,e V Zo,<- j,Vj (by rw[Q6];omega)]
 refine⟨?_,λv d=>?_,?_⟩
 .have:ng m g env=ng st V env:=QC λv d=>by rw[A v d,E v d]
  rw[this];exact h.is
 .obtain⟨r,j⟩:=s;have:=h.lt v d;rw[<- j,Vy];omega
 .rw[QC A];exact h.one
structure rJ (F:List ByteArray)(es:Array MapEntry)(c:Nat):Prop where
 is:∃m:List (ByteArray×Nat),yK yc (λn:Nat=>.int .i64 n) es c m/\∀nm,jE nm m=F.findIdx? (λs=>decide (s=nm))
structure xR (G:List ByteArray)(es:Array MapEntry)(c:Nat):Prop where
 is:∃m:List (ByteArray×Nat),yK yc (λn:Nat=>.int .i64 n) es c m/\∀nm,decide ((jE nm m).getD 0=0)=!G.any (λs=>decide (s=nm))
def kf(r:jZ):List Value:=[.int .u8 r.kind,.int .i64 r.index,.int .i64 r.slot,.string r.name]
def rz:List Value:=[.int .u8 0,.int .i64 0,.int .i64 0,.string e0]
def uw(V:List ax)(r:jZ):Value:=if r.kind=99 then .tuple #[.agg rz.toArray,kO (some (xd V r.index.toNat))]else .tuple #[.agg (kf r).toArray,.pointer none]
theorem GH {s:ByteArray}(h1:s≠qX)(h2:s≠eg)(d:s≠Bv)(g:s≠qY)(j:s≠mi):wV s=0:=by
 unfold wV;rw[if_neg (by rintro(h|h) <;> contradiction),if_neg d,if_neg g,if_neg j]
theorem NW {st:ah}(h:st.f=none)(e:Nat)(p:Int):(st.wrong e p).f=some (e,p):=by
 unfold ah.wrong;rw[h];rfl
section
variable {F G:List ByteArray} {st:ah} {env:List Nat} {nm:ByteArray} {u:Nat} {p:Int} {put:Bool}
theorem sD(h:wV nm≠0):wC F G st env nm u p put=(⟨wV nm,0,0,e0⟩,st):=by unfold wC;rw[if_pos h]
theorem Jq(h:wV nm=0){v:Nat}(g:jk st.vars env nm=some v)(d:(put&&((st.vars[v]?).map (·.arg)).getD false)=false):wC F G st env nm u p put=(cZ v,st.use u v):=by
 unfold wC;rw[if_neg Zo,g];simp only[d];rfl
theorem Jp(h:wV nm=0){v:Nat}(j:jk st.vars env nm=some v)(g:(put&&((st.vars[v]?).map (·.arg)).getD false)=true)(d:st.f=none):(wC F G st env nm u p put).2.f=some (182,p):=by
 unfold wC;rw[if_neg Zo,j];simp only[g,if_true,ah.wrong,d,Option.isNone_none]
theorem Ci(h:wV nm=0)(g:jk st.vars env nm=none){i:Nat}(d:F.findIdx? (λs=>decide (s=nm))=some i):wC F G st env nm u p put=(⟨7,i,0,e0⟩,st):=by
 unfold wC;rw[if_neg Zo,g];simp only[d]
theorem EL(h:wV nm=0)(j:jk st.vars env nm=none)(g:F.findIdx? (λs=>decide (s=nm))=none)(d:G.any (λs=>decide (s=nm))=true):wC F G st env nm u p put=(⟨8,0,0,nm⟩,st):=by
 unfold wC;rw[if_neg Zo,j];simp only[g,d,if_true]
theorem EM(h:wV nm=0)(m:jk st.vars env nm=none)(j:F.findIdx? (λs=>decide (s=nm))=none)(g:G.any (λs=>decide (s=nm))=false)(d:st.f=none):(wC F G st env nm u p put).2.f=some (181,p):=by
 unfold wC;rw[if_neg Zo,m];simp only[j,g,vM,if_false];exact NW d 181 p
end
def wA(T:List kC)(v:Value)(rs:List jZ):Prop:=∃a c,v=.slice a rs.length c/\∀(i:Nat) r,rs[i]? =some r->∃b o,a=some ⟨b,o,none⟩/\∀y∈kA b (o+i*4) (kf r),y∈T
def zH(T:List kC)(v:Value)(l:List Nat):Prop:=∃a c,v=.slice a l.length c/\∀(i:Nat) q,l[i]? =some q->∃b o,a=some ⟨b,o,none⟩/\kC.cell b (o+i) (kO (some q))∈T
theorem wA.more {T d:List kC}{v:Value}{rs:List jZ}(h:wA T v rs)(q:∀x∈T,x∈d):wA d v rs:=by
 obtain⟨a,c,g,j⟩:=h;exact⟨a,c,g,λi r m=>let⟨b,o,k1,k2⟩:=j i r m;⟨b,o,k1,λy s=>q _ (k2 y s)⟩⟩
theorem zH.more {T d:List kC}{v:Value}{l:List Nat}(h:zH T v l)(q:∀x∈T,x∈d):zH d v l:=by
 obtain⟨a,c,g,j⟩:=h;exact⟨a,c,g,λi r m=>let⟨b,o,k1,k2⟩:=j i r m;⟨b,o,k1,q _ k2⟩⟩
theorem wA.nil(T:List kC):wA T Nz []:=⟨none,0,rfl,λi r h=>by simp at h⟩
theorem zH.nil(T:List kC):zH T Nz []:=⟨none,0,rfl,λi r h=>by simp at h⟩
def zQ(rs:List jZ):List jZ:=rs.filter λr=>decide (r.kind≠99)
def fG(rs:List jZ):List jZ:=rs.filter λr=>decide (r.kind=99)
structure yV (qs:List Nat)(rs:List jZ):Prop where
 one:(∀r∈rs,r.kind=99)∨∀r∈rs,r.kind≠99
 raw:∀r∈rs,r.kind=99->∃v,r=cZ v/\v < qs.length
inductive yz (T:List kC)(qs:List Nat):PN->List Value->Prop
 |mk {k:Nat} {nm:ByteArray} {lit:Lt} {refs:List jZ} {unit:Int} {cf:Bool} {kids:List PN} {lv:List Value} {rv vv:Value} {a:Option Addr} {c bk o:Nat} {us:Nat->List Value} (hl:zl T lit lv) (hr:wA T rv (zQ refs))
   (hv:zH T vv ((fG refs).map λr=>qs.getD r.index.toNat 0)) (ok:yV qs refs) (hz:zQ refs=[]->rv=Nz) (ha:0 < kids.length->a=some ⟨bk,o,none⟩) (hm:∀i,i < kids.length->∀y∈kA bk (o+i*13) (us i),y∈T) (hs:∀i x,kids[i]? =some x->yz T qs x (us i)):
   yz T qs (.mk k nm lit refs unit cf kids) ([cv k,.string nm]++lv++[rv,.int .i64 unit,.bool cf,Nz,vv,.slice a kids.length c])
theorem yz.len {T:List kC}{qs:List Nat}{x:PN}{vs:List Value}(h:yz T qs x vs):vs.length=13:=by
 cases h with
 |mk hl=>simp[hl.len]
theorem yV.more {qs d:List Nat}{rs:List jZ}(h:yV qs rs)(j:qs <+:d):yV d rs:=
 ⟨h.one,λr m g=>let⟨v,h1,h2⟩:=h.raw r m g;⟨v,h1,Qw h2 j.length_le⟩⟩
theorem EJ {qs d:List Nat}{rs:List jZ}(h:yV qs rs)(hq:qs <+:d):(fG rs).map (λr=>d.getD r.index.toNat 0)=(fG rs).map λr=>qs.getD r.index.toNat 0:=by
 refine QC λr m=>?_
 obtain⟨g,j⟩:=QL.1 m;obtain⟨v,rfl,hv⟩:=h.raw r g (of_decide_eq_true j);exact zDQ
theorem yz.more {T j:List kC}{qs g:List Nat}(d:∀x∈T,x∈j)(m:qs <+:g){x:PN}{vs:List Value}(h:yz T qs x vs):yz j g x vs:=by
 induction h with
 |mk hl hr hv ok hz ha hm hk ih=>
  refine .mk (hl.more d) (hr.more d) ?_ (ok.more m) hz ha (λi q y s=>d _ (hm i q y s)) ih;rw[EJ ok m];exact hv.more d
structure zy (T:List kC)(qs:List Nat)(l:List PN)(rows:List (List Value)):Prop where
 len:rows.length=l.length
 w:∀r∈rows,r.length=13
 rd:∀(i:Nat) x r,l[i]? =some x->rows[i]? =some r->yz T qs x r
theorem zy.nil(T:List kC)(qs:List Nat):zy T qs [] []:=⟨rfl,Zs,λi x r h=>by simp at h⟩
theorem zy.more {T g:List kC}{qs d:List Nat}{l:List PN}{rows:List (List Value)}(h:zy T qs l rows)(q:∀x∈T,x∈g)(j:qs <+:d):zy g d l rows:=⟨h.len,h.w,λi x r s m=>(h.rd i x r s m).more q j⟩
theorem zy.snoc {T:List kC}{qs:List Nat}{l:List PN}{rows:List (List Value)}{x:PN}{r:List Value}(h:zy T qs l rows)(hx:yz T qs x r):zy T qs (l++[x]) (rows++[r]):=by
 refine⟨by simp[h.len],λr' s7=>?_,λi y s hy hs=>?_⟩
 .exact zEQ
 .exact zAO
theorem Bq {B:List kC}{qs:List Nat}{k:Nat}{nm:ByteArray}{lit:Lt}{refs:List jZ}{unit:Int}{cf:Bool}{kids:List PN}{lv:List Value}{rv vv sv:Value}{rows:List (List Value)}{sp:List Value}(s:ky 13 sv kids.length rows.flatten sp)(hr:zy B qs kids rows)
 (D:zl B lit lv) (A:wA B rv (zQ refs)) (C:zH B vv ((fG refs).map λr=>qs.getD r.index.toNat 0)) (ok:yV qs refs) (F:zQ refs=[]->rv=Nz:=by intro _;rfl):
 yz (ao sv rows.flatten sp++B) qs (.mk k nm lit refs unit cf kids) ([cv k,.string nm]++lv++[rv,.int .i64 unit,.bool cf,Nz,vv,sv]):=by
 have aC:∀i,i < kids.length->rows[i]? =some (rows.getD i []):=λi hi=>by
  exact zE6
 have j:∀y∈B,y∈ao sv rows.flatten sp++B:=λy hy=>QH _ hy
 have G:=D.more j;have d:=A.more j;have g:=C.more j;clear D A C;generalize E:kids.length=m at s;generalize H:rows.flatten=xs at s|-;cases s with
 |@mk bk o _ c _ _ h1 h2 h3=>
  rw[<- E];subst H;refine .mk (bk:=bk) (o:=o) (us:=λi=>rows.getD i []) G d g ok F (λ_=>rfl) (λi hi y hy=>?_) (λi x q=>?_)
  .exact zDA
  .have hi:=(Vt.1 q).1;exact(hr.rd i x _ q (aC i hi)).more j (Qg _)
 |nil=>
  have I:kids=[]:=vz E;subst I;exact .mk (bk:=0) (o:=0) (us:=λ_=>[]) G d g ok F (λh=>absurd h Zs) (λi hi=>absurd hi Zs) (λi x q=>by simp at q)
def lz:List Value:=[cv 0,.int .i64 0,.int .u64 0,.string e0,Nz]
theorem qR(B:List kC):zl B eV lz:=.mk (bk:=0) (o:=0) (us:=λ_=>[]) ⟨Zd,Zd,Zd,Zd,Zd⟩ (λh=>absurd h Zs) (λi d=>absurd d Zs) (λi x g=>by simp at g)
theorem yV.nil(qs:List Nat):yV qs []:=⟨.inl Zs,Zs⟩
def xq(T:List kC)(qs:List Nat)(v:Value)(l:List PN):Prop:=∃(a:Option Addr) (c bk o:Nat) (us:Nat->List Value),v=.slice a l.length c/\(0 < l.length->a=some ⟨bk,o,none⟩)/\(∀i,i < l.length->∀y∈kA bk (o+i*13) (us i),y∈T)/\∀i x,l[i]? =some x->yz T qs x (us i)
theorem xq.nil(T:List kC)(qs:List Nat):xq T qs Nz []:=⟨none,0,0,0,λ_=>[],rfl,λh=>absurd h Zs,λi d=>absurd d Zs,λi x h=>by simp at h⟩
theorem xq.more {T g:List kC}{qs d:List Nat}{v:Value}{l:List PN}(h:xq T qs v l)(j:∀x∈T,x∈g)(C:qs <+:d):xq g d v l:=by
 obtain⟨a,c,bk,o,us,m,q,s,A⟩:=h;exact⟨a,c,bk,o,us,m,q,λi B y E=>j _ (s i B y E),λi x D=>(A i x D).more j C⟩
theorem ns_made {B:List kC}{qs:List Nat}{l:List PN}{sv:Value}{rows:List (List Value)}{sp:List Value}(j:ky 13 sv l.length rows.flatten sp)(m:zy B qs l rows):xq (ao sv rows.flatten sp++B) qs sv l:=by
 have h:=Bq (k:=0) (nm:=e0) (unit:=0) (cf:=false) j m (qR B) (wA.nil B) (zH.nil B) (yV.nil qs);generalize g:PN.mk 0 e0 eV [] 0 false l=x at h;generalize q:([cv 0,.string e0]++lz++[Nz,.int .i64 0,.bool false,Nz,Nz,sv]:List Value)=ws at h;cases h with
 |@mk k nm lit refs unit cf kids lv rv vv a c bk o us hl s7 hv ok hz ha hm hs=>
  simp only[PN.mk.injEq]at g;obtain⟨_,_,_,_,_,_,rfl⟩:=g;have e:sv=.slice a l.length c:=by
   have d:=congrArg List.reverse q;simp only[List.reverse_append,List.reverse_cons,List.reverse_nil,QV,vr,vm]at d;exact(List.cons.inj d).1
  exact⟨a,c,bk,o,us,e,ha,hm,hs⟩
structure iU (st:ah)(us:Value)(bI:List Value)(U:List UC)(V:List ax)(T:List kC):Prop where
 rep:df st U V
 ok:st.f=none
 sl:ky 1 us U.length (U.map λu=>kO (some u.q)) bI
 bod:∀(i:Nat) u,U[i]? =some u->xq T (V.map ax.q) u.body (st.bodies.getD i [])
def gu(args ab:List ByteArray)(n:Nat):Nat:=1+args.length+ab.length+n
mutual
def nj:Nd->Nat
 |.mk _ _ _ args ab kids _=>gu args ab (jM kids)
def jM:List Nd->Nat
 |[]=>0
 |x::r=>nj x+jM r
end
def Room(st:ah)(n:Nat):Prop:=st.vars.length+n < 1073741824/\st.uses.length+n < 1073741824/\st.outer.length+n < 1073741824
def yB(a b:ah)(n:Nat):Prop:=b.vars.length<=a.vars.length+n/\b.uses.length<=a.uses.length+n/\b.outer.length<=a.outer.length+n
theorem yB.trans {a b c:ah}{n m:Nat}(h:yB a b n)(k:yB b c m):yB a c (n+m):=by
 obtain⟨h1,h2,h3⟩:=h;obtain⟨k1,k2,k3⟩:=k;exact⟨Zo,Zo,Zo⟩
theorem yB.mono {a b:ah}{n m:Nat}(h:yB a b n)(hm:n<=m):yB a b m:=by
 obtain⟨h1,h2,h3⟩:=h;exact⟨Zo,Zo,Zo⟩
theorem yB.refl(a:ah):yB a a 0:=⟨Qt _,Qt _,Qt _⟩
theorem Room.less {a b:ah}{n m:Nat}(h:Room a (n+m))(k:yB a b n):Room b m:=by
 obtain⟨h1,h2,h3⟩:=h;obtain⟨k1,k2,k3⟩:=k;exact⟨Zo,Zo,Zo⟩
theorem Room.mono {a:ah}{n m:Nat}(h:Room a n)(hm:m<=n):Room a m:=by
 obtain⟨h1,h2,h3⟩:=h;exact⟨Zo,Zo,Zo⟩
theorem Lv(a:ah)(e:Nat)(p:Int):yB a (a.wrong e p) 0:=by
 unfold ah.wrong;split <;> exact⟨Qt _,Qt _,Qt _⟩
theorem wu(unit:Nat)(arg own:Bool)(p:Int):∀(l:List ByteArray) (i:Nat) (st:ah) (env:List Nat),yB st (kP unit arg own p l i st env).1 l.length
 |[],_,st,_=>yB.refl st
 |nm::r,i,st,env=>by
  unfold kP;have d:yB st {(if(jk st.vars env nm).isSome then st.wrong 180 p else st)with vars:=st.vars++[⟨nm,unit,arg,if arg&&own then i else -1⟩]} 1:=by
   refine⟨Zs,?_,?_⟩
   .split
    .show(st.wrong 180 p).uses.length<=_;rw[CP];omega
    .show st.uses.length<=_;omega
   .split
    .show(st.wrong 180 p).outer.length<=_;rw[fp];omega
    .show st.outer.length<=_;omega
  have g:=d.trans (wu unit arg own p r (i+1) _ (env++[st.vars.length]));exact g.mono (by rw[Vz];omega)
theorem Bd(F G:List ByteArray)(st:ah)(env:List Nat)(nm:ByteArray)(u:Nat)(p:Int)(put:Bool):yB st (wC F G st env nm u p put).2 1:=by
 unfold wC;split
 .exact(yB.refl st).mono Zo
 .split
  .rename_i v _;simp only;split
   .refine⟨?_,?_,?_⟩
    .show(st.wrong 182 p).vars.length<=_;rw[dX];omega
    .show(st.uses++[(u,v)]).length<=_;simp
    .show(st.wrong 182 p).outer.length<=_;rw[fp];omega
   .exact⟨Qu _,Zs,Qu _⟩
  .split
   .exact(yB.refl st).mono Zo
   .simp only;split
    .exact(yB.refl st).mono Zo
    .exact(Lv st 181 p).mono Zo
theorem tV(a:ah)(o:Int)(n:Nat):yB a {a with outer:=a.outer++[o],args:=a.args++[n],bodies:=a.bodies++[[]]} 1:=⟨Qu _,Qu _,Zs⟩
theorem oJ(F G:List ByteArray):∀(N:Nat) (x:Nd),x.size<=N->∀st env u,yB st (jD F G x st env u).2 (nj x)/\yB st (zh F G x st env u).2 (nj x):=by
 intro N
 induction N with
 |zero=>intro x j;have:=x.size_pos;omega
 |succ N ih=>
  have g:∀l:List Nd,Nd.ap l<=N->∀st env u,yB st (kT F G l st env u).2 (jM l):=by
   intro l
   induction l with
   |nil=>intro _ st env u;rw[kT];exact yB.refl st
   |cons x r iR=>
    exact zEN
  have m:∀(s:ByteArray) (l:List Nd),Nd.ap l<=N->∀i st env u,yB st (ki F G s l i st env u).2.2 (jM l):=by
   intro s l
   induction l with
   |nil=>intro _ i st env u;rw[ki];exact yB.refl st
   |cons x r iR=>
    exact zC3
  intro x j st env u;cases x with
  |mk k s lit args ab kids p=>
  simp only[Nd.size]at j;have d:Nd.ap kids<=N:=by omega
  simp only[nj,gu];refine⟨?_,?_⟩
  .cases h:eR k s kids with
   |true=>rw[zN _ _ _ _ _ _ _ _ _ _ _ _ h];exact(m s kids d 0 st env u).mono Zo
   |false=>
    by_cases h1:k=1
    .rw[eo _ _ _ _ _ _ _ _ _ _ _ _ h h1];exact(yB.refl st).mono Zo
    by_cases h2:k=2
    .rw[ep _ _ _ _ _ _ _ _ _ _ _ _ h h2];exact(Bd F G st env s u p false).mono Zo
    by_cases h3:k=3
    .rw[et _ _ _ _ _ _ _ _ _ _ _ _ h h3];exact((Bd F G st env s u p true).trans (g kids d _ env u)).mono Zo
    by_cases h7:k=7
    .rw[eA _ _ _ _ _ _ _ _ _ _ _ _ h h7];simp only;rw[w7];have q:=g kids d (aS args ab p st env (u:Int)).1 (aS args ab p st env (u:Int)).2 st.outer.length;have A:yB st (aS args ab p st env (u:Int)).1 (1+(args.length+ab.length)):=(tV st (u:Int) args.length).trans ((wu _ _ _ _ _ _ _ _).trans (wu _ _ _ _ _ _ _ _));exact yB.mono (b:={(kT F G kids (aS args ab p st env (u:Int)).1 (aS args ab p st env (u:Int)).2 st.outer.length).2 with bodies:=_}) (A.trans q) Zo
    by_cases h8:k=8
    .rw[eB _ _ _ _ _ _ _ _ _ _ _ _ h h8];exact(g kids d st env u).mono Zo
    by_cases h9:k=9
    .rw[eC _ _ _ _ _ _ _ _ _ _ _ _ h h9];exact(g kids d st env u).mono Zo
    by_cases h6:k=6
    .rw[ez _ _ _ _ _ _ _ _ _ _ _ _ h h6];exact(g kids d st env u).mono Zo
    by_cases h5:k=5
    .rw[ew _ _ _ _ _ _ _ _ _ _ _ _ h h5];exact(g kids d st env u).mono Zo
    cases hs:jO kids with
    |true=>
     rw[yD _ _ _ _ _ _ _ _ _ _ _ _ h ⟨h1,h2,h3,h5,h6,h7,h8,h9⟩ hs];cases kids with
     |nil=>cases hs
     |cons x r=>
      simp only[Nd.ap]at d;simp only[List.tail_cons,jM];exact(g r Zo st env u).mono Zo
    |false=>rw[eu _ _ _ _ _ _ _ _ _ _ _ _ h ⟨h1,h2,h3,h5,h6,h7,h8,h9⟩ hs];exact(g kids d st env u).mono Zo
  .rw[ye];exact((wu _ _ _ _ _ _ _ _).trans ((wu _ _ _ _ _ _ _ _).trans (g kids d _ _ _))).mono Zo
theorem wk(F G:List ByteArray):∀(l:List Nd) st env u,Gr st (kT F G l st env u).2:=by
 intro l
 induction l with
 |nil=>intro st env u;rw[kT];exact Gr.refl st
 |cons x r ih=>
  intro st env u;rw[jc];exact(zq F G _ x (Qt _) st env u).1.trans (ih _ env u)
theorem sr {A:List kC}{y:Nd}{vs:List Value}(h:jN A y vs):∃(m:Nat) (q:Int) (s:Nat) (B:ByteArray) (C:Option Addr) (D E:Nat) (F:Option Addr) (G H:Nat) (I:Option Addr) (J K:Nat) (d:Option Addr) (g j:Nat),
 vs=(rN y.kind y.name m q s B C D E F G H I J K d g j y.at_):=by
 exact zCL
theorem mf {T:List kC}{qs:List Nat}{x:PN}{ws:List Value}(h:yz T qs x ws):∃(d:Nat) (g:Int) (j:Nat) (m:ByteArray) (q:Option Addr) (s A:Nat) (E:Option Addr) (F G:Nat) (H:Option Addr) (I J:Nat) (B:Option Addr) (C D:Nat),
 ws=[.int .u8 x.kind,.string x.name,.int .u8 d,.int .i64 g,.int .u64 j,.string m,.slice q s A,.slice E F G,.int .i64 x.unit,.bool x.super,Nz,.slice H I J,.slice B C D]:=by
 cases h with
 |mk hl hr hv ok hz ha hm hs=>
  obtain⟨_,_,rfl,_⟩:=hr;obtain⟨_,_,rfl,_⟩:=hv;cases hl with
  |mk Se Im qK cP=>exact⟨_,_,_,_,_,_,_,_,_,_,_,_,_,_,_,_,rfl⟩
def Bu(q n:Nat)(o:Option Nat)(i nb:Nat):UC:=⟨q,n,0,0,o,i,[],Nz,[],nb,#[],0,[],Nz,[],Nz⟩
def og(U:List UC)(o:Int):Option Nat:=if o < 0 then none else(U[o.toNat]?).map UC.q
theorem df.aF {st:ah}{U:List UC}{V:List ax}(h:df st U V){o:Int}{n:Nat}(I:-1<=o/\o < st.outer.length){q G:Nat}(Q:q∉U.map UC.q):df (st.aF o n) (U++[Bu q n (og U o) st.outer.length G]) V:=by
 have A:∀{j:Nat} {w:UC},(U++[Bu q n (og U o) st.outer.length G])[j]? =some w->(j < st.outer.length/\U[j]? =some w)∨(j=st.outer.length/\w=Bu q n (og U o) st.outer.length G):=λ{j w} d=>by
  rw[Vi]at d;split at d
  .rename_i H;exact .inl ⟨by rw[<- h.ul];exact H,d⟩
  .rename_i H;have:=(Vt.1 d).1;simp only[Q9]at this;have IH:=h.ul;have e:j - U.length=0:=by omega
   rw[e]at d;exact .inr ⟨Zo,by simpa using d.symm⟩
 have g:∀{j:Nat},j < st.outer.length->(U++[Bu q n (og U o) st.outer.length G])[j]? =U[j]?:=λ{j} d=>Vj (by rw[h.ul];exact d)
 have tS:=h.wf.aF (n:=n) I;have J:(st.aF o n).outer.length=st.outer.length+1:=by unfold ah.aF;simp
 refine⟨tS,by rw[Vy,J,h.ul];rfl,h.vl,?_,λj w d=>?_,λj w d=>?_,λj w d=>?_,λj w d=>?_,λv x y s D=>?_⟩
 .rw[QB,QW];refine⟨h.inj,Zs,λa M b N=>?_⟩;rw[List.map_singleton,QU]at N
  rintro rfl
  rw[N]at M;exact Q M
 .rcases A d with⟨h1,h2⟩|⟨rfl,rfl⟩
  .have:=h.un j w h2;show w.args=(st.args++[n]).getD j 0/\_;rw[dB (by rw[h.wf.al];exact h1)];exact this
  .refine⟨?_,rfl,rfl,rfl,rfl,rfl,rfl⟩;show n=(st.args++[n]).getD st.outer.length 0;rw[Vh,<- h.wf.al,Vl (Qt _),Qz];rfl
 .rcases A d with⟨h1,h2⟩|⟨rfl,rfl⟩
  .have e:(st.aF o n).outer.getD j (-1)=st.outer.getD j (-1):=dB h1;rw[e,h.ou j w h2];have H:=h.wf.fu j;split
   .rfl
   .rw[g Zo]
  .have e:(st.aF o n).outer.getD st.outer.length (-1)=o:=by
    show(st.outer++[o]).getD st.outer.length (-1)=o;exact zC7
   rw[e];show og U o=_;by_cases hn:o < 0
   .rw[if_pos hn];unfold og;rw[if_pos hn]
   .rw[if_neg hn,g Zo];unfold og;rw[if_neg hn]
 .have ht:(st.aF o n).ab j=st.ab j:=rfl;rw[ht];rcases A d with⟨h1,h2⟩|⟨rfl,rfl⟩
  .exact h.tm j w h2
  .have T:st.ab st.outer.length=[]:=by
    unfold ah.ab;rw[V7];intro v K;have K:=QS.1 K;obtain⟨x,s⟩:∃x,st.vars[v]? =some x:=⟨_,Zg K⟩;have:=(h.wf.vu v x s).1;have e:st.af v=x.unit:=by unfold ah.af;rw[s];rfl
    rw[e];simp only[vG,decide_eq_true_eq,not_and];intro e2;omega
   rw[T];exact⟨rfl,.nil⟩
 .rcases A d with⟨h1,h2⟩|⟨rfl,rfl⟩
  .obtain⟨m,E,L,F,k4⟩:=h.nd j w h2;refine⟨m,E,L,λp Z=>?_,λi z a O=>?_⟩
   .obtain⟨⟨i,z,B,C⟩,k7⟩:=F p Z;exact⟨⟨i,z,by rw[g (by rw[<- h.ul];exact(Vt.1 B).1)];exact B,C⟩,k7⟩
   .rw[h.wf.Es I];rcases A O with⟨B,C⟩|⟨rfl,rfl⟩
    .exact k4 i z a C
    .have S:st.bi j (st.outer.length,a)=false:=by
      unfold ah.bi;rw[List.any_eq_false];intro x s;simp only[vG,decide_eq_true_eq,not_and,XE]
      rintro⟨e1,_⟩
      have hu:=(h.wf.uu x s).2;obtain⟨y,D⟩:∃y,st.vars[x.2]? =some y:=⟨_,Zg hu⟩;have:=(h.wf.vu _ y D).1;have e:st.af x.2=y.unit:=by unfold ah.af;rw[D];rfl
      omega
     rw[S];constructor
     .intro Y;obtain⟨c,W⟩:=X8.1 Y;obtain⟨⟨i,z,B,C⟩,_⟩:=F _ (Bp W);exact absurd (QO.2 ⟨z,Zv B,C.symm⟩) Q
     .intro X;cases X
  .refine⟨[],.nil,Zs,Zs,λi z a O=>?_⟩;rw[h.wf.Es I,h.wf.W0 _ (Qt _)];simp[jE]
 .obtain⟨⟨z,E,L⟩,F⟩:=h.vn v x y s D;exact⟨⟨z,by rw[g (by rw[<- h.ul];exact(Vt.1 E).1)];exact E,L⟩,F⟩
theorem df.body {st:ah}{U:List UC}{V:List ax}(h:df st U V){i:Nat}{u:UC}(C:U[i]? =some u)(A:Value)(H:List PN):df {st with bodies:=st.bodies.set i H} (U.set i {u with body:=A}) V:=by
 have F:=zp (w':={u with body:=A}) C rfl;have G:=Fg F;have B:∀{j:Nat} {w:UC},(U.set i {u with body:=A})[j]? =some w->∃w0,U[j]? =some w0/\w={w0 with body:=w.body}:=λ{j w} d=>by
  rcases mC C d with⟨rfl,rfl⟩|⟨_,g⟩
  .exact⟨u,C,rfl⟩
  .exact⟨w,g,rfl⟩
 have cM:∀{j:Nat} {w:UC},U[j]? =some w->∃w',(U.set i {u with body:=A})[j]? =some w'/\w'.q=w.q:=λ{j w} d=>by
  have:=G j;rw[d]at this;cases e:(U.set i {u with body:=A})[j]? with
  |none=>rw[e]at this;cases this
  |some w'=>rw[e]at this;exact⟨w',rfl,XC this⟩
 have I:∀{j:Nat} {w:UC},(U.set i {u with body:=A})[j]? =some w->∃w',U[j]? =some w'/\w.q=w'.q:=λ{j w} d=>by
  obtain⟨w0,s,g⟩:=B d;exact⟨w0,s,by rw[g]⟩
 refine⟨⟨h.wf.al,by show(st.bodies.set i H).length=_;rw[Q8];exact h.wf.bl,h.wf.low,h.wf.vu,h.wf.uu⟩,by rw[Q8];exact h.ul,h.vl,by rw[F];exact h.inj,λj w d=>?_,λj w d=>?_,λj w d=>?_,λj w d=>?_,λv x y K L=>?_⟩
 .obtain⟨w0,s,g⟩:=B d;rw[g];exact h.un j w0 s
 .rw[G];obtain⟨w0,s,g⟩:=B d;rw[g];exact h.ou j w0 s
 .obtain⟨w0,s,g⟩:=B d;rw[g];exact h.tm j w0 s
 .obtain⟨w0,s,g⟩:=B d;obtain⟨m,D,E,k3,M⟩:=h.nd j w0 s;rw[g];refine⟨m,D,E,λp hp=>?_,λa z b J=>?_⟩
  .exact zE0
  .obtain⟨z',k8,k9⟩:=I J;rw[k9];exact M a z' b k8
 .obtain⟨⟨z,D,E⟩,k3⟩:=h.vn v x y K L;obtain⟨z',k8,k9⟩:=cM D;exact⟨⟨z',k8,E.trans k9.symm⟩,k3⟩
theorem wk_body {U:List UC}{V:List ax}{i:Nat}{u:UC}(h:U[i]? =some u):∃R,(WK U V).Perm (kA u.q 8 [u.body]++R)/\∀d,(WK (U.set i {u with body:=d}) V).Perm (kA u.q 8 [d]++R):=by
 have g:∀d,({u with body:=d}:UC).atoms.Perm (kA u.q 8 [d]++(.own u.q 9::(kA u.q 0 [.int .i64 u.args,.int .i64 u.locals,.int .i64 u.ay,kO u.outer,.int .i64 u.num,u.tv,.map (some u.nb),u.cv]++(ao u.tv (u.ab.map λb=>kO (some b)) u.lM++(ao u.cv (u.dZ.flatMap ja) u.cC++[.obj u.nb (.map u.es u.cl)]))))):=λd=>by
  unfold UC.atoms UC.row;have e:kA u.q 0 [.int .i64 u.args,.int .i64 u.locals,.int .i64 u.ay,kO u.outer,.int .i64 u.num,u.tv,.map (some u.nb),u.cv,d]=kA u.q 0 [.int .i64 u.args,.int .i64 u.locals,.int .i64 u.ay,kO u.outer,.int .i64 u.num,u.tv,.map (some u.nb),u.cv]++kA u.q 8 [d]:=rfl;simp only;rw[e,vm,<- vr,<- vm];exact zCN
 obtain⟨R,j,m⟩:=G7 (V:=V) h (g u.body);exact⟨R,j,λd=>m _ _ (g d)⟩
def NX {α:Type}(p:α->Prop):List α->Prop
 |[]=>True
 |x::r=>p x/\NX p r
theorem NX.mem {α:Type}{p:α->Prop}:∀{l:List α},NX p l->∀x∈l,p x
 |x::r,h,y,hy=>by
  rcases QI.1 hy with rfl|hy
  .exact h.1
  .exact NX.mem h.2 y hy
theorem VC.DU {P:Program}{n:Nat}{Γ:Env}{H:SH}{Q:Exit->Env->SH->Prop}{m:List (List RO)}{q:List Nat}
 (h:NX (λrs=>∃j d f xs g,rs=j++⟨d,none,.call f xs⟩::g/\NX (λS=>VO P n S Γ H (λ_ _ _=>False) λs H'=>VO P n [⟨d,none,.call f xs⟩] s H' (λB _ E=>Q (.panic B) [] E) (λ_ _=>False)) (Dw (dN xs) d.toList [] (j.map (λx=>(x,false))++g.map (λx=>(x,true))))) m):VC P n (.draw m q) Γ H Q:=
 VC.Tp λrs A=>by
  obtain⟨j,d,f,xs,g,C,D⟩:=h.mem rs A;exact⟨j,d,f,xs,g,C,D.mem⟩
theorem lA {d:Value}{l:List Nat}{sp:List Value}{n:Nat}(h:n=l.length)(g:ky 1 d n (l.map λb=>kO (some b)) sp):zH (ao d (l.map λb=>kO (some b)) sp) d l:=by
 generalize s:(l.map λb=>kO (some b))=xs at g;cases g with
 |@mk bk o _ c _ _ h1 h2 h3=>
  subst s;rw[h];refine⟨_,c,rfl,λi q m=>⟨bk,o,rfl,?_⟩⟩;simp only[ao,ku];exact Zw _ (kJ.2 ⟨i,kO (some q),by rw[Vu,m];rfl,rfl⟩)
 |nil=>
  have j:l=[]:=vz h.symm;subst j;exact zH.nil _
theorem L4(a n:Nat):fG ((List.range' a n).map cZ)=(List.range' a n).map cZ:=by
 unfold fG;rw[V8];intro r d;obtain⟨v,_,rfl⟩:=QO.1 d;rfl
theorem Gx(a n:Nat):zQ ((List.range' a n).map cZ)=[]:=by
 unfold zQ;rw[V7];intro r d;obtain⟨v,_,rfl⟩:=QO.1 d;simp[cZ]
theorem L5 {qs:List Nat}{a n:Nat}(h:a+n<=qs.length):yV qs ((List.range' a n).map cZ):=by
 refine⟨.inl λr d=>?_,λr d _=>?_⟩
 .obtain⟨v,_,rfl⟩:=QO.1 d;rfl
 .obtain⟨v,g,rfl⟩:=QO.1 d;have:=QT.1 g;exact⟨v,rfl,Zo⟩
theorem Mz {qs:List Nat}{a n:Nat}(h:a+n<=qs.length):((List.range' a n).map cZ).map (λr=>qs.getD r.index.toNat 0)=(qs.drop a).take n:=by
 apply V0;intro i;rw[Vu,Vu,List.getElem?_take,Vo];by_cases hi:i < n
 .rw[List.getElem?_range' hi,if_pos hi];have:a+i < qs.length:=by omega
  rw[Zg this];show some (qs.getD ((a+1*i:Nat):Int).toNat 0)=_;rw[vX,Nat.one_mul,Vh,Zg this];rfl
 .rw[if_neg hi,Vp (by simpa using hi)];rfl
theorem drop_take {qs d:List Nat}{a n:Nat}(h:qs <+:d)(hl:qs.length=a+n):(d.drop a).take n=qs.drop a:=by
 obtain⟨t,rfl⟩:=h;rw[List.drop_append_of_le_length Zo,List.take_append_of_le_length (by rw[Q0];omega),Ql (by rw[Q0];omega)]
theorem eW {A:List kC}{y:Nd}{vs:List Value}(h:jN A y vs):∃(B:Nat) (C:Int) (D:Nat) (E:ByteArray) (F:Option Addr) (G H:Nat) (d:Option Addr) (j:Nat) (g:Option Addr) (m:Nat) (q:Option Addr) (c3 bk o:Nat) (us:Nat->List Value),
 vs=(rN y.kind y.name B C D E F G H d y.args.length j g y.ab.length m q y.kids.length c3 y.at_)/\
 zl A y.lit [.int .u8 B,.int .i64 C,.int .u64 D,.string E,.slice F G H]/\cO A (.slice d y.args.length j) y.args/\cO A (.slice g y.ab.length m) y.ab/\y.kind < 256/\
 (0 < y.kids.length->q=some ⟨bk,o,none⟩)/\(∀i,i < y.kids.length->∀z∈kA bk (o+i*11) (us i),z∈A)/\(∀i x,y.kids[i]? =some x->jN A x (us i))/\y.kids.length<=c3:=by
 cases h with
 |@mk k s lit args ab kids p lv av tv a c bk o us wf hl bD bB ha hm hr rV=>
  have J:=bD;have I:=bB;obtain⟨d,j,rfl,_⟩:=bD;obtain⟨g,m,rfl,_⟩:=bB;have K:=hl;cases hl with
  |mk Se Im qK cP=>exact⟨_,_,_,_,_,_,_,d,j,g,m,a,c,bk,o,us,rfl,K,J,I,wf.kind,ha,hm,hr,rV⟩
theorem dS {s:ByteArray}:kB s=[115,117,112,101,114]↔s=⟨#[115,117,112,101,114]⟩:=by
 constructor
 .intro h;have d:kB s=kB ⟨#[115,117,112,101,114]⟩:=h.trans Zd;exact jQ d
 .rintro rfl;decide
section
variable {P:Program} {n:Nat} {rs:List RO} {Γ:Env} {H:SH} {Z:List PanicEntry->Env->SH->Prop} {K:Env->SH->Prop} {d:Option Nat}
theorem Yd {size len cap l h b o:Nat}{x C s:Operand}{B A:IntKind}{q m:Int}(J:ev Γ x=some (.slice (some ⟨b,o,none⟩) len cap))(D:ev Γ C=some (.int B q))(j:ev Γ s=some (.int A m))(F:q=(l:Int))(E:m=(h:Int))(hr:l<=h/\h<=cap)
 (k:VO P n rs (aq d (.slice (some ⟨b,if cap=l then o else o+l*size,none⟩) (h - l) (cap - l)) Γ) H Z K):VO P n (⟨d,none,.sL size x (some C) (some s) none⟩::rs) Γ H Z K:=by
 subst F E;refine VO.pure rfl (λρ g=>?_) k;have G:bound (Value.int A (h:Int)) cap=some h:=by simp[bound];omega
 have I:bound (Value.int B (l:Int)) h=some l:=by simp[bound];omega
 simp[kW,g _ _ J,g _ _ D,g _ _ j,y8,G,I,wY]
end
def jJ(n:Nat):Nat:=match n with|3=>0|4=>0|5=>2|_=>1
def lS(n:Nat):Nat:=match n with|2=>3|4=>1|5=>3|_=>2
theorem Fe {n:Nat}(d:n=1∨n=2∨n=3∨n=4){l:List Nd}(h:dw n l=true):l.length=lS n:=by
 rcases d with rfl|rfl|rfl|rfl
 all_goals
  unfold dw at h;simp only at h;split at h
  .rfl
  .cases h
theorem fit_of {n:Nat}(g:n=1∨n=2∨n=3∨n=4){l:List Nd}(d:l.length=lS n)(h:∀i y,jJ n<=i->l[i]? =some y->jf y=true):dw n l=true:=by
 rcases g with rfl|rfl|rfl|rfl
 .match l,d with
  |[a,b],_=>exact h 1 b Zd rfl
 .match l,d with
  |[a,b,c],_=>show(jf b&&jf c)=true;rw[h 1 b Zd rfl,h 2 c Zd rfl];rfl
 .match l,d with
  |[a,b],_=>show(jf a&&jf b)=true;rw[h 0 a Zd rfl,h 1 b Zd rfl];rfl
 .match l,d with
  |[a],_=>exact h 0 a Zd rfl
theorem Ff {n:Nat}(s:n=1∨n=2∨n=3∨n=4){l:List Nd}{i:Nat}{y:Nd}(q:jJ n<=i)(g:l[i]? =some y)(j:jf y=false):dw n l=false:=by
 cases e:dw n l with
 |false=>rfl
 |true=>
  exfalso;have m:=Fe s e;have h:=(Vt.1 g).1;rcases s with rfl|rfl|rfl|rfl
  .match l,m,e,g,h with
   |[a,b],_,e,g,h=>
    simp only[Vz,Q7]at h;simp only[jJ]at q;obtain rfl:i=1:=by omega
    obtain rfl:b=y:=by simpa using g
    have d:jf b=true:=e;rw[j]at d;cases d
  .match l,m,e,g,h with
   |[a,b,c],_,e,g,h=>
    have d:(jf b&&jf c)=true:=e;simp only[Vz,Q7]at h;simp only[jJ]at q;obtain rfl|rfl:i=1∨i=2:=by omega
    .obtain rfl:b=y:=by simpa using g
     rw[j]at d;cases d
    .obtain rfl:c=y:=by simpa using g
     rw[j,Bool.and_false]at d;cases d
  .match l,m,e,g,h with
   |[a,b],_,e,g,h=>
    have d:(jf a&&jf b)=true:=e;simp only[Vz,Q7]at h;obtain rfl|rfl:i=0∨i=1:=by omega
    .obtain rfl:a=y:=by simpa using g
     rw[j]at d;cases d
    .obtain rfl:b=y:=by simpa using g
     rw[j,Bool.and_false]at d;cases d
  .match l,m,e,g,h with
   |[a],_,e,g,h=>
    simp only[Vz,Q7]at h;obtain rfl:i=0:=by omega
    obtain rfl:a=y:=by simpa using g
    have d:jf a=true:=e;rw[j]at d;cases d
theorem x7(s:ByteArray):jW s<=5:=by
 unfold jW
 repeat' split
 all_goals omega
theorem TZ {l:List Nd}(h:dw 5 l=true):l.length=3/\∃b,l[2]? =some b/\b.kind=7/\b.args.length=1:=by
 match l,h with
 |[_,_,b],h=>
  have e:(decide (b.kind=7)&&decide (b.args.length=1))=true:=h;rw[vG,decide_eq_true_eq,decide_eq_true_eq]at e;exact⟨rfl,b,rfl,e.1,e.2⟩
theorem A7 {s:ByteArray}{kids:List Nd}(h:dw (jW s) kids=true){i:Nat}(hi:i < kids.length):cY s i=(decide (jJ (jW s)<=i)&&decide (i < lS (jW s))):=by
 have g:=x7 s;unfold cY;generalize jW s=n at h g;have q:n=0∨n=1∨n=2∨n=3∨n=4∨n=5:=by omega
 have d:∀m:Nat,m=1∨m=2∨m=3∨m=4->n=m->kids.length=lS m:=λm j e=>by subst e;exact Fe j h
 rcases q with rfl|rfl|rfl|rfl|rfl|rfl
 .cases h
 .have:=d 1 Zs rfl;simp only[lS,jJ]at this|-;rw[<- Bool.decide_and];exact decide_eq_decide.2 Zo
 .have:=d 2 Zs rfl;simp only[lS,jJ]at this|-;rw[<- Bool.decide_and];exact decide_eq_decide.2 Zo
 .have:=d 3 Zs rfl;simp only[lS,jJ]at this|-;rw[<- Bool.decide_and];exact(Zt Zo).symm
 .have:=d 4 Zs rfl;simp only[lS,jJ]at this|-;rw[<- Bool.decide_and];exact(Zt Zo).symm
 .have:=(TZ h).1;simp only[lS,jJ];rw[<- Bool.decide_and];exact decide_eq_decide.2 Zo
theorem Cc {x:Nd}(h:jf x=true):x.kind=7/\x.args.length=0:=by
 unfold jf at h
 rwa [vG,decide_eq_true_eq,decide_eq_true_eq]at h
def okK(k:Nat)(kids:List Nd):Bool:=(!decide (k=1∨k=2)||decide (kids.length=0))&&(!decide (k=5)||decide (0 < kids.length))&&decide (1<=k/\k<=9)&&(!decide (k=4)||decide (0 < kids.length))
mutual
def Xb:Nd->Bool
 |.mk k _ lit _ _ kids _=>okK k kids&&decide (lit.size<=274877906944)&&ss kids
def ss:List Nd->Bool
 |[]=>true
 |x::r=>Xb x&&ss r
end
theorem oe {x:Nd}:∀{l:List Nd},ss l=true->x∈l->Xb x=true:=by
 intro l
 induction l with
 |nil=>intro _ h;cases h
 |cons y r ih=>
  intro h hx;simp only[ss,vG]at h;exact zDZ
theorem je(unit:Nat)(arg own:Bool)(p:Int):∀(l:List ByteArray) (i:Nat) (st:ah) (env:List Nat),(kP unit arg own p l i st env).1.outer=st.outer/\(kP unit arg own p l i st env).1.args=st.args/\(kP unit arg own p l i st env).1.bodies=st.bodies/\(kP unit arg own p l i st env).1.vars.length=st.vars.length+l.length
 |[],_,st,_=>⟨rfl,rfl,rfl,rfl⟩
 |nm::r,i,st,env=>by
  rw[kP];obtain⟨g,h,j,m⟩:=je unit arg own p r (i+1) {(if(jk st.vars env nm).isSome then st.wrong 180 p else st)with vars:=st.vars++[⟨nm,unit,arg,if arg&&own then i else -1⟩]} (env++[st.vars.length]);have d:(if(jk st.vars env nm).isSome then st.wrong 180 p else st).outer=st.outer/\(if(jk st.vars env nm).isSome then st.wrong 180 p else st).args=st.args/\(if(jk st.vars env nm).isSome then st.wrong 180 p else st).bodies=st.bodies:=by
   split
   .unfold ah.wrong;split <;> exact⟨rfl,rfl,rfl⟩
   .exact⟨rfl,rfl,rfl⟩
  refine⟨g.trans d.1,h.trans d.2.1,j.trans d.2.2,?_⟩;rw[m,Vz];simp only[Vy,Q9];omega
theorem gz(unit:Nat)(arg own:Bool)(p:Int):∀(l:List ByteArray) (i:Nat) (st:ah) (env:List Nat),(∀v∈env,v < st.vars.length)->∀v∈(kP unit arg own p l i st env).2,v < (kP unit arg own p l i st env).1.vars.length/\((v∈env/\(kP unit arg own p l i st env).1.af v=st.af v)∨(kP unit arg own p l i st env).1.af v=unit)
 |[],_,st,env,h=>λv g=>⟨h v g,.inl ⟨g,rfl⟩⟩
 |nm::r,i,st,env,h=>by
  intro v g;rw[kP]at g|-;have d:({(if(jk st.vars env nm).isSome then st.wrong 180 p else st)with vars:=st.vars++[⟨nm,unit,arg,if arg&&own then i else -1⟩]}:ah).vars.length=st.vars.length+1:=by simp
  obtain⟨j,m⟩:=gz unit arg own p r (i+1) {(if(jk st.vars env nm).isSome then st.wrong 180 p else st)with vars:=st.vars++[⟨nm,unit,arg,if arg&&own then i else -1⟩]} (env++[st.vars.length]) (λw q=>by
   rw[d];rcases QG.1 q with h'|h'
   .have:=h w h';omega
   .rw[QU.1 h'];omega) v g
  refine⟨j,?_⟩;rcases m with⟨h3,h4⟩|h3
  .rcases QG.1 h3 with h5|h5
   .refine .inl ⟨h5,h4.trans ?_⟩;unfold ah.af;simp only;rw[Vj (h v h5)]
   .refine .inr (h4.trans ?_);rw[QU.1 h5];unfold ah.af;simp
  .exact .inr h3
mutual
def de(p:Nat->Bool):PN->Bool
 |.mk _ _ _ rs _ _ kids=>(rs.all λr=>!decide (r.kind=99)||p r.index.toNat)&&wI p kids
def wI(p:Nat->Bool):List PN->Bool
 |[]=>true
 |x::r=>de p x&&wI p r
end
mutual
theorem mr {p q:Nat->Bool}(h:∀v,p v=true->q v=true):∀x:PN,de p x=true->de q x=true
 |.mk k s l rs u b kids,hx=>by
  simp only[de,vG,vg,vT]at hx|-;exact⟨λr d=>(hx.1 r d).imp_right (h _),eY h kids hx.2⟩
theorem eY {p q:Nat->Bool}(h:∀v,p v=true->q v=true):∀l:List PN,wI p l=true->wI q l=true
 |[],_=>rfl
 |x::r,hx=>by
  simp only[wI,vG]at hx|-;exact⟨mr h x hx.1,eY h r hx.2⟩
end
theorem Jn {p:Nat->Bool}:∀{l:List PN},(∀x∈l,de p x=true)->wI p l=true
 |[],_=>rfl
 |x::r,h=>by
  simp only[wI,vG];exact⟨h x Zs,Jn λy d=>h y (by simp[d])⟩
theorem sj {p:Nat->Bool}:∀{l:List PN},wI p l=true->∀x∈l,de p x=true
 |y::r,h,x,hx=>by
  simp only[wI,vG]at h;rcases QI.1 hx with rfl|hx
  .exact h.1
  .exact sj h.2 x hx
def nw(st:ah)(i v:Nat):Bool:=decide (v < st.vars.length)&&(decide (st.af v=i)||decide ((i,v)∈st.uses))
theorem iK {a b:ah}(h:Gr a b)(i v:Nat)(d:nw a i v=true):nw b i v=true:=by
 unfold nw at d|-;simp only[vG,vT,decide_eq_true_eq]at d|-;obtain⟨g,j⟩:=d;obtain⟨t,m⟩:=h.vars;have q:b.af v=a.af v:=by
  unfold ah.af;rw[<- m,Vj g]
 refine⟨Qw g h.vars.length_le,?_⟩;rw[q];exact j.imp_right λk=>h.uses.subset k
structure Ph (st:ah):Prop where
 wf:Wf st
 us:∀q∈st.uses,st.af q.2∈st.line q.1
 bd:∀(i:Nat) l,st.bodies[i]? =some l->wI (nw st i) l=true
def mP(st:ah)(env:List Nat)(u:Nat):Prop:=∀v∈env,v < st.vars.length/\st.af v∈st.line u
theorem Ph.setF {st:ah}(h:Ph st)(f:Option (Nat×Int)):Ph {st with f:=f}:=⟨⟨h.wf.al,h.wf.bl,h.wf.low,h.wf.vu,h.wf.uu⟩,h.us,h.bd⟩
theorem Ph.wrong {st:ah}(h:Ph st)(e:Nat)(p:Int):Ph (st.wrong e p):=by
 unfold ah.wrong;split
 .exact h.setF _
 .exact h
theorem Ph.aX {st:ah}(h:Ph st){x:yA}(s:x.unit < st.outer.length)(j:-1<=x.own/\x.own < st.args.getD x.unit 0):Ph (st.aX x):=
 ⟨h.wf.aX s j,λq d=>by
   rw[dT st x (h.wf.uu q d).2];exact h.us q d,λi l g=>eY (λv m=>iK (Fi st [x]) i v m) l (h.bd i l g)⟩
theorem Ph.aF {st:ah}(h:Ph st){o:Int}{n:Nat}(g:-1<=o/\o < st.outer.length):Ph (st.aF o n):=
 ⟨h.wf.aF g,λq j=>by
   rw[h.wf.sf g _ (h.wf.uu q j).1];exact h.us q j,λi l d=>by
   have d:(st.bodies++[[]])[i]? =some l:=d;rw[Vi]at d;split at d
   .exact eY (λv m=>iK (M0 st o n) i v m) l (h.bd i l d)
   .have:=(Vt.1 d).1;simp only[Q9]at this;have e:i - st.bodies.length=0:=by omega
    rw[e]at d;obtain rfl:[]=l:=by simpa using d
    rfl⟩
theorem Ph.use {st:ah}(h:Ph st){u v:Nat}(j:u < st.outer.length)(m:v < st.vars.length)(d:st.af v∈st.line u):Ph (st.use u v):=
 ⟨h.wf.use j m,λq g=>by
   have g:q∈st.uses++[(u,v)]:=g;rcases QG.1 g with k|k
   .exact h.us q k
   .rw[QU.1 k];exact d,λi l d=>eY (λw s=>iK (Fh st [(u,v)]) i w s) l (h.bd i l d)⟩
theorem Ph.body {st:ah}(h:Ph st)(i:Nat){l:List PN}(q:wI (nw st i) l=true):Ph {st with bodies:=st.bodies.set i l}:=
 ⟨⟨h.wf.al,by show(st.bodies.set i l).length=_;rw[Q8];exact h.wf.bl,h.wf.low,h.wf.vu,h.wf.uu⟩,h.us,λj m g=>by
   have d:(st.bodies.set i l)[j]? =some m:=g;clear g;rw[Vw]at d;by_cases e:i=j
   .subst e;rw[if_pos rfl]at d;split at d
    .obtain rfl:l=m:=by simpa using d
     exact q
    .cases d
   .rw[if_neg e]at d;exact h.bd j m d⟩
theorem line_f {st d:ah}(h:d.outer=st.outer)(u:Nat):d.line u=st.line u:=by unfold ah.line;rw[h]
theorem nE(a:ah)(c:Bool)(x:yA)(p:Int):({(if c=true then a.wrong 180 p else a)with vars:=a.vars++[x]}:ah)=(if c=true then a.wrong 180 p else a).aX x:=by
 unfold ah.aX;split
 .rw[dX]
 .rfl
theorem mo(unit:Nat)(arg own:Bool)(p:Int):∀(l:List ByteArray) (i:Nat) (st:ah) (env:List Nat),Ph st->unit < st.outer.length->((arg&&own)=true->i+l.length<=st.args.getD unit 0)->mP st env unit->
 Ph (kP unit arg own p l i st env).1/\mP (kP unit arg own p l i st env).1 (kP unit arg own p l i st env).2 unit
 |[],_,st,env,h,_,_,he=>⟨h,he⟩
 |nm::r,i,st,env,h,hu,ha,he=>by
  rw[kP,nE];obtain⟨s,q⟩:∃s,s=(if(jk st.vars env nm).isSome=true then st.wrong 180 p else st):=⟨_,rfl⟩;have F:Ph s/\s.outer=st.outer/\s.args=st.args/\s.vars=st.vars:=by
   rw[q];split
   .refine⟨h.wrong _ _,fp _ _ _,?_,dX _ _ _⟩;unfold ah.wrong;split <;> rfl
   .exact⟨h,rfl,rfl,rfl⟩
  obtain⟨J,A,B,g⟩:=F;rw[<- q];rw[Vz]at ha;have K:∀t:ah,Ph t->unit < t.outer.length->unit∈t.line unit:=λt H G=>by rw[H.wf.line Zo];exact QK ..
  have d:(s.aX ⟨nm,unit,arg,if(arg&&own)=true then i else -1⟩).outer=st.outer:=A;have m:Ph (s.aX ⟨nm,unit,arg,if(arg&&own)=true then i else -1⟩):=by
   refine J.aX (by rw[A];exact hu) ?_;rw[B];simp only;split
   .rename_i c;have:=ha c;omega
   .omega
  refine mo unit arg own p r (i+1) _ _ m (by rw[d];exact hu) (λc=>?_) (λv I=>?_)
  .have:=ha c;show i+1+r.length<=s.args.getD unit 0;rw[B];omega
  .have G:(s.aX ⟨nm,unit,arg,if(arg&&own)=true then i else -1⟩).vars.length=st.vars.length+1:=by
    show(s.vars++[_]).length=_;rw[Vy,g];rfl
   rcases QG.1 I with h1|h1
   .obtain⟨C,D⟩:=he v h1;refine⟨Zo,?_⟩;rw[dT s _ (by rw[g];exact C)];have j:s.af v=st.af v:=by unfold ah.af;rw[g]
    have E:(s.aX ⟨nm,unit,arg,if(arg&&own)=true then i else -1⟩).line unit=st.line unit:=line_f d unit;rw[j,E];exact D
   .rw[QU.1 h1];refine⟨Zo,?_⟩;have j:(s.aX ⟨nm,unit,arg,if(arg&&own)=true then i else -1⟩).af st.vars.length=unit:=by
     rw[<- g];unfold ah.af ah.aX;simp
    rw[j];exact K _ m (by rw[d];exact hu)
theorem D4 {vs:List yA}{env:List Nat}{nm:ByteArray}{v:Nat}(h:jk vs env nm=some v):v∈env:=by
 have:=List.mem_of_find?_eq_some h;simpa using this
theorem x5(s:ByteArray):wV s < 5:=by
 unfold wV
 repeat' split
 all_goals omega
theorem Xp(F G:List ByteArray){st:ah}{env:List Nat}{u:Nat}(nm:ByteArray)(p:Int)(put:Bool)(h:Ph st)(B:u < st.outer.length)(q:mP st env u):
 Ph (wC F G st env nm u p put).2/\((wC F G st env nm u p put).1.kind=99->nw (wC F G st env nm u p put).2 u (wC F G st env nm u p put).1.index.toNat=true):=by
 unfold wC;split
 .refine⟨h,λk=>?_⟩;have:=x5 nm;simp only at k;omega
 .split
  .rename_i v C;obtain⟨d,m⟩:=q v (D4 C);have j:Ph (st.use u v):=h.use B d m;have g:∀s:ah,s.vars=st.vars->nw {s with uses:=st.uses++[(u,v)]} u v=true:=λs A=>by
    unfold nw;simp only[vG,vT,decide_eq_true_eq];exact⟨by rw[A];exact d,.inr Zs⟩
   refine⟨?_,λ_=>?_⟩
   .simp only;split
    .have e:({st.wrong 182 p with uses:=st.uses++[(u,v)]}:ah)={st.use u v with f:=(st.wrong 182 p).f}:=by
      unfold ah.wrong ah.use;split <;> rfl
     rw[e];exact j.setF _
    .exact j
   .show nw _ u ((v:Int)).toNat=true;rw[vX];simp only;split
    .exact g _ (dX _ _ _)
    .exact g _ rfl
  .split
   .exact⟨h,λk=>by simp at k⟩
   .refine⟨?_,λk=>by simp at k⟩;simp only;split
    .exact h
    .exact h.wrong _ _
theorem mP.gr {a b:ah}{env:List Nat}{u:Nat}(h:mP a env u)(g:Gr a b)(m:Wf a)(B:Wf b)(D:u < a.outer.length):mP b env u:=λv E=>by
 obtain⟨j,A⟩:=h v E;refine⟨Qw j g.vars.length_le,?_⟩;have q:b.af v=a.af v:=by
  obtain⟨t,d⟩:=g.vars;unfold ah.af;rw[<- d,Vj j]
 have s:∀w:Nat,w < a.outer.length->b.line w=a.line w:=by
  intro w
  induction w using Nat.strongRecOn with
  |_ w ih=>
   intro F;have C:b.outer.getD w (-1)=a.outer.getD w (-1):=by
    obtain⟨t,d⟩:=g.outer;rw[<- d,Vh,Vh,Vj F]
   have hl:=g.outer.length_le;rw[B.line Zo,m.line Zo,C]
   congr 1
   split
   .rfl
   .have:=m.fu w;exact ih _ Zo Zo
 rw[q,s u D];exact A
theorem L3 {p:Nat->Bool}(b:Bool){l:List PN}(h:wI p l=true):wI p (wL b l)=true:=by
 cases l with
 |nil=>rfl
 |cons x r=>
  simp only[wI,vG]at h;simp only[wL,wI,vG];refine⟨h.1,Jn λy d=>?_⟩;obtain⟨z,g,rfl⟩:=QO.1 d;have:=sj h.2 z g;cases z;exact this
theorem RB {p:Nat->Bool}{a n:Nat}(h:∀v,a<=v->v < a+n->p v=true):((List.range' a n).map cZ).all (λr=>!decide (r.kind=99)||p r.index.toNat)=true:=by
 rw[vg];intro r d;obtain⟨v,g,rfl⟩:=QO.1 d;have:=QT.1 g;show(!decide ((99:Nat)=99)||p ((v:Int)).toNat)=true;rw[vX,h v this.1 this.2,Bool.or_true]
theorem qw(unit:Nat)(arg own:Bool)(p:Int):∀(l:List ByteArray) (i:Nat) (st:ah) (env:List Nat) (v:Nat),st.vars.length<=v->v < st.vars.length+l.length->(kP unit arg own p l i st env).1.af v=unit
 |[],_,_,_,v,h1,h2=>by simp only[Q7]at h2;omega
 |nm::r,i,st,env,v,h1,h2=>by
  rw[kP];rw[Vz]at h2;by_cases e:v=st.vars.length
  .have g:=zr unit arg own p r (i+1) {(if(jk st.vars env nm).isSome then st.wrong 180 p else st)with vars:=st.vars++[⟨nm,unit,arg,if arg&&own then i else -1⟩]} (env++[st.vars.length]);obtain⟨t,d⟩:=g.vars;unfold ah.af;rw[<- d,Vj (by simp[e]),e];simp
  .exact qw unit arg own p r (i+1) _ _ v tj tj
theorem ph_part(F G:List ByteArray):∀(N:Nat) (x:Nd),x.size<=N->∀st env u,Ph st->u < st.outer.length->mP st env u->
 (Ph (jD F G x st env u).2/\de (nw (jD F G x st env u).2 u) (jD F G x st env u).1=true)/\(Ph (zh F G x st env u).2/\de (nw (zh F G x st env u).2 u) (zh F G x st env u).1=true/\(x.args.length=1->nw (zh F G x st env u).2 u st.vars.length=true)):=by
 intro N
 induction N with
 |zero=>intro x hx;have:=x.size_pos;omega
 |succ N ih=>
  have aj:∀l:List Nd,Nd.ap l<=N->∀st env u,Ph st->u < st.outer.length->mP st env u->Ph (kT F G l st env u).2/\wI (nw (kT F G l st env u).2 u) (kT F G l st env u).1=true:=by
   intro l
   induction l with
   |nil=>intro _ st env u h hu he;rw[kT];exact⟨h,rfl⟩
   |cons x r iR=>
    intro O st env u h hu he;simp only[Nd.ap]at O;rw[jc];have H:=(zq F G N x Zo st env u).1;obtain⟨d,h2⟩:=(ih x Zo st env u h hu he).1;obtain⟨h3,h4⟩:=iR Zo _ env u d (Qw hu H.outer.length_le) (he.gr H h.wf d.wf hu);exact zDT
  have gI:∀(s:ByteArray) (l:List Nd),Nd.ap l<=N->∀i st env u,Ph st->u < st.outer.length->mP st env u->(∀k y,l[k]? =some y->jW s=5->cY s (i+k)=true->y.args.length=1)->
   Ph (ki F G s l i st env u).2.2/\wI (nw (ki F G s l i st env u).2.2 u) (ki F G s l i st env u).1=true/\((ki F G s l i st env u).2.1.all λr=>!decide (r.kind=99)||nw (ki F G s l i st env u).2.2 u r.index.toNat)=true/\Gr st (ki F G s l i st env u).2.2:=by
   intro s l
   induction l with
   |nil=>intro _ i st env u h hu he _;rw[ki];exact⟨h,rfl,rfl,Gr.refl _⟩
   |cons x r iR=>
    intro O i st env u h hu he K;simp only[Nd.ap]at O;obtain⟨H,g2⟩:=zq F G N x Zo st env u;obtain⟨⟨d,h2⟩,h3,h4,J⟩:=ih x Zo st env u h hu he;have dD:∀k y,r[k]? =some y->jW s=5->cY s (i+1+k)=true->y.args.length=1:=λk y Q B m=>K (k+1) y (by simpa using Q) B (by rw[show i+(k+1)=i+1+k from by omega];exact m)
    cases D:cY s i with
    |true=>
     rw[zJ _ _ _ _ _ _ _ _ _ D];obtain⟨k1,k2,q,A⟩:=iR Zo (i+1) _ env u h3 (Qw hu g2.outer.length_le) (he.gr g2 h.wf h3.wf hu) dD;refine⟨k1,?_,?_,g2.trans A⟩
     .simp only[wI,vG];exact⟨mr (λv hv=>iK A u v hv) _ h4,k2⟩
     .simp only;split
      .rename_i M;simp only[vf,vG,vT];refine⟨.inr ?_,q⟩;have:=iK A u _ (J (K 0 x rfl M D));show nw _ u ((st.vars.length:Int)).toNat=true;rw[vX];exact this
      .exact q
    |false=>
     rw[wd _ _ _ _ _ _ _ _ _ D];obtain⟨k1,k2,q,A⟩:=iR Zo (i+1) _ env u d (Qw hu H.outer.length_le) (he.gr H h.wf d.wf hu) dD;refine⟨k1,?_,q,H.trans A⟩;simp only[wI,vG];exact⟨mr (λv hv=>iK A u v hv) _ h2,k2⟩
  intro x hx st env u h hu he;cases x with
  |mk k s lit args ab kids p=>
  simp only[Nd.size]at hx;have hk:Nd.ap kids<=N:=by omega
  have bX:∀(L:Nat) (nm:ByteArray) (l0:Lt) (un:Int) (b:Bool) (E:List PN) (t:ah),wI (nw t u) E=true->de (nw t u) (.mk L nm l0 [] un b E)=true:=λL nm l0 un b E t hh=>by
   simp only[de,List.all_nil,vW];exact hh
  have sw:∀(L:Nat) (r:jZ) (E:List PN) (t:ah),(r.kind=99->nw t u r.index.toNat=true)->wI (nw t u) E=true->de (nw t u) (.mk L e0 eV [r] 0 false E)=true:=λL r E t hr hh=>by
   simp only[de,vf,List.all_nil,vI,vG,vT];refine⟨?_,hh⟩;by_cases e:r.kind=99
   .exact .inr (hr e)
   .exact .inl (by rw[Zf e];rfl)
  refine⟨?_,?_⟩
  .cases aR:eR k s kids with
   |true=>
    rw[zN _ _ _ _ _ _ _ _ _ _ _ _ aR];have hf:dw (jW s) kids=true:=by
     unfold eR at aR;simp only[vG]at aR;exact aR.2
    obtain⟨k1,k2,q,_⟩:=gI s kids hk 0 st env u h hu he (λj y Q M D=>by
     rw[M]at hf;obtain⟨O,b,hb,_,rG⟩:=TZ hf;have:j=2:=by
      unfold cY at D;rw[M]at D;simp only[decide_eq_true_eq]at D;omega
     subst this;rw[hb]at Q;obtain rfl:=XC Q;exact rG)
    refine⟨k1,?_⟩;simp only[de,vG];exact⟨q,k2⟩
   |false=>
    by_cases d:k=1
    .rw[eo _ _ _ _ _ _ _ _ _ _ _ _ aR d];exact⟨h,rfl⟩
    by_cases h2:k=2
    .rw[ep _ _ _ _ _ _ _ _ _ _ _ _ aR h2];obtain⟨k1,k2⟩:=Xp F G s p false h hu he;exact⟨k1,sw _ _ _ _ k2 rfl⟩
    by_cases h3:k=3
    .rw[et _ _ _ _ _ _ _ _ _ _ _ _ aR h3];obtain⟨k1,k2⟩:=Xp F G s p true h hu he;have g:=AG F G st env s u p true;obtain⟨q,A⟩:=aj kids hk _ env u k1 (Qw hu g.outer.length_le) (he.gr g h.wf k1.wf hu);exact⟨q,sw _ _ _ _ (λe=>iK (wk F G kids _ env u) u _ (k2 e)) A⟩
    by_cases h7:k=7
    .rw[eA _ _ _ _ _ _ _ _ _ _ _ _ aR h7];refine⟨?_,bX _ _ _ _ _ _ _ rfl⟩;simp only;rw[w7];have hU:Ph (st.aF (u:Int) args.length):=h.aF ⟨Zo,Zo⟩;have IH:(st.aF (u:Int) args.length).outer.length=st.outer.length+1:=by unfold ah.aF;simp
     have C:mP (st.aF (u:Int) args.length) env st.outer.length:=λv hv=>by
      obtain⟨B,m⟩:=he v hv;refine⟨B,?_⟩;have e3:(st.aF (u:Int) args.length).outer.getD st.outer.length (-1)=(u:Int):=by
       show(st.outer++[(u:Int)]).getD st.outer.length (-1)=(u:Int);exact zC7
      rw[hU.wf.line Zo,e3,if_neg Zo,vX,h.wf.sf ⟨Zo,Zo⟩ u hu];exact QJ _ m
     have ha0:(st.aF (u:Int) args.length).args.getD st.outer.length 0=args.length:=by
      show(st.args++[args.length]).getD st.outer.length 0=_;rw[<- h.wf.al,Vh,Vl (Qt _),Qz];rfl
     obtain⟨S,T⟩:=mo st.outer.length true true p args 0 _ env hU Zo (λ_=>by rw[ha0];omega) C;obtain⟨I,f2,f3,f4⟩:=je st.outer.length true true p args 0 (st.aF (u:Int) args.length) env;obtain⟨U,W⟩:=mo st.outer.length false true p ab 0 _ _ S (by rw[I];omega) (λe=>by cases e) T;obtain⟨Z,f6,f7,f8⟩:=je st.outer.length false true p ab 0 (kP st.outer.length true true p args 0 (st.aF (u:Int) args.length) env).1 (kP st.outer.length true true p args 0 (st.aF (u:Int) args.length) env).2;obtain⟨X,Y⟩:=aj kids hk (aS args ab p st env (u:Int)).1 (aS args ab p st env (u:Int)).2 st.outer.length U (by
      show st.outer.length < (kP st.outer.length false true p ab 0 (kP st.outer.length true true p args 0 (st.aF (u:Int) args.length) env).1 (kP st.outer.length true true p args 0 (st.aF (u:Int) args.length) env).2).1.outer.length;rw[Z,I];omega) W
     exact X.body _ Y
    by_cases h8:k=8
    .rw[eB _ _ _ _ _ _ _ _ _ _ _ _ aR h8];exact zC6
    by_cases h9:k=9
    .rw[eC _ _ _ _ _ _ _ _ _ _ _ _ aR h9];exact zC6
    by_cases h6:k=6
    .rw[ez _ _ _ _ _ _ _ _ _ _ _ _ aR h6];exact zC6
    by_cases J:k=5
    .rw[ew _ _ _ _ _ _ _ _ _ _ _ _ aR J];obtain⟨k1,k2⟩:=aj kids hk st env u h hu he;exact⟨k1,bX _ _ _ _ _ _ _ (L3 _ k2)⟩
    cases hs:jO kids with
    |true=>
     rw[yD _ _ _ _ _ _ _ _ _ _ _ _ aR ⟨d,h2,h3,J,h6,h7,h8,h9⟩ hs];have ht:Nd.ap kids.tail<=N:=by
      exact zBS
     obtain⟨k1,k2⟩:=aj kids.tail ht st env u h hu he;exact⟨k1,bX _ _ _ _ _ _ _ k2⟩
    |false=>
     rw[eu _ _ _ _ _ _ _ _ _ _ _ _ aR ⟨d,h2,h3,J,h6,h7,h8,h9⟩ hs];exact zC6
  .rw[ye];obtain⟨S,T⟩:=mo u true false p args 0 st env h hu (λe=>by cases e) he;obtain⟨I,f2,f3,f4⟩:=je u true false p args 0 st env;obtain⟨U,W⟩:=mo u false false p ab 0 _ _ S (by rw[I];exact hu) (λe=>by cases e) T;obtain⟨Z,f6,f7,f8⟩:=je u false false p ab 0 (kP u true false p args 0 st env).1 (kP u true false p args 0 st env).2;obtain⟨X,Y⟩:=aj kids hk _ _ u U (by rw[Z,I];exact hu) W;have g:=wk F G kids (kP u false false p ab 0 (kP u true false p args 0 st env).1 (kP u true false p args 0 st env).2).1 (kP u false false p ab 0 (kP u true false p args 0 st env).1 (kP u true false p args 0 st env).2).2 u;have gt:=zr u false false p ab 0 (kP u true false p args 0 st env).1 (kP u true false p args 0 st env).2;have xI:∀(t:ah) (v:Nat),v < t.vars.length->t.af v=u->nw t u v=true:=λt v B m=>by
    unfold nw;simp only[vG,vT,decide_eq_true_eq];exact⟨B,.inl m⟩
   refine⟨X,?_,λK=>?_⟩
   .simp only[de,vG];refine⟨RB λv B m=>?_,Y⟩;exact iK g u v (xI _ v (by rw[f8];exact m) (qw u false false p ab 0 _ _ v B m))
   .have K:args.length=1:=K;exact iK (gt.trans g) u _ (xI _ _ (by rw[f4];omega) (qw u true false p args 0 st env _ (Qt _) Zo))
theorem me {st:ah}{o:Nat}{t:Nat×Int}:t∈st.things o↔t.1=o/\-1<=t.2/\t.2 < st.args.getD o 0:=by
 unfold ah.things;rw[QO];constructor
 .rintro⟨i,m,rfl⟩
  have:=QS.1 m;exact⟨rfl,by simp only;omega,by simp only;omega⟩
 .rintro⟨d,g,j⟩
  obtain⟨a,b⟩:=t;simp only at d g j;subst d;exact⟨(b+1).toNat,QS.2 Zo,by rw[XE];exact⟨rfl,Zo⟩⟩
theorem l9 {st:ah}{u:Nat}{t:Nat×Int}:t∈st.copied u↔t.1∈(st.line u).drop 1/\t∈st.things t.1/\st.bi u t=true:=by
 unfold ah.copied;rw[QM];constructor
 .rintro⟨o,g,h⟩
  obtain⟨d,j⟩:=QL.1 h;obtain rfl:=(me.1 d).1;exact⟨by simpa using g,d,j⟩
 .rintro⟨g,h,d⟩
  exact⟨t.1,by simpa using g,QL.2 ⟨h,d⟩⟩
theorem o8 {st:ah}{v:Nat}{x:yA}(h:st.vars[v]? =some x):st.af v=x.unit:=by unfold ah.af;rw[h];rfl
theorem By {st:ah}{v:Nat}{x:yA}(h:st.vars[v]? =some x):st.bt v=x.own:=by unfold ah.bt;rw[h];rfl
theorem Wf.var {st:ah}(h:Wf st){v:Nat}(d:v < st.vars.length):st.af v < st.outer.length/\-1<=st.bt v/\st.bt v < st.args.getD (st.af v) 0:=by
 have e:st.vars[v]? =some st.vars[v]:=Zg d;rw[o8 e,By e];exact h.vu v _ e
theorem Wf.way_out {st:ah}(h:Wf st){u v:Nat}(ho:0<=st.outer.getD u (-1))(d:(st.outer.getD u (-1)).toNat≠st.af v):∀(w:Nat),w < st.outer.length->u∈st.way w v->(st.outer.getD u (-1)).toNat∈st.way w v:=by
 intro w
 induction w using Nat.strongRecOn with
 |_ w ih=>
  intro hw hm;by_cases e:w=st.af v
  .rw[h.sV Zo e]at hm;cases hm
  .have hl:=h.fu w;rw[h.sW Zo e]at hm|-;rcases QI.1 hm with rfl|hm
   .rw[if_neg Zo,h.sW Zo d];exact QJ _ (QK ..)
   .by_cases c:st.outer.getD w (-1) < 0
    .rw[if_pos c]at hm;cases hm
    .rw[if_neg c]at hm|-;exact QJ _ (ih _ Zo Zo hm)
section
variable {st:ah} (h:Ph st)
include h
theorem Ph.DY {u o:Nat}(hu:u < st.outer.length)(d:o∈st.line u)(g:o≠u):o∈(st.line u).drop 1:=by
 rw[h.wf.line Zo]at d|-;rcases QI.1 d with k|k
 .exact absurd k g
 .simpa using k
theorem Ph.My {u v:Nat}(g:(u,v)∈st.uses)(j:st.af v≠u):(st.af v,st.bt v)∈st.copied u/\(st.bt v < 0->st.rem v=true):=by
 obtain⟨m,q⟩:=h.wf.uu _ g;obtain⟨k1,A,B⟩:=h.wf.var q;have s:=h.us _ g;refine⟨l9.2 ⟨h.DY m s j,me.2 ⟨rfl,A,B⟩,?_⟩,λd=>?_⟩
 .unfold ah.bi;rw[vj];refine⟨_,g,?_⟩;simp only[vG,decide_eq_true_eq,true_and];rw[h.wf.sW (by have:=m;simp only at this;omega) (λe=>j e.symm)];exact QK ..
 .unfold ah.rem;rw[vj];refine⟨_,g,?_⟩;simp only[vG,decide_eq_true_eq,true_and];exact⟨d,j⟩
theorem Ph.oF {u:Nat}(hu:u < st.outer.length){t:Nat×Int}(D:t∈st.copied u):0<=st.outer.getD u (-1)/\(t.1=(st.outer.getD u (-1)).toNat∨t∈st.copied (st.outer.getD u (-1)).toNat)/\t.1 < st.outer.length/\t.1≠u/\-1<=t.2/\t.2 < st.args.getD t.1 0:=by
 obtain⟨d,j,g⟩:=l9.1 D;obtain⟨_,A,B⟩:=me.1 j;have nN:=h.wf.fu u;rw[h.wf.line Zo]at d;simp only[List.drop_succ_cons,vy]at d;by_cases c:st.outer.getD u (-1) < 0
 .rw[if_pos c]at d;cases d
 rw[if_neg c]at d;have C:=h.wf.xW _ Zo _ d;refine⟨Zo,?_,Zo,Zo,A,B⟩;by_cases e:t.1=(st.outer.getD u (-1)).toNat
 .exact .inl e
 refine .inr (l9.2 ⟨h.DY Zo d e,j,?_⟩);unfold ah.bi at g|-;rw[vj]at g|-;obtain⟨q,m,k⟩:=g;refine⟨q,m,?_⟩;simp only[vG,decide_eq_true_eq]at k|-;refine⟨k.1,h.wf.way_out Zo ?_ q.1 (h.wf.uu q m).1 k.2⟩;have:=congrArg Prod.fst k.1;simp only at this;rw[this];exact λs=>e s.symm
theorem Ph.J3 {u:Nat}{t:Nat×Int}(C:t∈st.copied u)(hn:t.2 < 0):0 < (st.locals t.1 true).length:=by
 obtain⟨h1,h2,d⟩:=l9.1 C;unfold ah.bi at d;rw[vj]at d;obtain⟨q,g,k⟩:=d;simp only[vG,decide_eq_true_eq]at k;obtain⟨h5,A⟩:=h.wf.uu q g;have s:st.af q.2=t.1:=congrArg Prod.fst k.1;have e2:st.bt q.2=t.2:=congrArg Prod.snd k.1;have m:st.af q.2≠q.1:=λe=>by
  have j:=k.2;rw[h.wf.sV Zo e.symm]at j;cases j
 have B:st.rem q.2=true:=by
  unfold ah.rem;rw[vj];refine⟨q,g,?_⟩;simp only[vG,decide_eq_true_eq,true_and];exact⟨Zo,m⟩
 apply List.length_pos_of_mem (a:=q.2);unfold ah.locals;rw[QL];refine⟨QS.2 A,?_⟩;simp only[vG,decide_eq_true_eq];exact⟨⟨s,Zo⟩,B⟩
theorem Ph.nw {i v:Nat}(d:nw st i v=true):v < st.vars.length/\(st.af v=i∨((st.af v,st.bt v)∈st.copied i/\(st.bt v < 0->st.rem v=true))):=by
 unfold V.nw at d;simp only[vG,vT,decide_eq_true_eq]at d;obtain⟨g,h2⟩:=d;refine⟨g,?_⟩;by_cases e:st.af v=i
 .exact .inl e
 .rcases h2 with h2|h2
  .exact .inl h2
  .exact .inr (h.My h2 e)
end
theorem sg(st:ah)(i:Nat)(r:Bool):st.locals i r=(st.ab i).filter λv=>decide (st.rem v=r):=by
 unfold ah.locals ah.ab;rw[List.filter_filter];refine List.filter_congr λv _=>?_
 rw[Bool.and_comm]
theorem JX(st:ah)(i:Nat):(st.ab i).Nodup:=List.Pairwise.filter _ QY
theorem H9 {α:Type}[DecidableEq α]{a b:List α}{x:α}(h:x∉a):(a++x::b).findIdx? (λy=>decide (y=x))=some a.length:=by
 induction a with
 |nil=>simp[V9]
 |cons y a ih=>
  have d:y≠x:=λe=>h (by simp[e])
  rw[vr,V9,Zf d];simp only[vM,if_false];rw[ih (λe=>h (by simp[e]))];rfl
theorem UY {α:Type}[DecidableEq α]{a b:List α}{x:α}(h:x∉a):nW (a++x::b) x=a.length:=by
 unfold nW;rw[H9 h]
def ah.bW(st:ah)(v:Nat):Int:=nW (st.locals (st.af v) (st.rem v)) v
theorem NL {st:ah}{i j v:Nat}(d:(st.ab i)[j]? =some v):st.bW v=(((st.ab i).take j).filter λw=>decide (st.rem w=st.rem v)).length:=by
 have g:v∈st.ab i:=Zv d;have A:st.af v=i:=by
  unfold ah.ab at g;have:=(QL.1 g).2;simp only[vG,decide_eq_true_eq]at this;exact this.1
 have s:=(Vt.1 d).1;have q:st.ab i=(st.ab i).take j++v::(st.ab i).drop (j+1):=by
  have e:=(Vt.1 d).2;rw[<- e,<- vw s,Qj]
 have m:=JX st i;rw[q,QW]at m;unfold ah.bW;rw[A,sg]
 conv=>lhs;rw[q]
 rw[V5,V6,if_pos Zs];exact UY λB=>m.2.2 v (QL.1 B).1 v Zs rfl
def qU(U:List UC)(j:Nat):Nat:=((U[j]?).map UC.q).getD 0
def zi(U:List UC)(l:List (Nat×Int)):List (Nat×Int):=l.map λt=>(qU U t.1,t.2)
structure gk (st:ah)(L:Nat)(U:List UC)(V:List ax):Prop where
 wf:Wf st
 ul:U.length=st.outer.length
 vl:V.length=st.vars.length
 inj:(U.map UC.q).Nodup
 ar:∀(i:Nat) u,U[i]? =some u->u.args=st.args.getD i 0/\u.num=i
 ou:∀(i:Nat) u,U[i]? =some u->u.outer=(if st.outer.getD i (-1) < 0 then none else(U[(st.outer.getD i (-1)).toNat]?).map UC.q)
 tm:∀(i:Nat) u,U[i]? =some u->u.ab=(st.ab i).map (λv=>(V.getD v Cz).q)/\ky 1 u.tv u.ab.length (u.ab.map λb=>kO (some b)) u.lM
 nd:∀(i:Nat) u,U[i]? =some u->∃m:List ((Nat×Int)×Int),iC u.es u.cl m/\(m.map (·.1)).Nodup/\(∀p∈m,(∃(j:Nat) (w:UC),U[j]? =some w/\p.1.1=w.q)/\0 < p.2/\p.2<=st.uses.length)/\
  ∀(j:Nat) (w:UC) (a:Int),U[j]? =some w->((jE (w.q,a) m).isSome=true↔st.bi i (j,a)=true)
 vn:∀(v:Nat) x y,st.vars[v]? =some x->V[v]? =some y->(∃w,U[x.unit]? =some w/\y.unit=w.q)/\y.arg=x.own/\y.remote=st.rem v/\(x.own < 0->x.unit < L->(y.slot:Int)=st.bW v)
 nl:∀(i:Nat) u,U[i]? =some u->L<=i->u.locals=0/\u.ay=0/\u.dZ=[]/\u.cv=Nz/\u.cC=[]
 la:∀(i:Nat) u,U[i]? =some u->i < L->u.locals=(st.locals i false).length/\u.ay=(st.locals i true).length/\u.dZ=zi U (st.copied i)/\ky 2 u.cv u.dZ.length (u.dZ.flatMap ja) u.cC
theorem df.laid {st:ah}{U:List UC}{V:List ax}(h:df st U V):gk st 0 U V:=
 ⟨h.wf,h.ul,h.vl,h.inj,λi u d=>⟨(h.un i u d).1,(h.un i u d).2.2.2.1⟩,h.ou,h.tm,h.nd,λv x y B C=>by
   obtain⟨g,j,q,m,s⟩:=h.vn v x y B C;exact⟨g,j,m,λ_ A=>by omega⟩,λi u d _=>by
   obtain⟨_,g,j,_,q,m,s⟩:=h.un i u d;exact⟨g,j,q,m,s⟩,λi u d A=>by omega⟩
def Mi(st:ah)(V:List ax)(l:List Nat):List ax:=V.mapIdx λv y=>{y with slot:=if v∈l then(st.bW v).toNat else y.slot}
theorem iu {st:ah}{V:List ax}{l:List Nat}{v:Nat}{y:ax}(h:V[v]? =some y):(Mi st V l)[v]? =some {y with slot:=if v∈l then(st.bW v).toNat else y.slot}:=by
 unfold Mi;rw[List.getElem?_mapIdx,h];rfl
theorem sK(st:ah)(V:List ax)(l:List Nat):(Mi st V l).length=V.length:=by unfold Mi;simp
theorem slV_nil(st:ah)(V:List ax):Mi st V []=V:=by
 apply V0;intro v;cases h:V[v]? with
 |none=>
  rw[Vr]at h|-;rw[sK];exact h
 |some y=>rw[iu h];simp
theorem JO {st:ah}{V:List ax}{l:List Nat}{v:Nat}{y:ax}(h:(Mi st V l)[v]? =some y):∃d,V[v]? =some d/\y={d with slot:=if v∈l then(st.bW v).toNat else d.slot}:=by
 cases h0:V[v]? with
 |none=>
  rw[Vr]at h0;have:=(Vt.1 h).1;rw[sK]at this;omega
 |some d=>
  rw[iu h0]at h;exact⟨d,rfl,(XC h).symm⟩
theorem slV_q(st:ah)(V:List ax)(l:List Nat):(Mi st V l).map ax.q=V.map ax.q:=by
 apply V0;intro v;rw[Vu,Vu];cases h:V[v]? with
 |none=>
  have:(Mi st V l)[v]? =none:=by
   rw[Vr]at h|-;rw[sK];exact h
  rw[this]
 |some y=>rw[iu h];rfl
theorem slV_set {st:ah}{V:List ax}{l:List Nat}{v:Nat}{y:ax}(h:V[v]? =some y){q:ax}(d:(Mi st V l)[v]? =some q):(Mi st V l).set v {q with slot:=(st.bW v).toNat}=Mi st V (l++[v]):=by
 have A:=JO d;obtain⟨y0,g,s⟩:=A;rw[h]at g;obtain rfl:=XC g;apply V0;intro w;rw[Vw];by_cases e:v=w
 .subst e;rw[if_pos rfl,if_pos (Vt.1 d).1,iu h,s];have B:v∈l++[v]:=by simp
  rw[if_pos B]
 .rw[if_neg e];cases hw:V[w]? with
  |none=>
   have j:∀m:List Nat,(Mi st V m)[w]? =none:=λm=>by
    rw[Vr]at hw|-;rw[sK];exact hw
   rw[j,j]
  |some z=>
   rw[iu hw,iu hw];have:(w∈l++[v])↔w∈l:=by
    rw[QG,QU];exact⟨λk=>k.elim id λk=>absurd k.symm e,.inl⟩
   by_cases c:w∈l
   .rw[if_pos c,if_pos (this.2 c)]
   .rw[if_neg c,if_neg λk=>c (this.1 k)]
def yi(st:ah)(l:List Nat)(r:Bool):Nat:=(l.filter λw=>decide (st.rem w=r)).length
theorem wk_lay {U:List UC}{V:List ax}{i v:Nat}{u:UC}{y:ax}(H:U[i]? =some u)(I:V[v]? =some y):∃R,(WK U V).Perm (kA y.q 4 [.int .i64 y.slot]++(kA u.q 1 [.int .i64 u.locals,.int .i64 u.ay]++R))/\
 ∀(d g h:Nat),(WK (U.set i {u with locals:=d,ay:=g}) (V.set v {y with slot:=h})).Perm (kA y.q 4 [.int .i64 h]++(kA u.q 1 [.int .i64 d,.int .i64 g]++R)):=by
 obtain⟨C,L⟩:=lX UC.atoms H;obtain⟨RV,M⟩:=lX ax.atoms I;have F:∀(d g:Nat),({u with locals:=d,ay:=g}:UC).atoms.Perm (kA u.q 1 [.int .i64 d,.int .i64 g]++(.own u.q 9::(kA u.q 0 [.int .i64 u.args]++(kA u.q 3 [kO u.outer,.int .i64 u.num,u.tv,.map (some u.nb),u.cv,u.body]++(ao u.tv (u.ab.map λb=>kO (some b)) u.lM++(ao u.cv (u.dZ.flatMap ja) u.cC++[.obj u.nb (.map u.es u.cl)])))))):=λd g=>by
  unfold UC.atoms UC.row;have e:kA u.q 0 [.int .i64 u.args,.int .i64 d,.int .i64 g,kO u.outer,.int .i64 u.num,u.tv,.map (some u.nb),u.cv,u.body]=kA u.q 0 [.int .i64 u.args]++(kA u.q 1 [.int .i64 d,.int .i64 g]++kA u.q 3 [kO u.outer,.int .i64 u.num,u.tv,.map (some u.nb),u.cv,u.body]):=rfl;simp only;rw[e,vm,vm];exact Qc (kC.own u.q 9::kA u.q 0 [.int .i64 u.args]) _ _
 have G:∀h:Nat,({y with slot:=h}:ax).atoms.Perm (kA y.q 4 [.int .i64 h]++kA y.q 0 [kO (some y.unit),.int .i64 y.arg,.bool y.fixed,.bool y.remote]):=λh=>by
  unfold ax.atoms ax.row;have e:kA y.q 0 [kO (some y.unit),.int .i64 y.arg,.bool y.fixed,.bool y.remote,.int .i64 h]=kA y.q 0 [kO (some y.unit),.int .i64 y.arg,.bool y.fixed,.bool y.remote]++kA y.q 4 [.int .i64 h]:=rfl;simp only;rw[e];exact Qa
 obtain⟨D,m⟩:∃X,X=(kC.own u.q 9::(kA u.q 0 [.int .i64 u.args]++(kA u.q 3 [kO u.outer,.int .i64 u.num,u.tv,.map (some u.nb),u.cv,u.body]++(ao u.tv (u.ab.map λb=>kO (some b)) u.lM++(ao u.cv (u.dZ.flatMap ja) u.cC++[.obj u.nb (.map u.es u.cl)]))))):=⟨_,rfl⟩;obtain⟨E,s⟩:∃X,X=kA y.q 0 [kO (some y.unit),.int .i64 y.arg,.bool y.fixed,.bool y.remote]:=⟨_,rfl⟩;rw[<- m]at F;rw[<- s]at G;have j:∀(d g h:Nat),(WK (U.set i {u with locals:=d,ay:=g}) (V.set v {y with slot:=h})).Perm (kA y.q 4 [.int .i64 h]++(kA u.q 1 [.int .i64 d,.int .i64 g]++(D++(C++(E++RV))))):=λd g h=>by
  unfold WK;refine List.Perm.trans (List.Perm.append ((L _).trans (vd _ (F d g))) ((M _).trans (vd _ (G h)))) ?_;generalize kA y.q 4 [.int .i64 h]=A;generalize kA u.q 1 [.int .i64 d,.int .i64 g]=B;simp only[vm];refine List.Perm.trans (l₂:=(B++(D++C))++(A++(E++RV))) (by simp only[vm];exact ve _) ?_;refine Qc _ _ _|>.trans ?_
  refine vZ _ ?_;simp only[vm];exact ve _
 refine⟨_,?_,j⟩;have:=j u.locals u.ay y.slot;have J:U.set i {u with locals:=u.locals,ay:=u.ay}=U:=za H;have K:V.set v {y with slot:=y.slot}=V:=za I
 rwa [J,K]at this
theorem gk.step {st:ah}{U:List UC}{V:List ax}{i:Nat}{u:UC}(h:gk st i U V)(N:U[i]? =some u){cv:Value}{D:List Value}(hc:ky 2 cv (zi U (st.copied i)).length ((zi U (st.copied i)).flatMap ja) D):
 gk st (i+1) (U.set i {u with locals:=(st.locals i false).length,ay:=(st.locals i true).length,dZ:=zi U (st.copied i),cv:=cv,cC:=D}) (Mi st V (st.ab i)):=by
 obtain⟨u',g⟩:∃u':UC,u'={u with locals:=(st.locals i false).length,ay:=(st.locals i true).length,dZ:=zi U (st.copied i),cv:=cv,cC:=D}:=⟨_,rfl⟩;rw[<- g];have S:(U.set i u').map UC.q=U.map UC.q:=zp N (by rw[g]);have H:=Fg S;have M:∀l,zi (U.set i u') l=zi U l:=λl=>QC λt _=>by unfold qU;rw[H]
 have I:∀{j:Nat} {w:UC},(U.set i u')[j]? =some w->(j=i/\w=u')∨(j≠i/\U[j]? =some w):=λd=>mC N d
 have s:∀{j:Nat} {w:UC},(U.set i u')[j]? =some w->∃w0,U[j]? =some w0/\w.q=w0.q/\w.args=w0.args/\w.num=w0.num/\w.outer=w0.outer/\w.ab=w0.ab/\w.tv=w0.tv/\w.lM=w0.lM/\w.es=w0.es/\w.cl=w0.cl:=λ{j w} d=>by
  rcases I d with⟨rfl,rfl⟩|⟨_,B⟩
  .exact⟨u,N,by rw[g],by rw[g],by rw[g],by rw[g],by rw[g],by rw[g],by rw[g],by rw[g],by rw[g]⟩
  .exact⟨w,B,rfl,rfl,rfl,rfl,rfl,rfl,rfl,rfl,rfl⟩
 have cM:∀{j:Nat} {w:UC},U[j]? =some w->∃w',(U.set i u')[j]? =some w'/\w'.q=w.q:=λ{j w} d=>by
  have:=H j;rw[d]at this;cases e:(U.set i u')[j]? with
  |none=>rw[e]at this;cases this
  |some w'=>rw[e]at this;exact⟨w',rfl,XC this⟩
 refine⟨h.wf,by rw[Q8];exact h.ul,by rw[sK];exact h.vl,by rw[S];exact h.inj,λj w d=>?_,λj w d=>?_,λj w d=>?_,λj w d=>?_,λv x y E G=>?_,λj w d F=>?_,λj w d F=>?_⟩
 .obtain⟨w0,A,_,J,K,_⟩:=s d;rw[J,K];exact h.ar j w0 A
 .obtain⟨w0,A,_,_,_,L,_⟩:=s d;rw[L,H];exact h.ou j w0 A
 .obtain⟨w0,A,_,_,_,_,Y,Z,h8,_⟩:=s d;rw[Y,Z,h8];refine⟨(h.tm j w0 A).1.trans (QC λv hv=>?_),(h.tm j w0 A).2⟩;have F:=Cw hv;have e:=congrArg (λl=>l[v]?) (slV_q st V (st.ab i));simp only[Vu]at e;obtain⟨y,G⟩:∃y,V[v]? =some y:=⟨_,Zg (by rw[h.vl];exact F)⟩;rw[Vh,Vh,G,iu G];rfl
 .obtain⟨w0,A,_,_,_,_,_,_,_,h9,W⟩:=s d;rw[h9,W];obtain⟨m,O,Q,k3,k4⟩:=h.nd j w0 A;refine⟨m,O,Q,λp hp=>?_,λa z b ha=>?_⟩
  .exact zE0
  .obtain⟨z',k8,k9,_⟩:=s ha;rw[k9];exact k4 a z' b k8
 .obtain⟨y0,O,Q⟩:=JO G;obtain⟨⟨z,A,B⟩,J,K,L⟩:=h.vn v x y0 E O;obtain⟨z',k8,k9⟩:=cM A;rw[Q];refine⟨⟨z',k8,B.trans k9.symm⟩,J,K,λT F=>?_⟩;simp only;have X:=(Vt.1 E).1;by_cases e:x.unit=i
  .have C:v∈st.ab i:=by
    unfold ah.ab;rw[QL];refine⟨QS.2 X,?_⟩;simp only[vG,decide_eq_true_eq];rw[o8 E,By E];exact⟨e,T⟩
   rw[if_pos C];obtain⟨j,d⟩:=Vv C;have:=NL d;omega
  .have C:v∉st.ab i:=λC=>e (by
    unfold ah.ab at C;have:=(QL.1 C).2;simp only[vG,decide_eq_true_eq]at this;rw[o8 E]at this;exact this.1)
   rw[if_neg C];exact L T Zo
 .rcases I d with⟨rfl,_⟩|⟨_,B⟩
  .omega
  .exact h.nl j w B Zo
 .rw[M];rcases I d with⟨rfl,rfl⟩|⟨cI,B⟩
  .rw[g];exact⟨rfl,rfl,rfl,hc⟩
  .exact h.la j w B Zo
inductive DJ (T:List kC):PN->List Value->Prop
 |mk {k:Nat} {nm:ByteArray} {lit:Lt} {refs:List jZ} {unit:Int} {cf:Bool} {kids:List PN} {lv:List Value} {rv:Value} {a:Option Addr} {c bk o:Nat} {us:Nat->List Value} (hl:zl T lit lv) (hr:wA T rv refs)
   (ha:0 < kids.length->a=some ⟨bk,o,none⟩) (hm:∀i,i < kids.length->∀y∈kA bk (o+i*11) (us i),y∈T) (hs:∀i x,kids[i]? =some x->DJ T x (us i)):
   DJ T (.mk k nm lit refs unit cf kids) ([cv k,.string nm]++lv++[rv,.int .i64 unit,.bool cf,.slice a kids.length c])
theorem DJ.len {T:List kC}{x:PN}{vs:List Value}(h:DJ T x vs):vs.length=11:=by
 cases h with
 |mk hl=>simp[hl.len]
theorem DJ.more {T g:List kC}(d:∀x∈T,x∈g){x:PN}{vs:List Value}(h:DJ T x vs):DJ g x vs:=by
 induction h with
 |mk hl hr ha hm hk ih=>exact .mk (hl.more d) (hr.more d) ha (λi j y m=>d _ (hm i j y m)) ih
structure eJ (T:List kC)(l:List PN)(rows:List (List Value)):Prop where
 len:rows.length=l.length
 w:∀r∈rows,r.length=11
 rd:∀(i:Nat) x r,l[i]? =some x->rows[i]? =some r->DJ T x r
theorem eJ.nil(T:List kC):eJ T [] []:=⟨rfl,Zs,λi x r h=>by simp at h⟩
theorem eJ.more {T d:List kC}{l:List PN}{rows:List (List Value)}(h:eJ T l rows)(j:∀x∈T,x∈d):eJ d l rows:=⟨h.len,h.w,λi x r m g=>(h.rd i x r m g).more j⟩
theorem eJ.snoc {T:List kC}{l:List PN}{rows:List (List Value)}{x:PN}{r:List Value}(h:eJ T l rows)(hx:DJ T x r):eJ T (l++[x]) (rows++[r]):=by
 refine⟨by simp[h.len],λr' s7=>?_,λi y s hy hs=>?_⟩
 .exact zEQ
 .exact zAO
def Aa(T:List kC)(v:Value)(l:List PN):Prop:=∃(a:Option Addr) (c bk o:Nat) (us:Nat->List Value),v=.slice a l.length c/\(0 < l.length->a=some ⟨bk,o,none⟩)/\(∀i,i < l.length->∀y∈kA bk (o+i*11) (us i),y∈T)/\∀i x,l[i]? =some x->DJ T x (us i)
theorem Aa.nil(T:List kC):Aa T Nz []:=⟨none,0,0,0,λ_=>[],rfl,λh=>absurd h Zs,λi d=>absurd d Zs,λi x h=>by simp at h⟩
theorem Aa.more {T d:List kC}{v:Value}{l:List PN}(h:Aa T v l)(g:∀x∈T,x∈d):Aa d v l:=by
 obtain⟨a,c,bk,o,us,j,m,q,s⟩:=h;exact⟨a,c,bk,o,us,j,m,λi A y C=>g _ (q i A y C),λi x B=>(s i x B).more g⟩
theorem Gy {B:List kC}{l:List PN}{sv:Value}{rows:List (List Value)}{sp:List Value}(d:ky 11 sv l.length rows.flatten sp)(hr:eJ B l rows):Aa (ao sv rows.flatten sp++B) sv l:=by
 have aC:∀i,i < l.length->rows[i]? =some (rows.getD i []):=λi hi=>by
  exact zE6
 have s:∀y∈B,y∈ao sv rows.flatten sp++B:=λy hy=>QH _ hy
 generalize g:l.length=m at d;generalize q:rows.flatten=xs at d|-;cases d with
 |@mk bk o _ c _ _ h1 h2 h3=>
  rw[<- g];subst q;refine⟨_,c,bk,o,λi=>rows.getD i [],rfl,λ_=>rfl,λi hi y hy=>?_,λi x j=>?_⟩
  .exact zDA
  .have hi:=(Vt.1 j).1;exact(hr.rd i x _ j (aC i hi)).more s
 |nil=>
  have A:l=[]:=vz g;subst A;exact Aa.nil _
theorem Xl {T:List kC}{k:Nat}{nm:ByteArray}{lit:Lt}{refs:List jZ}{unit:Int}{cf:Bool}{kids:List PN}{lv:List Value}{rv sv:Value}(g:zl T lit lv)(d:wA T rv refs)(q:Aa T sv kids):
 DJ T (.mk k nm lit refs unit cf kids) ([cv k,.string nm]++lv++[rv,.int .i64 unit,.bool cf,sv]):=by
 obtain⟨a,c,bk,o,us,rfl,h,j,m⟩:=q;exact .mk (bk:=bk) (o:=o) (us:=us) g d h j m
theorem Xm {T:List kC}{x:PN}{ws:List Value}(h:DJ T x ws):∃(j:Nat) (m:Int) (q:Nat) (s:ByteArray) (A:Option Addr) (B:Nat) (d:Option Addr) (g:Nat) (C:Option Addr) (D bk o:Nat) (us:Nat->List Value),
 ws=(rP x.kind x.name j m q s A x.lit.items.length B d x.refs.length g x.unit x.super C x.kids.length D)/\
 zl T x.lit [.int .u8 j,.int .i64 m,.int .u64 q,.string s,.slice A x.lit.items.length B]/\wA T (.slice d x.refs.length g) x.refs/\(0 < x.kids.length->C=some ⟨bk,o,none⟩)/\(∀i,i < x.kids.length->∀y∈kA bk (o+i*11) (us i),y∈T)/\∀i y,x.kids[i]? =some y->DJ T y (us i):=by
 cases h with
 |@mk k nm lit refs unit cf kids lv rv a c bk o us hl hr ha hm hs=>
  have F:=hr;obtain⟨d,g,rfl,_⟩:=hr;have E:=hl;cases hl with
  |mk Se Im qK cP=>exact⟨_,_,_,_,_,_,d,g,a,c,bk,o,us,rfl,E,F,ha,hm,hs⟩
theorem ux {B:List kC}{sv:Value}{rs:List jZ}{sp:List Value}(d:ky 4 sv rs.length (rs.flatMap kf) sp):wA (ao sv (rs.flatMap kf) sp++B) sv rs:=by
 generalize g:rs.length=m at d;generalize h:rs.flatMap kf=xs at d|-;cases d with
 |@mk bk o _ c _ _ h1 h2 h3=>
  rw[<- g];subst h;refine⟨_,c,rfl,λi r q=>⟨bk,o,rfl,λy A=>?_⟩⟩;refine Zw _ ?_;simp only[ao,ku];refine Zw _ ?_;rw[Va];exact iW (rows:=rs.map kf) (λr s=>by obtain⟨z,_,rfl⟩:=QO.1 s;rfl) (by rw[Vu,q];rfl) y A
 |nil=>
  have j:rs=[]:=vz g;subst j;exact wA.nil _
mutual
def PN.w:PN->Nat
 |.mk _ _ _ rs _ _ kids=>1+rs.length+PN.ws kids
def PN.ws:List PN->Nat
 |[]=>0
 |x::r=>PN.w x+PN.ws r
end
theorem PN.E1 {x:PN}:∀{l:List PN},x∈l->PN.w x<=PN.ws l:=by
 intro l
 induction l with
 |nil=>intro h;cases h
 |cons y r ih=>
  intro h;simp only[PN.ws];exact zCB
theorem PN.iy(x:PN):0 < PN.w x:=by cases x;simp only[PN.w];omega
theorem PN.Lr:∀l:List PN,l.length<=PN.ws l:=by
 intro l
 induction l with
 |nil=>exact Qt _
 |cons x r ih=>have:=PN.iy x;simp only[PN.ws,Vz];omega
theorem Sj(b:Bool)(l:List PN):PN.ws (wL b l)=PN.ws l:=by
 have d:∀r:List PN,PN.ws (r.map (PN.lG b))=PN.ws r:=by
  intro r
  induction r with
  |nil=>rfl
  |cons x r ih=>cases x;simp only[QD,PN.ws,ih];rfl
 cases l with
 |nil=>rfl
 |cons x r=>simp only[wL,PN.ws,d]
structure Bw (st:ah)(M:Nat):Prop where
 bd:∀l∈st.bodies,PN.ws l<=2*M
 ar:∀a∈st.args,a<=M
theorem Bw.of {a b:ah}{M:Nat}(h:Bw a M)(e:b.bodies=a.bodies)(d:b.args=a.args):Bw b M:=⟨λl g=>h.bd l (by rw[<- e];exact g),by rw[d];exact h.ar⟩
theorem Jr(F G:List ByteArray)(st:ah)(env:List Nat)(nm:ByteArray)(u:Nat)(p:Int)(put:Bool):(wC F G st env nm u p put).2.args=st.args:=by
 have hw:∀(e:Nat),(st.wrong e p).args=st.args:=λe=>by unfold ah.wrong;split <;> rfl
 unfold wC;exact zDL
theorem gS(F G:List ByteArray)(st:ah)(env:List Nat)(nm:ByteArray)(u:Nat)(p:Int)(put:Bool):(wC F G st env nm u p put).2.bodies=st.bodies:=by
 have hw:∀(e:Nat),(st.wrong e p).bodies=st.bodies:=λe=>by unfold ah.wrong;split <;> rfl
 unfold wC;exact zDL
theorem w_part(F G:List ByteArray)(M:Nat):∀(N:Nat) (x:Nd),x.size<=N->nj x<=M->∀st env u,Bw st M->
 (Bw (jD F G x st env u).2 M/\PN.w (jD F G x st env u).1<=2*nj x)/\(Bw (zh F G x st env u).2 M/\PN.w (zh F G x st env u).1+x.args.length<=2*nj x):=by
 intro N
 induction N with
 |zero=>intro x W;have:=x.size_pos;omega
 |succ N ih=>
  have C:∀l:List Nd,Nd.ap l<=N->jM l<=M->∀st env u,Bw st M->Bw (kT F G l st env u).2 M/\PN.ws (kT F G l st env u).1<=2*jM l:=by
   intro l
   induction l with
   |nil=>intro _ _ st env u h;rw[kT];exact⟨h,Qt _⟩
   |cons x r iR=>
    intro hl E st env u h;simp only[Nd.ap]at hl;simp only[jM]at E;rw[jc];obtain⟨g,D⟩:=(ih x Zo Zo st env u h).1;obtain⟨m,h4⟩:=iR Zo Zo _ env u g;refine⟨m,?_⟩;simp only[PN.ws,jM];omega
  have gI:∀(s:ByteArray) (l:List Nd),Nd.ap l<=N->jM l<=M->∀i st env u,Bw st M->(∀k y,l[k]? =some y->jW s=5->cY s (i+k)=true->y.args.length=1)->
   Bw (ki F G s l i st env u).2.2 M/\PN.ws (ki F G s l i st env u).1+(ki F G s l i st env u).2.1.length<=2*jM l:=by
   intro s l
   induction l with
   |nil=>intro _ _ i st env u h _;rw[ki];exact⟨h,Qt _⟩
   |cons x r iR=>
    intro hl E i st env u h ha;simp only[Nd.ap]at hl;simp only[jM]at E;obtain⟨⟨g,D⟩,m,h4⟩:=ih x Zo Zo st env u h;have T:∀k y,r[k]? =some y->jW s=5->cY s (i+1+k)=true->y.args.length=1:=λk y J Y Z=>ha (k+1) y (by simpa using J) Y (by rw[show i+(k+1)=i+1+k from by omega];exact Z)
    cases q:cY s i with
    |true=>
     rw[zJ _ _ _ _ _ _ _ _ _ q];obtain⟨B,S⟩:=iR Zo Zo (i+1) _ env u m T;refine⟨B,?_⟩;simp only[PN.ws,jM];split
     .rename_i I;have:=ha 0 x rfl I q;rw[Vz];omega
     .omega
    |false=>
     rw[wd _ _ _ _ _ _ _ _ _ q];obtain⟨B,S⟩:=iR Zo Zo (i+1) _ env u g T;refine⟨B,?_⟩;simp only[PN.ws,jM];omega
  intro x W E st env u h;cases x with
  |mk k s lit args ab kids p=>
  simp only[Nd.size]at W;simp only[nj,gu]at E;have A:Nd.ap kids<=N:=by omega
  have d:jM kids<=M:=by omega
  simp only[nj,gu];refine⟨?_,?_⟩
  .cases aR:eR k s kids with
   |true=>
    rw[zN _ _ _ _ _ _ _ _ _ _ _ _ aR];have U:dw (jW s) kids=true:=by
     unfold eR at aR;simp only[vG]at aR;exact aR.2
    obtain⟨B,S⟩:=gI s kids A d 0 st env u h (λj y J I q=>by
     rw[I]at U;obtain⟨hl,b,hb,_,rG⟩:=TZ U;have:j=2:=by
      unfold cY at q;rw[I]at q;simp only[decide_eq_true_eq]at q;omega
     subst this;rw[hb]at J;obtain rfl:=XC J;exact rG)
    refine⟨B,?_⟩;simp only[PN.w];omega
   |false=>
    obtain⟨a1,a2⟩:=C kids A d st env u h;by_cases g:k=1
    .rw[eo _ _ _ _ _ _ _ _ _ _ _ _ aR g];exact⟨h,by simp only[PN.w,PN.ws,Q7];omega⟩
    by_cases D:k=2
    .rw[ep _ _ _ _ _ _ _ _ _ _ _ _ aR D];exact⟨h.of (gS _ _ _ _ _ _ _ _) (Jr _ _ _ _ _ _ _ _),by simp only[PN.w,PN.ws,Vz,Q7];omega⟩
    by_cases m:k=3
    .rw[et _ _ _ _ _ _ _ _ _ _ _ _ aR m];obtain⟨k3,k4⟩:=C kids A d (wC F G st env s u p true).2 env u (h.of (gS _ _ _ _ _ _ _ _) (Jr _ _ _ _ _ _ _ _));exact⟨k3,by simp only[PN.w,Vz,Q7];omega⟩
    by_cases h7:k=7
    .rw[eA _ _ _ _ _ _ _ _ _ _ _ _ aR h7];refine⟨?_,by simp only[PN.w,PN.ws,Q7];omega⟩;simp only;rw[w7];obtain⟨f1,K,L,f4⟩:=je st.outer.length true true p args 0 (st.aF (u:Int) args.length) env;obtain⟨f5,O,Q,f8⟩:=je st.outer.length false true p ab 0 (kP st.outer.length true true p args 0 (st.aF (u:Int) args.length) env).1 (kP st.outer.length true true p args 0 (st.aF (u:Int) args.length) env).2;have hB:Bw (aS args ab p st env (u:Int)).1 M:=⟨λl hl=>by
      have hl:l∈(kP st.outer.length false true p ab 0 (kP st.outer.length true true p args 0 (st.aF (u:Int) args.length) env).1 (kP st.outer.length true true p args 0 (st.aF (u:Int) args.length) env).2).1.bodies:=hl;rw[Q,L]at hl;have hl:l∈st.bodies++[[]]:=hl;rcases QG.1 hl with hl|hl
      .exact h.bd l hl
      .rw[QU.1 hl];exact X3 _,λa ha=>by
      have ha:a∈(kP st.outer.length false true p ab 0 (kP st.outer.length true true p args 0 (st.aF (u:Int) args.length) env).1 (kP st.outer.length true true p args 0 (st.aF (u:Int) args.length) env).2).1.args:=ha;rw[O,K]at ha;have ha:a∈st.args++[args.length]:=ha;rcases QG.1 ha with ha|ha
      .exact h.ar a ha
      .rw[QU.1 ha];omega⟩
     obtain⟨H,X⟩:=C kids A d (aS args ab p st env (u:Int)).1 (aS args ab p st env (u:Int)).2 st.outer.length hB;refine⟨λl hl=>?_,H.ar⟩;rcases QR hl with hl|rfl
     .exact H.bd l hl
     .omega
    by_cases h8:k=8
    .rw[eB _ _ _ _ _ _ _ _ _ _ _ _ aR h8];exact zDM
    by_cases h9:k=9
    .rw[eC _ _ _ _ _ _ _ _ _ _ _ _ aR h9];exact zDM
    by_cases h6:k=6
    .rw[ez _ _ _ _ _ _ _ _ _ _ _ _ aR h6];exact zDM
    by_cases h5:k=5
    .rw[ew _ _ _ _ _ _ _ _ _ _ _ _ aR h5];exact⟨a1,by simp only[PN.w,Q7,Sj];omega⟩
    cases hs:jO kids with
    |true=>
     rw[yD _ _ _ _ _ _ _ _ _ _ _ _ aR ⟨g,D,m,h5,h6,h7,h8,h9⟩ hs];have ht:Nd.ap kids.tail<=N/\jM kids.tail<=jM kids:=by
      cases kids with
      |nil=>exact⟨A,Qt _⟩
      |cons x r=>simp only[Nd.ap]at A;simp only[List.tail_cons,jM];exact⟨Zo,Zo⟩
     obtain⟨B,S⟩:=C kids.tail ht.1 Zo st env u h;exact⟨B,by simp only[PN.w,Q7];omega⟩
    |false=>
     rw[eu _ _ _ _ _ _ _ _ _ _ _ _ aR ⟨g,D,m,h5,h6,h7,h8,h9⟩ hs];exact zDM
  .rw[ye];obtain⟨f1,K,L,f4⟩:=je u true false p args 0 st env;obtain⟨f5,O,Q,f8⟩:=je u false false p ab 0 (kP u true false p args 0 st env).1 (kP u true false p args 0 st env).2;obtain⟨H,X⟩:=C kids A d _ (kP u false false p ab 0 (kP u true false p args 0 st env).1 (kP u true false p args 0 st env).2).2 u (h.of (Q.trans L) (O.trans K));refine⟨H,?_⟩;simp only[PN.w,Q6,List.length_range',Nd.args];omega
theorem wR {b:Bool}{r:Rs}(h:kQ b r≠none):b=true/\r≠none:=by
 unfold kQ at h;split at h
 .exact⟨by assumption,h⟩
 .exact absurd rfl h
theorem si {b:Bool}{r:Rs}(h:z7 b r≠none):r≠none:=by
 rintro rfl;exact h rfl
theorem tE {r:Rs}(h:wy r≠none):r≠none:=by
 rintro rfl;exact h rfl
theorem E9 {r q:Rs}(h:yJ r q≠none):r≠none/\q≠none:=by
 cases r with
 |none=>exact absurd rfl h
 |some a=>cases q with
  |none=>exact absurd rfl h
  |some b=>exact⟨(λe=>by cases e),(λe=>by cases e)⟩
theorem ud:∀{l:List Rs},jm l≠none->∀r∈l,r≠none:=by
 intro l
 induction l with
 |nil=>intro _ r hr;cases hr
 |cons x l ih=>
  intro h r hr;have d:x≠none/\jm l≠none:=by
   cases x with
   |none=>exact absurd rfl h
   |some a=>
    refine⟨(λe=>by cases e),λe=>h ?_⟩;simp only[jm,e]
  rcases QI.1 hr with rfl|hr
  .exact d.1
  .exact ih d.2 r hr
theorem part_ne {x:Nd}{p:Nat}{r:Rs}(h:uX x p r≠none):r≠none:=by
 unfold uX at h;have d:=(wR h).2;split at d
 .exact tE d
 .exact d
theorem sU {x:Nd}{p:Nat}{r:Rs}(h:jX x p r≠none):r≠none:=by
 unfold jX at h;exact part_ne (wR h).2
theorem Ic {x:Nd}{s:ByteArray}{r:Rs}(h:wx x s r≠none):r≠none:=by
 unfold wx at h;split at h
 .exact h
 .exact sU h
theorem E0 {p:Nat}:∀{l:List Nd},(∀r∈yM p l (wt l),r≠none)->∀y∈l,kM y≠none:=by
 intro l
 induction l with
 |nil=>intro _ y hy;cases hy
 |cons x l ih=>
  intro h y hy;simp only[wt,yM]at h;exact zDR
theorem msgs_ne:∀{l:List Nd},(∀r∈lr l (wt l),r≠none)->∀y∈l,kM y≠none:=by
 intro l
 induction l with
 |nil=>intro _ y hy;cases hy
 |cons x l ih=>
  intro h y hy;simp only[wt,lr]at h;rcases QI.1 hy with rfl|hy
  .exact(wR (h _ (QK ..))).2
  .exact ih (λr d=>h r (QJ _ d)) y hy
theorem JT:∀{l:List Nd},(∀r∈wM l (wt l),r≠none)->∀y∈l,kM y≠none:=by
 intro l
 induction l with
 |nil=>intro _ y hy;cases hy
 |cons x l ih=>
  intro h y hy;cases l with
  |nil=>
   simp only[wt,wM]at h;obtain rfl:=QU.1 hy;have:=h _ (QK ..);split at this
   .exact this
   .exact sU this
  |cons z l=>
   simp only[wt,wM]at h;exact zDR
theorem MN {s:ByteArray}{l:List Nd}(h:fB s l (wt l)≠none):∀y∈l,kM y≠none:=by
 unfold fB at h;exact E0 (ud (si (wR h).2))
theorem lx {n:Nat}{l:List ByteArray}{r:Rs}(h:wa n l r≠none):(∀s∈l,jF s=true)/\r≠none:=by
 unfold wa at h;exact⟨vg.1 (wR h).1,si (wR h).2⟩
theorem Xe {l:List Nd}(h:(match l,wt l with|[x],[r]=>jX x 1 r|_,_=>none)≠none):l.length=1/\∀y∈l,kM y≠none:=by
 match l,h with
 |[],h=>exact absurd rfl h
 |[x],h=>
  simp only[wt]at h;refine⟨rfl,λy d=>?_⟩;obtain rfl:=QU.1 d;exact sU h
 |_::_::_,h=>exact absurd rfl h
theorem I5 {s:ByteArray}(h:wm s=true):s≠e0:=by
 rintro rfl
 revert h;decide
theorem dz {s:ByteArray}(h:jF s=true):wm s=true:=by
 unfold jF at h;rw[vG]at h;exact h.2
structure E6 (k:Nat)(s:ByteArray)(args ab:List ByteArray)(kids:List Nd):Prop where
 kind:1<=k/\k<=9
 Nt:k=1∨k=2->kids=[]
 onekid:k=3∨k=9->kids.length=1
 send:k=4->0 < kids.length
 casc:k=5->2 < kids.length
 name:k=2∨k=3->wm s=true
 free:k=3->jF s=true
 noargs:k≠7->args=[]/\ab=[]
 T5:k=7->(∀a∈args,jF a=true)/\∀a∈ab,jF a=true
 fE:∀y∈kids,kM y≠none
theorem oO {k:Nat}{s:ByteArray}{lit:Lt}{args ab:List ByteArray}{kids:List Nd}{p:Int}(h:kM (.mk k s lit args ab kids p)≠none):E6 k s args ab kids:=by
 have j:∀{l:List ByteArray},l.length=0->l=[]:=λe=>vz e
 rw[kM]at h;unfold w8 at h;split at h
 .obtain⟨d,g⟩:=wR h;simp only[decide_eq_true_eq]at d;have A:kids=[]:=vz d.1;exact⟨Zo,λ_=>A,Zo,Zo,Zo,Zo,Zo,λ_=>⟨j d.2.2.1,j d.2.2.2⟩,Zo,λy hy=>by rw[A]at hy;cases hy⟩
 split at h
 .obtain⟨d,g⟩:=wR h;simp only[vG,decide_eq_true_eq]at d;have A:kids=[]:=vz d.1.1.1;exact⟨Zo,λ_=>A,Zo,Zo,Zo,λ_=>d.1.2,Zo,λ_=>⟨j d.1.1.2.1,j d.1.1.2.2⟩,Zo,λy hy=>by rw[A]at hy;cases hy⟩
 split at h
 .obtain⟨d,g⟩:=wR h;simp only[vG,decide_eq_true_eq]at d;obtain⟨m,q⟩:=Xe g;exact⟨Zo,Zo,λ_=>m,Zo,Zo,λ_=>dz d.2,λ_=>d.2,λ_=>⟨j d.1.1.1,j d.1.1.2⟩,Zo,q⟩
 split at h
 .obtain⟨d,g⟩:=wR h;simp only[vG,decide_eq_true_eq]at d
  match kids,g with
  |[],g=>exact absurd rfl g
  |x::l,g=>
   simp only[wt]at g;obtain⟨m,q⟩:=E9 g;refine⟨Zo,Zo,Zo,λ_=>by simp,Zo,Zo,Zo,λ_=>⟨j d.1.1.1,j d.1.1.2⟩,Zo,λy hy=>?_⟩;rcases QI.1 hy with rfl|hy
   .exact Ic m
   .exact MN q y hy
 split at h
 .obtain⟨d,g⟩:=wR h;simp only[vG,decide_eq_true_eq]at d;exact⟨Zo,Zo,Zo,Zo,Zo,Zo,Zo,λ_=>⟨j d.1.1,j d.1.2⟩,Zo,MN g⟩
 split at h
 .obtain⟨d,g⟩:=wR h;simp only[vG,decide_eq_true_eq]at d
  match kids,d,g with
  |[],_,g=>exact absurd rfl g
  |[_],_,g=>exact absurd rfl g
  |x::y::l,d,g=>
   simp only[wt]at g;obtain⟨m,q⟩:=E9 (si g);refine⟨Zo,Zo,Zo,Zo,λ_=>d.1.2.2.2,Zo,Zo,λ_=>⟨j d.1.2.1,j d.1.2.2.1⟩,Zo,λz hz=>?_⟩;rcases QI.1 hz with rfl|hz
   .exact Ic q
   .exact msgs_ne (l:=y::l) (ud m) z hz
 split at h
 .obtain⟨d,g⟩:=wR h;obtain⟨m,q⟩:=lx g;obtain⟨B,C⟩:=lx q;exact⟨Zo,Zo,Zo,Zo,Zo,Zo,Zo,λe=>absurd (by assumption) e,λ_=>⟨m,B⟩,JT (ud (tE C))⟩
 split at h
 .obtain⟨d,g⟩:=wR h;simp only[vG,decide_eq_true_eq]at d;exact⟨Zo,Zo,Zo,Zo,Zo,Zo,Zo,λ_=>⟨j d.1.2.1,j d.1.2.2⟩,Zo,E0 (ud (si (tE g)))⟩
 split at h
 .obtain⟨d,g⟩:=wR h;simp only[vG,decide_eq_true_eq]at d;obtain⟨m,q⟩:=Xe g;exact⟨Zo,Zo,λ_=>m,Zo,Zo,Zo,Zo,λ_=>⟨j d.1.2.1,j d.1.2.2⟩,Zo,q⟩
 .exact absurd rfl h
theorem W5 {Q:Nd->Prop}(q:∀k s lit args ab kids p,E6 k s args ab kids->(∀y∈kids,Q y)->Q (.mk k s lit args ab kids p)):∀x,kM x≠none->Q x:=by
 have d:∀(N:Nat) (x:Nd),x.size<=N->kM x≠none->Q x:=by
  intro N
  induction N with
  |zero=>intro x j;have:=x.size_pos;omega
  |succ N ih=>
   intro x j h;cases x with
   |mk k s lit args ab kids p=>
   simp only[Nd.size]at j;have g:=oO h;exact q k s lit args ab kids p g λy m=>ih y (by have:=Nd.aD m;omega) (g.fE y m)
 exact λx=>d _ x (Qt _)
theorem E6.okK {k:Nat}{s:ByteArray}{args ab:List ByteArray}{kids:List Nd}(h:E6 k s args ab kids):okK k kids=true:=by
 unfold V.okK;simp only[vG,vT,vO,decide_eq_true_eq,decide_eq_false_iff_not];refine⟨⟨⟨?_,?_⟩,h.kind⟩,?_⟩
 .by_cases e:k=1∨k=2
  .exact .inr (by rw[h.Nt e];rfl)
  .exact .inl e
 .by_cases e:k=5
  .exact .inr (by have:=h.casc e;omega)
  .exact .inl e
 .by_cases e:k=4
  .exact .inr (h.send e)
  .exact .inl e
theorem Nu {l:List Nd}(h:∀y∈l,Xb y=true):ss l=true:=by
 induction l with
 |nil=>rfl
 |cons x r ih=>
  simp only[ss,vG];exact⟨h x Zs,ih λy d=>h y (by simp[d])⟩
theorem W4:∀x,kM x≠none->x.w<=274877906944->Xb x=true:=W5 λk s lit args ab kids p h g j=>by
 simp only[Nd.w]at j;simp only[Xb,vG,decide_eq_true_eq];exact⟨⟨h.okK,Zo⟩,Nu λy d=>g y d (by have:=Nd.cj d;omega)⟩
def Cg(r:jZ):Bool:=decide (0<=r.index)&&decide (0<=r.slot)&&decide (r.kind≠5/\r.kind≠6)&&decide (r.kind=8↔r.name≠e0)
mutual
def eX(n:Nat):PN->Bool
 |.mk k _ _ rs un _ kids=>rs.all Cg&&(!decide (k=8)||decide (1<=un/\un < n))&&wQ n kids
def wQ(n:Nat):List PN->Bool
 |[]=>true
 |x::r=>eX n x&&wQ n r
end
mutual
theorem ml {n m:Nat}(h:n<=m):∀x:PN,eX n x=true->eX m x=true
 |.mk k s l rs u b kids,hx=>by
  simp only[eX,vG,vT,decide_eq_true_eq]at hx|-;exact⟨⟨hx.1.1,hx.1.2.imp_right λk=>⟨k.1,Zo⟩⟩,oh h kids hx.2⟩
theorem oh {n m:Nat}(h:n<=m):∀l:List PN,wQ n l=true->wQ m l=true
 |[],_=>rfl
 |x::r,hx=>by
  simp only[wQ,vG]at hx|-;exact⟨ml h x hx.1,oh h r hx.2⟩
end
theorem Bz {n:Nat}:∀{l:List PN},wQ n l=true->∀x∈l,eX n x=true
 |y::r,h,x,hx=>by
  simp only[wQ,vG]at h;rcases QI.1 hx with rfl|hx
  .exact h.1
  .exact Bz h.2 x hx
theorem Ev {n:Nat}:∀{l:List PN},(∀x∈l,eX n x=true)->wQ n l=true
 |[],_=>rfl
 |x::r,h=>by
  simp only[wQ,vG];exact⟨h x Zs,Ev λy d=>h y (by simp[d])⟩
theorem Ds {n:Nat}(b:Bool){l:List PN}(h:wQ n l=true):wQ n (wL b l)=true:=by
 cases l with
 |nil=>rfl
 |cons x r=>
  simp only[wQ,vG]at h;simp only[wL,wQ,vG];refine⟨h.1,Ev λy d=>?_⟩;obtain⟨z,g,rfl⟩:=QO.1 d;have:=Bz h.2 z g;cases z;exact this
structure Pp (st:ah):Prop where
 pos:0 < st.outer.length
 bd:∀l∈st.bodies,wQ st.outer.length l=true
 ro:∀(i:Nat) o,st.outer[i]? =some o->0 < i->0<=o
theorem Pp.of {a b:ah}(h:Pp a)(g:b.bodies=a.bodies)(d:b.outer=a.outer):Pp b:=⟨by rw[d];exact h.pos,λl j=>by rw[d];exact h.bd l (by rw[<- g];exact j),by rw[d];exact h.ro⟩
theorem EN(F G:List ByteArray)(st:ah)(env:List Nat)(nm:ByteArray)(u:Nat)(p:Int)(put:Bool):(wC F G st env nm u p put).2.outer=st.outer:=by
 unfold wC;split
 .rfl
 .split
  .simp only;split
   .exact fp _ _ _
   .rfl
  .split
   .rfl
   .simp only;split
    .rfl
    .exact fp _ _ _
theorem rawP(v:Nat):Cg (cZ v)=true:=by
 unfold Cg cZ;simp only[vG,decide_eq_true_eq];refine⟨⟨⟨Zo,Zo⟩,Zo⟩,?_⟩;exact⟨λe=>by omega,λe=>absurd rfl e⟩
theorem Xz(F G:List ByteArray)(st:ah)(env:List Nat){nm:ByteArray}(u:Nat)(p:Int)(put:Bool)(j:nm≠e0):Cg (wC F G st env nm u p put).1=true:=by
 have g:∀(k:Nat) (i:Nat),k≠5/\k≠6/\k≠8->Cg ⟨k,i,0,e0⟩=true:=λk i d=>by
  unfold Cg;simp only[vG,decide_eq_true_eq];refine⟨⟨⟨Zo,Zo⟩,d.1,d.2.1⟩,?_⟩;exact⟨λe=>absurd e d.2.2,λe=>absurd rfl e⟩
 unfold wC;split
 .have:=x5 nm;exact g (wV nm) 0 ⟨Zo,Zo,Zo⟩
 .split
  .exact rawP _
  .split
   .exact g 7 _ ⟨Zo,Zo,Zo⟩
   .unfold Cg;simp only[vG,decide_eq_true_eq];exact⟨⟨⟨Zo,Zo⟩,Zo,Zo⟩,λ_=>j,λ_=>trivial⟩
theorem pp_part(F G:List ByteArray):∀(N:Nat) (x:Nd),x.size<=N->kM x≠none->∀st env u,Pp st->
 (Pp (jD F G x st env u).2/\eX (jD F G x st env u).2.outer.length (jD F G x st env u).1=true)/\(Pp (zh F G x st env u).2/\eX (zh F G x st env u).2.outer.length (zh F G x st env u).1=true):=by
 intro N
 induction N with
 |zero=>intro x T;have:=x.size_pos;omega
 |succ N ih=>
  have H:∀l:List Nd,Nd.ap l<=N->(∀y∈l,kM y≠none)->∀st env u,Pp st->Pp (kT F G l st env u).2/\wQ (kT F G l st env u).2.outer.length (kT F G l st env u).1=true:=by
   intro l
   induction l with
   |nil=>intro _ _ st env u h;rw[kT];exact⟨h,rfl⟩
   |cons x r iR=>
    intro hl g st env u h;simp only[Nd.ap]at hl;rw[jc];obtain⟨m,h2⟩:=(ih x Zo (g x Zs) st env u h).1;obtain⟨h3,h4⟩:=iR Zo (λy q=>g y (by simp[q])) _ env u m;exact zE3
  have gI:∀(s:ByteArray) (l:List Nd),Nd.ap l<=N->(∀y∈l,kM y≠none)->∀i st env u,Pp st->
   Pp (ki F G s l i st env u).2.2/\wQ (ki F G s l i st env u).2.2.outer.length (ki F G s l i st env u).1=true/\(ki F G s l i st env u).2.1.all Cg=true/\Gr st (ki F G s l i st env u).2.2:=by
   intro s l
   induction l with
   |nil=>intro _ _ i st env u h;rw[ki];exact⟨h,rfl,rfl,Gr.refl _⟩
   |cons x r iR=>
    intro hl g i st env u h;simp only[Nd.ap]at hl;obtain⟨g1,g2⟩:=zq F G N x Zo st env u;obtain⟨⟨m,h2⟩,h3,h4⟩:=ih x Zo (g x Zs) st env u h;cases d:cY s i with
    |true=>
     rw[zJ _ _ _ _ _ _ _ _ _ d];obtain⟨A,B,j,C⟩:=iR Zo (λy q=>g y (by simp[q])) (i+1) _ env u h3;refine⟨A,?_,?_,g2.trans C⟩
     .simp only[wQ,vG];exact⟨ml C.outer.length_le _ h4,B⟩
     .simp only;split
      .simp only[vf,vG];exact⟨rawP _,j⟩
      .exact j
    |false=>
     rw[wd _ _ _ _ _ _ _ _ _ d];obtain⟨A,B,j,C⟩:=iR Zo (λy q=>g y (by simp[q])) (i+1) _ env u m;refine⟨A,?_,j,g1.trans C⟩;simp only[wQ,vG];exact⟨ml C.outer.length_le _ h2,B⟩
  intro x T g st env u h;cases x with
  |mk k s lit args ab kids p=>
  have d:=oO g;simp only[Nd.size]at T;have hk:Nd.ap kids<=N:=by omega
  have bX:∀(n D:Nat) (nm:ByteArray) (U:Lt) (un:Int) (b:Bool) (E:List PN),D≠8->wQ n E=true->eX n (.mk D nm U [] un b E)=true:=λn D nm U un b E hk Q=>by
   simp only[eX,List.all_nil,vW,vG,vT];exact⟨.inl (by rw[Zf hk];rfl),Q⟩
  have W:∀(n D:Nat) (r:jZ) (E:List PN),D≠8->Cg r=true->wQ n E=true->eX n (.mk D e0 eV [r] 0 false E)=true:=λn D r E hk S Q=>by
   simp only[eX,vf,List.all_nil,vI,vG,vT];exact⟨⟨S,.inl (by rw[Zf hk];rfl)⟩,Q⟩
  refine⟨?_,?_⟩
  .cases aR:eR k s kids with
   |true=>
    rw[zN _ _ _ _ _ _ _ _ _ _ _ _ aR];obtain⟨A,B,j,_⟩:=gI s kids hk d.fE 0 st env u h;refine⟨A,?_⟩;simp only[eX,vG,vT];refine⟨⟨j,.inl ?_⟩,B⟩;have:iP s≠8:=by unfold iP;split <;> omega
    rw[Zf this];rfl
   |false=>
    obtain⟨a1,a2⟩:=H kids hk d.fE st env u h;by_cases m:k=1
    .rw[eo _ _ _ _ _ _ _ _ _ _ _ _ aR m];exact⟨h,bX _ _ _ _ _ _ _ Zo rfl⟩
    by_cases h2:k=2
    .rw[ep _ _ _ _ _ _ _ _ _ _ _ _ aR h2];exact⟨h.of (gS _ _ _ _ _ _ _ _) (EN _ _ _ _ _ _ _ _),W _ _ _ _ Zo (Xz _ _ _ _ _ _ _ (I5 (d.name (.inl h2)))) rfl⟩
    by_cases h3:k=3
    .rw[et _ _ _ _ _ _ _ _ _ _ _ _ aR h3];obtain⟨j,C⟩:=H kids hk d.fE (wC F G st env s u p true).2 env u (h.of (gS _ _ _ _ _ _ _ _) (EN _ _ _ _ _ _ _ _));exact⟨j,W _ _ _ _ Zo (Xz _ _ _ _ _ _ _ (I5 (d.name (.inr h3)))) C⟩
    by_cases h7:k=7
    .rw[eA _ _ _ _ _ _ _ _ _ _ _ _ aR h7];simp only;rw[w7];obtain⟨J,X,M,Y⟩:=je st.outer.length true true p args 0 (st.aF (u:Int) args.length) env;obtain⟨K,Z,O,f8⟩:=je st.outer.length false true p ab 0 (kP st.outer.length true true p args 0 (st.aF (u:Int) args.length) env).1 (kP st.outer.length true true p args 0 (st.aF (u:Int) args.length) env).2;have hol:(aS args ab p st env (u:Int)).1.outer.length=st.outer.length+1:=by
      show(kP st.outer.length false true p ab 0 (kP st.outer.length true true p args 0 (st.aF (u:Int) args.length) env).1 (kP st.outer.length true true p args 0 (st.aF (u:Int) args.length) env).2).1.outer.length=_;rw[K,J];unfold ah.aF;simp
     have hB:Pp (aS args ab p st env (u:Int)).1:=⟨Zo,λl hl=>by
      have hl:l∈(kP st.outer.length false true p ab 0 (kP st.outer.length true true p args 0 (st.aF (u:Int) args.length) env).1 (kP st.outer.length true true p args 0 (st.aF (u:Int) args.length) env).2).1.bodies:=hl;rw[O,M]at hl;have hl:l∈st.bodies++[[]]:=hl;rcases QG.1 hl with hl|hl
      .exact oh Zo l (h.bd l hl)
      .rw[QU.1 hl];rfl,λi o d hp=>by
      have d:(kP st.outer.length false true p ab 0 (kP st.outer.length true true p args 0 (st.aF (u:Int) args.length) env).1 (kP st.outer.length true true p args 0 (st.aF (u:Int) args.length) env).2).1.outer[i]? =some o:=d;rw[K,J]at d;have d:(st.outer++[(u:Int)])[i]? =some o:=d;rw[Vi]at d;split at d
      .exact h.ro i o d hp
      .have:=(Vt.1 d).1;simp only[Q9]at this;have e:i - st.outer.length=0:=by omega
       rw[e]at d;obtain rfl:(u:Int)=o:=by simpa using d
       omega⟩
     obtain⟨I,L⟩:=H kids hk d.fE (aS args ab p st env (u:Int)).1 (aS args ab p st env (u:Int)).2 st.outer.length hB;have gA:=(wk F G kids (aS args ab p st env (u:Int)).1 (aS args ab p st env (u:Int)).2 st.outer.length).outer.length_le;refine⟨⟨I.pos,λl hl=>?_,I.ro⟩,?_⟩
     .rcases QR hl with hl|rfl
      .exact I.bd l hl
      .exact L
     .simp only[eX,List.all_nil,vW,vG,vT,decide_eq_true_eq];have:=h.pos;exact⟨.inr ⟨Zo,Zo⟩,rfl⟩
    by_cases h8:k=8
    .rw[eB _ _ _ _ _ _ _ _ _ _ _ _ aR h8];exact zEC
    by_cases h9:k=9
    .rw[eC _ _ _ _ _ _ _ _ _ _ _ _ aR h9];exact zEC
    by_cases h6:k=6
    .rw[ez _ _ _ _ _ _ _ _ _ _ _ _ aR h6];exact zEC
    by_cases h5:k=5
    .rw[ew _ _ _ _ _ _ _ _ _ _ _ _ aR h5];exact⟨a1,bX _ _ _ _ _ _ _ Zo (Ds _ a2)⟩
    cases hs:jO kids with
    |true=>
     rw[yD _ _ _ _ _ _ _ _ _ _ _ _ aR ⟨m,h2,h3,h5,h6,h7,h8,h9⟩ hs];have ht:Nd.ap kids.tail<=N:=by
      exact zBS
     obtain⟨A,B⟩:=H kids.tail ht (λy q=>d.fE y (List.mem_of_mem_tail q)) st env u h;exact⟨A,bX _ _ _ _ _ _ _ Zo B⟩
    |false=>
     rw[eu _ _ _ _ _ _ _ _ _ _ _ _ aR ⟨m,h2,h3,h5,h6,h7,h8,h9⟩ hs];exact zEC
  .rw[ye];obtain⟨J,X,M,Y⟩:=je u true false p args 0 st env;obtain⟨K,Z,O,f8⟩:=je u false false p ab 0 (kP u true false p args 0 st env).1 (kP u true false p args 0 st env).2;obtain⟨I,L⟩:=H kids hk d.fE _ (kP u false false p ab 0 (kP u true false p args 0 st env).1 (kP u true false p args 0 st env).2).2 u (h.of (O.trans M) (K.trans J));refine⟨I,?_⟩;simp only[eX,vG,vT];refine⟨⟨?_,.inl rfl⟩,L⟩;rw[vg];intro r S;obtain⟨v,_,rfl⟩:=QO.1 S;exact rawP v
theorem nI {α:Type}[DecidableEq α]{l:List α}{x:α}(h:x∈l):∃i,i < l.length/\l.findIdx? (λy=>decide (y=x))=some i:=by
 cases e:l.findIdx? (λy=>decide (y=x))with
 |none=>
  rw[List.findIdx?_eq_none_iff]at e;have:=e x h;simp at this
 |some i=>
  obtain⟨d,_⟩:=List.findIdx?_eq_some_iff_getElem.1 e;exact⟨i,d,rfl⟩
theorem A5 {α:Type}[DecidableEq α]{l:List α}{x:α}(h:x∈l):0<=nW l x/\nW l x < l.length:=by
 obtain⟨i,h1,d⟩:=nI h;unfold nW;rw[d];simp only;omega
theorem ma {st:ah}{u v:Nat}{r:Bool}:v∈st.locals u r↔v < st.vars.length/\st.af v=u/\st.bt v < 0/\st.rem v=r:=by
 unfold ah.locals;rw[QL,QS];simp only[vG,decide_eq_true_eq,and_assoc]
def ah.frame(st:ah)(u:Nat):Int:=st.args.getD u 0+(st.copied u).length+(st.locals u false).length+(if 0 < (st.locals u true).length then 1 else 0)
theorem Gw {st:ah}{u:Nat}{t:Nat×Int}(g:t.1≠u)(h:t∈st.copied u):0<=st.place u t/\st.place u t < st.frame u:=by
 obtain⟨i,h1,d⟩:=nI h;unfold ah.place ah.frame;rw[if_neg g,d];simp only;split <;> omega
theorem B8 {st:ah}{u:Nat}{t:Nat×Int}(d:(t.1=u/\t.2 < st.args.getD u 0/\(t.2 < 0->0 < (st.locals u true).length))∨(t.1≠u/\t∈st.copied u)):0<=st.place u t/\st.place u t < st.frame u:=by
 rcases d with⟨h1,h2,h3⟩|⟨h1,h2⟩
 .unfold ah.place ah.frame;rw[if_pos h1];by_cases c:0<=t.2
  .rw[if_pos c];split <;> omega
  .rw[if_neg c,if_pos (h3 Zo)];omega
 .exact Gw h1 h2
theorem Ph.known {st:ah}(h:Ph st){i v:Nat}(s:V.nw st i v=true):0<=(st.known i v).index/\(st.known i v).index < st.frame i/\0<=(st.known i v).slot/\((st.known i v).kind=5∨(st.known i v).kind=6)/\(st.known i v).name=e0:=by
 obtain⟨g,h2⟩:=h.nw s;obtain⟨k1,k2,A⟩:=h.wf.var g;unfold ah.known;by_cases c:0<=st.bt v
 .rw[if_pos c];have:=B8 (st:=st) (u:=i) (t:=(st.af v,st.bt v)) (by
   by_cases e:st.af v=i
   .exact .inl ⟨e,by rw[<- e];exact A,λj=>by simp only at j;omega⟩
   .rcases h2 with h2|h2
    .exact absurd h2 e
    .exact .inr ⟨e,h2.1⟩)
  exact⟨this.1,this.2,Zs,.inl rfl,rfl⟩
 rw[if_neg c];cases hr:st.rem v with
 |true=>
  simp only[if_true];have d:v∈st.locals (st.af v) true:=ma.2 ⟨g,rfl,Zo,hr⟩;have m:st.bt v=-1:=by omega
  have:=B8 (st:=st) (u:=i) (t:=(st.af v,-1)) (by
   by_cases e:st.af v=i
   .exact .inl ⟨e,by simp only;omega,λ_=>by rw[<- e];exact List.length_pos_of_mem d⟩
   .rcases h2 with h2|h2
    .exact absurd h2 e
    .rw[m]at h2;exact .inr ⟨e,h2.1⟩)
  exact⟨this.1,this.2,(A5 d).1,.inr trivial,trivial⟩
 |false=>
  simp only[vM,if_false];have q:st.af v=i:=by
   rcases h2 with h2|h2
   .exact h2
   .have:=h2.2 Zo;rw[hr]at this;cases this
  have d:v∈st.locals i false:=ma.2 ⟨g,q,Zo,hr⟩;have:=A5 d;unfold ah.frame;refine⟨Zo,?_,Zs,Zs,trivial⟩;split <;> omega
def Nl(n:Int)(r:jZ):Bool:=!(decide (r.index < 0)||decide (r.slot < 0)||(decide (r.kind=5∨r.kind=6)&&decide (n<=r.index))||(decide (r.kind=8) !=decide (r.name≠e0)))
mutual
def Wh(n m:Int):PN->Bool
 |.mk k _ _ rs un _ kids=>rs.all (Nl n)&&!(decide (k=8)&&(decide (un < 1)||decide (m<=un)))&&Bf n m kids
def Bf(n m:Int):List PN->Bool
 |[]=>true
 |x::r=>Wh n m x&&Bf n m r
end
theorem Ph.fix {st:ah}(h:Ph st){i:Nat}{r:jZ}(d:Cg r=true)(g:(!decide (r.kind=99)||V.nw st i r.index.toNat)=true):Nl (st.frame i) (st.fix i r)=true:=by
 unfold Cg at d;simp only[vG,decide_eq_true_eq]at d;obtain⟨⟨⟨h3,h4⟩,h5⟩,j⟩:=d;unfold ah.fix;by_cases c:r.kind=99
 .rw[if_pos c];rw[Zt c]at g;simp only[vQ,vN]at g;obtain⟨k1,k2,k3,k4,m⟩:=h.known g;unfold Nl;simp only[vO,vS,vF,decide_eq_false_iff_not];refine⟨⟨⟨Zo,Zo⟩,.inr Zo⟩,?_⟩;rw[m,Zf (show ¬(e0≠e0)from λe=>e rfl),Zf (show ¬(st.known i r.index.toNat).kind=8 by omega)];rfl
 .rw[if_neg c];unfold Nl;simp only[vO,vS,vF,decide_eq_false_iff_not];refine⟨⟨⟨Zo,Zo⟩,.inl Zo⟩,?_⟩;rw[decide_eq_decide.2 j];cases decide (r.name≠e0) <;> rfl
mutual
theorem Ph.lies {st:ah}(h:Ph st){i:Nat}:∀x:PN,eX st.outer.length x=true->de (V.nw st i) x=true->Wh (st.frame i) st.outer.length (eM st i x)=true
 |.mk k s l rs u b kids,h1,h2=>by
  simp only[eX,de,vG,vT,vg,decide_eq_true_eq]at h1 h2;simp only[eM,Wh,vG];refine⟨⟨?_,?_⟩,Ph.Wi h kids h1.2 h2.2⟩
  .rw[vg];intro r g;obtain⟨z,d,rfl⟩:=QO.1 g;exact h.fix (h1.1.1 z d) (by rw[vT];exact h2.1 z d)
  .rcases h1.1.2 with e|e
   .have:¬k=8:=by simpa using e
    rw[Zf this];rfl
   .rw[Zf (show ¬u < 1 by omega),Zf (show ¬(st.outer.length:Int)<=u by omega)];simp
theorem Ph.Wi {st:ah}(h:Ph st){i:Nat}:∀l:List PN,wQ st.outer.length l=true->wI (V.nw st i) l=true->Bf (st.frame i) st.outer.length (zv st i l)=true
 |[],_,_=>rfl
 |x::r,h1,h2=>by
  simp only[wQ,wI,vG]at h1 h2;simp only[zv,Bf,vG];exact⟨Ph.lies h x h1.1 h2.1,Ph.Wi h r h1.2 h2.2⟩
end
theorem oA(st:ah)(u:Nat):(st.aB u).frame=st.frame u:=by
 unfold jp.frame ah.aB ah.frame;simp only[Q6]
 congr 1
 by_cases c:0 < (st.locals u true).length
 .rw[if_pos c,if_pos Zo]
 .rw[if_neg c,if_neg Zo]
structure SY (l:List jp)(i:Nat)(x:jp):Prop where
 args:0<=x.args
 locals:0<=x.locals
 outer:0 < i->0<=x.outer/\x.outer < i
 dZ:∀r∈x.copied,r.kind=5/\0<=r.index/\∃(o:Nat) (y:jp),x.outer=(o:Int)/\l[o]? =some y/\r.index < y.frame
 body:Bf x.frame l.length x.body=true
theorem Ph.unit {st:ah}(h:Ph st)(m:Pp st){i:Nat}(g:i < st.outer.length):SY ((List.range st.outer.length).map st.aB) i (st.aB i):=by
 have j:st.bodies[i]? =some (st.bodies.getD i []):=by
  rw[Vh,Zg (by rw[h.wf.bl];exact g)];rfl
 have A:0 < i->0<=st.outer.getD i (-1):=λd=>by
  have e:st.outer[i]? =some st.outer[i]:=Zg g;rw[Vh,e];exact m.ro i _ e d
 refine⟨by show(0:Int)<=(st.args.getD i 0:Nat);omega,by show(0:Int)<=((st.locals i false).length:Nat);omega,λd=>⟨A d,h.wf.fu i⟩,λr B=>?_,?_⟩
 .obtain⟨t,q,rfl⟩:=QO.1 B;obtain⟨k1,k2,k3,k4,k5,C⟩:=h.oF g q;have nN:=h.wf.fu i;have s:=B8 (st:=st) (u:=(st.outer.getD i (-1)).toNat) (t:=t) (by
   by_cases e:t.1=(st.outer.getD i (-1)).toNat
   .refine .inl ⟨e,by rw[<- e];exact C,λc=>by rw[<- e];exact h.J3 q c⟩
   .rcases k2 with k2|k2
    .exact absurd k2 e
    .exact .inr ⟨e,k2⟩)
  refine⟨rfl,s.1,(st.outer.getD i (-1)).toNat,st.aB (st.outer.getD i (-1)).toNat,?_,?_,?_⟩
  .show st.outer.getD i (-1)=_;omega
  .rw[Vu,List.getElem?_range Zo];rfl
  .rw[oA];exact s.2
 .rw[oA];have:=h.Wi (i:=i) (st.bodies.getD i []) (m.bd _ (Zv j)) (h.bd i _ j);rw[Q6,List.length_range];exact this
structure E7 (st:ah)(n:Nat)(args:Nat):Prop where
 ph:Ph st
 first:st.outer[0]? =some (-1)/\st.args[0]? =some args
 bw:Bw st n
 less:st.vars.length<=n/\st.uses.length<=n/\st.outer.length<=n
def iX(args ab:List ByteArray)(kids:List Nd):Nat:=gu args ab (jM kids)
theorem S3(F G:List ByteArray):∀(l:List Nd) st env u,Ph st->u < st.outer.length->mP st env u->Ph (kT F G l st env u).2/\wI (nw (kT F G l st env u).2 u) (kT F G l st env u).1=true:=by
 intro l
 induction l with
 |nil=>intro st env u h d g;rw[kT];exact⟨h,rfl⟩
 |cons x r ih=>
  intro st env u h d g;rw[jc];have j:=(zq F G _ x (Qt _) st env u).1;obtain⟨m,h2⟩:=(ph_part F G _ x (Qt _) st env u h d g).1;obtain⟨h3,h4⟩:=ih _ env u m (Qw d j.outer.length_le) (g.gr j h.wf m.wf d);exact zDT
theorem all_bw(F G:List ByteArray)(M:Nat):∀(l:List Nd),jM l<=M->∀st env u,Bw st M->Bw (kT F G l st env u).2 M/\PN.ws (kT F G l st env u).1<=2*jM l:=by
 intro l
 induction l with
 |nil=>intro _ st env u h;rw[kT];exact⟨h,Qt _⟩
 |cons x r ih=>
  intro j st env u h;simp only[jM]at j;rw[jc];obtain⟨d,h2⟩:=(w_part F G M _ x (Qt _) Zo st env u h).1;obtain⟨g,h4⟩:=ih Zo _ env u d;refine⟨g,?_⟩;simp only[PN.ws,jM];omega
theorem S4(F G:List ByteArray):∀(l:List Nd) st env u,yB st (kT F G l st env u).2 (jM l):=by
 intro l
 induction l with
 |nil=>intro st env u;rw[kT];exact yB.refl st
 |cons x r ih=>
  intro st env u;rw[jc];exact(oJ F G _ x (Qt _) st env u).1.trans (ih _ env u)
theorem all_pp(F G:List ByteArray):∀(l:List Nd),(∀y∈l,kM y≠none)->∀st env u,Pp st->Pp (kT F G l st env u).2/\wQ (kT F G l st env u).2.outer.length (kT F G l st env u).1=true:=by
 intro l
 induction l with
 |nil=>intro _ st env u h;rw[kT];exact⟨h,rfl⟩
 |cons x r ih=>
  intro d st env u h;rw[jc];obtain⟨g,h2⟩:=(pp_part F G _ x (Qt _) (d x Zs) st env u h).1;obtain⟨h3,h4⟩:=ih (λy j=>d y (by simp[j])) _ env u g;exact zE3
theorem ph0:Ph fR:=⟨⟨rfl,rfl,λi o h=>by simp[fR]at h,λv x h=>by simp[fR]at h,λq h=>by simp[fR]at h⟩,λq h=>by simp[fR]at h,λi l h=>by simp[fR]at h⟩
theorem x6(F G args ab:List ByteArray)(kids:List Nd):E7 (zu F G args ab kids) (iX args ab kids) args.length:=by
 unfold zu;rw[w7];have Z:Ph (fR.aF (-1) args.length):=ph0.aF ⟨Zo,Zd⟩;obtain⟨K,L⟩:=mo 0 true true 0 args 0 (fR.aF (-1) args.length) [] Z (Nat.zero_lt_one) (λ_=>by show 0+args.length<=args.length;omega) (λv hv=>by cases hv);obtain⟨E,O,Q,f4⟩:=je 0 true true 0 args 0 (fR.aF (-1) args.length) [];obtain⟨M,N⟩:=mo 0 false true 0 ab 0 _ _ K (by rw[E];exact Nat.zero_lt_one) (λe=>by cases e) L;obtain⟨S,T,U,f8⟩:=je 0 false true 0 ab 0 (kP 0 true true 0 args 0 (fR.aF (-1) args.length) []).1 (kP 0 true true 0 args 0 (fR.aF (-1) args.length) []).2;obtain⟨D,d⟩:∃D,D=aS args ab 0 fR [] (-1):=⟨_,rfl⟩;have I:Ph D.1:=by rw[d];exact M
 have J:mP D.1 D.2 0:=by rw[d];exact N
 have q:D.1.outer=[-1]:=by rw[d];exact S.trans E
 have m:D.1.args=[args.length]:=by rw[d];exact T.trans O
 have s:D.1.bodies=[[]]:=by rw[d];exact U.trans Q
 have A:yB fR D.1 (1+(args.length+ab.length)):=by
  rw[d];exact(tV fR (-1) args.length).trans ((wu _ _ _ _ _ _ _ _).trans (wu _ _ _ _ _ _ _ _))
 rw[<- d];show E7 ({(kT F G kids D.1 D.2 0).2 with bodies:=(kT F G kids D.1 D.2 0).2.bodies.set 0 (kT F G kids D.1 D.2 0).1}) _ _;obtain⟨W,X⟩:=S3 F G kids D.1 D.2 0 I (by rw[q];decide) J;have g:=wk F G kids D.1 D.2 0;obtain⟨C,b2⟩:=all_bw F G (iX args ab kids) kids (by unfold iX gu;omega) D.1 D.2 0 ⟨λl j=>by
  rw[s,QU]at j;rw[j];exact X3 _,λa H=>by
  rw[m,QU]at H;rw[H];unfold iX gu;omega⟩
 have Y:=A.trans (S4 F G kids D.1 D.2 0);refine⟨W.body 0 X,⟨?_,?_⟩,⟨λl j=>?_,C.ar⟩,?_⟩
 .obtain⟨t,B⟩:=g.outer;show(kT F G kids D.1 D.2 0).2.outer[0]? =_;rw[<- B,q];rfl
 .obtain⟨t,B⟩:=g.args;show(kT F G kids D.1 D.2 0).2.args[0]? =_;rw[<- B,m];rfl
 .rcases QR j with j|rfl
  .exact C.bd l j
  .unfold iX gu;omega
 .obtain⟨l1,l2,l3⟩:=Y;have e1:fR.vars.length=0:=rfl;have e2:fR.uses.length=0:=rfl;have e3:fR.outer.length=0:=rfl;unfold iX gu;exact⟨by show(kT F G kids D.1 D.2 0).2.vars.length<=_;omega,by show(kT F G kids D.1 D.2 0).2.uses.length<=_;omega,by show(kT F G kids D.1 D.2 0).2.outer.length<=_;omega⟩
theorem root_pp(F G args ab:List ByteArray)(kids:List Nd)(H:∀y∈kids,kM y≠none):Pp (zu F G args ab kids):=by
 unfold zu;rw[w7];obtain⟨s,f2,A,f4⟩:=je 0 true true 0 args 0 (fR.aF (-1) args.length) [];obtain⟨B,f6,C,f8⟩:=je 0 false true 0 ab 0 (kP 0 true true 0 args 0 (fR.aF (-1) args.length) []).1 (kP 0 true true 0 args 0 (fR.aF (-1) args.length) []).2;obtain⟨D,j⟩:∃D,D=aS args ab 0 fR [] (-1):=⟨_,rfl⟩;have g:D.1.outer=[-1]:=by rw[j];exact B.trans s
 have m:D.1.bodies=[[]]:=by rw[j];exact C.trans A
 rw[<- j];show Pp ({(kT F G kids D.1 D.2 0).2 with bodies:=(kT F G kids D.1 D.2 0).2.bodies.set 0 (kT F G kids D.1 D.2 0).1});obtain⟨h,E⟩:=all_pp F G kids H D.1 D.2 0 ⟨by rw[g];decide,λl d=>by
  rw[m,QU]at d;rw[d];rfl,λi o q hp=>by
  rw[g]at q;have:=(Vt.1 q).1;simp only[Q9]at this;omega⟩
 refine⟨h.pos,λl d=>?_,h.ro⟩;rcases QR d with d|rfl
 .exact h.bd l d
 .exact E
theorem E7.ZT {st:ah}{n a:Nat}(h:E7 st n a):st.copied 0=[]:=by
 have d:=h.first.1
 have hl:=(Vt.1 d).1;have:st.outer.getD 0 (-1)=-1:=by rw[Vh,d];rfl
 unfold ah.copied;rw[h.ph.wf.line Zo,this];rfl
end Go.V

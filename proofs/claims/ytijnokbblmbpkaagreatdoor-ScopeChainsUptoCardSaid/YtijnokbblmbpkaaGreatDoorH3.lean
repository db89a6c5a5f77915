/-
  A part of the proof.
-/
import Derived.Test.YtijnokbblmbpkaaGreatDoorH2
import Derived.DefersIn
import Derived.RecoverIn
set_option linter.all false
set_option maxHeartbeats 1600000
namespace Go.V
open Go
def Il(P:Program)(fv:Value)(a5:List Value)(w:World)(R:Ending->World->Prop):Prop:=
 match fv with
 |.func (.func f) first cap=>wK P f=true/\Calls P f (first++a5.toArray++cap) w R
 |.func (.yield l) first _=>∃f tmps K7 body,(Instr.yield l (first++a5.toArray)).run P w=.ok (.round l f tmps K7 body) w/\RoundIn Fence.wide 0 P l f tmps K7 body w R
 |_=>False
def eo(P:Program)(fv:Value)(a5:List Value)(bD:SH)(Q:Value->SH->Prop):Prop:=
 ∀F w,Sat w (bD.flatten++F)->Il P fv a5 w λe w'=>∃v dl,e=.returned v/\Q v dl/\Sat w' (dl.flatten++F)/\j9 w w'
def Il.mono {P d a5 w}{R R':Ending->World->Prop}(h:Il P d a5 w R)(g:∀e w',R e w'->R' e w'):Il P d a5 w R':=by
 unfold Il at*;split at h
 .exact⟨h.1,Calls.mono h.2 g⟩
 .obtain⟨f,tmps,j,body,m,q⟩:=h;exact⟨f,tmps,j,body,m,RoundIn.mono q g⟩
 .exact h.elim
def eo.conv {P j a5 H g R Q Q'}(h:eo P j a5 g Q)(E:fq H g R)(D:∀v dl,Q v dl->∃d,Q' v d/\ap (dl++R) d):eo P j a5 H Q':=by
 intro F w G;have I:Sat w (g.flatten++(R.flatten++F)):=by
  rw[<- vj];exact G.perm (vZ F E)
 refine(h (R.flatten++F) w I).mono ?_
 rintro e w' ⟨v,dl,m,q,s,A⟩
 obtain⟨d,B,C⟩:=D v dl q;refine⟨v,d,m,B,Sat.imp C ?_,A⟩;rw[Vc,vj];exact s
def eo.cI {P f first cap a5 d Q}(h:aq P f (first.toList++a5++cap.toList) d Q):eo P (.func (.func f) first cap) a5 d Q:=zDO
def eO {P n rs Γ H Z K d x s xs a5 m R Q}(U:ev Γ x=some s)(M:eo P s a5 m Q)(j:nW Γ xs=some a5)(hs:fq H m R)(h:∀v dl,Q v dl->VO P n rs (au d v Γ) (dl++R) Z K):VO P n (⟨d,none,.sd x xs⟩::rs) Γ H Z K:=by
 intro l N a w F ZZ Q' ha lD hq hz;obtain⟨o,l',rfl,Ad,ops,O⟩:=zi N;obtain⟨L,g2,g3,g4⟩:=jP O;show wI P ZZ (_,o) (cK P ZZ Q' l') a w;unfold wI;have S:kz (V.R.sd x xs)=false:=rfl;have T:jN (V.R.sd x xs)=false:=rfl;simp only[jM,S,T,if_true,vN,if_false];refine⟨λe=>(by cases e),?_⟩;obtain⟨c,D,E,h3⟩:=E0 L;have hm:xs.map a.eval=a5:=ha.nW j;have C:(c.args.map a.eval)=a5.toArray:=zFV
 have I:Sat w (m.flatten++(R.flatten++F)):=zE5
 have g:=M (R.flatten++F) w I;have fin:∀(e:Ending) (w':World),(∃v dl,e=.returned v/\Q v dl/\Sat w' (dl.flatten++(R.flatten++F))/\j9 w w')->∃v,e=.returned v/\cK P ZZ Q' l' (a.put o.dst v) w':=by
  rintro e w' ⟨v,dl,rfl,hQ,Ib,hk⟩
  refine⟨v,rfl,?_⟩;exact zC8
 have B:a.eval x=s:=ha.ev U;unfold Il at g;split at g
 .rename_i f first cap
  have q:(execOp a.eval o).run P w=.ok (.enter f (first++a5.toArray++cap)) w:=by
   simp[execOp,D,resolve,E,B,Deferred.ofValue,invoke,C];rw[zt g.1]
  simp only[Dy,q,jw];refine g.2.mono (λe w' j=>?_);obtain⟨v,rfl,A⟩:=fin e w' j;exact A
 .rename_i X first cap
  obtain⟨f,tmps,J,body,W,G⟩:=g;have q:(execOp a.eval o).run P w=.ok (.round X f tmps J body) w:=by
   simp[execOp,D,resolve,E,B,Deferred.ofValue,invoke,C];exact W
  simp only[Dy,q,jw];refine G.mono (λe w' j=>?_);obtain⟨v,rfl,A⟩:=fin e w' j;exact A
 .exact g.elim
def A8:List Nat->List Value->Env->Env
 |p::ps,v::vs,Γ=>A8 ps vs ((p,v)::Γ)
 |_,_,Γ=>Γ
def OkC {α:Type}(Spec:List α->Prop)(c:List α):Prop:=∃t,Spec (c++t)
def Iter(P:Program)(g:Value){α:Type}(enc:α->List Value)(bD dl:SH)(Spec:List α->Prop):Prop:=
 ∀(y:Value) (J SP:List α->List kC->Prop),
  (∀c x A,OkC Spec (c++[x])->J c A->eo P y (enc x) [A] (λv B=>(v=.bool true/\∃A',J (c++[x]) A'/\B=[A'])∨(v=.bool false/\∃B',SP (c++[x]) B'/\B=[B'])))->
  ∀A,J [] A->eo P g [y] (bD++[A]) (λv B=>v=.tuple #[]/\((∃full A',Spec full/\J full A'/\B=dl++[A'])∨(∃c B',OkC Spec c/\SP c B'/\B=dl++[B'])))
section
variable {P:Program} {n:Nat} {Γ:Env} {H:SH} {Q:Exit->Env->SH->Prop}
def K9 {g:List Nat}:∀{vs:List Value} {Γ:Env} {tmps:Array Value},(∀t∈g,t<n)->g.length=vs.length->wF n Γ {tmps:=tmps,defers:=[]}->
 wF n (A8 g vs Γ) {tmps:=(g.zip vs).foldl (λtmps (t,a)=>tmps.setIfInBounds t a) tmps,defers:=[]}:=by
 induction g with
 |nil=>intro vs Γ tmps _ _ h;cases vs<;>exact h
 |cons p g ih=>
  intro vs Γ tmps m j h;cases vs with
  |nil=>simp at j
  |cons v vs=>
   simp only[A8,List.zip_cons_cons,Vg];refine ih (λt q=>m t (by simp[q])) (by simpa using j) ?_;exact h.put (d:=p) (m p Zs) v
def zU(fn:FuncId)(tmps:Array Value)(qs:Array Tmp)(A B:Code)(db:Nat)(st:LoopState)(pe:Option Code):Loop:={state:=st,pending:=pe,fn,tmps,params:=qs,assign:=A,body:=B,defers:=db}
def eN {w:World}{l:Nat}{r:Loop}(h:w.heap[l]? =some (.loop r)):(Instr.getLoop l).run P w=.ok r w:=by
 simp[Instr.getLoop,Go.getObj,Sem.run,h]
def MS {N:Nat->List Nat}{O:Nat->List (List Nat)}{fn:FuncId}{tmps:Array Value}{qs:Array Tmp}{A B:Code}{db l:Nat}{W body:IC}{vs:List Value}{I:List kC}{Qb:Exit->SH->Prop}
 (S:∀t∈qs.toList,t<n) (d:qs.toList.length=vs.length) (ha:wF n Γ {tmps:=tmps,defers:=[]}) (h1:zV P n N O A=some W) (h2:zV P n N O B=some body)
 (h:VC P n W (A8 qs.toList vs Γ) [I] (λe aB H'=>e=.normal/\VC P n body aB H' (λe _ s=>match e with|.normal=>Qb .normal s|.ret=>Qb .ret s|.exit id=>Qb (.exit id) s|_=>False))):
 eo P (.func (.yield l) #[] #[]) vs [I++[.obj l (.loop (zU fn tmps qs A B db .ready none))]] (λv Q=>(v=.bool true/\∃s,Qb .normal s/\Q=[s.flatten++[.obj l (.loop (zU fn tmps qs A B db .ready none))]])∨
  (v=.bool false/\∃s,((Qb .ret s/\Q=[s.flatten++[.obj l (.loop (zU fn tmps qs A B db .done (some .ret)))]])∨(∃id,Qb (.exit id) s/\Q=[s.flatten++[.obj l (.loop (zU fn tmps qs A B db .done (some (.exit id))))]])))):=by
 intro F w hs;have T:Sat w ([I].flatten++(.obj l (.loop (zU fn tmps qs A B db .ready none))::F)):=by simpa using hs
 have J:=(T.obj (b:=l) (QI _ (QL ..))).1;refine⟨fn,(qs.zip vs.toArray).foldl (λtmps (t,a)=>tmps.setIfInBounds t a) tmps,A,B,?_,?_⟩
 .simp only[Instr.yield,Sem.run_bind,eN J,Result.andThen_ok];have:(#[]++vs.toArray:Array Value).size=qs.size:=by simpa using d.symm
  simp[zU,d.symm]
 .have hz:(qs.zip vs.toArray).foldl (λtmps (t,a)=>tmps.setIfInBounds t a) tmps=(qs.toList.zip vs).foldl (λtmps (t,a)=>tmps.setIfInBounds t a) tmps:=by
   rw[<- Array.foldl_toList];simp
  rw[hz];refine roundIn_of_wpIn trivial ?_;refine h (some l) N O A h1 _ w _ _ (λl' e=>by cases e;exact⟨_,QL ..⟩) (K9 S d ha) T ?_
  rintro e a1 L Γ1 U X ⟨rfl,hb⟩ g1 _ g3 g4
  have H:Sat L (.obj l (.loop (zU fn tmps qs A B db .ready none))::(U.flatten++(F++marks X))):=by
   refine g3.perm ?_;simp only[vq];exact Qd
  have g:=(H.obj (QL ..)).1;obtain⟨s1,s2⟩:=Sat.setObj (u:=.loop (zU fn tmps qs A B db .busy none)) H rfl;refine⟨{L with heap:=L.heap.setIfInBounds l (.loop (zU fn tmps qs A B db .busy none))},?_,?_⟩
  .have hg:=eN (P:=P) g;simp only[Instr.beginRound,Sem.run_bind,hg,Result.andThen_ok];simp[zU,Go.setObj,Sem.run,g]
  have s3:Sat {L with heap:=L.heap.setIfInBounds l (.loop (zU fn tmps qs A B db .busy none))} (U.flatten++(.obj l (.loop (zU fn tmps qs A B db .busy none))::(F++marks X))):=s1.perm Qd.symm;refine hb (some l) N O B h2 a1 _ _ _ (λl' e=>by cases e;exact⟨_,QL ..⟩) g1 s3 ?_;intro e a2 C cL M Y q k1 _ k3 k4;have K:Sat C (.obj l (.loop (zU fn tmps qs A B db .busy none))::(M.flatten++F)):=by
   have p:(M.flatten++(.obj l (.loop (zU fn tmps qs A B db .busy none))::(F++marks X)++marks Y)).Perm ((.obj l (.loop (zU fn tmps qs A B db .busy none))::(M.flatten++F))++(marks X++marks Y)):=by
    simp only[vq,vj];exact Qd
   exact(k3.perm p).left
  have m:=(K.obj (QL ..)).1;have bj:=g4.trans (s2.trans k4);have fin:∀(j:Option Code) (st:LoopState),∀(Z:st=if j.isNone then .ready else .done),(Instr.endRound l j).run P C=.ok (.bool j.isNone) {C with heap:=C.heap.setIfInBounds l (.loop (zU fn tmps qs A B db st j))}/\
   Sat {C with heap:=C.heap.setIfInBounds l (.loop (zU fn tmps qs A B db st j))} ([M.flatten++[kC.obj l (.loop (zU fn tmps qs A B db st j))]].flatten++F)/\j9 w {C with heap:=C.heap.setIfInBounds l (.loop (zU fn tmps qs A B db st j))}:=by
   intro j st Z;obtain⟨t1,t2⟩:=Sat.setObj (u:=.loop (zU fn tmps qs A B db st j)) K rfl;refine⟨?_,?_,bj.trans t2⟩
   .subst Z;simp only[Instr.endRound,Sem.run_bind,eN m,Result.andThen_ok,zU,Go.setObj,Sem.run,m,Sem.run_pure]
   .refine t1.perm ?_;simp only[Vd,Ve,vm,vj,Qg];exact Qd.symm
  cases e with
  |normal=>
   obtain⟨D,E,G⟩:=fin none .ready rfl;exact⟨_,_,D,_,_,rfl,.inl ⟨rfl,_,q,rfl⟩,E,G⟩
  |ret=>
   obtain⟨D,E,G⟩:=fin (some .ret) .done rfl;exact⟨_,_,D,_,_,rfl,.inr ⟨rfl,_,.inl ⟨q,rfl⟩⟩,E,G⟩
  |exit id=>
   obtain⟨D,E,G⟩:=fin (some (.exit id)) .done rfl;exact⟨_,_,D,_,_,rfl,.inr ⟨rfl,_,.inr ⟨id,q,rfl⟩⟩,E,G⟩
  |goto _=>exact q.elim
  |panic _=>exact q.elim
  |outgrown=>exact q.elim
def LM {mi:FuncId}{tmps:Array Value}{qs:Array Tmp}{A B:Code}{ρ:Option Nat}{w:World}{L F:List kC}(q:Rnd ρ F)(d:Sat w (L++F)):
 ∃(l db:Nat) (X:List Nat) (j:World),(Instr.enterLoop mi tmps qs A B ρ).run P w=.ok (l,X.map qK) j/\
  Sat j (.obj l (.loop (zU mi tmps qs A B db .ready none))::(L++(F++marks X)))/\j9 w j:=by
 cases ρ with
 |none=>
  obtain⟨s,C⟩:=d.newObj (.deferred (some [])) rfl;obtain⟨g,h⟩:=s.newObj (.loop (zU mi tmps qs A B w.heap.size .ready none)) rfl;refine⟨(w.heap.push (.deferred (some []))).size,w.heap.size,[w.heap.size],_,?_,g.perm ?_,C.trans h⟩
  .simp[Instr.enterLoop,Go.newObj,Sem.run,zU,qK];rfl
  .refine List.Perm.cons _ ?_;simp only[marks,QE,QG];rw[<- vj];exact(List.perm_append_singleton _ _).symm
 |some l0=>
  obtain⟨r,D⟩:=q l0 rfl;have m:=(d.obj (QI _ D)).1;obtain⟨g,h⟩:=d.newObj (.loop (zU mi tmps qs A B r.defers .ready none)) rfl;refine⟨w.heap.size,r.defers,[],_,?_,?_,h⟩
  .simp[Instr.enterLoop,eN m,Go.newObj,Sem.run,zU]
  .simpa[marks]using g
def Bq {mi:FuncId}{tmps:Array Value}{qs:Array Tmp}{A B:Code}{db l:Nat}{st:LoopState}{pe:Option Code}{w:World}{L F:List kC}(s:st≠.busy)
 (q:Sat w (L++[.obj l (.loop (zU mi tmps qs A B db st pe))]++F)):∃h,(Instr.endLoop l).run P w=.ok pe h/\Sat h (L++F)/\j9 w h:=by
 have d:Sat w (.obj l (.loop (zU mi tmps qs A B db st pe))::(L++F)):=by
  refine q.perm ?_;rw[vj];exact Qd
 have j:=(d.obj (QL ..)).1;obtain⟨C,D⟩:=Sat.setObj (u:=.loop (zU mi tmps qs A B db .exhausted pe)) d rfl;refine⟨_,?_,C.sub (Qh ..),D⟩;have g:=eN (P:=P) j;have m:((zU mi tmps qs A B db st pe).state==LoopState.busy)=false:=by cases st<;>first|rfl|exact absurd rfl s
 simp only[Instr.endLoop,Sem.run_bind,g,Result.andThen_ok,m];simp[zU,Go.setObj,Sem.run,j]
def VC.iR {α:Type}{enc:α->List Value}{g:Operand}{f:Nat}{first cap:Array Value}{ps:List Nat}{K7 body:IC}{Y dl R:SH}{Spec:List α->Prop}(I:List α->List kC->Prop)(W:List kC)(hg:ev Γ g=some (.func (.func f) first cap))
 (hit:Iter P (.func (.func f) first cap) enc Y dl Spec) (hs:fq H Y R) (h0:ap R [W]) (h1:I [] W) (S:∀x,(enc x).length=ps.length)
 (G:∀c x A,OkC Spec (c++[x])->I c A->VC P n K7 (A8 ps (enc x) Γ) [A] (λe aB H'=>e=.normal/\VC P n body aB H' (λe _ d=>match e with|.normal=>∃D,I (c++[x]) D/\ap d [D]|.ret=>Q .ret Γ (dl++d)|.exit id=>Q (.exit id) Γ (dl++d)|_=>False)))
 (done:∀j A,Spec j->I j A->Q .normal Γ (dl++[A])):VC P n (.iR g ps K7 body) Γ H Q:=by
 intro ρ kp od code hl a w F QQ hr O lD hh;obtain⟨qs,A,B,rfl,rfl,aI,h1',h2⟩:=ji hl;refine wpIn_rangeFunc (λmi _=>?_);obtain⟨l,db,X,T,he,Ay,sg⟩:=LM (P:=P) (mi:=mi) (tmps:=a.tmps) (qs:=qs) (A:=A) (B:=B) hr lD;have C:=hit (.func (.yield l) #[] #[]) (λc D=>∃E,I c E/\D=E++[.obj l (.loop (zU mi a.tmps qs A B db .ready none))])
  (λc Z=>∃d,(Q .ret Γ (dl++d)/\Z=d.flatten++[.obj l (.loop (zU mi a.tmps qs A B db .done (some .ret)))])∨(∃id,Q (.exit id) Γ (dl++d)/\Z=d.flatten++[.obj l (.loop (zU mi a.tmps qs A B db .done (some (.exit id))))]))
  (λc x D hc hA=>by
    obtain⟨E,hI,rfl⟩:=hA;have hx:=MS (P:=P) (n:=n) (Γ:=Γ) (fn:=mi) (tmps:=a.tmps) (db:=db) (l:=l) (vs:=enc x) (I:=E) (Qb:=λe d=>match e with|.normal=>∃D,I (c++[x]) D/\ap d [D]|.ret=>Q .ret Γ (dl++d)|.exit id=>Q (.exit id) Γ (dl++d)|_=>False)
     aI (S x).symm ⟨O.size,O.slots⟩ h1' h2 ((G c x E hc hI).mono (λe aB H' ⟨q1,q2⟩=>⟨q1,q2.mono (λe _ d q=>by cases e<;>exact q)⟩))
    refine hx.conv (R:=[]) (by simp[fq]) ?_
    rintro v Bk (⟨rfl,d,⟨A2,hI2,q⟩,rfl⟩|⟨rfl,d,q⟩)
    .refine⟨_,.inl ⟨rfl,_,⟨A2,hI2,rfl⟩,rfl⟩,?_⟩;obtain⟨R',N⟩:=q;refine⟨R',?_⟩;simp only[fq,Vd,Ve,vm]at N|-;rw[vj];refine(vZ _ N).trans ?_;rw[vj];exact zEP
    .rcases q with⟨q,rfl⟩|⟨id,q,rfl⟩
     .exact⟨_,.inr ⟨rfl,_,⟨d,.inl ⟨q,rfl⟩⟩,rfl⟩,by rw[vm];exact ap.refl _⟩
     .exact⟨_,.inr ⟨rfl,_,⟨d,.inr ⟨id,q,rfl⟩⟩,rfl⟩,by rw[vm];exact ap.refl _⟩)
  _ ⟨W,h1,rfl⟩
 have Al:Sat T ((Y++[W++[kC.obj l (.loop (zU mi a.tmps qs A B db .ready none))]]).flatten++(F++marks X)):=by
  have p1:(kC.obj l (.loop (zU mi a.tmps qs A B db .ready none))::(H.flatten++(F++marks X))).Perm (R.flatten++(Y.flatten++(kC.obj l (.loop (zU mi a.tmps qs A B db .ready none))::(F++marks X)))):=by
   refine Qd.symm.trans ?_;refine(vZ _ hs).trans ?_;rw[vj];exact ww _ _ _
  have h3:=(Ay.perm p1).imp h0;refine h3.perm ?_;simp only[Vc,Vd,Ve,vm,vj,Qg];exact ww _ _ _
 have aK:=C (F++marks X) T Al;obtain⟨Rg,s⟩:=aK;refine⟨l,X.map qK,T,{target:=.fn (.func f) cap,args:=first++[Value.func (.yield l) #[] #[]].toArray},T,f,first++[Value.func (.yield l) #[] #[]].toArray++cap,T,he,?_,λ_ _=>trivial,?_,?_,?_⟩
 .have UU:a.eval g=.func (.func f) first cap:=O.ev hg
  simp only[resolve,UU,Deferred.ofValue];simp[Act.eval]
 .simp only[invoke];rw[zt Rg]
 .intro h;simp at h
 refine Eu (s.mono ?_)
 .rintro e w3 ⟨v,Pst,rfl,⟨rfl,hp⟩,Wi,tA⟩
  have L2:wF n Γ {a with defers:=X.map qK++a.defers}:=⟨O.size,O.slots⟩;rcases hp with⟨j,_,hf,⟨E,hI,rfl⟩,rfl⟩|⟨c,Z,_,⟨d,hj⟩,rfl⟩
  .obtain⟨U,J,K,m⟩:=Bq (P:=P) (L:=dl.flatten++E) (st:=.ready) (pe:=none) Zs (by simpa[vj]using Wi);have M:=sg.trans (tA.trans m);exact⟨none,U,J,hh _ _ _ _ _ X (done j E hf hI) L2 rfl (by simpa using K) M⟩
  .rcases hj with⟨q,rfl⟩|⟨id,q,rfl⟩
   .obtain⟨U,J,K,m⟩:=Bq (P:=P) (L:=dl.flatten++d.flatten) (st:=.done) (pe:=some .ret) Zs (by simpa[vj]using Wi);have M:=sg.trans (tA.trans m);exact⟨_,U,J,wpIn_ret (hh _ _ _ _ _ X q L2 rfl (by simpa using K) M)⟩
   .obtain⟨U,J,K,m⟩:=Bq (P:=P) (L:=dl.flatten++d.flatten) (st:=.done) (pe:=some (.exit id)) Zs (by simpa[vj]using Wi);have M:=sg.trans (tA.trans m);exact⟨_,U,J,wpIn_exit (hh _ _ _ _ _ X q L2 rfl (by simpa using K) M)⟩
end
def qA(P:Program)(n:Nat)(c:IC)(Γ:Env)(H:SH)(Q:Exit->Env->SH->Prop):Prop:=
 ∀ρ kp od code,zV P n kp od code=some c->∀a w F (QQ:Exit->Act->World->Prop),wF n Γ a->Sat w (H.flatten++F)->
  (∀e a' w' aB H',Q e aB H'->wF n aB a'->a'.defers=a.defers->Sat w' (H'.flatten++F)->j9 w w'->QQ e a' w')->code.wpIn (DC ρ) 0 P QQ a w
section
variable {P:Program} {n:Nat} {Γ:Env} {H:SH} {Q Q':Exit->Env->SH->Prop}
def qA.skip(h:Q .normal Γ H):qA P n .skip Γ H Q:=by
 intro ρ kp od d m a w F QQ g q j;obtain rfl:=ji m;exact wpIn_skip (j _ _ _ _ _ h g rfl q (.refl w))
def qA.ret(h:Q .ret Γ H):qA P n .ret Γ H Q:=by
 intro ρ kp od d m a w F QQ g q j;obtain rfl:=ji m;exact wpIn_ret (j _ _ _ _ _ h g rfl q (.refl w))
def qA.cond {c:Operand}{x y:IC}{t:Bool}(C:ev Γ c=some (.bool t))(G:t=true->qA P n x Γ H Q)(D:t=false->qA P n y Γ H Q):qA P n (.cond c x y) Γ H Q:=by
 intro ρ m s g E a w F QQ d j h;obtain⟨p,q,rfl,A,B⟩:=ji E;exact wpIn_cond_split (d.ev C) (λe=>G e ρ m s _ A a w F QQ d j h) (λe=>D e ρ m s _ B a w F QQ d j h)
def qA.seq {x y:IC}(h:qA P n x Γ H (bP (λd H'=>qA P n y d H' Q) Q)):qA P n (.seq x y) Γ H Q:=by
 intro ρ C D g N a w F QQ M O B;obtain⟨p,q,rfl,K,L⟩:=ji N;refine wpIn_seq (h ρ C D _ K a w F _ M O (λe G w' d H' q j m s A=>?_));cases e<;>first
  |exact q ρ C D _ L G w' F QQ j s (λe I Y J E X S T U W=>B e I Y J E X S (by rw[T,m]) U (A.trans W))
  |exact B _ _ _ _ _ q j m s A
def qA.oJ {rs:List RO}{s:List Nat}(h:VO P n rs Γ H (λj d H'=>Q (.panic j) d H') λd H'=>Q .normal (bh s d) H'):qA P n (.oJ rs s) Γ H Q:=by
 intro ρ kp od A E a w F QQ D G B;obtain⟨id,ops,rfl,h1,rfl⟩:=ji E;refine wpIn_region ?_;refine fR (P:=P) (ρ:=ρ) (n:=n) (ops:=ops) (X:=λi=>(rs.zip ops.toList).getD i default) (QQ:=QQ) (λi hi=>?_) (List.range ops.size) a w (λi hi=>by simpa using hi) ?_
 .exact zE9
 .have hlen:=(wA h1).1;have C:(List.range ops.size).map (λi=>(rs.zip ops.toList).getD i default)=rs.zip ops.toList:=zBS
  rw[C];refine h (rs.zip ops.toList) ⟨?_,?_⟩ a w F _ _ D G (λg w' d H' q g1 g2 g3 m=>B .normal g w' _ H' q (g1.sub (pB _ _)) g2 g3 m) (λj g w' d H' q g1 g2 g3 m=>B (.panic j) g w' _ H' q g1 g2 g3 m)
  .rw[List.map_fst_zip];simp[hlen]
  .exact zBZ
end
def FunD(P:Program)(f:Nat)(a5:List Value)(bD:SH)(Q:Value->SH->Prop):Prop:=
 wK P f=true/\∀F w u,Sat w (bD.flatten++F)->CallsDIn (DC none) 0 P f a5.toArray u w λe u' w'=>u'=u/\∃v dl,e=.returned v/\Q v dl/\Sat w' (dl.flatten++F)/\j9 w w'
structure DR where
 d:Nat
 g:Nat
 x7:List Operand
def MB(P:Program)(n:Nat):Code->Option DR
 |.region _ ops false=>match ops.toList with
  |[o1,o2]=>match eG P n ops o1,o2.op with
   |some ⟨some d,none,.DF (.func g) [] x7⟩,.defer c=>match c.callee with
    |.value (.tmp d')=>if d'=d/\c.args.size=0/\o2.guard.isNone=true/\o2.dst.isNone=true then some ⟨d,g,x7⟩else none
    |_=>none
   |_,_=>none
  |_=>none
 |_=>none
structure DIR where
 n:Nat
 bT:List RV
 pre:List IC
 dr:DR
 post:IC
def gk(P:Program)(n:Nat)(kp:Nat->List Nat)(od:Nat->List (List Nat)):Code->Option (List IC×DR×IC)
 |.seq a b=>match MB P n a with
  |some x=>(zV P n kp od b).map λy=>([],x,y)
  |none=>match zV P n kp od a,gk P n kp od b with
   |some x,some (l,d,y)=>some (x::l,d,y)
   |_,_=>none
 |_=>none
def Og(P:Program)(kp:Nat->List Nat)(od:Nat->List (List Nat))(f:Nat):Option DIR:=
 match P.funcs[f]? with
 |none=>none
 |some fn=>match fn.body with
  |none=>none
  | some c => if fn.name != "runtime.NumGoroutine" then
     match gk P fn.ntmps kp od c,zD P fn.results.toList with
     |some (l,d,y),some r=>some ⟨fn.ntmps,r,l,d,y⟩
     |_,_=>none
    else none
def endD(P:Program)(g:Nat)(x7:List Value)(bT:List RV)(Q:Value->SH->Prop):Exit->Env->SH->Prop:=λe Γ H=>(e=.normal∨e=.ret)/\∃bD R Q2,FunD P g x7 bD Q2/\fq H bD R/\
 ∀v dl,Q2 v dl->tY bT Q .ret Γ (dl++R)
def VD(P:Program)(n:Nat)(bT:List RV)(dr:DR)(post:IC)(Q:Value->SH->Prop):List IC->Env->SH->Prop
 |[],Γ,H=>∃vs,nW Γ dr.x7=some vs/\VC P n post ((dr.d,.func (.func dr.g) #[] vs.toArray)::Γ) H (endD P dr.g vs bT Q)
 |x::l,Γ,H=>VC P n x Γ H (bP (λaB H'=>VD P n bT dr post Q l aB H') (tY bT Q))
def MC {P n c}{x:DR}(h:MB P n c=some x):∃id ops o1 j m,c=.region id ops false/\ops.toList=[o1,j]/\eG P n ops o1=some ⟨some x.d,none,.DF (.func x.g) [] x.x7⟩/\
 j.op=.defer m/\m.callee=.value (.tmp x.d)/\m.args=#[]/\j.guard=none/\j.dst=none:=by
 unfold MB at h;split at h
 case h_2=>cases h
 rename_i id ops;split at h
 case h_2=>cases h
 rename_i o1 j q;split at h
 case h_2=>cases h
 rename_i d g x7 c A B;split at h
 case h_2=>cases h
 rename_i d' F;split at h
 case isFalse=>cases h
 rename_i s;obtain⟨rfl,C,D,E⟩:=s;cases h;exact⟨id,ops,o1,j,c,rfl,q,A,B,F,by simpa using C,by simpa using D,by simpa using E⟩
section
variable {P:Program} {n:Nat} {fn:Func} {tmps:Array Value} {FF:List kC} {w0:World}
def G3 {R:Ending->World->Prop}{ds:List Deferred}{L:List kC}:∀(X:List Nat) (w':World),Sat w' (L++(FF++marks X))->j9 w0 w'->
 (∀j,Sat j (L++FF)->j9 w0 j->LeavesInM (DC none) 0 P fn tmps R ds .returning j)->LeavesInM (DC none) 0 P fn tmps R (X.map qK++ds) .returning w':=by
 intro X
 induction X with
 |nil=>intro w' g d h;exact h w' (by simpa[V.marks]using g) d
 |cons r X ih=>
  intro w' g d h;have q:(L++(FF++V.marks (r::X))).Perm (.obj r (.deferred (some []))::(L++(FF++V.marks X))):=zDD
  have m:=g.perm q;obtain⟨k1,k2⟩:=m.obj (QL ..);obtain⟨s,A⟩:=Sat.setObj (u:=.deferred none) m rfl;refine⟨Zs,.inl ⟨r,_,rfl,?_,ih _ (s.sub (Qh ..)) (d.trans A) h⟩⟩;exact zFF
def Cm {r:List RV}{Q:Value->SH->Prop}{d:Act}{w':World}{g:Env}{H':SH}{X:List Nat}{e:Exit}(D:zD P fn.results.toList=some r)(q:tY r Q e g H')(h:wF n g d)(j:Sat w' (H'.flatten++(FF++marks X)))(m:j9 w0 w'):
 LeavesInM (DC none) 0 P fn d.tmps (λe w'=>∃v dl,e=.returned v/\Q v dl/\Sat w' (dl.flatten++FF)/\j9 w0 w') (X.map qK) .returning w':=by
 obtain⟨he,vs,dl,A,B,C⟩:=q;have:=G3 (P:=P) (fn:=fn) (tmps:=d.tmps) (R:=λe w'=>∃v dl,e=.returned v/\Q v dl/\Sat w' (dl.flatten++FF)/\j9 w0 w') (ds:=[]) X w' j m (λqh s k=>⟨_,iy s D h A,_,dl,rfl,C,s.imp B,k⟩);simpa using this
end
def jr(P:Program)(f:Nat)(a5:List Value)(bD:SH)(Q:Value->SH->Prop)(Z:List PanicEntry->SH->Prop):Prop:=
 wK P f=true/\∀F w,Sat w (bD.flatten++F)->
  Calls P f a5.toArray w λe w'=>∃dl,((∃v,e=.returned v/\Q v dl)∨(∃ch,e=.panicked ch/\Z ch dl))/\Sat w' (dl.flatten++F)/\j9 w w'
section
variable {P:Program} {f:Nat} {a5:List Value} {bD:SH} {Q Q':Value->SH->Prop} {Z Z':List PanicEntry->SH->Prop}
def jr.mono(h:jr P f a5 bD Q Z)(g:∀v dl,Q v dl->Q' v dl)(m:∀d dl,Z d dl->Z' d dl):jr P f a5 bD Q' Z':=
 ⟨h.1,λF w j=>(h.2 F w j).mono λ_ _ ⟨dl,a,b,c⟩=>⟨dl,a.imp (λ⟨v,e,q⟩=>⟨v,e,g _ _ q⟩) (λ⟨d,e,q⟩=>⟨d,e,m _ _ q⟩),b,c⟩⟩
def jr.cI(h:aq P f a5 bD Q):jr P f a5 bD Q Z:=
 ⟨h.1,λF w g=>(h.2 F w g).mono λ_ _ ⟨v,dl,a,b,c,d⟩=>⟨dl,.inl ⟨v,a,b⟩,c,d⟩⟩
def jr.fun(h:jr P f a5 bD Q (λ_ _=>False)):aq P f a5 bD Q:=
 ⟨h.1,λF w d=>(h.2 F w d).mono λ_ _ ⟨dl,a,b,c⟩=>by
   rcases a with⟨v,e,q⟩|⟨ch,e,q⟩
   .exact⟨v,dl,e,q,b,c⟩
   .exact q.elim⟩
def jr.conv {H R:SH}(h:jr P f a5 bD Q Z)(E:fq H bD R)(D:∀v dl,Q v dl->∃d,Q' v d/\ap (dl++R) d)(I:∀g dl,Z g dl->∃d,Z' g d/\ap (dl++R) d):jr P f a5 H Q' Z':=by
 refine⟨h.1,λF w G=>?_⟩;have J:Sat w (bD.flatten++(R.flatten++F)):=by
  rw[<- vj];exact G.perm (vZ F E)
 refine(h.2 (R.flatten++F) w J).mono ?_
 rintro e w' ⟨dl,B,C,A⟩
 have j:Sat w' ((dl++R).flatten++F):=by rw[Vc,vj];exact C
 rcases B with⟨v,e1,q⟩|⟨g,e1,q⟩
 .obtain⟨d,m,s⟩:=D v dl q;exact⟨d,.inl ⟨v,e1,m⟩,Sat.imp s j,A⟩
 .obtain⟨d,m,s⟩:=I g dl q;exact⟨d,.inr ⟨g,e1,m⟩,Sat.imp s j,A⟩
end
section
variable {P:Program} {n:Nat} {rs:List RO} {Γ:Env} {H:SH} {Z:List PanicEntry->Env->SH->Prop} {K:Env->SH->Prop} {d:Option Nat}
def kM {f:Nat}{xs:List Operand}{a5:List Value}{bD R:SH}{Q:Value->SH->Prop}{Z':List PanicEntry->SH->Prop}(E:jr P f a5 bD Q Z')(D:nW Γ xs=some a5)(hs:fq H bD R)
 (h:∀v dl,Q v dl->VO P n rs (au d v Γ) (dl++R) Z K) (Ml:∀ch dl,Z' ch dl->Z ch Γ (dl++R)):VO P n (⟨d,none,.call f xs⟩::rs) Γ H Z K:=by
 intro l G a w F ZZ Q' ha lD hq hz;obtain⟨o,l',rfl,Ad,ops,I⟩:=zi G;obtain⟨q,g2,g3,g4⟩:=jP I;show wI P ZZ (_,o) (cK P ZZ Q' l') a w;unfold wI;simp only[jM,show kz (V.R.call f xs)=false from rfl,show jN (V.R.call f xs)=false from rfl,if_true,vN,if_false];refine⟨λe=>(by cases e),?_⟩;obtain⟨c,s,A,B,C⟩:=sI q;have m:(c.args.map a.eval)=a5.toArray:=by
  apply vD.1;rw[vE,B,ha.nW D]
 have j:(execOp a.eval o).run P w=.ok (.enter f a5.toArray) w:=by
  simp[execOp,s,resolve,A,Act.eval,Deferred.ofValue,invoke,m,zt C]
 refine OS j ?_;have g:Sat w (bD.flatten++(R.flatten++F)):=zE5
 refine(E.2 (R.flatten++F) w g).mono ?_;exact zBD
def Yx {x:Operand}{t:TypeId}{v:Value}(E:ev Γ x=some (.iface t v))(h:Z [{v:=.iface t v,recovered:=false}] Γ H):VO P n (⟨d,none,.pnc x⟩::rs) Γ H Z K:=by
 intro l C a w F m Q' q J hq G;obtain⟨o,I,rfl,Ad,ops,D⟩:=zi C;obtain⟨g,g2,g3,g4⟩:=jP D;show wI P m (_,o) (cK P m Q' I) a w;unfold wI;simp only[jM,show kz (V.R.pnc x)=false from rfl,show jN (V.R.pnc x)=false from rfl,if_true,vN,if_false];refine⟨λe=>(by cases e),?_⟩;have s:o.op=.panic x:=by
  obtain⟨B,op,ty,pos,j,guard⟩:=o;simp only at g|-;cases op
  case panic y=>simp only[jJ,X9,V.R.pnc.injEq]at g;rw[g]
  all_goals (exfalso;try simp only[jJ]at g)
  all_goals (repeat' split at g)
  all_goals first
   |(cases g;done)
   |(simp only[X5]at g;obtain⟨_,_,g⟩:=g;cases g;done)
 have A:(execOp a.eval o).run P w=.halt (.panic (.iface t v)) w:=by
  simp[execOp,s,q.ev E,Instr.panic,goPanic,Sem.run]
 simp only[Dy,A,jw];exact G _ a w Γ H h q rfl J (.refl w)
end
def Θ(bT:List RV)(Q:Value->SH->Prop)(Z:List PanicEntry->SH->Prop):Exit->Env->SH->Prop
 |.panic ch,_,H=>∃dl,ap H dl/\Z ch dl
 |e,Γ,H=>tY bT Q e Γ H
def jU {d:List RV}{Q Z e Γ H}(h:tY d Q e Γ H):Θ d Q Z e Γ H:=by
 have g:=h.1;rcases g with rfl|rfl<;>exact h
section
variable {P:Program} {fn:Func} {tmps:Array Value} {FF:List kC} {w0:World}
def iO {R:Ending->World->Prop}{ds:List Deferred}{L:List kC}{u:FrameMode}(s:u≠.run):∀(X:List Nat) (w':World),Sat w' (L++(FF++marks X))->j9 w0 w'->
 (∀j,Sat j (L++FF)->j9 w0 j->LeavesInM (DC none) 0 P fn tmps R ds u j)->LeavesInM (DC none) 0 P fn tmps R (X.map qK++ds) u w':=by
 intro X
 induction X with
 |nil=>intro w' g d h;exact h w' (by simpa[V.marks]using g) d
 |cons r X ih=>
  intro w' g d h;have q:(L++(FF++V.marks (r::X))).Perm (.obj r (.deferred (some []))::(L++(FF++V.marks X))):=zDD
  have m:=g.perm q;obtain⟨k1,k2⟩:=m.obj (QL ..);obtain⟨A,B⟩:=Sat.setObj (u:=.deferred none) m rfl;refine⟨s,.inl ⟨r,_,rfl,?_,ih _ (A.sub (Qh ..)) (d.trans B) h⟩⟩;exact zFF
end
def jr.intro {P H I f}{F:aP}{a5 bD Q Z}(g:Jy P H I f=some F)(O:a5.length<=F.n)(h:VC P F.n F.body (aV 0 a5) bD (Θ F.bT Q Z)):jr P f a5 bD Q Z:=by
 unfold Jy at g;split at g
 .cases g
 rename_i fn B;split at g
 .cases g
 rename_i c G;split at g
 case isFalse=>cases g
 rename_i U;split at g
 case h_2=>cases g
 rename_i b r N S;cases g;refine⟨by simp only[wK,B,U,G];rfl,λFF w T=>?_⟩;refine(callsIn_wide (n:=0)).1 (callsIn_of_wp_marks B G trivial (h none H I c N _ w FF _ (λl e=>by cases e) ⟨?_,λt v e=>?_⟩ T (λe m w' J H' X q K C D E=>?_)))
 .simp at O|-;omega
 .exact zBA
 .have j:∀e0,tY r Q e0 J H'->LeavesInM (DC none) 0 P fn m.tmps (λe w'=>∃dl,((∃v,e=.returned v/\Q v dl)∨(∃d,e=.panicked d/\Z d dl))/\Sat w' (dl.flatten++FF)/\j9 w w') m.defers .returning w':=by
   rintro e0 ⟨_,vs,dl,M,h2,A⟩
   have:=iO (P:=P) (fn:=fn) (tmps:=m.tmps) (w0:=w) (FF:=FF) (L:=H'.flatten) (u:=.returning) (R:=λe w'=>∃dl,((∃v,e=.returned v/\Q v dl)∨(∃d,e=.panicked d/\Z d dl))/\Sat w' (dl.flatten++FF)/\j9 w w') (ds:=[]) Zs X w' D E
    (λW s k=>⟨_,iy s S K M,dl,.inl ⟨_,rfl,A⟩,s.imp h2,k⟩)
   rw[C];exact this
  cases e with
  |normal=>exact j _ q
  |ret=>exact j _ q
  |panic d=>
   obtain⟨dl,h2,A⟩:=q;have:=iO (P:=P) (fn:=fn) (tmps:=m.tmps) (w0:=w) (FF:=FF) (L:=H'.flatten) (u:=.panicking d) (R:=λe w'=>∃dl,((∃v,e=.returned v/\Q v dl)∨(∃d,e=.panicked d/\Z d dl))/\Sat w' (dl.flatten++FF)/\j9 w w') (ds:=[]) Zs X w' D E
    (λW s k=>(⟨dl,.inr ⟨d,rfl,A⟩,s.imp h2,k⟩:∃dl,_))
   show LeavesInM _ _ _ _ _ _ m.defers _ _;rw[C];exact this
  |exit id=>exact absurd q.1 Zs
  |goto l=>exact absurd q.1 Zs
  |outgrown=>exact absurd q.1 Zs
def Ii(P:Program)(fv:Value)(a5:List Value)(bD:SH)(Q:Value->SH->Prop)(Z:List PanicEntry->SH->Prop):Prop:=
 ∀F w,Sat w (bD.flatten++F)->Il P fv a5 w λe w'=>∃dl,((∃v,e=.returned v/\Q v dl)∨(∃ch,e=.panicked ch/\Z ch dl))/\Sat w' (dl.flatten++F)/\j9 w w'
def Ii.cI {P f first cap a5 bD Q Z}(h:jr P f (first.toList++a5++cap.toList) bD Q Z):Ii P (.func (.func f) first cap) a5 bD Q Z:=zDO
def Ss {P n rs Γ H Z K d x q xs a5 bD R Q Z'}(S:ev Γ x=some q)(J:Ii P q a5 bD Q Z')(j:nW Γ xs=some a5)(hs:fq H bD R)(h:∀v dl,Q v dl->VO P n rs (au d v Γ) (dl++R) Z K)(Ml:∀ch dl,Z' ch dl->Z ch Γ (dl++R)):VO P n (⟨d,none,.sd x xs⟩::rs) Γ H Z K:=by
 intro l L a w F ZZ Q' ha lD hq hz;obtain⟨o,l',rfl,Ad,ops,M⟩:=zi L;obtain⟨I,g2,g3,g4⟩:=jP M;show wI P ZZ (_,o) (cK P ZZ Q' l') a w;unfold wI;have N:kz (V.R.sd x xs)=false:=rfl;have O:jN (V.R.sd x xs)=false:=rfl;simp only[jM,N,O,if_true,vN,if_false];refine⟨λe=>(by cases e),?_⟩;obtain⟨c,B,C,h3⟩:=E0 I;have hm:xs.map a.eval=a5:=ha.nW j;have A:(c.args.map a.eval)=a5.toArray:=zFV
 have E:Sat w (bD.flatten++(R.flatten++F)):=zE5
 have g:=J (R.flatten++F) w E;have fin:∀(e:Ending) (w':World),(∃dl,((∃v,e=.returned v/\Q v dl)∨(∃ch,e=.panicked ch/\Z' ch dl))/\Sat w' (dl.flatten++(R.flatten++F))/\j9 w w')->
  (∃v,e=.returned v/\cK P ZZ Q' l' (a.put o.dst v) w')∨(∃ch,e=.panicked ch/\ZZ (.panic ch) a w'):=zBD
 have s:a.eval x=q:=ha.ev S;unfold Il at g;split at g
 .rename_i f first cap
  have m:(execOp a.eval o).run P w=.ok (.enter f (first++a5.toArray++cap)) w:=by
   simp[execOp,B,resolve,C,s,Deferred.ofValue,invoke,A];rw[zt g.1]
  simp only[Dy,m,jw];refine g.2.mono (λe w' j=>?_);rcases fin e w' j with⟨v,rfl,hv⟩|⟨ch,rfl,hv⟩<;>exact hv
 .rename_i U first cap
  obtain⟨f,tmps,G,body,T,D⟩:=g;have m:(execOp a.eval o).run P w=.ok (.round U f tmps G body) w:=by
   simp[execOp,B,resolve,C,s,Deferred.ofValue,invoke,A];exact T
  simp only[Dy,m,jw];refine D.mono (λe w' j=>?_);rcases fin e w' j with⟨v,rfl,hv⟩|⟨ch,rfl,hv⟩<;>exact hv
 .exact g.elim
def upd {α:Type}(f:Int->α)(i:Int)(v:α):Int->α:=λk=>if k=i then v else f k
abbrev swp {α:Type}(f:Int->α)(i j:Int):Int->α:=upd (upd f i (f j)) j (f i)
inductive Sw {α:Type}(a b:Int)(f:Int->α):(Int->α)->Prop where
 |refl:Sw a b f f
 |step {g:Int->α} {i j:Int}:Sw a b f g->a<=i/\i<b->a<=j/\j<b->Sw a b f (swp g i j)
structure LtOk {α:Type}(lt:α->α->Bool):Prop where
 asymm:∀x y,lt x y=true->lt y x=false
 le_trans:∀x y z,lt y x=false->lt z y=false->lt z x=false
 eq:∀x y,lt x y=false->lt y x=false->x=y
section
variable {P:Program} {n:Nat} {rs:List RO} {Γ:Env} {H R:SH} {Z:List PanicEntry->Env->SH->Prop} {K:Env->SH->Prop} {d:Option Nat} {α:Type} {e:α->Value} {N b o:Nat} {f:Int->α}
end
section
variable {α:Type} {lt:α->α->Bool}
end
section
variable {α:Type} {lt:α->α->Bool}
end
section
variable {α:Type} {lt:α->α->Bool}
structure PI (lt:α->α->Bool)(a z i j:Int)(p:α)(g:Int->α):Prop where
 piv:g a=p
 less:∀k,a<k->k<i->lt (g k) p=true
 more:∀k,j<k->k<z->lt (g k) p=false
 lo:a+1<=i
 mid:i<=j+1
 hi:j<z
end
section
variable {α:Type} {lt:α->α->Bool}
end
section
variable {α:Type}
end
def ke.other {size n sv us vs sp}(h:ke size sv n us sp)(d:vs.length=us.length):ke size sv n vs sp:=by
 cases h with
 |mk a1 a2 a3=>exact .mk Zo Zo a3
 |nil=>
  have:vs=[]:=vy (by simpa using d);subst this;exact .nil
structure Ch where
 kind:Int
 n:Int
 text:ByteArray
structure De where
 kind:Int
 handle:Int
 text:ByteArray
 to:ByteArray
 n:Int
 err:Int
structure Wr where
 seq:Int
 at_:Int
 text:ByteArray
 empty:Bool
structure FO where
 now:List UInt8
 base:List UInt8
 writes:List Wr
 nv:Value
 bv:Value
 wv:Value
 ns:List Value
 bs:List Value
 ws:List Value
structure HO where
 tu:Nat
 closed:Bool
 stale:Bool
 file:Option Nat
 mode:Int
 at_:Int
def chEnc(c:Ch):List Value:=[.int .u8 c.kind,vi c.n,.string c.text]
def deEnc(d:De):List Value:=[.int .u8 d.kind,vi d.handle,.string d.text,.string d.to,vi d.n,vi d.err]
def wrEnc(x:Wr):List Value:=[vi x.seq,vi x.at_,.string x.text,.bool x.empty]
def u8v(c:UInt8):Value:=.int .u8 c.toNat
def pf(f:Option Nat):Value:=.pointer (f.map λb=>⟨b,0,none⟩)
def hoEnc(h:HO):List Value:=[.bool h.closed,.bool h.stale,pf h.file,vi h.mode,vi h.at_]
def hoA(h:HO):List kC:=kA h.tu 0 (hoEnc h)
def foA(p:Nat×FO):List kC:=kA p.1 0 [p.2.nv,p.2.bv,p.2.wv]++(aj p.2.nv (p.2.now.map u8v) p.2.ns++(aj p.2.bv (p.2.base.map u8v) p.2.bs++aj p.2.wv (p.2.writes.flatMap wrEnc) p.2.ws))
structure WR where
 cv:Value
 mg:List Ch
 cw:List Value
 fm:Nat
 bS:Array MapEntry
 fc:Nat
 names:List (ByteArray×Nat)
 D3:List (Nat×FO)
 hv:Value
 hs:List HO
 pY:List Value
 tv:Value
 trace:List De
 lS:List Value
 clock:Int
 seq:Int
 dead:Bool
abbrev Aw (w:WR):List Value:=[w.cv,.map (some w.fm),w.hv,w.tv,vi w.clock,vi w.seq,.bool w.dead]
abbrev WMem (t:Nat)(w:WR):SH:=
 [kA t 0 [w.cv,.map (some w.fm),w.hv,w.tv,vi w.clock,vi w.seq,.bool w.dead],aj w.cv (w.mg.flatMap chEnc) w.cw,[.obj w.fm (.map w.bS w.fc)],w.D3.flatMap foA,aj w.hv (w.hs.map λh=>kE h.tu) w.pY,w.hs.flatMap hoA,aj w.tv (w.trace.flatMap deEnc) w.lS]
structure FOk (f:FO)(M:Nat):Prop where
 now:ke 1 f.nv f.now.length (f.now.map u8v) f.ns
 base:ke 1 f.bv f.base.length (f.base.map u8v) f.bs
 wr:ke 4 f.wv f.writes.length (f.writes.flatMap wrEnc) f.ws
 len:f.now.length<=4194304
 len2:f.base.length<=4194304
 many:f.writes.length<=M
 at_:∀x∈f.writes,0<=x.at_/\x.at_+x.text.size<=4194304
structure WOk (w:WR)(M:Nat):Prop where
 ch:ke 3 w.cv w.mg.length (w.mg.flatMap chEnc) w.cw
 fm:yQ yw (λb:Nat=>kE b) w.bS w.fc w.names
 keys:(w.names.map (·.1)).Nodup
 blks:(w.D3.map (·.1)).Nodup
 named:∀p∈w.names,p.2∈w.D3.map (·.1)
 fo:∀p∈w.D3,FOk p.2 M
 hv:ke 1 w.hv w.hs.length (w.hs.map λh=>kE h.tu) w.pY
 hfile:∀h∈w.hs,∀b,h.file=some b->b∈w.D3.map (·.1)
 NW:∀h∈w.hs,0<=h.at_/\h.at_<=4194304
 bN:w.hs.length<=M
 tr:ke 6 w.tv w.trace.length (w.trace.flatMap deEnc) w.lS
 trmany:w.trace.length<=M
 seq:0<=w.seq/\w.seq<=M
 clock:0<=w.clock/\w.clock<=1000000000000000000
 files:w.names.length<=1073741823
 chmany:w.mg.length<=65536
def AT(K:List RO->Prop):List (List RO)->Prop
 |[]=>True
 |rs::r=>K rs/\AT K r
def AT.mem {K}:∀{d:List (List RO)},AT K d->∀rs∈d,K rs:=by
 intro d
 induction d with
 |nil=>intro _ rs h;cases h
 |cons a r ih=>
  intro h rs hm;rcases QJ.1 hm with rfl|hm
  .exact h.1
  .exact ih h.2 rs hm
def VC.draws {P n Γ H Q g d}(h:AT (λrs=>VO P n rs Γ H (λ_ _ _=>False) λj H'=>Q .normal (bh d j) H') g):VC P n (.draw g d) Γ H Q:=VC.draw h.mem
def VC.Fs {P n Γ H Q q g y}{α:Type}(bg:α->Env)(Hf:α->SH)(I:α->Prop)(h:AT (λrs=>VO P n rs Γ H (λ_ _ _=>False) λd H'=>∃s,I s/\Sub (bh g d) (bg s)/\ap H' (Hf s)) q)(A:∀s,I s->VC P n y (bg s) (Hf s) Q):VC P n (.seq (.draw q g) y) Γ H Q:=by
 refine VC.seq (VC.draws ?_);have j:∀{l:List (List RO)},AT (λrs=>VO P n rs Γ H (λ_ _ _=>False) λd H'=>∃s,I s/\Sub (bh g d) (bg s)/\ap H' (Hf s)) l->
  AT (λrs=>VO P n rs Γ H (λ_ _ _=>False) λd H'=>VC P n y (bh g d) H' Q) l:=by
  intro l
  induction l with
  |nil=>intro _;trivial
  |cons a r ih=>
   intro m;exact⟨m.1.mono (λd H' ⟨s,B,C,i3⟩=>VC.sub C (VC.imp i3 (A s B))),ih m.2⟩
 exact j h
section
variable {P:Program} {n:Nat} {rs:List RO} {Γ:Env} {H:SH} {Z:List PanicEntry->Env->SH->Prop} {K:Env->SH->Prop} {d:Option Nat}
def th {r:R}{s:Nat}{b c:Bool}(h:look Γ s=some (.bool c))(j:c=true->VO P n (⟨d,some (s,b),r⟩::rs) ((s,.bool true)::Γ) H Z K)(g:c=false->VO P n (⟨d,some (s,b),r⟩::rs) ((s,.bool false)::Γ) H Z K):
 VO P n (⟨d,some (s,b),r⟩::rs) Γ H Z K:=Oz h j g
def tj {s:Nat}{x y:Operand}{c:Bool}(h:look Γ s=some (.bool c))(j:c=true->VO P n (⟨d,none,.pick (.tmp s) x y⟩::rs) ((s,.bool true)::Γ) H Z K)(g:c=false->VO P n (⟨d,none,.pick (.tmp s) x y⟩::rs) ((s,.bool false)::Γ) H Z K):
 VO P n (⟨d,none,.pick (.tmp s) x y⟩::rs) Γ H Z K:=Oz h j g
end
def eY(s:ByteArray):List Value:=s.data.toList.map λc=>.int .u8 c.toNat
section
variable {P:Program} {n:Nat} {rs:List RO} {Γ:Env} {H:SH} {Z:List PanicEntry->Env->SH->Prop} {K:Env->SH->Prop} {d:Option Nat}
end
def setObj(D3:List (Nat×FO))(b:Nat)(fo:FO):List (Nat×FO):=D3.map λp=>if p.1=b then(b,fo)else p
def imp_tk {H R x}(ys)(d:Tk H x R)(h:x.Perm ys.flatten):ap H (ys++R):=by
 refine ap.perm (d.perm.trans ?_);rw[Vc];exact vZ _ h
structure AF where
 now:List UInt8
 base:List UInt8
 writes:List Wr
structure AW where
 mg:List Ch
 names:List (ByteArray×Nat)
 files:List AF
 hs:List HO
 trace:List De
 clock:Int
 seq:Int
 dead:Bool
def foF(f:FO):AF:=⟨f.now,f.base,f.writes⟩
def ho0(h:HO):HO:={h with tu:=0}
def hoB(B:List Nat)(h:HO):HO:={h with tu:=0,file:=h.file.map λi=>B.getD i 0}
structure Rep (w:WR)(a:AW)(M:Nat):Prop where
 ch:w.mg=a.mg
 tr:w.trace=a.trace
 clock:w.clock=a.clock
 seq:w.seq=a.seq
 dead:w.dead=a.dead
 names:w.names=a.names.map λp=>(p.1,(w.D3.map (·.1)).getD p.2 0)
 nin:∀p∈a.names,p.2<a.files.length
 files:w.D3.map (λp=>foF p.2)=a.files
 hs:w.hs.map ho0=a.hs.map (hoB (w.D3.map (·.1)))
 aW:∀h∈a.hs,∀i,h.file=some i->i<a.files.length
 ok:WOk w M
section
variable {w:WR} {a:AW} {M:Nat}
end
def P4 {α:Type}{f:α->List kC}{l:List α}{i}{x:α}(h:l[i]? =some x):
 ∃rest:List kC,(l.flatMap f).Perm (f x++rest)/\∀g,((l.set i g).flatMap f).Perm (f g++rest):=by
 obtain⟨d,rfl⟩:=Vt.1 h;refine⟨(l.take i).flatMap f++(l.drop (i+1)).flatMap f,?_,λh'=>?_⟩
 .conv=>lhs;rw[<- Qj i l,vt d]
  rw[V9,VV];exact ww _ _ _
 .rw[List.set_eq_take_append_cons_drop,if_pos d,V9,VV];exact ww _ _ _
section
variable {P:Program} {n:Nat} {Γ:Env} {H:SH} {Q:Exit->Env->SH->Prop}
def VO.know {rs:List RO}{Z:List PanicEntry->Env->SH->Prop}{K:Env->SH->Prop}{φ:Prop}(h:∀w F,Sat w (H.flatten++F)->φ)(k:φ->VO P n rs Γ H Z K):VO P n rs Γ H Z K:=by
 intro l m a w F g Q j d q s;exact k (h w F d) l m a w F g Q j d q s
end
section
variable {P:Program}
end
section
variable {P:Program} {n:Nat} {rs:List RO} {Γ:Env} {H:SH} {Z:List PanicEntry->Env->SH->Prop} {K:Env->SH->Prop} {d:Option Nat}
end
section
variable {P:Program} {n:Nat} {rs:List RO} {Γ:Env} {H:SH} {Z:List PanicEntry->Env->SH->Prop} {K:Env->SH->Prop} {d:Option Nat}
end
section
variable {κ α β:Type} [DecidableEq κ] {g:α->β} {k:κ}
end
section
variable {w:WR} {a:AW} {M:Nat}
end
structure Seen {β:Type}(es:Array MapEntry)(l:List (ByteArray×β))(seen:Array Nat)(C:List (ByteArray×β)):Prop where
 nodup:(C.map (·.1)).Nodup
 mem:∀p∈C,p∈l
 seen:∀e∈es.toList,(e.born∈seen.toList↔∃p∈C,e.key=.string p.1)
section
variable {β:Type} {Vf:β->Value} {es:Array MapEntry} {c:Nat} {l:List (ByteArray×β)}
end
abbrev uv (n:Nat):Value:=.int .u64 n
abbrev cv (n:Nat):Value:=.int .u8 n
def Zp {n:Nat}:IntKind.u64.wrap (n:Int)=((n%18446744073709551616:Nat):Int):=by
 simp only[IntKind.wrap,IntKind.bits,IntKind.signed];simp
def gM {n:Nat}(h:n < 18446744073709551616):IntKind.u64.wrap (n:Int)=(n:Int):=by
 rw[Zp,Nat.mod_eq_of_lt h]
def wrapB {n:Nat}:IntKind.u8.wrap (n:Int)=((n%256:Nat):Int):=by
 simp only[IntKind.wrap,IntKind.bits,IntKind.signed];simp
def oQ {n:Nat}(h:n < 256):IntKind.u8.wrap (n:Int)=(n:Int):=by
 rw[wrapB,Nat.mod_eq_of_lt h]
def Ku {n:Nat}(h:n < 9223372036854775808):IntKind.i64.wrap (n:Int)=(n:Int):=wrap64 ⟨Zo,Zo⟩
def bvN {n:Nat}(h:n < 18446744073709551616):(BitVec.ofInt 64 (n:Int)).toNat=n:=by
 rw[BitVec.toNat_ofInt];omega
def powI(b):((2:Int) ^ b)=((2 ^ b:Nat):Int):=by push_cast;rfl
def shrU {k:IntKind}{a b:Nat}(g:b<=64):yO .shr (uv a) (.int k (b:Int))=some (uv (a/2 ^ b)):=by
 have d:¬((b:Int)<0):=by omega
 simp only[yO,ot,d,if_false,IntKind.bits,vW,Nat.min_eq_left g,powI];rw[Int.fdiv_eq_ediv_of_nonneg _ (Int.natCast_nonneg _)]
 push_cast;rfl
def shlU {k:IntKind}{a b:Nat}(g:b<=64):yO .shl (uv a) (.int k (b:Int))=some (uv (a*2 ^ b%18446744073709551616)):=by
 have d:¬((b:Int)<0):=by omega
 simp only[yO,ot,d,if_false,IntKind.bits,vW,Nat.min_eq_left g,powI];rw[show((a:Int)*((2 ^ b:Nat):Int))=((a*2 ^ b:Nat):Int) by push_cast;rfl,Zp]
def andU {a b}(d:a < 18446744073709551616)(g:b < 18446744073709551616):yO .and (uv a) (uv b)=some (uv (a&&&b)):=by
 show(if IntKind.u64=IntKind.u64 then some (Value.int .u64 (IntKind.u64.wrap ((BitVec.ofInt 64 (a:Int)&&&BitVec.ofInt 64 (b:Int)).toNat:Int)))else none)=_;rw[if_pos rfl,BitVec.toNat_and,bvN d,bvN g];rw[gM (Nat.lt_of_le_of_lt Nat.and_le_left d)]
def orU {a b}(d:a < 18446744073709551616)(g:b < 18446744073709551616):yO .or (uv a) (uv b)=some (uv (a|||b)):=by
 show(if IntKind.u64=IntKind.u64 then some (Value.int .u64 (IntKind.u64.wrap ((BitVec.ofInt 64 (a:Int)|||BitVec.ofInt 64 (b:Int)).toNat:Int)))else none)=_;rw[if_pos rfl,BitVec.toNat_or,bvN d,bvN g];rw[gM (Nat.or_lt_two_pow (n:=64) d g)]
def andN(a b:Nat):Nat:=a&&&(18446744073709551615-b)
def ζ {a b}(d:a < 18446744073709551616):andN a b<18446744073709551616:=Nat.lt_of_le_of_lt Nat.and_le_left d
def andNU {a b}(d:a < 18446744073709551616)(g:b < 18446744073709551616):yO .andNot (uv a) (uv b)=some (uv (andN a b)):=by
 show(if IntKind.u64=IntKind.u64 then some (Value.int .u64 (IntKind.u64.wrap ((BitVec.ofInt 64 (a:Int)&&&~~~ BitVec.ofInt 64 (b:Int)).toNat:Int)))else none)=_;rw[if_pos rfl,BitVec.toNat_and,BitVec.toNat_not,bvN d,bvN g];rw[show(2 ^ 64-1-b)=18446744073709551615-b by omega];rw[gM (Nat.lt_of_le_of_lt Nat.and_le_left d)];rfl
def subU {a b}(h:b<=a):yO .sub (uv a) (uv b)=some (uv ((a-b)%18446744073709551616)):=by
 simp only[yO,ot,if_true];rw[show((a:Int)-(b:Int))=((a-b:Nat):Int) by omega,Zp]
section
variable {P:Program} {n:Nat} {rs:List RO} {Γ:Env} {H:SH} {Z:List PanicEntry->Env->SH->Prop} {K:Env->SH->Prop} {d:Option Nat}
def gH {op:BinOp}{x y:Operand}{u v w:Value}(m:ev Γ x=some u)(q:ev Γ y=some v)(j:yO op u v=some w)(h:VO P n rs (au d w Γ) H Z K):VO P n (⟨d,none,.bin op x y⟩::rs) Γ H Z K:=
 VO.pure rfl (λρ g=>by simp[kb,g _ _ m,g _ _ q,j]) h
def Z6 {c:Int}(h:0<=c):Value.int .u64 c=uv c.toNat:=by
 show Value.int .u64 c=Value.int .u64 ((c.toNat:Nat):Int);rw[vX h]
def HR {x y:Operand}{k:IntKind}{j g:Int}{a b m r:Nat}(q:ev Γ x=some (.int .u64 j))(s:ev Γ y=some (.int k g))(E:0<=j)(hb:0<=g/\g<=64)(A:j.toNat=a)(B:g.toNat=b)(C:2 ^ b=m)(D:a/m=r)
 (h:VO P n rs (au d (uv r) Γ) H Z K):VO P n (⟨d,none,.bin .shr x y⟩::rs) Γ H Z K:=by
 subst D C B A;rw[Z6 E]at q;rw[show g=((g.toNat:Nat):Int) by omega]at s;exact gH q s (shrU Zo) h
def HQ {x y:Operand}{k:IntKind}{j g:Int}{a b m r:Nat}(q:ev Γ x=some (.int .u64 j))(s:ev Γ y=some (.int k g))(E:0<=j)(hb:0<=g/\g<=64)(A:j.toNat=a)(B:g.toNat=b)(C:2 ^ b=m)(D:a*m%18446744073709551616=r)
 (h:VO P n rs (au d (uv r) Γ) H Z K):VO P n (⟨d,none,.bin .shl x y⟩::rs) Γ H Z K:=by
 subst D C B A;rw[Z6 E]at q;rw[show g=((g.toNat:Nat):Int) by omega]at s;exact gH q s (shlU Zo) h
def HI {x y:Operand}{g j:Int}{a b r:Nat}(m:ev Γ x=some (.int .u64 g))(q:ev Γ y=some (.int .u64 j))(C:0<=g/\g<18446744073709551616)(D:0<=j/\j<18446744073709551616)(s:g.toNat=a)(A:j.toNat=b)(B:a&&&b=r)
 (h:VO P n rs (au d (uv r) Γ) H Z K):VO P n (⟨d,none,.bin .and x y⟩::rs) Γ H Z K:=by
 subst B A s;rw[Z6 C.1]at m;rw[Z6 D.1]at q;exact gH m q (andU Zo Zo) h
def OL {x y:Operand}{g j:Int}{a b r:Nat}(m:ev Γ x=some (.int .u64 g))(q:ev Γ y=some (.int .u64 j))(C:0<=g/\g<18446744073709551616)(D:0<=j/\j<18446744073709551616)(s:g.toNat=a)(A:j.toNat=b)(B:a|||b=r)
 (h:VO P n rs (au d (uv r) Γ) H Z K):VO P n (⟨d,none,.bin .or x y⟩::rs) Γ H Z K:=by
 subst B A s;rw[Z6 C.1]at m;rw[Z6 D.1]at q;exact gH m q (orU Zo Zo) h
def AL {x y:Operand}{g j:Int}{a b:Nat}(m:ev Γ x=some (.int .u64 g))(q:ev Γ y=some (.int .u64 j))(B:0<=g/\g<18446744073709551616)(C:0<=j/\j<18446744073709551616)(s:g.toNat=a)(A:j.toNat=b)
 (h:VO P n rs (au d (uv (andN a b)) Γ) H Z K):VO P n (⟨d,none,.bin .andNot x y⟩::rs) Γ H Z K:=by
 subst A s;rw[Z6 B.1]at m;rw[Z6 C.1]at q;exact gH m q (andNU Zo Zo) h
def AQ {x y:Operand}{g j:Int}{a b:Nat}(m:ev Γ x=some (.int .u64 g))(q:ev Γ y=some (.int .u64 j))(B:0<=j/\j<=g)(ha:g<18446744073709551616)(s:g.toNat=a)(A:j.toNat=b)
 (h:VO P n rs (au d (uv (a-b)) Γ) H Z K):VO P n (⟨d,none,.bin .sub x y⟩::rs) Γ H Z K:=by
 subst A s;rw[Z6 Zo]at m;rw[Z6 B.1]at q;refine gH m q ?_ h;rw[subU Zo,Nat.mod_eq_of_lt Zo]
def AK {x y:Operand}{g j:Int}{a b:Nat}(A:ev Γ x=some (.int .u8 g))(B:ev Γ y=some (.int .u8 j))(ha:0<=g)(hb:0<=j)(s:g+j<256)(m:g.toNat=a)(q:j.toNat=b)
 (h:VO P n rs (au d (cv (a+b)) Γ) H Z K):VO P n (⟨d,none,.bin .add x y⟩::rs) Γ H Z K:=by
 subst q m;refine gH A B ?_ h;simp only[yO,ot,if_true];rw[show g+j=((g.toNat+j.toNat:Nat):Int) by omega,oQ Zo]
def orC {a b:Nat}(d:a<18446744073709551616)(g:b<18446744073709551616):a|||b<18446744073709551616:=Nat.or_lt_two_pow (n:=64) d g
def ltB {a:Nat}(ha:a<18446744073709551616):0<=((a:Nat):Int)/\((a:Nat):Int)<18446744073709551616:=by omega
def divC {a b:Nat}(h:a<18446744073709551616):a/b<18446744073709551616:=Nat.lt_of_le_of_lt (Nat.div_le_self _ _) h
def modM {x:Nat}:x%18446744073709551616<18446744073709551616:=Nat.mod_lt _ Zd
def ltM {x:Nat}:0<=((x%18446744073709551616:Nat):Int)/\((x%18446744073709551616:Nat):Int)<18446744073709551616:=ltB modM
def δ(a:Nat):a&&&1=a%2:=Qp a 1
def ε(a:Nat):a&&&7=a%8:=Qp a 3
def Nw(a:Nat):a&&&15=a%16:=Qp a 4
def AP {x y:Operand}{j g:Int}{a b:Nat}(B:ev Γ x=some (vi j))(C:ev Γ y=some (vi g))(m:0<=j)(hb:0<g)(q:j.toNat=a)(s:g.toNat=b)(h:VO P n rs (au d (vi ((a%b:Nat):Int)) Γ) H Z K):VO P n (⟨d,none,.bin .rem x y⟩::rs) Γ H Z K:=by
 refine gH B C ?_ h;subst q s;have A:¬(g=0):=by omega
 simp only[yO,ot,ne_eq,A,not_false_eq_true,and_self,if_true];rw[Int.tmod_eq_emod_of_nonneg m]
 congr 2
 push_cast
 rw[vX m,vX Zo]
def AO {x y:Operand}{g j:Int}{a b:Nat}(B:ev Γ x=some (vi g))(C:ev Γ y=some (vi j))(m:0<=g/\g<9223372036854775808)(hb:0<j)(q:g.toNat=a)(s:j.toNat=b)(h:VO P n rs (au d (vi ((a/b:Nat):Int)) Γ) H Z K):VO P n (⟨d,none,.bin .quo x y⟩::rs) Γ H Z K:=by
 refine gH B C ?_ h;subst q s;have A:¬(j=0):=by omega
 simp only[yO,ot,ne_eq,A,not_false_eq_true,and_self,if_true];rw[Int.tdiv_eq_ediv_of_nonneg m.1];have e:g/j=((g.toNat/j.toNat:Nat):Int):=by
  push_cast;rw[vX m.1,vX Zo]
 rw[e,Ku (Nat.lt_of_le_of_lt (Nat.div_le_self _ _) Zo)]
def tg {k m:IntKind}{x:Operand}{a:Nat}(j:ev Γ x=some (.int m (a:Int)))(g:k.wrap (a:Int)=(a:Int))(h:VO P n rs (au d (.int k (a:Int)) Γ) H Z K):VO P n (⟨d,none,.conv k x⟩::rs) Γ H Z K:=st_conv j g h
end
def bitAt(st:List Nat)(w:Nat):Bool:=(st.getD (w/64) 0).testBit (w%64)
section
variable {P:Program} {n:Nat} {rs:List RO} {Γ:Env} {H:SH} {Z:List PanicEntry->Env->SH->Prop} {K:Env->SH->Prop} {d:Option Nat}
end
section
variable {P:Program} {n:Nat} {rs:List RO} {Γ:Env} {H:SH} {Z:List PanicEntry->Env->SH->Prop} {K:Env->SH->Prop} {d:Option Nat}
def kL {f:Nat}{xs:List Operand}{a5:List Value}{w:Value}(j:aq P f a5 [] (λv dl=>v=w/\dl=[]))(g:nW Γ xs=some a5)(h:VO P n rs (au d w Γ) H Z K):VO P n (⟨d,none,.call f xs⟩::rs) Γ H Z K:=by
 refine kH j g fq.nil (λv dl m=>?_);obtain⟨rfl,rfl⟩:=m;exact h
end
def af {R G:Prop}(r:R)(h:Tv R->G:=by
 intro d
 (repeat (first
   |(first
   |(apply ti;rfl)
   |(apply HR;rfl;rfl;omega;omega;exact Zi;exact Zi;(first|assumption|((try simp only[Nat.reducePow]);rfl));rfl)
   |(apply HQ;rfl;rfl;omega;omega;exact Zi;exact Zi;(first|assumption|((try simp only[Nat.reducePow]);rfl));rfl)
   |(apply HI;rfl;rfl;exact Zl;exact Zl;exact Zi;exact Zi;(first|exact δ _|exact ε _|exact Nw _|rfl))
   |(apply OL;rfl;rfl;exact Zl;exact Zl;exact Zi;exact Zi;rfl)
   |(apply AL;rfl;rfl;exact Zl;exact Zl;exact Zi;exact Zi)
   |(apply AQ;rfl;rfl;omega;omega;exact Zi;exact Zi)
   |(apply AK;rfl;rfl;omega;omega;omega;exact Zi;exact Zi)
   |(apply tg;rfl;(first|exact Ku Zo|exact gM Zo|exact oQ Zo))
   |(apply AO;rfl;rfl;omega;omega;exact Zi;exact Zi)
   |(apply AP;rfl;rfl;omega;omega;exact Zi;exact Zi)
   |(apply Fx;rfl;rfl)
   |(apply Kb;rfl)
   |(apply iA;rfl)
   |(apply uX;rfl)
   |(apply lP;rfl;rfl)
   |(apply lO;rfl;rfl)
   |(apply iV;rfl;exact Zz)
   |(apply wJ;rfl;exact Zh)
   |(apply wJ;rfl;exact Zm)
   |(apply eP;rfl;exact Zab)
   |(apply AM;rfl;rfl)
   |(apply HK;rfl;rfl)
   |(apply HH;rfl;rfl;omega)
   |(apply HS;rfl;rfl;omega)
   |(apply HN;rfl;rfl;omega)
   |(apply HP;rfl;rfl;decide)
   |(apply mY;rfl;rfl;omega;exact Zz)
   |(apply AN;rfl;rfl;omega;exact Zz)
   |(apply oN;rfl;(focus (simp only[Z0,Value.cells,Qz,Nat.reduceEqDiff,↓reduceIte,eq_self,Nat.reduceAdd,Nat.reduceSub,Qy,Nat.reduceLeDiff,Qs,and_self,rep,jA]<;>rfl)))
   |(apply zr;rfl;rfl;(focus (simp only[Z0,Value.cells,Qz,Nat.reduceEqDiff,↓reduceIte,eq_self,Nat.reduceAdd,Nat.reduceSub,Qy,Nat.reduceLeDiff,Qs,and_self,rep,jA]<;>rfl));rfl;rfl;exact Zac)
   |(apply pA;rfl;rfl;rfl))
    |(apply VO.nil;simp only[V.aV,V.bh,V.look,V.au,V.bP,V.bK,Qz,Nat.reduceAdd,Nat.reduceEqDiff,↓reduceIte,eq_self])
    |apply VC.AJ
    |apply VC.pz
    |apply VC.Hz
    |apply VC.pw
    |apply VC.sX
    |apply VC.oJ
    |apply VC.Ez
    |apply VC.block
    |(apply VC.skip;try simp only[V.aV,V.bh,V.look,V.au,V.bP,V.bK,Qz,Nat.reduceAdd,Nat.reduceEqDiff,↓reduceIte,eq_self])
    |(apply VC.exit;try simp only[V.aV,V.bh,V.look,V.au,V.bP,V.bK,Qz,Nat.reduceAdd,Nat.reduceEqDiff,↓reduceIte,eq_self])
    |(apply VC.ret;try simp only[V.bP,V.bK])
    |(apply VC.mW;rfl)
    |(apply VC.mV;rfl)
    |(apply VC.tT;rfl)
    |(apply VC.tS;rfl)))
 exact d.out):G:=h ⟨r⟩
def Z8 {R G:Prop}(r:R)(h:Tv R->G:=by
 intro d
 (first
   |(first
   |(apply ti;rfl)
   |(apply HR;rfl;rfl;omega;omega;exact Zi;exact Zi;(first|assumption|((try simp only[Nat.reducePow]);rfl));rfl)
   |(apply HQ;rfl;rfl;omega;omega;exact Zi;exact Zi;(first|assumption|((try simp only[Nat.reducePow]);rfl));rfl)
   |(apply HI;rfl;rfl;exact Zl;exact Zl;exact Zi;exact Zi;(first|exact δ _|exact ε _|exact Nw _|rfl))
   |(apply OL;rfl;rfl;exact Zl;exact Zl;exact Zi;exact Zi;rfl)
   |(apply AL;rfl;rfl;exact Zl;exact Zl;exact Zi;exact Zi)
   |(apply AQ;rfl;rfl;omega;omega;exact Zi;exact Zi)
   |(apply AK;rfl;rfl;omega;omega;omega;exact Zi;exact Zi)
   |(apply tg;rfl;(first|exact Ku Zo|exact gM Zo|exact oQ Zo))
   |(apply AO;rfl;rfl;omega;omega;exact Zi;exact Zi)
   |(apply AP;rfl;rfl;omega;omega;exact Zi;exact Zi)
   |(apply Fx;rfl;rfl)
   |(apply Kb;rfl)
   |(apply iA;rfl)
   |(apply uX;rfl)
   |(apply lP;rfl;rfl)
   |(apply lO;rfl;rfl)
   |(apply iV;rfl;exact Zz)
   |(apply wJ;rfl;exact Zh)
   |(apply wJ;rfl;exact Zm)
   |(apply eP;rfl;exact Zab)
   |(apply AM;rfl;rfl)
   |(apply HK;rfl;rfl)
   |(apply HH;rfl;rfl;omega)
   |(apply HS;rfl;rfl;omega)
   |(apply HN;rfl;rfl;omega)
   |(apply HP;rfl;rfl;decide)
   |(apply mY;rfl;rfl;omega;exact Zz)
   |(apply AN;rfl;rfl;omega;exact Zz)
   |(apply oN;rfl;(focus (simp only[Z0,Value.cells,Qz,Nat.reduceEqDiff,↓reduceIte,eq_self,Nat.reduceAdd,Nat.reduceSub,Qy,Nat.reduceLeDiff,Qs,and_self,rep,jA]<;>rfl)))
   |(apply zr;rfl;rfl;(focus (simp only[Z0,Value.cells,Qz,Nat.reduceEqDiff,↓reduceIte,eq_self,Nat.reduceAdd,Nat.reduceSub,Qy,Nat.reduceLeDiff,Qs,and_self,rep,jA]<;>rfl));rfl;rfl;exact Zac)
   |(apply pA;rfl;rfl;rfl))
    |(apply VO.nil;simp only[V.aV,V.bh,V.look,V.au,V.bP,V.bK,Qz,Nat.reduceAdd,Nat.reduceEqDiff,↓reduceIte,eq_self])
    |apply VC.AJ
    |apply VC.pz
    |apply VC.Hz
    |apply VC.pw
    |apply VC.sX
    |apply VC.oJ
    |apply VC.Ez
    |apply VC.block
    |(apply VC.skip;try simp only[V.aV,V.bh,V.look,V.au,V.bP,V.bK,Qz,Nat.reduceAdd,Nat.reduceEqDiff,↓reduceIte,eq_self])
    |(apply VC.exit;try simp only[V.aV,V.bh,V.look,V.au,V.bP,V.bK,Qz,Nat.reduceAdd,Nat.reduceEqDiff,↓reduceIte,eq_self])
    |(apply VC.ret;try simp only[V.bP,V.bK])
    |(apply VC.mW;rfl)
    |(apply VC.mV;rfl)
    |(apply VC.tT;rfl)
    |(apply VC.tS;rfl))
 (repeat (first
   |(first
   |(apply ti;rfl)
   |(apply HR;rfl;rfl;omega;omega;exact Zi;exact Zi;(first|assumption|((try simp only[Nat.reducePow]);rfl));rfl)
   |(apply HQ;rfl;rfl;omega;omega;exact Zi;exact Zi;(first|assumption|((try simp only[Nat.reducePow]);rfl));rfl)
   |(apply HI;rfl;rfl;exact Zl;exact Zl;exact Zi;exact Zi;(first|exact δ _|exact ε _|exact Nw _|rfl))
   |(apply OL;rfl;rfl;exact Zl;exact Zl;exact Zi;exact Zi;rfl)
   |(apply AL;rfl;rfl;exact Zl;exact Zl;exact Zi;exact Zi)
   |(apply AQ;rfl;rfl;omega;omega;exact Zi;exact Zi)
   |(apply AK;rfl;rfl;omega;omega;omega;exact Zi;exact Zi)
   |(apply tg;rfl;(first|exact Ku Zo|exact gM Zo|exact oQ Zo))
   |(apply AO;rfl;rfl;omega;omega;exact Zi;exact Zi)
   |(apply AP;rfl;rfl;omega;omega;exact Zi;exact Zi)
   |(apply Fx;rfl;rfl)
   |(apply Kb;rfl)
   |(apply iA;rfl)
   |(apply uX;rfl)
   |(apply lP;rfl;rfl)
   |(apply lO;rfl;rfl)
   |(apply iV;rfl;exact Zz)
   |(apply wJ;rfl;exact Zh)
   |(apply wJ;rfl;exact Zm)
   |(apply eP;rfl;exact Zab)
   |(apply AM;rfl;rfl)
   |(apply HK;rfl;rfl)
   |(apply HH;rfl;rfl;omega)
   |(apply HS;rfl;rfl;omega)
   |(apply HN;rfl;rfl;omega)
   |(apply HP;rfl;rfl;decide)
   |(apply mY;rfl;rfl;omega;exact Zz)
   |(apply AN;rfl;rfl;omega;exact Zz)
   |(apply oN;rfl;(focus (simp only[Z0,Value.cells,Qz,Nat.reduceEqDiff,↓reduceIte,eq_self,Nat.reduceAdd,Nat.reduceSub,Qy,Nat.reduceLeDiff,Qs,and_self,rep,jA]<;>rfl)))
   |(apply zr;rfl;rfl;(focus (simp only[Z0,Value.cells,Qz,Nat.reduceEqDiff,↓reduceIte,eq_self,Nat.reduceAdd,Nat.reduceSub,Qy,Nat.reduceLeDiff,Qs,and_self,rep,jA]<;>rfl));rfl;rfl;exact Zac)
   |(apply pA;rfl;rfl;rfl))
    |(apply VO.nil;simp only[V.aV,V.bh,V.look,V.au,V.bP,V.bK,Qz,Nat.reduceAdd,Nat.reduceEqDiff,↓reduceIte,eq_self])
    |apply VC.AJ
    |apply VC.pz
    |apply VC.Hz
    |apply VC.pw
    |apply VC.sX
    |apply VC.oJ
    |apply VC.Ez
    |apply VC.block
    |(apply VC.skip;try simp only[V.aV,V.bh,V.look,V.au,V.bP,V.bK,Qz,Nat.reduceAdd,Nat.reduceEqDiff,↓reduceIte,eq_self])
    |(apply VC.exit;try simp only[V.aV,V.bh,V.look,V.au,V.bP,V.bK,Qz,Nat.reduceAdd,Nat.reduceEqDiff,↓reduceIte,eq_self])
    |(apply VC.ret;try simp only[V.bP,V.bK])
    |(apply VC.mW;rfl)
    |(apply VC.mV;rfl)
    |(apply VC.tT;rfl)
    |(apply VC.tS;rfl)))
 exact d.out):G:=h ⟨r⟩
inductive Lt where
 |mk (kind:Nat) (n:Int) (bits:Nat) (text:ByteArray) (ci:List Lt)
inductive Nd where
 |mk (kind:Nat) (name:ByteArray) (lit:Lt) (a5 ae:List ByteArray) (ak:List Nd) (at_:Int)
def Lt.kind:Lt->Nat|.mk k _ _ _ _=>k
def Lt.n:Lt->Int|.mk _ n _ _ _=>n
def Lt.bits:Lt->Nat|.mk _ _ b _ _=>b
def Lt.text:Lt->ByteArray|.mk _ _ _ t _=>t
def Lt.ci:Lt->List Lt|.mk _ _ _ _ l=>l
def Nd.kind:Nd->Nat|.mk k _ _ _ _ _ _=>k
def Nd.name:Nd->ByteArray|.mk _ s _ _ _ _ _=>s
def Nd.lit:Nd->Lt|.mk _ _ l _ _ _ _=>l
def Nd.a5:Nd->List ByteArray|.mk _ _ _ a _ _ _=>a
def Nd.ae:Nd->List ByteArray|.mk _ _ _ _ t _ _=>t
def Nd.ak:Nd->List Nd|.mk _ _ _ _ _ k _=>k
def Nd.at_:Nd->Int|.mk _ _ _ _ _ _ p=>p
def Nd.eta(x:Nd):x=.mk x.kind x.name x.lit x.a5 x.ae x.ak x.at_:=by cases x;rfl
mutual
def Lt.size:Lt->Nat
 |.mk _ _ _ _ ci=>1+Lt.ay ci
def Lt.ay:List Lt->Nat
 |[]=>0
 |x::r=>x.size+Lt.ay r
end
mutual
def Nd.size:Nd->Nat
 |.mk _ _ _ _ _ ak _=>1+Nd.ay ak
def Nd.ay:List Nd->Nat
 |[]=>0
 |x::r=>x.size+Nd.ay r
end
def Lt.size_pos(x:Lt):0<x.size:=by cases x;simp only[Lt.size];omega
def Nd.size_pos(x:Nd):0<x.size:=by cases x;simp only[Nd.size];omega
def Lt.aJ {x}:∀{l:List Lt},x∈l->x.size<=Lt.ay l:=by
 intro l
 induction l with
 |nil=>intro h;cases h
 |cons y r ih=>
  intro h;simp only[Lt.ay];exact zCW
def Nd.aJ {x}:∀{l:List Nd},x∈l->x.size<=Nd.ay l:=by
 intro l
 induction l with
 |nil=>intro h;cases h
 |cons y r ih=>
  intro h;simp only[Nd.ay];exact zCW
def dU(A:List kC)(v:Value)(l:List ByteArray):Prop:=∃a c,v=.slice a l.length c/\l.length<=1099511627776/\∀(i:Nat) t,l[i]? =some t->∃b o,a=some ⟨b,o,none⟩/\kC.cell b (o+i) (.string t)∈A/\t.size<=140737488355328
def dU.more {A B v l}(h:dU A v l)(m:∀x∈A,x∈B):dU B v l:=by
 obtain⟨a,c,d,g,j⟩:=h;exact⟨a,c,d,g,λi t e=>let⟨b,o,k1,k2,k3⟩:=j i t e;⟨b,o,k1,m _ k2,k3⟩⟩
structure Tw (k:Nat)(n:Int)(b:Nat)(t:ByteArray)(m:Nat):Prop where
 kind:k<256
 n:-9223372036854775808<=n/\n<=9223372036854775807
 bits:b<18446744073709551616
 text:t.size<=140737488355328
 many:m<=140737488355328
inductive yc (A:List kC):Lt->List Value->Prop
 |mk {k:Nat} {n:Int} {b:Nat} {t:ByteArray} {ci:List Lt} {a:Option Addr} {c bk o:Nat} {us:Nat->List Value} (wf:Tw k n b t ci.length) (ha:0<ci.length->a=some ⟨bk,o,none⟩)
   (hm:∀i,i<ci.length->∀y∈kA bk (o+i*5) (us i),y∈A) (hr:∀i x,ci[i]? =some x->yc A x (us i)):yc A (.mk k n b t ci) [cv k,vi n,uv b,.string t,.slice a ci.length c]
structure NdWf (k:Nat)(s:ByteArray)(m:Nat)(p:Int):Prop where
 kind:k<256
 name:s.size<=140737488355328
 many:m<=140737488355328
 at_:-9223372036854775808<=p/\p<=9223372036854775807
inductive jD (A:List kC):Nd->List Value->Prop
 |mk {k:Nat} {s:ByteArray} {lit:Lt} {a5 ae:List ByteArray} {ak:List Nd} {p:Int} {lv:List Value} {av tv:Value} {a:Option Addr} {c bk o:Nat} {us:Nat->List Value} (wf:NdWf k s ak.length p) (hl:yc A lit lv) (bI:dU A av a5) (bL:dU A tv ae)
   (ha:0<ak.length->a=some ⟨bk,o,none⟩) (hm:∀i,i<ak.length->∀y∈kA bk (o+i*11) (us i),y∈A) (hr:∀i x,ak[i]? =some x->jD A x (us i)) (lW:ak.length<=c):jD A (.mk k s lit a5 ae ak p) ([cv k,.string s]++lv++[av,tv,.slice a ak.length c,vi p])
def yc.len {A x vs}(h:yc A x vs):vs.length=5:=by cases h;rfl
def jD.len {A x vs}(h:jD A x vs):vs.length=11:=by
 cases h with
 |mk wf hl=>simp[hl.len]
def yc.more {A B}(g:∀x∈A,x∈B){x vs}(h:yc A x vs):yc B x vs:=by
 induction h with
 |mk wf ha hm hr ih=>exact .mk wf ha (λi d y j=>g _ (hm i d y j)) ih
def jD.more {A B}(d:∀x∈A,x∈B){x vs}(h:jD A x vs):jD B x vs:=by
 induction h with
 |mk wf hl bI bL ha hm hr lW ih=>exact .mk wf (hl.more d) (bI.more d) (bL.more d) ha (λi g y j=>d _ (hm i g y j)) ih lW
def kB(s:ByteArray):List Nat:=s.data.toList.map UInt8.toNat
def DS(c:Nat):Bool:=(decide (97<=c)&&decide (c<=122))||(decide (65<=c)&&decide (c<=90))||decide (c=95)
def wV(c:Nat):Bool:=decide (48<=c)&&decide (c<=57)
def pK(c:Nat):Bool:=DS c||wV c
def cU(c:Nat):Bool:=[43,45,42,47,92,126,60,62,61,64,37,38,63,44,33].contains c
def ib(l:List Nat):Bool:=match l with
 |[]=>false
 |c::_=>decide (l.length<=40)&&DS c&&l.all pK
def D9(on:List Nat->Bool):List Nat->Nat
 |[]=>0
 |c::r=>if on (c::r)then 1+D9 on r else 0
def gG:List Nat->Bool
 |[]=>false
 |c::r=>cU c&&(decide (c≠45)||!(match r with|d::_=>wV d|[]=>false))
def fp:List Nat->Nat
 |[]=>0
 |c::r=>if c=124 then 1 else if cU c then 1+D9 gG r else 0
def jE:List Nat->List (List Nat)
 |[]=>[[]]
 |c::r=>if c=58 then [58]::jE r else match jE r with
  |p::ps=>(c::p)::ps
  |[]=>[[c]]
def zk:List (List Nat)->Nat->Int
 |[],n=>n
 |p::ps,n=>if p=[]then n else if p.getLast? =some 58&&ib p.dropLast then zk ps (n+1)else -1
def qF(l:List Nat):Int:=
 if ib l then 0 else match l with
 |[]=>-1
 |c::_=>if cU c||decide (c=124)then(if fp l=l.length then 1 else -1)else zk (jE l) 0
def yJ(s:ByteArray):Bool:=ib (kB s)
def kW(s:ByteArray):Int:=qF (kB s)
def gJ:List (List Nat):=[[115,101,108,102],[115,117,112,101,114],[110,105,108],[116,114,117,101],[102,97,108,115,101]]
def jW(s:ByteArray):Bool:=!gJ.contains (kB s)&&yJ s
def wO:List Nat->List Nat
 |48::c::r=>wO (c::r)
 |l=>l
def zg(l:List Nat):Nat:=l.foldl (λn c=>n*10+(c-48)) 0
def ox(l:List Nat):Bool:=
 let(d,minus):=match l with|45::r=>(r,true)|_=>(l,false)
 decide (d≠[])&&d.all wV&&decide (wO d=d)&&decide (d.length<=255)&&decide ((if minus then 1152921504606846976 else 1152921504606846975)<zg d)
abbrev Rs:=Option (Nat×Bool)
def jh:List Rs->Rs
 |[]=>some (0,false)
 |r::rs=>match r,jh rs with
  |some (d,m),some (e,k)=>some (max d e,m||k)
  |_,_=>none
def z9(b:Bool):Rs->Rs
 |some (d,m)=>some (d,b||m)
 |none=>none
def wz:Rs->Rs
 |some (d,m)=>some (d+1,m)
 |none=>none
def kT(b:Bool)(r:Rs):Rs:=if b then r else none
mutual
def jS:Lt->Bool->Rs
 |.mk k n b t ci,inside=>
  if k=1∨k=2∨k=3 then kT (inside&&decide (n=0/\b=0/\t.size=0/\ci.length=0)) (some (0,false))
  else if k=4 then kT (decide (-1152921504606846976<=n/\n<=1152921504606846975/\b=0/\t.size=0/\ci.length=0)) (some (0,false))
  else if k=5 then kT (ox (kB t)&&decide (n=0/\b=0/\ci.length=0)) (some (0,false))
  else if k=6 then kT (decide (b*2%18446744073709551616/9007199254740992≠2047/\n=0/\t.size=0/\ci.length=0)) (some (0,false))
  else if k=7 then kT (decide (0<=n/\n<=255/\b=0/\t.size=0/\ci.length=0)) (some (0,false))
  else if k=8∨k=9 then kT (decide (n=0/\b=0/\ci.length=0)) (some (0,false))
  else if k=11 then kT (decide (n=0/\b=0/\ci.length=0)) (some (0,decide (255<t.size)))
  else if k=10 then kT (decide (n=0/\b=0/\t.size=0)) (wz (z9 (decide (255<ci.length)) (jh (xH ci))))
  else none
def xH:List Lt->List Rs
 |[]=>[]
 |x::r=>jS x true::xH r
end
def kg(x:Nd):Bool:=decide (x.kind=2)&&decide (kB x.name=[115,117,112,101,114])
def yh(s:ByteArray):Nat:=if kW s=0 then 5 else if kW s=1/\(kB s).getLast?≠some 58 then 4 else 3
def wQ(x:Nd):Nat:=if x.kind=3 then 1 else if x.kind=5 then 2 else if x.kind=4 then yh x.name else 6
def gD(s:ByteArray):Nat:=max 4 (yh s)
def nD(s:ByteArray):Nat:=if yh s=4 then 5 else 4
def CW(x:Nd)(place:Nat)(r:Rs):Rs:=kT (decide (x.kind≠9/\x.kind≠6)) (if wQ x<place then wz r else r)
def je(x:Nd)(place:Nat)(r:Rs):Rs:=kT (!kg x) (CW x place r)
def zl(x:Nd)(aX:ByteArray)(r:Rs):Rs:=if kg x then r else je x (gD aX) r
def fH(place:Nat):List Nd->List Rs->List Rs
 |x::l,r::rs=>je x place r::fH place l rs
 |_,_=>[]
def lj(aX:ByteArray)(l:List Nd)(rs:List Rs):Rs:=kT (decide (kW aX=l.length)) (z9 (decide (15<kW aX)) (jh (fH (nD aX) l rs)))
def zA:List Nd->List Rs->List Rs
 |[x],r::_=>[if x.kind=9 then r else je x 1 r]
 |x::l,r::rs=>je x 1 r::zA l rs
 |_,_=>[]
def sL:List Nd->List Rs->List Rs
 |x::l,r::rs=>kT (decide (x.kind=6)) r::sL l rs
 |_,_=>[]
def zE(MH:Nat)(l:List ByteArray)(r:Rs):Rs:=kT (l.all jW) (z9 (decide (MH<l.length)) r)
def z4(l:Lt):Bool:=decide (l.kind=0/\l.n=0/\l.bits=0/\l.text.size=0/\l.ci.length=0)
def yN:Rs->Rs->Rs
 |some (d,m),some (e,k)=>some (max d e,m||k)
 |_,_=>none
def w8(k:Nat)(s:ByteArray)(lit:Lt)(a5 ae:List ByteArray)(ak:List Nd)(rs:List Rs):Rs:=
 if k=1 then kT (decide (ak.length=0/\s.size=0/\a5.length=0/\ae.length=0)) (jS lit false)
 else if k=2 then kT (decide (ak.length=0/\a5.length=0/\ae.length=0)&&yJ s&&z4 lit) (some (0,false))
 else if k=3 then kT (decide (a5.length=0/\ae.length=0)&&z4 lit&&jW s) (match ak,rs with|[x],[r]=>je x 1 r|_,_=>none)
 else if k=4 then kT (decide (a5.length=0/\ae.length=0)&&z4 lit&&decide (0<=kW s)) (match ak,rs with|x::l,r::q=>yN (zl x s r) (lj s l q)|_,_=>none)
 else if k=6 then kT (decide (a5.length=0/\ae.length=0)&&z4 lit) (lj s ak rs)
 else if k=5 then kT (decide (s.size=0/\a5.length=0/\ae.length=0/\2<ak.length)&&z4 lit) (match ak,rs with|x::y::l,r::q=>z9 (decide (256<ak.length)) (yN (jh (sL (y::l) q)) (zl x y.name r))|_,_=>none)
 else if k=7 then kT (decide (s.size=0)&&z4 lit) (zE 15 a5 (zE 63 ae (wz (jh (zA ak rs)))))
 else if k=8 then kT (decide (s.size=0/\a5.length=0/\ae.length=0)&&z4 lit) (wz (z9 (decide (255<ak.length)) (jh (fH 1 ak rs))))
 else if k=9 then kT (decide (s.size=0/\a5.length=0/\ae.length=0)&&z4 lit) (match ak,rs with|[x],[r]=>je x 1 r|_,_=>none)
 else none
mutual
def kP:Nd->Rs
 |.mk k s lit a5 ae ak _=>w8 k s lit a5 ae ak (yB ak)
def yB:List Nd->List Rs
 |[]=>[]
 |x::r=>kP x::yB r
end
def jz:∀l:List Nd,yB l=l.map kP:=by
 intro l
 induction l with
 |nil=>rfl
 |cons x r ih=>simp only[yB,ih,QE]
def dE:∀l:List Lt,xH l=l.map λx=>jS x true:=by
 intro l
 induction l with
 |nil=>rfl
 |cons x r ih=>simp only[xH,ih,QE]
def Ux(deep:Nat->Bool):Rs->Nat
 |none=>150
 |some (d,m)=>if m then 151 else if deep d then 152 else 0
mutual
def litEq:Lt->Lt->Bool
 |.mk k n b t l,.mk k' n' b' t' l'=>decide (k=k')&&decide (n=n')&&decide (b=b')&&decide (t=t')&&W1 l l'
def W1:List Lt->List Lt->Bool
 |[],[]=>true
 |x::r,y::q=>litEq x y&&W1 r q
 |_,_=>false
end
mutual
def Xd:Nd->Nd->Bool
 |.mk k s l a t ks _,.mk k' s' l' a' t' ks' _=>decide (k=k')&&decide (s=s')&&decide (a=a')&&decide (t=t')&&litEq l l'&&ndsEq ks ks'
def ndsEq:List Nd->List Nd->Bool
 |[],[]=>true
 |x::r,y::q=>Xd x y&&ndsEq r q
 |_,_=>false
end
def dH:∀{l:List Rs},none∈l->jh l=none:=by
 intro l
 induction l with
 |nil=>intro h;cases h
 |cons r l ih=>
  intro h;cases r with
  |none=>rfl
  |some p=>
   rcases QJ.1 h with h|h
   .cases h
   .simp only[jh,ih h]
def dI {d e m k}:∀{l:List Rs},jh l=some (d,m)->jh (l++[some (e,k)])=some (max d e,m||k):=by
 intro l
 induction l generalizing d m with
 |nil=>intro h;cases h;simp[jh]
 |cons r l ih=>
  intro h;cases r with
  |none=>cases h
  |some p=>
   simp only[jh]at h;cases hl:jh l with
   |none=>rw[hl]at h;cases h
   |some q=>
    rw[hl]at h;cases h;simp only[vq,jh,ih hl,X9,XA];exact⟨Zo,by rw[vR]⟩
def hK {K}:∀{l:List Rs} {d:Nat} {m:Bool},(∀r∈l,∀d m,r=some (d,m)->d<=K)->jh l=some (d,m)->d<=K:=by
 intro l
 induction l with
 |nil=>intro d m _ h;cases h;omega
 |cons r l ih=>
  intro d m g h;cases r with
  |none=>cases h
  |some p=>
   simp only[jh]at h;cases hq:jh l with
   |none=>rw[hq]at h;cases h
   |some q=>
    rw[hq]at h;cases h;have h1:=g (some p) Zs p.1 p.2 rfl;have h2:=ih (λr j=>g r (by simp[j])) hq;omega
def jX {b r p}(h:kT b r=some p):r=some p:=by
 unfold kT at h;split at h
 .exact h
 .cases h
def dG {b r d m}(h:z9 b r=some (d,m)):∃g,r=some (d,g):=by
 cases r with
 |none=>cases h
 |some p=>cases h;exact⟨_,rfl⟩
def gX {r d m}(h:wz r=some (d,m)):∃g,d=g+1/\r=some (g,m):=by
 cases r with
 |none=>cases h
 |some p=>cases h;exact⟨_,rfl,rfl⟩
def G6:∀(N:Nat) (x:Lt),x.size<=N->∀(i:Bool) (d:Nat) (m:Bool),jS x i=some (d,m)->d<=x.size:=by
 intro N
 induction N with
 |zero=>intro x s;have:=x.size_pos;omega
 |succ N ih=>
  intro x s i d m h;cases x with
  |mk k n b t ci=>
  simp only[Lt.size]at s|-;simp only[jS]at h;have zero:∀(c:Bool) (q:Bool),kT c (some (0,q))=some (d,m)->d=0:=λc q h=>by have:=jX h;cases this;rfl
  split at h
  .have:=zero _ _ h;omega
  split at h
  .have:=zero _ _ h;omega
  split at h
  .have:=zero _ _ h;omega
  split at h
  .have:=zero _ _ h;omega
  split at h
  .have:=zero _ _ h;omega
  split at h
  .have:=zero _ _ h;omega
  split at h
  .have:=zero _ _ h;omega
  split at h
  .obtain⟨d',hd,g⟩:=gX (jX h);obtain⟨m',j⟩:=dG g;rw[dE]at j;have:=hK (K:=Lt.ay ci) (λr A d m e=>by
    obtain⟨y,B,rfl⟩:=QO.1 A;have h1:=Lt.aJ B;have g:=ih y Zo true d m e;omega) j
   omega
  .cases h
def eQ(place):∀l:List Nd,fH place l (l.map kP)=l.map λx=>je x place (kP x):=by
 intro l
 induction l with
 |nil=>rfl
 |cons x r ih=>simp only[QE,fH,ih]
def uJ:∀l:List Nd,sL l (l.map kP)=l.map λx=>kT (decide (x.kind=6)) (kP x):=by
 intro l
 induction l with
 |nil=>rfl
 |cons x r ih=>simp only[QE,sL,ih]
def xV(x):∀l:List Nd,zA (l++[x]) ((l++[x]).map kP)=(l.map λy=>je y 1 (kP y))++[if x.kind=9 then kP x else je x 1 (kP x)]:=by
 intro l
 induction l with
 |nil=>rfl
 |cons y r ih=>
  cases r with
  |nil=>rfl
  |cons z r=>simpa[zA]using ih
def xe {x place K d r m}(j:∀d m,r=some (d,m)->d<=K)(h:je x place r=some (d,m)):d<=K+1:=by
 have g:=jX (jX h);split at g
 .obtain⟨q,e,s⟩:=gX g;have:=j q m s;omega
 .have:=j d m g;omega
mutual
def Nd.w:Nd->Nat
 |.mk _ s lit a5 ae ak _=>1+s.size+lit.size+a5.length+ae.length+Nd.ws ak
def Nd.ws:List Nd->Nat
 |[]=>0
 |x::r=>x.w+Nd.ws r
end
def Nd.nC(x:Nd):0 < x.w:=by cases x;simp only[Nd.w];omega
def Nd.cQ {x}:∀{l:List Nd},x∈l->x.w<=Nd.ws l:=by
 intro l
 induction l with
 |nil=>intro h;cases h
 |cons y r ih=>
  intro h;simp only[Nd.ws];exact zCW
def Nd.ws_le {f}:∀{l:List Nd} {o:Nat},(∀i x,l[i]? =some x->x.w<=f (o+i))->Nd.ws l<=((List.range' o l.length).map f).sum:=by
 intro l
 induction l with
 |nil=>intro o _;simp[Nd.ws]
 |cons y r ih=>
  intro o h;have d:=h 0 y rfl;have g:=ih (o:=o+1) (λi x e=>by have:=h (i+1) x e;rwa [Qn,Nat.add_comm 1 i]);simp only[Nd.ws,Q0,List.range'_succ,QE,List.sum_cons,Qo]at d g|-;omega
def Lt.Yn {f}:∀{l:List Lt} {o:Nat},(∀i x,l[i]? =some x->x.size<=f (o+i))->Lt.ay l<=((List.range' o l.length).map f).sum:=by
 intro l
 induction l with
 |nil=>intro o _;simp[Lt.ay]
 |cons y r ih=>
  intro o h;have d:=h 0 y rfl;have g:=ih (o:=o+1) (λi x e=>by have:=h (i+1) x e;rwa [Qn,Nat.add_comm 1 i]);simp only[Lt.ay,Q0,List.range'_succ,QE,List.sum_cons,Qo]at d g|-;omega
def Ix {K d m p q}(g:∀d m,p=some (d,m)->d<=K)(j:∀d m,q=some (d,m)->d<=K)(h:yN p q=some (d,m)):d<=K:=by
 cases p with
 |none=>cases h
 |some p=>
  cases q with
  |none=>cases h
  |some q=>
   simp only[yN,X9,XA]at h;have h1:=g p.1 p.2 rfl;have h2:=j q.1 q.2 rfl;omega
def rO:∀l:List Nd,(zA l (l.map kP)).length=l.length:=by
 intro l
 induction l with
 |nil=>rfl
 |cons x r ih=>
  cases r with
  |nil=>rfl
  |cons y r=>simpa[zA]using ih
def rM:∀(l:List Nd) (j:Nat) (y:Nd),l[j]? =some y->(zA l (l.map kP))[j]? =some (if y.kind=9/\j+1=l.length then kP y else je y 1 (kP y)):=by
 intro l
 induction l with
 |nil=>intro j y h;simp at h
 |cons x r ih=>
  intro j y h;cases r with
  |nil=>
   cases j with
   |zero=>
    simp only[Vn,X9]at h;subst h;simp[zA]
   |succ j=>simp at h
  |cons z r=>
   cases j with
   |zero=>
    simp only[Vn,X9]at h;subst h;simp[zA]
   |succ j=>
    have:=ih j y (by simpa using h);simpa[zA]using this
def JJ:∀(N:Nat) (x:Nd),x.w<=N->∀(d:Nat) (m:Bool),kP x=some (d,m)->d<=2*x.w:=by
 intro N
 induction N with
 |zero=>intro x U;have:=x.nC;omega
 |succ N ih=>
  intro x U d m h;cases x with
  |mk k s lit a5 ae ak p=>
  simp only[Nd.w]at U|-;have C:∀y∈ak,∀d m,kP y=some (d,m)->d<=2*Nd.ws ak:=λy A d m e=>by
   have h1:=Nd.cQ A;have g:=ih y Zo d m e;omega
  have D:∀(y:Nd) (E:Nat),y∈ak->∀d m,je y E (kP y)=some (d,m)->d<=2*Nd.ws ak+1:=λy E A d m e=>xe (C y A) e
  have W:∀(l:List Nd) (E:Nat),(∀y∈l,y∈ak)->∀d m,jh (fH E l (l.map kP))=some (d,m)->d<=2*Nd.ws ak+1:=λl E M d m e=>by
   rw[eQ]at e;refine hK (λr G d m e=>?_) e;obtain⟨y,A,rfl⟩:=QO.1 G;exact D y E (M y A) d m e
  have I:∀(l:List Nd) (q:ByteArray),(∀y∈l,y∈ak)->∀d m,lj q l (l.map kP)=some (d,m)->d<=2*Nd.ws ak+1:=λl q M d m e=>by
   obtain⟨H,g⟩:=dG (jX e);exact W l _ M d H g
  have B:∀(y:Nd) (q:ByteArray),y∈ak->∀d m,zl y q (kP y)=some (d,m)->d<=2*Nd.ws ak+1:=λy q A d m e=>by
   unfold zl at e;split at e
   .have:=C y A d m e;omega
   .exact D y _ A d m e
  have S:∀d m,(match ak,ak.map kP with|[x],[r]=>je x 1 r|_,_=>none)=some (d,m)->d<=2*Nd.ws ak+1:=λd m e=>by
   match ak,D,e with
   |[y],D,e=>exact D y 1 Zs d m e
   |[],_,e=>cases e
   |_::_::_,_,e=>cases e
  simp only[kP,jz,w8]at h;split at h
  .have g:=G6 _ lit (Qs _) false d m (jX h);omega
  split at h
  .have:=jX h;cases this;omega
  split at h
  .have:=S d m (jX h);omega
  split at h
  .have g:=jX h
   match ak,B,I,g with
   |[],_,_,g=>cases g
   |y::l,B,I,g=>
    have:=Ix (B y s Zs) (I l s (λz hz=>by simp[hz])) g;omega
  split at h
  .have:=I ak s (λ_ h=>h) d m (jX h);omega
  split at h
  .have g:=jX h
   match ak,B,C,g with
   |[],_,_,g=>cases g
   |[_],_,_,g=>cases g
   |y::z::l,B,C,g=>
    obtain⟨H,J⟩:=dG g;have:=Ix (K:=2*Nd.ws (y::z::l)+1) (λd m e=>?_) (B y z.name Zs) J
    .omega
    .change jh (sL (z::l) ((z::l).map kP))=some (d,m)at e;rw[uJ]at e;have:=hK (K:=2*Nd.ws (y::z::l)) (λr G d m e=>by
      obtain⟨u,hu,rfl⟩:=QO.1 G;exact C u (QK _ hu) d m (jX e)) e
     omega
  split at h
  .have g:=jX h;simp only[zE]at g;obtain⟨H,J⟩:=dG (jX g);obtain⟨m'',Y⟩:=dG (jX J);obtain⟨Q,rfl,L⟩:=gX Y;have:=hK (K:=2*Nd.ws ak+1) (λr G d m e=>by
    obtain⟨j,F⟩:=Vv G;have T:=(Vt.1 F).1;rw[rO]at T;have X:=rM ak j ak[j] (Zg T);rw[X]at F;have O:ak[j]∈ak:=List.getElem_mem _;split at F
    .cases F;have:=C _ O d m e;omega
    .cases F;exact D _ 1 O d m e) L
   omega
  split at h
  .obtain⟨Q,rfl,L⟩:=gX (jX h);obtain⟨H,Z⟩:=dG L;have:=W ak 1 (λ_ h=>h) Q H Z;omega
  split at h
  .have:=S d m (jX h);omega
  .cases h
def lp {b d}:∀{rows:List (List Value)} {o:Nat},(∀r∈rows,r.length=d)->∀{i:Nat} {r:List Value},rows[i]? =some r->∀y∈kA b (o+i*d) r,y∈kA b o rows.flatten:=by
 intro rows
 induction rows with
 |nil=>intro o _ i r h;simp at h
 |cons q rows ih=>
  intro o h i r g y j;rw[Vd,j7,QH];cases i with
  |zero=>
   simp only[Vn,X9]at g;subst g;rw[X1,Qo]at j;exact .inl j
  |succ i=>
   right;rw[h q Zs];refine ih (λr m=>h r (by simp[m])) (by simpa using g) y ?_
   rwa [show o+d+i*d=o+(i+1)*d by rw[Nat.succ_mul];omega]
def lt_made {B:List kC}{k:Nat}{n:Int}{b:Nat}{t:ByteArray}{ci:List Lt}{sv:Value}{rows:List (List Value)}{sp:List Value}(j:ke 5 sv ci.length rows.flatten sp)(hl:rows.length=ci.length)(F:∀r∈rows,r.length=5)
 (G:∀(i:Nat) x r,ci[i]? =some x->rows[i]? =some r->yc B x r) (C:Tw k n b t ci.length):yc (aj sv rows.flatten sp++B) (.mk k n b t ci) [cv k,vi n,uv b,.string t,sv]:=by
 have s:∀i,i<ci.length->rows[i]? =some (rows.getD i []):=λi d=>by
  rw[Vh,Zg Zo];rfl
 generalize A:ci.length=m at j;generalize D:rows.flatten=xs at j|-;cases j with
 |@mk bk o _ c _ _ h1 h2 h3=>
  rw[<- A];subst D;refine .mk (bk:=bk) (o:=o) (us:=λi=>rows.getD i []) C (λ_=>rfl) (λi d y q=>?_) (λi x g=>?_)
  .refine Zw _ ?_;simp only[aj,j7];exact Zw _ (lp F (s i d) y q)
  .have d:=(Vt.1 g).1;exact(G i x _ g (s i d)).more λy q=>QI _ q
 |nil=>
  have E:ci=[]:=vy A;subst E;exact .mk (bk:=0) (o:=0) (us:=λ_=>[]) C (λh=>absurd h Zs) (λi d=>absurd d Zs) (λi x g=>by simp at g)
def Nc {sv l sp n}(g:n=l.length)(d:ke 1 sv n (l.map Value.string) sp)(m:l.length<=1099511627776)(q:∀t∈l,t.size<=140737488355328):dU (aj sv (l.map Value.string) sp) sv l:=by
 generalize s:l.map Value.string=xs at d;cases d with
 |@mk bk o _ c _ _ h1 h2 h3=>
  subst s;refine⟨_,c,by rw[g],m,λi t e=>⟨bk,o,rfl,?_,q t (Zv e)⟩⟩;simp only[aj,j7];refine Zw _ (kI.2 ⟨i,_,?_,rfl⟩);rw[Vu,e];rfl
 |nil=>
  have j:l=[]:=vy g.symm;subst j;exact⟨none,0,rfl,Zs,λi t e=>by simp at e⟩
def rL {P n rs Γ H Z K d t size bytes zero s x b o k c m j}(A:ev Γ s=some (.slice (some ⟨b,o,none⟩) k c))(B:ev Γ x=some (.slice (some j) 0 m))(q:k<=c)(h:VO P n rs (au d (.slice (some ⟨b,o,none⟩) k c) Γ) H Z K):VO P n (⟨d,none,.append t size bytes zero s x⟩::rs) Γ H Z K:=by
 refine VO.act' rfl rfl (λρ g=>⟨_,rfl,?_⟩);rw[g _ _ A,g _ _ B];simp only[eZ];rw[if_pos (show k+0<=c by omega)];have e0:(Builtin.firstCells size 0 (.slice (some j) 0 m):Sem (Array Value))=pure #[]:=by
  simp only[Builtin.firstCells,X1];rfl
 rw[e0];refine aS.bind (aS.pure ?_);refine aS.bind (aS.pure (aS.pure ?_));exact⟨_,H,[],.inl rfl,Zs,h⟩
def Ym:∀l:List Lt,l.length<=Lt.ay l:=by
 intro l
 induction l with
 |nil=>exact X0 _
 |cons x r ih=>have:=x.size_pos;simp only[Lt.ay,Q0];omega
structure Sg where
 tu:Nat->Nat
 off:Nat->Nat
 cap:Nat->Nat
 tl:Nat->List Value
def ni:Nat:=18446744073709551616
def sS(σ:Sg)(a:Addr):Addr:=⟨σ.tu a.block,σ.off a.block+a.off,a.spot⟩
def rnF(σ:Sg):Fn->Fn
 |.yield l=>.yield (σ.tu l)
 |f=>f
def J2(σ:Sg)(b c:Nat):Nat:=if c<ni then c else σ.cap b-(c-ni)
def rn(σ:Sg)(x:Value):Value:=match x with
 |.pointer (some a)=>.pointer (some (sS σ a))
 |.slice (some a) n c=>.slice (some (sS σ a)) n (J2 σ a.block c)
 |.map (some r)=>.map (some (σ.tu r))
 |.func f x y=>.func (rnF σ f) (x.attach.map λ⟨v,_⟩=>rn σ v) (y.attach.map λ⟨v,_⟩=>rn σ v)
 |.iface t v=>.iface t (rn σ v)
 |.agg cs=>.agg (cs.attach.map λ⟨v,_⟩=>rn σ v)
 |.tuple cs=>.tuple (cs.attach.map λ⟨v,_⟩=>rn σ v)
 |v=>v
 termination_by SizeOf.sizeOf x
section
variable (σ:Sg)
@[simp] theorem cP (k:IntKind) (z:Int):rn σ (.int k z)=.int k z:=by simp[rn]
@[simp] theorem sT (b:Bool):rn σ (.bool b)=.bool b:=by simp[rn]
@[simp] theorem fO (s:ByteArray):rn σ (.string s)=.string s:=by simp[rn]
@[simp] theorem rn_float (k:FloatKind) (s:Nat):rn σ (.float k s)=.float k s:=by simp[rn]
@[simp] theorem rn_complex (k:FloatKind) (s t:Nat):rn σ (.complex k s t)=.complex k s t:=by simp[rn]
@[simp] theorem rn_chan (c:Option Nat):rn σ (.chan c)=.chan c:=by simp[rn]
@[simp] theorem rn_ptr0:rn σ (.pointer none)=.pointer none:=by simp[rn]
@[simp] theorem dO (a:Addr):rn σ (.pointer (some a))=.pointer (some (sS σ a)):=by simp[rn]
@[simp] theorem pu (n c:Nat):rn σ (.slice none n c)=.slice none n c:=by simp[rn]
@[simp] theorem bE (a:Addr) (n c:Nat):rn σ (.slice (some a) n c)=.slice (some (sS σ a)) n (J2 σ a.block c):=by simp[rn]
@[simp] theorem rn_map0:rn σ (.map none)=.map none:=by simp[rn]
@[simp] theorem rn_map (r:Nat):rn σ (.map (some r))=.map (some (σ.tu r)):=by simp[rn]
@[simp] theorem rn_nilF:rn σ .nilFunc=.nilFunc:=by simp[rn]
@[simp] theorem rn_nilI:rn σ .nilIface=.nilIface:=by simp[rn]
@[simp] theorem Ya (t:TypeId) (v:Value):rn σ (.iface t v)=.iface t (rn σ v):=by simp[rn]
@[simp] theorem C4 (cs:Array Value):rn σ (.agg cs)=.agg (cs.map (rn σ)):=by simp[rn]
@[simp] theorem C5 (cs:Array Value):rn σ (.tuple cs)=.tuple (cs.map (rn σ)):=by simp[rn]
@[simp] theorem rn_func (f:Fn) (x y:Array Value):rn σ (.func f x y)=.func (rnF σ f) (x.map (rn σ)) (y.map (rn σ)):=by simp[rn]
end
def sU(σ v):(rn σ v).cells=v.cells.map (rn σ):=by
 cases v<;>try simp[Value.cells]
 .rename_i a;cases a<;>simp
 .rename_i a n c;cases a<;>simp
 .rename_i a;cases a<;>simp
def bG:Value->Bool
 |.bool _|.int .. |.float .. |.string _|.pointer none|.slice none _ _|.map none|.nilFunc|.nilIface=>true
 |_=>false
def rE:Value->Bool
 |.agg cs=>cs.toList.all bG
 |.tuple cs=>cs.toList.all bG
 |v=>bG v
def fM {σ v}(h:bG v=true):rn σ v=v:=by
 cases v<;>try simp_all [bG]
 .rename_i a;cases a<;>simp_all [bG]
 .rename_i a n c;cases a<;>simp_all [bG]
 .rename_i a;cases a<;>simp_all [bG]
def fN {σ:Sg}{l:List Value}(h:l.all bG=true):l.map (rn σ)=l:=by
 rw[vf]at h
 conv=>rhs;rw[<- List.map_id l]
 exact QD λx d=>fM (h x d)
def eL {σ v}(h:rE v=true):rn σ v=v:=by
 cases v with
 |agg cs=>simp only[rE]at h;rw[C4];congr 1;apply vD.1;rw[vE,fN h]
 |tuple cs=>simp only[rE]at h;rw[C5];congr 1;apply vD.1;rw[vE,fN h]
 |_=>exact fM h
def Mr {op k d a b w}(h:ot op k a d b=some w):bG w=true:=by
 unfold ot at h;cases op<;>simp only at h<;>(split at h)<;>first|(cases h;rfl)|cases h
def M7 {op a b w}(h:Yz op a b=some w):bG w=true:=by
 unfold Yz at h;cases op<;>simp only at h<;>first|(cases h;rfl)|(split at h<;>first|(cases h;rfl)|cases h)|cases h
def ν {σ op u v w}(h:yO op u v=some w):yO op (rn σ u) (rn σ v)=some (rn σ w):=by
 unfold yO at h;split at h
 .rw[fM (Mr h)];simpa[yO]using h
 .rw[fM (M7 h)];simpa[yO]using h
 .cases h
def WJ {σ}{k:NK}{u b}(h:isNil k u=some b):isNil k (rn σ u)=some b:=by
 unfold isNil at h;split at h<;>first|(cases h;done)|skip
 .rename_i a;cases a<;>simpa[isNil]using h
 .rename_i a;cases a<;>simpa[isNil]using h
 .rename_i a _ _;cases a<;>simpa[isNil]using h
 all_goals simpa[isNil]using h
def Sm {σ k u v b}(h:rK k u v=some b):rK k (rn σ u) (rn σ v)=some b:=by
 unfold rK at h;split at h<;>first|(cases h;done)|simpa[rK]using h
def TZ {σ}:∀{d:List SK} {xs ys:List Value} {b:Bool},gT d xs ys=some b->gT d (xs.map (rn σ)) (ys.map (rn σ))=some b:=by
 intro d
 induction d with
 |nil=>intro xs ys b h;simpa[gT]using h
 |cons k d ih=>
  intro xs ys b h;cases xs with
  |nil=>simp[gT]at h
  |cons x xs=>
   cases ys with
   |nil=>simp[gT]at h
   |cons y ys=>
    simp only[gT]at h;split at h
    .rename_i a c g j;simp only[QE,gT,Sm g,ih j];exact h
    .cases h
def xO {σ}:∀{d:List (Nat×Nat×Value)} {cs out:List Value},jb cs d=some out->
 jb (cs.map (rn σ)) (d.map fun(a,b,v)=>(a,b,rn σ v))=some (out.map (rn σ)):=by
 intro d
 induction d with
 |nil=>intro cs out h;simp only[jb,X9]at h;subst h;rfl
 |cons p d ih=>
  intro cs out h;obtain⟨o,s,v⟩:=p;simp only[jb]at h;split at h
  .rename_i g;have:=ih h;simp only[QE,jb,sU,Array.size_map,Q6,if_pos g];simpa[QC,List.map_take,List.map_drop]using this
  .cases h
def Ud {σ v y k}(h:bound v y=some k):bound (rn σ v) y=some k:=by
 unfold bound at h;split at h
 .simpa[bound]using h
 .cases h
def tR {σ v y k d}(h:wX y d v=some k):wX y d (v.map (rn σ))=some k:=by
 cases v with
 |none=>exact h
 |some v=>exact Ud h
def oR {σ n c g d mx r}(h:yD n c g d mx=some r):yD n c (g.map (rn σ)) (d.map (rn σ)) (mx.map (rn σ))=some r:=by
 unfold yD at h|-;simp only[X2]at h|-;obtain⟨m,j,B,q,l,s,A⟩:=h;exact⟨m,tR j,B,by simpa using tR q,l,tR s,A⟩
def nZ {σ:Sg}{cs:Array Value}{i:Nat}{v:Value}(h:cs[i]? =some v):(cs.map (rn σ))[i]? =some (rn σ v):=by
 rw[Array.getElem?_map,h];rfl
def okC:R->Bool
 |.build z _=>z.all bG
 |.iB _ z _ _=>rE z
 |.M4 n _ _ _ _=>Nat.blt n ni
 |.DF f _ _=>match f with|.yield _=>false|_=>true
 |_=>true
def unkS:Value->Bool
 |.slice (some _) _ c=>!Nat.blt c ni
 |_=>false
def okS(ρ:Operand->Value):R->Bool
 |.tf _ x _ _ _=>!unkS (ρ x)
 |.cap x=>!unkS (ρ x)
 |.qd x=>match ρ x with|.pointer (some ⟨_,_,none⟩)=>true|_=>false
 |_=>true
def C1 {σ ρ r v}(C:okC r=true)(E:okS ρ r=true)(h:kb ρ r=some v):kb (λx=>rn σ (ρ x)) r=some (rn σ v):=by
 cases r<;>simp only[kb]at h|- <;> first|(cases h;done)|skip
 case mv x=>cases h;rfl
 case pick c a b=>
  split at h
  .rename_i t T;cases h;simp only[T,sT];cases t<;>rfl
  .cases h
 case bin op x y=>exact ν h
 case eqb neq x y=>
  split at h
  .rename_i a b B A;cases h;simp only[B,A,sT]
  .cases h
 case EK neq k x=>
  simp only[X5]at h;obtain⟨b,g,rfl⟩:=h;rw[WJ g];simp
 case EJ neq ks x y=>
  split at h
  .rename_i a b B A;split at h
   .rename_i S;simp only[X5]at h;obtain⟨c,g,rfl⟩:=h;simp only[B,A,C4,Array.size_map,if_pos S,vE,TZ g];simp
   .cases h
  .cases h
 case un op x=>
  cases op<;>simp only at h|-
  all_goals first|(cases h;done)|(split at h<;>first|(cases h;done)|(rename_i d;cases h;simp only[d,sT,cP]))
 case conv k x=>
  split at h
  .rename_i d;cases h;simp only[d,cP]
  .cases h
 case cvs x=>
  split at h
  .rename_i d;cases h;simp only[d,fO]
  .cases h
 case JB t x=>cases h;simp
 case DF f a b=>
  cases h;have Q:rnF σ f=f:=by cases f<;>simp_all [okC,rnF]
  simp[QF,Function.comp_def,Q]
 case ext x i=>
  split at h
  .rename_i vs d;simp only[d,C5];exact nZ h
  .cases h
 case build z ps=>
  simp only[X5]at h;obtain⟨l,g,rfl⟩:=h;have:=xO (σ:=σ) g;rw[fN C]at this;have e:ja (λx=>rn σ (ρ x)) ps=(ja ρ ps).map fun(a,b,v)=>(a,b,rn σ v):=by simp[ja,QF,Function.comp_def]
  rw[e,this];simp
 case qd x=>
  split at h
  .rename_i a B;cases h;simp only[B,dO]
  .cases h
 case Ω off x=>
  split at h
  .rename_i b o d;cases h;simp only[d,dO,sS,Qn]
  .cases h
 case LX off size agg x=>
  split at h
  .rename_i cs d;simp only[d,C4];exact zE0
  .cases h
 case Ry len size x i=>
  split at h
  .rename_i b o k z d j;split at h
   .rename_i A;cases h;simp only[d,j,dO,sS,cP,if_pos A,Qn]
   .cases h
  .cases h
 case GX size x i=>
  split at h
  .rename_i b o len c k z d j;split at h
   .rename_i A;cases h;simp only[d,j,dO,bE,sS,cP,if_pos A,Qn]
   .cases h
  .cases h
 case Rz x i=>
  split at h
  .rename_i s k z d j;split at h
   .rename_i A;simp only[X5]at h;obtain⟨b,g,rfl⟩:=h;simp only[d,j,fO,cP,if_pos A,g,X7]
   .cases h
  .cases h
 case Mm len size agg x i=>
  split at h
  .rename_i cs k z d j;split at h
   .rename_i A;simp only[d,j,C4,cP,if_pos A];exact zE0
   .cases h
  .cases h
 case M5 x lo j=>
  split at h
  .rename_i s d;simp only[X5]at h;obtain⟨⟨l,H,m⟩,g,rfl⟩:=h;have:=oR (σ:=σ) g;simp only[Option.map_map,X6]at this;simp only[d,fO];rw[show(lo.map λx=>rn σ (ρ x))=lo.map (rn σ ∘ ρ)from rfl,show(j.map λx=>rn σ (ρ x))=j.map (rn σ ∘ ρ)from rfl,this];rfl
  .cases h
 case tf size x lo j mx=>
  split at h
  .rename_i b o len c d;simp only[X5]at h;obtain⟨⟨l,H,m⟩,g,rfl⟩:=h;have D:c<ni:=by
    simp only[okS,d,unkS,Bool.not_not]at E;exact Qr E
   have J:m-l<ni:=by
    have I:m<=c:=by
     simp only[yD,X2]at g;obtain⟨W,q,O,M,U,N,G⟩:=g;cases G;cases S5:mx.map ρ with
     |none=>rw[S5]at q;simp only[wX,X9]at q;omega
     |some u=>
      rw[S5]at q;simp only[wX,bound]at q;split at q
      .split at q
       .rename_i hz;cases q;omega
       .cases q
      .cases q
    omega
   have:=oR (σ:=σ) g;simp only[Option.map_map]at this;simp only[d,bE,sS,J2,if_pos D,if_pos J];rw[show(lo.map λx=>rn σ (ρ x))=lo.map (rn σ ∘ ρ)from rfl,show(j.map λx=>rn σ (ρ x))=j.map (rn σ ∘ ρ)from rfl,show(mx.map λx=>rn σ (ρ x))=mx.map (rn σ ∘ ρ)from rfl,this];simp only[X7];split<;>simp only[Qn]
  .rename_i len c d;simp only[X5]at h;obtain⟨⟨l,H,m⟩,g,rfl⟩:=h;have:=oR (σ:=σ) g;simp only[Option.map_map]at this;simp only[d,pu];rw[show(lo.map λx=>rn σ (ρ x))=lo.map (rn σ ∘ ρ)from rfl,show(j.map λx=>rn σ (ρ x))=j.map (rn σ ∘ ρ)from rfl,show(mx.map λx=>rn σ (ρ x))=mx.map (rn σ ∘ ρ)from rfl,this];rfl
  .cases h
 case M4 len size x lo j=>
  split at h
  .rename_i b o d;simp only[X5]at h;obtain⟨⟨l,H,m⟩,g,rfl⟩:=h;have:=oR (σ:=σ) g;simp only[Option.map_map,X6]at this;have J:m-l<ni:=by
    have D:len<ni:=Qr C;have I:m<=len:=by
     simp only[yD,X2]at g;obtain⟨W,q,O,M,U,N,G⟩:=g;cases G;simp only[wX,X9]at q;omega
    omega
   simp only[d,bE,dO,sS,J2,if_pos J];rw[show(lo.map λx=>rn σ (ρ x))=lo.map (rn σ ∘ ρ)from rfl,show(j.map λx=>rn σ (ρ x))=j.map (rn σ ∘ ρ)from rfl,this];simp only[X7];split<;>simp only[Qn]
  .cases h
 case WW x=>
  split at h
  .rename_i d;cases h;simp only[d,fO,cP]
  .cases h
 case G4 x=>
  split at h
  .rename_i a k c d;cases h;cases a<;>simp only[d,bE,pu,cP]
  .cases h
 case cap x=>
  split at h
  .rename_i a k c d;cases h;cases a with
   |none=>simp only[d,pu,cP]
   |some a=>
    have D:c<ni:=by
     simp only[okS,d,unkS,Bool.not_not]at E;exact Qr E
    simp only[d,bE,J2,if_pos D,cP]
  .cases h
 case min2 x y=>
  split at h
  .rename_i d L;cases h;simp only[d,L,cP]
  .cases h
 case max2 x y=>
  split at h
  .rename_i d L;cases h;simp only[d,L,cP]
  .cases h
 case iB t z ok x=>
  simp only[okC]at C;split at h
  .rename_i d;split at h
   .rename_i F;cases h;simp[d,F,eL C]
   .cases h
  .rename_i u w d;split at h
   .rename_i K;cases h;simp only[d,Ya,if_pos K];split<;>simp
   .rename_i K;split at h
    .rename_i F;cases h;simp[d,if_neg K,F,eL C]
    .cases h
  .cases h
def Xt(r:R):Bool:=kz r||jN r||ow r||(match r with|.store .. =>true|_=>false)
def isRcv(o:Oper):Bool:=match o.op with
 |.call c=>(match c.callee with|.builtin .recover=>true|_=>false)&&o.guard.isNone
 |_=>false
def W3(P:Program)(n:Nat)(kp:Nat->List Nat)(od:Nat->List (List Nat)):Code->Option (Nat×List RO×IC)
 |.seq (.region _ ops false) c=>match ops.toList with
  |o1::os=>if isRcv o1 then match o1.dst,yU P n ops os,zV P n kp od c with
   |some d,some rs,some y=>if d<n/\rs.all (λr=>Xt r.op)=true then some (d,rs,y)else none
   |_,_,_=>none else none
  |[]=>none
 |_=>none
structure RIR where
 n:Nat
 bT:List RV
 d:Nat
 rs:List RO
 post:IC
def Oh(P:Program)(kp:Nat->List Nat)(od:Nat->List (List Nat))(f:Nat):Option RIR:=
 match P.funcs[f]? with
 |none=>none
 |some fn=>match fn.body with
  |none=>none
  | some c => if fn.name != "runtime.NumGoroutine" then
     match W3 P fn.ntmps kp od c,zD P fn.results.toList with
     |some (d,rs,y),some r=>some ⟨fn.ntmps,r,d,rs,y⟩
     |_,_=>none
    else none
def iX(P:Program)(f:Nat)(a5:List Value)(u u':FrameMode)(bD:SH)(Q:SH->Prop):Prop:=
 wK P f=true/\∀F w,Sat w (bD.flatten++F)->CallsDIn (DC none) 0 P f a5.toArray u w λe u2 w'=>u2=u'/\∃v dl,e=.returned v/\Q dl/\Sat w' (dl.flatten++F)/\j9 w w'
inductive Rcv:FrameMode->Value->FrameMode->Prop where
 |none:Rcv .returning .nilIface .returning
 |some {v:Value}:Rcv (.panicking [{v:=v,recovered:=false}]) v (.panicking [{v:=v,recovered:=true}])
section
variable {P:Program} {n m:Nat} {ops:Array Oper} {Q:Exit->Act->List Frame->World->Prop} {cs:List Frame}
def MU {o:Oper}{t:TypeId}{x y:Operand}(h:o.op=.store t x y){ρ:Operand->Value}{w:World}:(∃w',(execOp ρ o).run P w=.ok .skip w')∨(∃e w',(execOp ρ o).run P w=.halt e w'):=by
 simp only[execOp,h];rw[Sem.run_bind];cases hh:(Instr.storeAt t (ρ x) (ρ y)).run P w with
 |ok v w'=>exact .inl ⟨w',rfl⟩
 |halt e w'=>exact .inr ⟨e,w',rfl⟩
def R6:∀(l:List (RO×Oper)) (idx:List Nat),idx.map (λi=>ops[i]?)=l.map (λx=>some x.2)->(∀x∈l,Xt x.1.op=true/\eG P n ops x.2=some x.1)->
 ∀(a:Act) (w:World),cK P (λ_ _ _=>False) (λE w'=>Q .normal E cs w') l a w->wpOpsSIn (DC none) m P ops Q idx a cs w:=by
 intro l
 induction l with
 |nil=>
  intro idx B _ a w h;obtain rfl:idx=[]:=by simpa using B
  exact h
 |cons x l ih=>
  intro idx B K a w h;cases idx with
  |nil=>simp at B
  |cons i idx=>
   simp only[QE,vp]at B;obtain⟨H,M⟩:=B;obtain⟨J,U⟩:=K x Zs;obtain⟨d,G,g3,S⟩:=jP U;have A:=ih idx M (λy T=>K y (by simp[T]));simp only[wpOpsSIn,H];refine⟨λ_ _=>trivial,?_⟩;rw[S a];have j:wI P (λ_ _ _=>False) x (cK P (λ_ _ _=>False) (λE w'=>Q .normal E cs w') l) a w:=h;unfold wI at j;by_cases hw:jM x.1.guard a=true
   .rw[if_pos hw]at j|-;by_cases hpu:kz x.1.op=true
    .rw[if_pos hpu]at j;obtain⟨v,e,C⟩:=j;have g:(execOp a.eval x.2).run P w=.ok (.value v) w:=rF (w:=w) (ya a) d e;rw[g];rw[G]at C;exact A _ _ C
    .by_cases hre:jN x.1.op=true
     .rw[if_neg hpu,if_pos hre]at j;obtain⟨s,v,e,O,C⟩:=j;have g:(execOp a.eval x.2).run P w=.ok (.value v) w:=uI (ya a) d e (O w (.refl w));rw[g];rw[G]at C;exact A _ _ C
     .rw[if_neg hpu,if_neg hre]at j;obtain⟨L,q⟩:=j;by_cases hnw:ow x.1.op=true
      .obtain⟨u,w',g,_⟩:=L hnw;simp only[Dy,g,jw]at q;rw[g];exact A _ _ q
      .have I:∃k y z,x.1.op=.store k y z:=by
        simp only[Xt,vS]at J;rcases J with((h|h)|h)|h
        .exact absurd h hpu
        .exact absurd h hre
        .exact absurd h hnw
        .split at h
         .exact⟨_,_,_,by assumption⟩
         .cases h
       obtain⟨k,y,z,I⟩:=I;have D:∃t,x.2.op=.store t y z:=by
        rw[I]at d;generalize x.2=W at d|-;obtain⟨N,op,ty,pos,F,guard⟩:=W;simp only at d|-;cases op
        case store t y' z'=>
         simp only[jJ,X5]at d;obtain⟨i,_,d⟩:=d;cases d;exact⟨_,rfl⟩
        all_goals (exfalso;try simp only[jJ]at d)
        all_goals (repeat' split at d)
        all_goals first
         |(cases d;done)
         |(simp only[X5]at d;obtain⟨_,_,d⟩:=d;cases d;done)
       obtain⟨t,D⟩:=D;rcases MU (P:=P) D (ρ:=a.eval) (w:=w)with⟨w',g⟩|⟨e,w',g⟩
       .simp only[Dy,g,jw]at q;rw[g];exact A _ _ q
       .simp only[Dy,g]at q;cases e<;>exact q.elim
   .rw[if_neg hw]at j|-;rw[G]at j;exact A _ _ j
end
def iX.intro {P kp od f}{F:RIR}{a5 bD}{u u':FrameMode}{rv Q}(B:Oh P kp od f=some F)(hn:a5.length<=F.n)(hu:Rcv u rv u')(h:VO P F.n F.rs ((F.d,rv)::aV 0 a5) bD (λ_ _ _=>False) λaB H'=>qA P F.n F.post aB H' (tY F.bT λ_ dl=>Q dl)):iX P f a5 u u' bD Q:=by
 unfold Oh at B;split at B
 .cases B
 rename_i fn Ax;split at B
 .cases B
 rename_i c hc;split at B
 case isFalse=>cases B
 rename_i pS;split at B
 case h_2=>cases B
 rename_i d rs y r g hr;cases B;refine⟨by simp only[wK,Ax,pS,hc];rfl,λFF w hs=>?_⟩;unfold W3 at g;split at g
 case h_2=>cases g
 rename_i id ops W;split at g
 case h_2=>cases g
 rename_i o1 j T;split at g
 case isFalse=>cases g
 rename_i J;split at g
 case h_2=>cases g
 rename_i d' rs' y' Y I8 Z;split at g
 case isFalse=>cases g
 rename_i gY;cases g;obtain⟨hdn,aw⟩:=gY;refine callsDIn_of_wpSIn Ax hc trivial (λm cs A=>?_);have eU:ops.size=j.length+1:=by rw[<- Array.length_toList,T];rfl
 refine wpSIn_seq (wpSIn_region ?_);rw[eU,List.range_succ_eq_map];have h0:ops[0]? =some o1:=by rw[<- vC,T];rfl
 unfold isRcv at J;split at J
 case h_2=>cases J
 rename_i cl n9;simp only[vG]at J;obtain⟨E,hg⟩:=J;have I:cl.callee=.builtin .recover:=by
  split at E
  .assumption
  .cases E
 have hg':o1.guard=none:=by simpa using hg
 obtain⟨a0,H⟩:∃a0:Act,a0={tmps:=a5.toArray++Array.replicate (fn.ntmps-a5.toArray.size) undef,defers:=[]}:=⟨_,rfl⟩;rw[<- H];have D:wF fn.ntmps (aV 0 a5) a0:=by
  rw[H];refine⟨?_,λt v e=>?_⟩
  .simp at hn|-;omega
  .exact zBA
 have L:a0.defers=[]:=by rw[H]
 simp only[wpOpsSIn,h0];refine⟨λ_ _=>trivial,?_⟩;have hw:Region.wanted o1 (yielded ops a0.tmps)=true:=by simp[Region.wanted,hg']
 rw[if_pos hw];have bO:(execOp a0.eval o1).run P w=.ok .recover w:=by
  simp[execOp,n9,resolve,I,invoke,builtin]
 rw[bO];have K:=D.put hdn rv;have fj:yU P fn.ntmps ops j=some rs:=I8;obtain⟨hlen,aL⟩:=wA fj;have M:∀G,(∃C,G={m with mode:=C}::cs/\C=u')->wpOpsSIn (DC none) 0 P ops (Exit.thenS (W.wpSIn (DC none) 0 P (bodyPostS P fn m cs λe C w'=>C=u'/\∃v dl,e=.returned v/\Q dl/\Sat w' (dl.flatten++FF)/\j9 w w')) (bodyPostS P fn m cs λe C w'=>C=u'/\∃v dl,e=.returned v/\Q dl/\Sat w' (dl.flatten++FF)/\j9 w w')) (List.map Nat.succ (List.range j.length)) (a0.put o1.dst rv) G w:=by
  rintro G ⟨C,rfl,rfl⟩
  refine R6 (n:=fn.ntmps) (rs.zip j) _ ?_ ?_ _ _ ?_
  .apply vz;intro i;simp only[Vu];by_cases s:i<j.length
   .rw[Vw s];have hz:(rs.zip j)[i]? =some (rs[i]'Zo,j[i]):=by
     rw[Zg tK];simp
    rw[hz];simp only[X7];rw[<- vC,T];simp[s]
   .rw[Vp (by simpa using s),Vp tK];rfl
  .intro x hx;obtain⟨i,s⟩:=Vv hx;have X:=(Vt.1 s).1;simp at X;have e:(rs.zip j)[i]? =some (rs[i]'Zo,j[i]'Zo):=by
    rw[Zg tK];simp
   rw[e]at s;cases s;refine⟨?_,aL i _ _ (Zg Zo) (Zg Zo)⟩;exact vf.1 aw _ (List.getElem_mem _)
  .rw[Y];refine h (rs.zip j) ⟨by rw[List.map_fst_zip];omega,λx hx=>?_⟩ _ w FF _ _ K hs (λa2 w2 cL H2 q k1 k2 k3 k4=>?_) (λ_ _ _ _ _ q=>q.elim)
   .obtain⟨i,s⟩:=Vv hx;have X:=(Vt.1 s).1;simp at X;have e:(rs.zip j)[i]? =some (rs[i]'Zo,j[i]'Zo):=by
     rw[Zg tK];simp
    rw[e]at s;cases s;exact⟨ops,aL i _ _ (Zg Zo) (Zg Zo)⟩
   .show W.wpSIn _ _ _ _ a2 _ w2;refine wpSIn_of_wpIn rfl ?_;refine q none kp od W Z a2 w2 FF _ k1 k3 (λe U O Γ3 H3 q3 j1 j2 j3 j4=>?_);obtain⟨he,vs,dl,e1,e2,e3⟩:=q3;have L5:U.defers=[]:=by rw[j2,k2,jp,L]
    have g:U.defers=[]/\∃N,({m with mode:=C}::cs:List Frame)={m with mode:=N}::cs/\∃v,(results fn U.tmps).run P O=.ok v O/\(N=C/\∃v' dl,(Ending.returned v)=.returned v'/\Q dl/\Sat O (dl.flatten++FF)/\j9 w O):=
     ⟨L5,C,rfl,_,iy j3 hr j1 e1,rfl,_,dl,rfl,e3,j3.imp e2,k4.trans j4⟩
    rcases he with rfl|rfl<;>exact g
 cases hu with
 |none=>
  have S:recoverD (m::cs)=none:=by simp[recoverD,A]
  simp only[S];refine M _ ⟨.returning,?_,rfl⟩;have:m={m with mode:=.returning}:=by cases m;simp_all
  rw[<- this]
 |some=>
  have S:recoverD (m::cs)=some (rv,{m with mode:=.panicking [{v:=rv,recovered:=true}]}::cs):=by simp[recoverD,A]
  simp only[S];exact M _ ⟨_,rfl,rfl⟩
def endDP(P:Program)(g:Nat)(x7:List Value)(bT:List RV)(Q:Value->SH->Prop):Exit->Env->SH->Prop
 |.panic ch,Γ,H=>∃bD R Q2 u',iX P g x7 (.panicking ch) u' bD Q2/\settle u'=.returning/\fq H bD R/\∀dl,Q2 dl->tY bT Q .ret Γ (dl++R)
 |e,Γ,H=>(e=.normal∨e=.ret)/\∃bD R Q2,iX P g x7 .returning .returning bD Q2/\fq H bD R/\∀dl,Q2 dl->tY bT Q .ret Γ (dl++R)
def VDP(P:Program)(n:Nat)(bT:List RV)(dr:DR)(post:IC)(Q:Value->SH->Prop):List IC->Env->SH->Prop
 |[],Γ,H=>∃vs,nW Γ dr.x7=some vs/\VC P n post ((dr.d,.func (.func dr.g) #[] vs.toArray)::Γ) H (endDP P dr.g vs bT Q)
 |x::l,Γ,H=>VC P n x Γ H (bP (λaB H'=>VDP P n bT dr post Q l aB H') (tY bT Q))
section
variable {P:Program} {n:Nat} {fn:Func} {tmps:Array Value} {FF:List kC} {w0:World}
def SG {kp:Nat->List Nat}{od:Nat->List (List Nat)}{r:List RV}{Q:Value->SH->Prop}(hr:zD P fn.results.toList=some r):∀(l:List IC) (c:Code) (j:DR) (y:IC),gk P n kp od c=some (l,j,y)->
 ∀Γ H a w X,VDP P n r j y Q l Γ H->wF n Γ a->Sat w (H.flatten++(FF++marks X))->a.defers=X.map qK->j9 w0 w->
 c.wpIn (DC none) 0 P (bodyPostM (DC none) 0 P fn (λe w'=>∃v dl,e=.returned v/\Q v dl/\Sat w' (dl.flatten++FF)/\j9 w0 w')) a w:=by
 intro l
 induction l with
 |nil=>
  intro c j y m Γ H a w X U J T S K;unfold gk at m;split at m
  case h_2=>cases m
  rename_i p q;split at m
  case h_2=>
   split at m<;>cases m
  rename_i x Z;simp only[X5]at m;obtain⟨y',hy,G⟩:=m;cases G;obtain⟨id,ops,o1,o2,cl,rfl,Me,h1,h2,D,cN,hg,F⟩:=MC Z;obtain⟨vs,lZ,B⟩:=U;refine wpIn_seq (wpIn_region_list ?_);rw[Me];obtain⟨g1,g2,g3,g4⟩:=jP h1;have W:kb a.eval (.DF (.func j.g) [] j.x7)=some (.func (.func j.g) #[] vs.toArray):=by
   simp[kb,J.nW lZ]
  have bO:(execOp a.eval o1).run P w=.ok (.value (.func (.func j.g) #[] vs.toArray)) w:=rF (w:=w) (ya a) g1 W;have s:=J.au g3 (.func (.func j.g) #[] vs.toArray);simp only at s g2;simp only[wpListIn,g4 a,jM,if_true];refine⟨λ_ _=>trivial,?_⟩;rw[Oper.semAt_none,bO];show(if Region.wanted o2 (yielded ops (a.put o1.dst _).tmps)then _ else _);rw[<- g2];have hw:Region.wanted o2 (yielded ops (a.put (some j.d) (.func (.func j.g) #[] vs.toArray)).tmps)=true:=by simp[Region.wanted,hg]
  rw[if_pos hw];have UU:(a.put (some j.d) (.func (.func j.g) #[] vs.toArray)).eval (.tmp j.d)=.func (.func j.g) #[] vs.toArray:=s.ev (by simp[V.ev,V.au,V.look]);have E:(execOp (a.put (some j.d) (.func (.func j.g) #[] vs.toArray)).eval o2).run P w=.ok (.defer {target:=.fn (.func j.g) vs.toArray,args:=#[]}) w:=by
   simp[execOp,h2,resolve,D,cN,UU,Deferred.ofValue]
  refine⟨λ_ _=>trivial,?_⟩;rw[Oper.semAt_none,E,Oper.uponIn_defer,F];show q.wpIn _ _ _ _ _ w;have C:(a.put (some j.d) (.func (.func j.g) #[] vs.toArray)).defers=a.defers:=jp ..;refine B none kp od _ hy _ w (FF++marks X) _ (λl e=>by cases e) ⟨s.size,s.slots⟩ T (λe A w' O H' Y q L k2 M N=>?_);have I:A.defers=Y.map qK++({target:=.fn (.func j.g) vs.toArray,args:=#[]}::X.map qK):=by
   rw[k2];show _++({target:=.fn (.func j.g) vs.toArray,args:=#[]}::(a.put (some j.d) (.func (.func j.g) #[] vs.toArray)).defers)=_;rw[C,S]
  have go:∀(u u':FrameMode) (bD Rr:SH) (Q2:SH->Prop),u≠.run->settle u'=.returning->iX P j.g vs u u' bD Q2->fq H' bD Rr->(∀dl,Q2 dl->tY r Q .ret O (dl++Rr))->
   LeavesInM (DC none) 0 P fn A.tmps (λe w'=>∃v dl,e=.returned v/\Q v dl/\Sat w' (dl.flatten++FF)/\j9 w0 w') A.defers u w':=by
   intro u u' bD Rr Q2 hu uw ZO Wj eA;rw[I];refine iO (w0:=w0) (FF:=FF++marks X) hu Y w' M (K.trans N) (λw2 s2 c2=>?_);refine⟨hu,.inr ⟨Zs,.func j.g,vs.toArray,j.g,vs.toArray,rfl,?_,λ_ _=>trivial,?_⟩⟩
   .simp[invoke,zt ZO.1]
   .have Al:Sat w2 (bD.flatten++(Rr.flatten++(FF++marks X))):=by
     rw[<- vj];exact s2.perm (Wj.append_right _)
    refine(ZO.2 (Rr.flatten++(FF++marks X)) w2 Al).mono ?_
    rintro e2 u2 w3 ⟨rfl,v,dl,rfl,lY,Wi,tA⟩
    show LeavesInM _ _ _ _ _ _ (X.map qK) (settle u2) w3;rw[uw];refine Cm hr (eA dl lY) L ?_ (c2.trans tA);rw[Vc,vj];exact Wi
  cases e with
  |normal=>
   exact zFC
  |ret=>
   exact zFC
  |panic ch=>
   obtain⟨bD,Rr,Q2,u',ZO,uw,Wj,eA⟩:=q;exact go (.panicking ch) u' bD Rr Q2 Zs uw ZO Wj eA
  |exit id=>exact absurd q.1 Zs
  |goto l=>exact absurd q.1 Zs
  |outgrown=>exact absurd q.1 Zs
 |cons x l ih=>
  intro c j y m Γ H a w X U J T S K;unfold gk at m;split at m
  case h_2=>cases m
  rename_i p q;split at m
  .simp only[X5]at m;obtain⟨y',hy,G⟩:=m;cases G
  split at m
  case h_2=>cases m
  rename_i x' l' d' y' Z hq;cases m;refine wpIn_seq (U none kp od _ Z a w (FF++marks X) _ (λl e=>by cases e) J T (λe A w' O H' Y q L k2 M N=>?_));have I:A.defers=(Y++X).map qK:=by rw[k2,S];simp
  cases e<;>first
   |exact ih _ _ _ hq O H' A w' (Y++X) q L M.marks I (K.trans N)
   |(obtain⟨G,_⟩:=q;simp at G;done)
   |(show LeavesInM _ _ _ _ _ _ A.defers _ w';rw[I];exact Cm hr q L M.marks (K.trans N))
end
def aq.Od {P D E f}{F:DIR}{a5 m Q}(g:Og P D E f=some F)(A:a5.length<=F.n)(h:VDP P F.n F.bT F.dr F.post Q F.pre (aV 0 a5) m):aq P f a5 m Q:=by
 unfold Og at g;split at g
 .cases g
 rename_i fn j;split at g
 .cases g
 rename_i c q;split at g
 case isFalse=>cases g
 rename_i G;split at g
 case h_2=>cases g
 rename_i l d y r s B;cases g;refine⟨by simp only[wK,j,G,q];rfl,λFF w C=>?_⟩;refine(callsIn_wide (n:=0)).1 (callsIn_of_wp_marks j q trivial (SG B l c d y s _ _ _ w [] h ⟨?_,λt v e=>?_⟩ (by simpa[V.marks]using C) rfl (.refl w)))
 .simp at A|-;omega
 .exact zBA
section
variable {ops:Array Oper}
def IK {j:Bool}{rs:List (RO×Oper)}{g:List (List Nat)}(D:rs.length=ops.size)
 (C:fW j rs ops g=true) (t:Nat):∃o∈g,o.Perm (jo ops ops.size t (Array.replicate ops.size false))/\(jo ops ops.size t (Array.replicate ops.size false)).Nodup/\
   o.Pairwise (λx y=>indep (rs.getD y default) (rs.getD x default)=true∨[x,y].Sublist (jo ops ops.size t (Array.replicate ops.size false))):=by
 simp only[fW,vG]at C;obtain⟨⟨⟨B,hd⟩,K⟩,hp⟩:=C;have E:qg ops (Array.replicate ops.size false)=List.range ops.size:=zBF
 obtain⟨s1,F,_⟩:=yX B ops.size t (Array.replicate ops.size false) Zs (by rw[E];simp);generalize J:jo ops ops.size t (Array.replicate ops.size false)=l at s1 F|-;have hanc:∀{x y:Nat},y<ops.size->x∈(lh ops).getD y []->Nq l x y:=λhy hx=>J ▸ Ar B (Qs _) (ma hx) hy
 have bX:∀i,i∈l↔i<ops.size:=λi=>by rw[F,E];simp
 generalize L5:IF j rs (lh ops) ops.size=d at hd hp;have hdlt:∀x∈d,x<ops.size:=zDJ
 have L:(l.filter (d.contains ·)).Perm d:=zBX
 have m:=vf.1 hp _ (uH L);simp only[vS,vP,vh]at m;have H:yI (λx y=>!((lh ops).getD x []).contains y) (l.filter (d.contains ·))=true:=zAI
 rcases m with m|⟨o,A,hpo⟩
 .rw[H]at m;cases m
 have G:=vf.1 K o A;simp only[vG,beq_iff_eq,vf,decide_eq_true_eq]at G;obtain⟨⟨o1,o2⟩,o3⟩:=G;have I:o.Perm l:=zAT
 refine⟨o,A,I,s1,?_⟩
 .exact zB4
def χ {rs:List (RO×Oper)}{d:List (List Nat)}(g:rs.length=ops.size)
 (hc:qM rs ops d=true) (t:Nat):∃o∈d,o.Perm (jo ops ops.size t (Array.replicate ops.size false))/\(jo ops ops.size t (Array.replicate ops.size false)).Nodup/\
   o.Pairwise (λx y=>indep (rs.getD y default) (rs.getD x default)=true∨[x,y].Sublist (jo ops ops.size t (Array.replicate ops.size false))):=by
 unfold qM at hc;rcases vT.1 hc with hc|hc
 .exact IK g hc t
 .exact IK g hc t
def YB {x y c:Nat}{d q:List Nat}(C:(d++c::q).Nodup)(hx:x∈d)(hy:y∈d)(h:[x,y].Sublist (d++c::q)):[x,y].Sublist d:=by
 rw[List.sublist_append_iff]at h;obtain⟨a,b,e,s,A⟩:=h;have B:=(QW.1 C).2.2;have g:b=[]:=by
  cases b with
  |nil=>rfl
  |cons z b=>
   have m:z∈[x,y]:=by rw[e];simp
   have j:z∈d:=by simp only[QJ,List.not_mem_nil,or_false]at m;rcases m with rfl|rfl<;>assumption
   exact absurd rfl (B z j z (A.subset Zs))
 subst g;rw[vm]at e;rw[e];exact s
def JO {P:Program}{n:Nat}{X:Nat->RO×Oper}{Z:Exit->Act->World->Prop}{Q:Act->World->Prop}{c:Nat}{d g o:List Nat}(q:o.Perm (d++c::g))(j:(d++c::g).Nodup)(I:∀i∈d++c::g,Good P n ops (X i))
 (B:o.Pairwise (λx y=>indep (X y) (X x)=true∨[x,y].Sublist (d++c::g))) {a:Act} {w:World}
 (h:cK P wi (cK P Z (λ_ _=>False) [X c]) ((o.filter (d.contains ·)).map X) a w):cK P Z Q ((d++c::g).map X) a w:=by
 have m:=(QW.1 j).1;have D:o.Nodup:=q.nodup_iff.2 j;have C:(o.filter (d.contains ·)).Perm d:=by
  refine(Qc (D.filter _) m).2 λx=>?_
  simp only[QM,vr,q.mem_iff];exact⟨λh=>h.2,λh=>⟨by simp[h],h⟩⟩
 have E:=reorder (P:=P) (n:=n) (ops:=ops) d _ C m (λi J=>I i (Zw _ J)) ((B.filter _).imp_of_mem λ{x y} s A h=>by
  rcases h with h|h
  .exact .inl h
  .simp only[QM,vr]at s A;exact .inr (YB j s.2 A.2 h)) h
 have F:cK P Z (cK P Z (λ_ _=>False) [X c]) (d.map X) a w:=F4 E;rw[QC,QE];have app:∀(u v:List (RO×Oper)) (a:Act) (w:World),cK P Z (cK P Z Q v) u a w->cK P Z Q (u++v) a w:=by
  intro u v
  induction u with
  |nil=>intro a w h;exact h
  |cons x u ih=>intro a w h;exact fQ (λa w h=>ih a w h) h
 refine app _ _ _ _ (Ks (λa w G=>?_) F);exact fQ (λa w (H:False)=>H.elim) G
end
def Hw(x:RO):List Nat:=du x.guard++dK (mS x.op)
def Ea(aD cd:List Nat):List Nat->List (RO×Bool)->List (List RO)
 |_,[]=>[[]]
 |skip,(x,late)::r=>
  (if(kz x.op||!late)&&!(kz x.op||jN x.op)||(Hw x).all (λt=>!skip.contains t&&!(late&&cd.contains t))&&(kz x.op||!late)then(Ea aD cd skip r).map (x::·)else [])++
  (if late||kz x.op&&(pL x.dst).all (λd=>!aD.contains d)then Ea aD cd (pL x.dst++skip) r else [])
where
 pL (d:Option Nat):List Nat:=d.toList
def W6 {aD I:List Nat}(p:Nat->Bool)(X:Nat->RO)(g:Nat->Bool):∀(o:List Nat) (skip:List Nat),
 (∀i∈o,p i=true->(kz (X i).op||!g i)=true)->
 (∀i∈o,p i=false->g i=false->kz (X i).op=true)->
 (∀i∈o,p i=false->g i=false->∀d,(X i).dst=some d->d∉aD)->
 (∀i∈o,p i=true->(kz (X i).op||jN (X i).op)=true->∀t∈Hw (X i),t∉skip/\(g i=true->t∉I))->
 o.Pairwise (λi j=>p i=false->p j=true->(kz (X j).op||jN (X j).op)=true->∀d,(X i).dst=some d->d∉Hw (X j))->
 (o.filter p).map X∈Ea aD I skip (o.map λi=>(X i,g i)):=by
 intro o
 induction o with
 |nil=>intro skip _ _ _ _ _;simp[Ea]
 |cons i o ih=>
  intro skip D E F A B;rw[List.pairwise_cons]at B;simp only[QE,Ea,QH];cases hp:p i with
  |true=>
   left;have C:=D i Zs hp;rw[if_pos,List.filter_cons_of_pos hp,QE]
   .exact QO.2 ⟨_,ih skip (λj m=>D j (by simp[m])) (λj m=>E j (by simp[m])) (λj m=>F j (by simp[m])) (λj m=>A j (by simp[m])) B.2,rfl⟩
   .cases hq:(kz (X i).op||jN (X i).op)with
    |false=>simp[C]
    |true=>
     have:=A i Zs hp hq;rw[C];simp only[Bool.not_true,Bool.and_false,vO,vI,vf,vP];intro t s;have:=this t s;cases hl:g i<;>simp_all
  |false=>
   right;rw[if_pos,List.filter_cons_of_neg (by simp[hp])]
   .refine ih _ (λj m=>D j (by simp[m])) (λj m=>E j (by simp[m])) (λj m=>F j (by simp[m])) (λj m H q t s=>⟨λhm=>?_,(A j (by simp[m]) H q t s).2⟩) B.2;rcases QH.1 hm with hm|hm
    .have G:(X i).dst=some t:=by simpa[Ea.pL]using hm
     exact B.1 j m hp H q t G s
    .exact(A j (by simp[m]) H q t s).1 hm
   .cases hl:g i with
    |true=>rfl
    |false=>
     have C:=E i Zs hp hl;rw[C];simp only[vV,vO,vf,vP];intro d G;have J:(X i).dst=some d:=by simpa[Ea.pL]using G
     have:=F i Zs hp hl d J;simpa using this
def eD {x y}(h:indep x y=true):tN x y=true/\tN y x=true/\(kz x.1.op||kz y.1.op||(jN x.1.op&&jN y.1.op)||(ow x.1.op&&jN y.1.op))=true:=by
 simp only[indep,vG]at h;exact⟨h.1.1,h.1.2,h.2⟩
def VC.Ut {P n Γ H Q tD bj}(h:∀rs∈tD,∃E d f xs A,rs=E++⟨d,none,.call f xs⟩::A/\∀S∈Ea (dK xs) d.toList [] (E.map (λx=>(x,false))++A.map (λx=>(x,true))),
   VO P n S Γ H (λ_ _ _=>False) λaB H'=>VO P n [⟨d,none,.call f xs⟩] aB H' (λch _ nJ=>Q (.panic ch) [] nJ) (λ_ _=>False)):VC P n (.draw tD bj) Γ H Q:=by
 intro ρ kp od code I a w F QQ hr ha hs hh;obtain⟨id,ops,rs,rfl,h1,M,hc,rfl,rfl⟩:=ji I;have hlen:=(wA h1).1;refine wpIn_region_draw (λt=>?_);have qZ:Region.schedule (P.follows .mixedOrders) ops t=jo ops ops.size t (Array.replicate ops.size false):=by simp[Region.schedule,M,Region.linearise,jo]
 rw[qZ];have hu:qg ops (Array.replicate ops.size false)=List.range ops.size:=zBF
 have fh:zR ops=true:=zFI
 have bX:=(yX fh ops.size t (Array.replicate ops.size false) Zs (by rw[hu];simp)).2.1;refine fR (P:=P) (ρ:=ρ) (n:=n) (ops:=ops) (X:=λi=>(rs.zip ops.toList).getD i default) (QQ:=QQ) (λi hi=>?_) _ a _ (λi hi=>by rw[bX,hu]at hi;simpa using hi) ?_
 .exact zE9
 obtain⟨o,S7,K,O,Jf⟩:=χ (rs:=rs.zip ops.toList) (by simp[hlen]) hc t;obtain⟨E,d,f,xs,A,e,hS⟩:=h (o.map λi=>rs.getD i default) (QO.2 ⟨o,S7,rfl⟩);have U:∀i∈o,i<ops.size:=λi hi=>by have:=K.mem_iff.1 hi;rw[bX,hu]at this;simpa using this
 generalize jo ops ops.size t (Array.replicate ops.size false)=l at K O Jf bX|-;obtain⟨o1,oc,rfl,e1,e2⟩:=List.map_eq_append_iff.1 e;obtain⟨g,m,rfl,e3,e4⟩:=List.map_eq_cons_iff.1 e2;obtain⟨B,l2,rfl⟩:=List.append_of_mem (K.mem_iff.1 (show g∈o1++g::m by simp));have eT:(o1++g::m).Nodup:=K.nodup_iff.2 O;refine JO (n:=n) (ops:=ops) (o:=o1++g::m) K O (λi hi=>?_) Jf ?_
 .obtain⟨g1,g2,g3⟩:=zJ h1 (U i (K.mem_iff.2 hi));exact Good.Xs g3
 have G:∀i∈o1++g::m,((rs.zip ops.toList).getD i default).1=rs.getD i default:=λi hi=>(zJ h1 (U i hi)).2.1
 have hpc:B.contains g=false:=by
  have:=(QW.1 O).2.2;cases ZH:B.contains g with
  |false=>rfl
  |true=>exact absurd rfl (this g (vr.1 ZH) g Zs)
 have Z:(o1++g::m).filter (B.contains ·)=(o1++m).filter (B.contains ·):=by
  simp only[V0,V5,hpc,vN,↓reduceIte]
 have hdj:∀i∈o1,i∉m:=λi h1 s=>(QW.1 eT).2.2 i h1 i (by simp[s]) rfl
 have GI:(o1++m).map (λi=>(rs.getD i default,m.contains i))=E.map (λx=>(x,false))++A.map (λx=>(x,true)):=by
  rw[<- e1,<- e4,QC,QF,QF]
  congr 1
  .refine QD λi hi=>?_
   simp[hdj i hi]
  .refine QD λi hi=>?_
   simp[hi]
 have bR:((o1++m).filter (B.contains ·)).map (λi=>rs.getD i default)∈Ea (dK xs) d.toList [] (E.map (λx=>(x,false))++A.map (λx=>(x,true))):=by
  rw[<- GI];have D:((rs.zip ops.toList).getD g default).1=⟨d,none,.call f xs⟩:=by rw[G g Zs,e3]
  have mq:jJ P ((rs.zip ops.toList).getD g default).2.op=some (.call f xs):=by
   obtain⟨g1,g2,g3⟩:=zJ h1 (U g Zs);have:=(jP g3).1;rw[D]at this;exact this
  have U8:∀x∈B,x∉g::l2:=λx h1 s=>(QW.1 O).2.2 x h1 x s rfl
  have J:g∉B:=λh=>by simp[h]at hpc
  have T:∀{x y:Nat},[x,y].Sublist (B++g::l2)->y∈g::B->x∈B:=by
   intro x y hxy hy;have hb:=AR O hxy;by_cases N:x∈B
   .exact N
   .exfalso;have:=hb.2.2;rw[List.idxOf_append,if_neg N]at this;rcases QJ.1 hy with rfl|hy
    .rw[List.idxOf_append,if_neg J]at this;have h0:List.idxOf y (y::l2)=0:=List.idxOf_cons_self;omega
    .have s:=List.idxOf_lt_length_of_mem hy;rw[List.idxOf_append,if_pos hy]at this;omega
  have Rq:=List.pairwise_append.1 Jf;have sj:=List.pairwise_cons.1 Rq.2.1;refine W6 (B.contains ·) (λi=>rs.getD i default) (λi=>m.contains i) (o1++m) [] ?_ ?_ ?_ ?_ ?_
  .intro i hi C;have C:=vr.1 C;by_cases s:i∈m
   .have W:=eD ((sj.1 i s).resolve_right λq=>J (T q (by simp[C])));have L:=W.2.2;rw[D,G i (by simp[s])]at L;have h4:kz (rs.getD i default).op=true:=by simpa[kz,jN]using L
    show(kz (rs.getD i default).op||!m.contains i)=true;rw[h4];rfl
   .show(kz (rs.getD i default).op||!m.contains i)=true;simp[s]
  .intro i hi C I;have s:i∈o1:=by
    rcases QH.1 hi with h|h
    .exact h
    .simp[h]at I
   have C:i∉B:=λh=>by simp[h]at C
   have hB:=eD ((Rq.2.2 i s g Zs).resolve_right λq=>C (T q Zs));have L:=hB.2.2;rw[D,G i (by simp[s])]at L;simp[kz,jN,ow]at L;exact L
  .intro i hi C I dd Y M;have s:i∈o1:=by
    rcases QH.1 hi with h|h
    .exact h
    .simp[h]at I
   have C:i∉B:=λh=>by simp[h]at C
   have hB:=eD ((Rq.2.2 i s g Zs).resolve_right λq=>C (T q Zs));refine(zo hB.2.1 dd (by rw[G i (by simp[s])];exact Y)).1 ?_;obtain⟨c,ZH,pQ,hc3,_⟩:=sI mq;unfold looks;rw[D,ZH];simp only[kz,jN,vU,vN,↓reduceIte,du,QV,Op.operands,Call.operands,pQ,Array.toList_append,hc3];unfold dK at M|-;rw[List.filterMap_append];exact QI _ M
  .intro i hi C hq tt ht;refine⟨Zs,λI=>?_⟩;have C:=vr.1 C;have s:i∈m:=vr.1 I;have W:=eD ((sj.1 i s).resolve_right λq=>J (T q (by simp[C])));intro Y;have UR:d=some tt:=by simpa using Y
   have:=(zo W.2.1 tt (by rw[D];exact UR)).1;unfold looks at this;rw[G i (by simp[s])]at this;simp only[hq,↓reduceIte]at this;exact this ht
  .have hpw2:(o1++m).Pairwise (λx y=>indep ((rs.zip ops.toList).getD y default) ((rs.zip ops.toList).getD x default)=true∨[x,y].Sublist (B++g::l2)):=Jf.sublist (List.Sublist.append_left (Qh _ _) _);refine hpw2.imp_of_mem λ{i j} hi hj h pi pj hq dd Y M=>?_
   have pj:=vr.1 pj;have pi:i∉B:=λh=>by simp[h]at pi
   have mem:∀{x:Nat},x∈o1++m->x∈o1++g::m:=λ{x} h=>by
    rcases QH.1 h with h|h<;>simp[h]
   have W:=eD (h.resolve_right λq=>pi (T q (by simp[pj])));have:=(zo W.2.1 dd (by rw[G i (mem hi)];exact Y)).1;unfold looks at this;rw[G j (mem hj)]at this;simp only[hq,↓reduceIte]at this;exact this M
 rw[Z];refine hS _ bR _ ⟨?_,?_⟩ a {w with drawn:=w.drawn+1} F _ _ ha (hs.drawn _) (λa' w' aB H' q g1 g2 g3 g4=>?_) (λ_ _ _ _ _ q=>q.elim)
 .rw[QF];refine QD λi hi=>G i ?_
  exact zF0
 .intro x N;obtain⟨i,hi,rfl⟩:=QO.1 N;have ck:i∈o1++g::m:=zF0
  obtain⟨g1,g2,g3⟩:=zJ h1 (U i ck);exact⟨ops,g3⟩
 .refine q [(rs.zip ops.toList).getD g default] ⟨?_,?_⟩ a' w' F _ _ g1 g3 (λ_ _ _ _ q=>q.elim) (λch a2 w2 cL H2 q2 k1 k2 k3 k4=>hh (.panic ch) a2 w2 [] H2 [] q2 ⟨k1.size,λt v e=>by cases e⟩ (by rw[k2,g2];rfl) k3.cF (((j9.refl w).drawn _).trans (g4.trans k4)))
  .show [((rs.zip ops.toList).getD g default).1]=_;rw[G g Zs,e3]
  .intro x N;rw[QU.1 N];obtain⟨g1,g2,g3⟩:=zJ h1 (U g Zs);exact⟨ops,g3⟩
inductive Ap where
 |cells (vs:List Value)
 |grow (size:Nat) (vs:List Value)
 |obj (o:Obj)
abbrev Mp:=List (Nat×Ap)
def ui:Mp->Nat->Option Ap
 |[],_=>none
 |(i,b)::r,k=>match Nat.beq i k with|true=>some b|false=>ui r k
def MY:Mp->Nat->Ap->Mp
 |[],_,_=>[]
 |(i,b)::r,k,c=>match Nat.beq i k with|true=>(i,c)::r|false=>(i,b)::MY r k c
def tX:Mp->Nat->Mp
 |[],_=>[]
 |(i,b)::r,k=>match Nat.beq i k with|true=>r|false=>(i,b)::tX r k
def rowB:Ap->Option (List Value)
 |.cells vs=>some vs
 |.grow _ vs=>some vs
 |.obj _=>none
def XH:Ap->List Value->Ap
 |.cells _,vs=>.cells vs
 |.grow s _,vs=>.grow s vs
 |.obj o,_=>.obj o
def xw(N0:Nat)(Γ:Env):Operand->Option Value
 |.tmp t=>look Γ t
 |.const v=>if rE v then some v else none
 |.global g=>if Nat.blt g N0 then some (.pointer (some ⟨g,0,none⟩))else none
 |.func f=>some (.func (.func f) #[] #[])
def PY(N0:Nat)(Γ:Env):List Operand->Option (List Value)
 |[]=>some []
 |x::r=>match xw N0 Γ x with
  |some v=>match PY N0 Γ r with
   |some l=>some (v::l)
   |none=>none
  |none=>none
def tZ(N0:Nat)(Γ:Env)(x:Operand):Value:=(xw N0 Γ x).getD undef
def uC(N0:Nat)(Γ:Env)(x:Operand):Bool:=(xw N0 Γ x).isSome
inductive PR where
 |val (v:Value) (h:Mp) (nx:Nat)
 |AG (ch:List PanicEntry) (h:Mp) (nx:Nat)
inductive OR where
 |ok (Γ:Env) (h:Mp) (nx:Nat)
 |AG (ch:List PanicEntry) (Γ:Env) (h:Mp) (nx:Nat)
abbrev CF:=Nat->List Value->Mp->Nat->Option PR
def lL(h:Mp)(b o n:Nat):Option (List Value):=
 match ui h b with
 |some k=>match rowB k with
  |some vs=>match Nat.ble (o+n) vs.length with
   |true=>some ((vs.drop o).take n)
   |false=>none
  |none=>none
 |none=>none
def Nn(h:Mp)(b o:Nat)(us:List Value):Option Mp:=
 match ui h b with
 |some k=>match rowB k with
  |some vs=>match Nat.ble (o+us.length) vs.length with
   |true=>match us.all jk with
    |true=>some (MY h b (XH k (vs.take o++us++vs.drop (o+us.length))))
    |false=>none
   |false=>none
  |none=>none
 |none=>none
def srcE(h:Mp)(size:Nat):Value->Option (Nat×List Value)
 |.slice (some ⟨b,o,none⟩) m _=>match lL h b o (m*size)with
  |some l=>some (m,l)
  |none=>none
 |.slice none m _=>match m with|0=>some (0,[])|_=>none
 |.string s=>match size with|1=>some (s.size,eY s)|_=>none
 |_=>none
def OO(h:Mp)(size:Nat):Value->Option (List Value×Mp)
 |.slice none 0 0=>some ([],h)
 |.slice (some ⟨b,o,none⟩) n c=>match o with
  |0=>match ui h b with
   |some (.cells vs)=>match Nat.beq vs.length (c*size)&&(Nat.ble n c&&Nat.blt c ni)with
    |true=>some (vs.take (n*size),tX h b)
    |false=>none
   |some (.grow s vs)=>match Nat.beq s size&&(Nat.beq c ni&&Nat.ble (n*size) vs.length)with
    |true=>some (vs.take (n*size),tX h b)
    |false=>none
   |_=>none
  |_=>none
 |_=>none
def Ub(N0:Nat)(Γ:Env)(d:Nat):Option Operand->Option Nat
 |none=>some d
 |some x=>match xw N0 Γ x with
  |some (.int _ (.ofNat z))=>some z
  |_=>none
def Fc(N0:Nat)(r:R)(Γ:Env)(h:Mp)(nx:Nat):Option PR:=
 match kz r&&(okC r&&((mS r).all (uC N0 Γ)&&okS (tZ N0 Γ) r))with
 |true=>match kb (tZ N0 Γ) r with
  |some v=>some (.val v h nx)
  |none=>none
 |false=>none
def slcU(N0:Nat)(Γ:Env)(h:Mp)(size:Nat)(lo hi:Option Operand)(b o n c:Nat):Option Value:=
 match ui h b with
 |some (.grow s vs)=>match Ub N0 Γ 0 lo,Ub N0 Γ n hi with
  |some l,some m=>match Nat.beq s size&&(Nat.blt 0 size&&(Nat.beq o ((c-ni)*size)&&(Nat.ble ((c-ni+n)*size) vs.length&&(Nat.ble l m&&(Nat.ble m n&&(Nat.blt l n||Nat.beq l 0))))))with
   |true=>some (.slice (some ⟨b,o+l*size,none⟩) (m-l) (c+l))
   |false=>none
  |_,_=>none
 |_=>none
def u5(N0:Nat)(F:CF)(r:R)(Γ:Env)(h:Mp)(nx:Nat):Option PR:=
 match r with
 |.lH x=>match xw N0 Γ x with
  |some (.pointer (some ⟨b,o,none⟩))=>match lL h b o 1 with
   |some [v]=>some (.val v h nx)
   |_=>none
  |_=>none
 |.ny n x=>match xw N0 Γ x with
  |some (.pointer (some ⟨b,o,none⟩))=>match lL h b o n with
   |some us=>some (.val (.agg us.toArray) h nx)
   |none=>none
  |_=>none
 |.alloc t z=>match z.all bG with
  |true=>some (.val (.pointer (some ⟨nx,0,none⟩)) ((nx,.cells z)::h) (nx+1))
  |false=>none
 |.box t x=>match xw N0 Γ x with
  |some v=>some (.val (.pointer (some ⟨nx,0,none⟩)) ((nx,.cells v.cells.toList)::h) (nx+1))
  |none=>none
 |.nP t len z ps=>match z.all bG&&((ps.map (·.2.2)).all (uC N0 Γ)&&Nat.blt len ni)with
  |true=>match jb (jA len z) (ja (tZ N0 Γ) ps)with
   |some out=>some (.val (.slice (some ⟨nx,0,none⟩) len len) ((nx,.cells out)::h) (nx+1))
   |none=>none
  |false=>none
 |.store n x v=>match xw N0 Γ x,xw N0 Γ v with
  |some (.pointer (some ⟨b,o,none⟩)),some u=>match Nat.beq u.cells.toList.length n with
   |true=>match Nn h b o u.cells.toList with
    |some h'=>some (.val undef h' nx)
    |none=>none
   |false=>none
  |_,_=>none
 |.append t size bytes zero s x=>match xw N0 Γ s,xw N0 Γ x with
  |some sv,some xv=>match OO h size sv with
   |some (xs,h')=>match srcE h' size xv with
    |some (m,ys)=>match ys.all jk&&(Nat.beq zero.length size&&(!Nat.beq bytes 0&&(Nat.ble (xs.length+m) 1048576&&(Nat.ble bytes 65536&&(Nat.blt 0 size&&!Nat.beq (xs.length+m) 0)))))with
     |true=>some (.val (.slice (some ⟨nx,0,none⟩) (xs.length/size+m) ni) ((nx,.grow size (xs++ys))::h') (nx+1))
     |false=>none
    |none=>none
   |none=>none
  |_,_=>none
 |.call f xs=>match PY N0 Γ xs with
  |some a5=>F f a5 h nx
  |none=>none
 |.tf size x lo hi mx=>match mx,xw N0 Γ x with
  |none,some (.slice (some ⟨b,o,none⟩) n c)=>match Nat.blt c ni with
   |true=>Fc N0 (.tf size x lo hi mx) Γ h nx
   |false=>match slcU N0 Γ h size lo hi b o n c with
    |some v=>some (.val v h nx)
    |none=>none
  |_,_=>Fc N0 (.tf size x lo hi mx) Γ h nx
 |r=>Fc N0 r Γ h nx
def L1(Γ:Env):Option (Nat×Bool)->Option Bool
 |none=>some true
 |some (s,b)=>match look Γ s with
  |some (.bool c)=>some (c==b)
  |some (.tuple vs)=>match vs.toList with
   |[]=>some false
   |_=>none
  |_=>none
def zG(N0:Nat)(F:CF):List RO->Env->Mp->Nat->Option OR
 |[],Γ,h,nx=>some (.ok Γ h nx)
 |x::rs,Γ,h,nx=>match L1 Γ x.guard with
  |none=>none
  |some false=>zG N0 F rs (au x.dst undef Γ) h nx
  |some true=>match u5 N0 F x.op Γ h nx with
   |none=>none
   |some (.AG ch h' bp)=>some (.AG ch Γ h' bp)
   |some (.val v h' bp)=>zG N0 F rs (au x.dst v Γ) h' bp
def Uz(e:Value->Value->Bool):List Value->List Value->Bool
 |[],[]=>true
 |x::xs,y::ys=>e x y&&Uz e xs ys
 |_,_=>false
def PX:Nat->Value->Value->Bool
 |0,_,_=>false
 |k+1,a,b=>match a,b with
  |.bool x,.bool y=>x==y
  |.int i x,.int j y=>decide (i=j)&&decide (x=y)
  |.string x,.string y=>decide (x=y)
  |.pointer none,.pointer none=>true
  |.pointer (some x),.pointer (some y)=>decide (x=y)
  |.slice none n c,.slice none m d=>Nat.beq n m&&Nat.beq c d
  |.slice (some x) n c,.slice (some y) m d=>decide (x=y)&&(Nat.beq n m&&Nat.beq c d)
  |.map none,.map none=>true
  |.map (some x),.map (some y)=>Nat.beq x y
  |.nilFunc,.nilFunc=>true
  |.nilIface,.nilIface=>true
  |.iface t x,.iface u y=>decide (t=u)&&PX k x y
  |.agg x,.agg y=>Uz (PX k) x.toList y.toList
  |.tuple x,.tuple y=>Uz (PX k) x.toList y.toList
  |.func (.func f) x y,.func (.func g) z w=>decide (f=g)&&(Uz (PX k) x.toList z.toList&&Uz (PX k) y.toList w.toList)
  |_,_=>false
def eqE:Env->Env->Bool
 |[],[]=>true
 |(s,x)::r,(t,y)::q=>Nat.beq s t&&(PX 20 x y&&eqE r q)
 |_,_=>false
def eqM:List MapEntry->List MapEntry->Bool
 |[],[]=>true
 |x::xs,y::ys=>(PX 20 x.key y.key&&PX 20 x.val y.val)&&(Nat.beq x.born y.born&&eqM xs ys)
 |_,_=>false
def eqB:Ap->Ap->Bool
 |.cells x,.cells y=>Uz (PX 20) x y
 |.grow n x,.grow m y=>Nat.beq n m&&Uz (PX 20) x y
 |.obj (.map x c),.obj (.map y d)=>eqM x.toList y.toList&&Nat.beq c d
 |.obj (.stringIter x c),.obj (.stringIter y d)=>decide (x=y)&&Nat.beq c d
 |_,_=>false
def eqH:Mp->Mp->Bool
 |[],[]=>true
 |(s,x)::r,(t,y)::q=>Nat.beq s t&&(eqB x y&&eqH r q)
 |_,_=>false
def NN(N0:Nat)(F:CF)(bj:List Nat)(Γ:Env)(h:Mp)(nx:Nat)(Δ:Env)(h1:Mp)(n1:Nat):List (List RO)->Bool
 |[]=>true
 |rs::r=>match zG N0 F rs Γ h nx with
  |some (.ok aB h' bp)=>match eqE (bh bj aB) Δ&&(Nat.beq bp n1&&eqH h' h1)with
   |true=>NN N0 F bj Γ h nx Δ h1 n1 r
   |false=>false
  |_=>false
inductive Ex where
 |normal
 |exit (id:Nat)
 |ret
 |AG (ch:List PanicEntry)
abbrev IR:=Option (Ex×Env×Mp×Nat)
def Jx(body:Env->Mp->Nat->IR):Nat->Env->Mp->Nat->IR
 |0,_,_,_=>none
 |k+1,Γ,h,nx=>match body Γ h nx with
  |none=>none
  |some (.normal,aB,h',bp)=>Jx body k aB h' bp
  |some r=>some r
def wR(N0:Nat)(F:CF)(L:Nat):IC->Env->Mp->Nat->IR
 |.skip,Γ,h,nx=>some (.normal,Γ,h,nx)
 |.oJ rs bj,Γ,h,nx=>match zG N0 F rs Γ h nx with
  |none=>none
  |some (.ok aB h' bp)=>some (.normal,bh bj aB,h',bp)
  |some (.AG ch aB h' bp)=>some (.AG ch,aB,h',bp)
 |.draw tD bj,Γ,h,nx=>match tD with
  |[]=>none
  |rs::r=>match zG N0 F rs Γ h nx with
   |some (.ok aB h' bp)=>match r with
    |[]=>some (.normal,bh bj aB,h',bp)
    |r0::r1=>match NN N0 F bj Γ h nx (bh bj aB) h' bp (r0::r1)with
     |true=>some (.normal,bh bj aB,h',bp)
     |false=>none
   |_=>none
 |.seq a b,Γ,h,nx=>match wR N0 F L a Γ h nx with
  |none=>none
  |some (.normal,aB,h',bp)=>wR N0 F L b aB h' bp
  |some r=>some r
 |.cond c a b,Γ,h,nx=>match xw N0 Γ c with
  |some (.bool true)=>wR N0 F L a Γ h nx
  |some (.bool false)=>wR N0 F L b Γ h nx
  |_=>none
 |.block id a,Γ,h,nx=>match wR N0 F L a Γ h nx with
  |none=>none
  |some (.exit i,aB,h',bp)=>match Nat.beq i id with
   |true=>some (.normal,aB,h',bp)
   |false=>some (.exit i,aB,h',bp)
  |some r=>some r
 |.loop a,Γ,h,nx=>Jx (wR N0 F L a) L Γ h nx
 |.exit id,Γ,h,nx=>some (.exit id,Γ,h,nx)
 |.ret,Γ,h,nx=>some (.ret,Γ,h,nx)
 |.iR ..,_,_,_=>none
 |.scope a,Γ,h,nx=>wR N0 F L a Γ h nx
 |.label _,Γ,h,nx=>some (.normal,Γ,h,nx)
 |.free ..,_,_,_=>none
def C3(Γ:Env)(h:Mp):List RV->Option (List Value)
 |[]=>some []
 |.tmp t::r=>match look Γ t,C3 Γ h r with
  |some v,some l=>some (v::l)
  |_,_=>none
 |.cC t::r=>match look Γ t with
  |some (.pointer (some ⟨b,o,none⟩))=>match lL h b o 1,C3 Γ h r with
   |some [v],some l=>some (v::l)
   |_,_=>none
  |_=>none
 |.az t n::r=>match look Γ t with
  |some (.pointer (some ⟨b,o,none⟩))=>match lL h b o n,C3 Γ h r with
   |some us,some l=>some (.agg us.toArray::l)
   |_,_=>none
  |_=>none
inductive FE where
 |fir (F:aP)
def YT:List (Nat×FE)->Nat->Option FE
 |[],_=>none
 |(i,b)::r,k=>match Nat.beq i k with|true=>some b|false=>YT r k
def orcTo(a b:CF):CF:=λf a5 h nx=>match a f a5 h nx with
 |some r=>some r
 |none=>b f a5 h nx
def Br(N0:Nat)(Fy:List (Nat×FE))(Z2:CF)(L:Nat):Nat->CF
 |0,_,_,_,_=>none
 |k+1,f,a5,h,nx=>match Z2 f a5 h nx with
  |some r=>some r
  |none=>match YT Fy f with
   |none=>none
   |some (.fir R)=>match Nat.ble a5.length R.n with
    |false=>none
    |true=>match wR N0 (Br N0 Fy Z2 L k) L R.body (aV 0 a5) h nx with
     |some (.normal,aB,h',bp)=>match C3 aB h' R.bT with
      |some vs=>some (.val (bU vs) h' bp)
      |none=>none
     |some (.ret,aB,h',bp)=>match C3 aB h' R.bT with
      |some vs=>some (.val (bU vs) h' bp)
      |none=>none
     |some (.AG ch,_,h',bp)=>some (.AG ch h' bp)
     |_=>none
def Ag(k:Nat)(σ τ:Sg):Prop:=∀i,i<k->σ.tu i=τ.tu i/\σ.off i=τ.off i/\σ.cap i=τ.cap i/\σ.tl i=τ.tl i
def Ag.refl(k σ):Ag k σ σ:=λ_ _=>⟨rfl,rfl,rfl,rfl⟩
def Ag.symm {k σ g}(h:Ag k σ g):Ag k g σ:=λi j=>let⟨a,b,c,d⟩:=h i j;⟨a.symm,b.symm,c.symm,d.symm⟩
def Ag.mono {k l σ d}(h:Ag l σ d)(hk:k<=l):Ag k σ d:=λi hi=>h i Zo
def Ag.trans {k l σ j m}(h:Ag k σ j)(g:Ag l j m)(hk:k<=l):Ag k σ m:=λi q=>
 let⟨a,b,c,d⟩:=h i q;let⟨a',b',c',d'⟩:=g i Zo;⟨a.trans a',b.trans b',c.trans c',d.trans d'⟩
def cu(k:Nat)(v:Value):Prop:=∀σ τ,Ag k σ τ->rn σ v=rn τ v
def cu.mono {k l v}(h:cu k v)(d:k<=l):cu l v:=λσ g a=>h σ g (a.mono d)
def cu.plain {k v}(h:rE v=true):cu k v:=λσ τ _=>by rw[eL h,eL h]
def cu.bG {k v}(h:V.bG v=true):cu k v:=λσ τ _=>by rw[fM h,fM h]
def map_inj {f g:Value->Value}:∀{l:List Value},l.map f=l.map g->∀v∈l,f v=g v:=by
 intro l
 induction l with
 |nil=>intro _ v h;cases h
 |cons x l ih=>
  intro h v hv;simp only[QE,vp]at h;rcases QJ.1 hv with rfl|hv
  .exact h.1
  .exact ih h.2 v hv
def cu.cells {k v}(h:cu k v):∀c∈v.cells.toList,cu k c:=λc g σ j a=>by
 have d:=congrArg (λu=>(Value.cells u).toList) (h σ j a);simp only[sU,vE]at d;exact map_inj d c g
def cu.agg {k:Nat}{l:List Value}(h:∀v∈l,cu k v):cu k (.agg l.toArray):=λσ g a=>by
 simp only[C4];congr 1;apply vD.1;simp only[vE];exact QD λx d=>h x d σ g a
def cu.bU {k l}(h:∀v∈l,cu k v):cu k (V.bU l):=by
 have d:cu k (.tuple l.toArray):=λσ j a=>by
  simp only[C5];congr 1;apply vD.1;simp only[vE];exact QD λx g=>h x g σ j a
 cases l with
 |nil=>exact d
 |cons x l=>cases l with
  |nil=>exact h x Zs
  |cons y l=>exact d
def rn_tup(σ l):rn σ (V.bU l)=V.bU (l.map (rn σ)):=by
 cases l with
 |nil=>simp[V.bU]
 |cons x l=>cases l with
  |nil=>simp[V.bU]
  |cons y l=>simp[V.bU]
def rnO(σ:Sg):Obj->Obj
 |.map es c=>.map (es.map λe=>{e with key:=rn σ e.key,val:=rn σ e.val}) c
 |o=>o
def yx(σ:Sg)(i:Nat):Ap->List kC
 |.cells vs=>kA (σ.tu i) (σ.off i) (vs.map (rn σ))
 |.grow _ vs=>kA (σ.tu i) (σ.off i) (vs.map (rn σ)++σ.tl i)
 |.obj o=>[.obj (σ.tu i) (rnO σ o)]
def kq(A:List kC)(σ:Sg):Mp->List kC
 |[]=>A
 |p::h=>yx σ p.1 p.2++kq A σ h
variable {A:List kC}
def Jo {σ:Sg}:∀{h:Mp},(kq A σ h).Perm (A++kq [] σ h):=by
 intro h
 induction h with
 |nil=>simp[kq]
 |cons p h ih=>exact(vY _ ih).trans (ww _ _ _)
def ScB(k:Nat):Ap->Prop
 |.cells vs=>∀v∈vs,cu k v
 |.grow _ vs=>∀v∈vs,cu k v
 |.obj o=>∀σ τ,Ag k σ τ->rnO σ o=rnO τ o
def ScB.mono {k l:Nat}{b:Ap}(h:ScB k b)(d:k<=l):ScB l b:=by
 cases b with
 |cells vs=>exact λv g=>(h v g).mono d
 |grow s vs=>exact λv g=>(h v g).mono d
 |obj o=>exact λσ j a=>h σ j (a.mono d)
def Tu(σ:Sg)(i:Nat):Ap->Prop
 |.cells _=>True
 |.grow s vs=>vs.length+(σ.tl i).length=σ.cap i*s
 |.obj _=>σ.off i=0
structure jG (N0:Nat)(σ:Sg)(bJ:List Value)(h:Mp)(nx:Nat):Prop where
 fix:∀g,g<N0->σ.tu g=g/\σ.off g=0
 le:N0<=nx
 ids:∀p∈h,p.1<nx
 grow:∀p∈h,Tu σ p.1 p.2
 cells:∀p∈h,ScB nx p.2
 bJ:∀v∈bJ,cu nx v
def jG.with {N0:Nat}{σ:Sg}{j d:List Value}{h:Mp}{nx:Nat}(g:jG N0 σ j h nx)(m:∀v∈d,cu nx v):jG N0 σ d h nx:=⟨g.fix,g.le,g.ids,g.grow,g.cells,m⟩
def WE {k i:Nat}{σ d:Sg}{b:Ap}(a:Ag k σ d)(A:i<k)(h:ScB k b):yx σ i b=yx d i b:=by
 obtain⟨g,m,a3,q⟩:=a i A;cases b with
 |cells vs=>simp only[yx,g,m];congr 1;exact QD λv j=>h v j σ d a
 |grow s vs=>simp only[yx,g,m,q];congr 2;exact QD λv j=>h v j σ d a
 |obj o=>simp only[yx,g,h σ d a]
def WH {k:Nat}{σ m:Sg}{h:Mp}(a:Ag k σ m)(j:∀p∈h,p.1<k)(g:∀p∈h,ScB k p.2):kq A σ h=kq A m h:=by
 induction h with
 |nil=>rfl
 |cons p h ih=>
  simp only[kq];rw[WE a (j p Zs) (g p Zs),ih (λq d=>j q (by simp[d])) (λq d=>g q (by simp[d]))]
def Tu.ag {k i:Nat}{σ d:Sg}{b:Ap}(a:Ag k σ d)(q:i<k)(h:Tu σ i b):Tu d i b:=by
 obtain⟨a1,g,j,m⟩:=a i q;cases b with
 |cells vs=>trivial
 |grow s vs=>simpa only[Tu,<- j,<- m]using h
 |obj o=>simpa only[Tu,<- g]using h
def uA {a b:Nat}(h:Nat.beq a b=true):a=b:=Nat.eq_of_beq_eq_true h
def beqF {a b:Nat}(h:Nat.beq a b=false):a≠b:=Nat.ne_of_beq_eq_false h
def me {a b:Nat}(h:Nat.ble a b=true):a<=b:=Qr h
def Gc {a b:Nat}(h:Nat.blt a b=true):a<b:=Qr h
def yK {h:Mp}{b:Nat}{k:Ap}(e:ui h b=some k):(b,k)∈h:=by
 induction h with
 |nil=>cases e
 |cons p h ih=>
  obtain⟨i,c⟩:=p;simp only[ui]at e;split at e
  .rename_i d;cases e;rw[uA d];simp
  .simp[ih e]
def IL {h:Mp}{b:Nat}{p:Nat×Ap}(e:p∈tX h b):p∈h:=by
 induction h with
 |nil=>cases e
 |cons q h ih=>
  obtain⟨i,c⟩:=q;simp only[tX]at e;split at e
  .simp[e]
  .rcases QJ.1 e with rfl|e
   .simp
   .simp[ih e]
def C8 {h:Mp}{b:Nat}{c:Ap}{p:Nat×Ap}(e:p∈MY h b c):p∈h∨p=(b,c):=by
 induction h with
 |nil=>cases e
 |cons q h ih=>
  obtain⟨i,d⟩:=q;simp only[MY]at e;split at e
  .rename_i g;rcases QJ.1 e with rfl|e
   .right;rw[uA g]
   .left;simp[e]
  .rcases QJ.1 e with rfl|e
   .simp
   .rcases ih e with h1|h1
    .left;simp[h1]
    .exact .inr h1
def oX {σ:Sg}{h:Mp}{b:Nat}{k:Ap}(e:ui h b=some k):(kq A σ h).Perm (yx σ b k++kq A σ (tX h b)):=by
 induction h with
 |nil=>cases e
 |cons p h ih=>
  obtain⟨i,c⟩:=p;simp only[ui]at e;split at e
  .rename_i d;cases e;simp only[tX,d];rw[uA d];exact .refl _
  .rename_i d;simp only[tX,d];exact(vY _ (ih e)).trans (ww _ _ _)
def RD {σ:Sg}{h:Mp}{b:Nat}{k c:Ap}(e:ui h b=some k):(kq A σ (MY h b c)).Perm (yx σ b c++kq A σ (tX h b)):=by
 induction h with
 |nil=>cases e
 |cons p h ih=>
  obtain⟨i,d⟩:=p;simp only[ui]at e;split at e
  .rename_i g;cases e;simp only[tX,MY,g];rw[uA g];exact .refl _
  .rename_i g;simp only[tX,MY,g];exact(vY _ (ih e)).trans (ww _ _ _)
def Fm {σ:Sg}{b:Nat}{k:Ap}{vs:List Value}(e:rowB k=some vs):∃d,(∀us,yx σ b (XH k us)=kA (σ.tu b) (σ.off b) (us.map (rn σ)++d))/\yx σ b k=kA (σ.tu b) (σ.off b) (vs.map (rn σ)++d):=by
 cases k with
 |cells ws=>cases e;exact⟨[],λus=>by simp[yx,XH],by simp[yx]⟩
 |grow s ws=>cases e;exact⟨σ.tl b,λus=>rfl,rfl⟩
 |obj o=>cases e
def rH {h:Mp}{b o n:Nat}{us:List Value}(e:lL h b o n=some us):∃k vs,ui h b=some k/\rowB k=some vs/\o+n<=vs.length/\us=(vs.drop o).take n:=by
 unfold lL at e;split at e
 case h_2=>cases e
 rename_i k g;split at e
 case h_2=>cases e
 rename_i vs j;split at e
 case h_2=>cases e
 rename_i d;cases e;exact⟨k,vs,g,j,me d,rfl⟩
def po {h:Mp}{b o n:Nat}{us:List Value}(e:lL h b o n=some us):us.length=n:=by
 obtain⟨k,vs,_,_,h1,rfl⟩:=rH e;simp;omega
def oI {N0:Nat}{σ:Sg}{q:List Value}{h:Mp}{nx b o n:Nat}{us:List Value}(g:jG N0 σ q h nx)(e:lL h b o n=some us):∀v∈us,cu nx v:=by
 obtain⟨k,vs,A,d,_,rfl⟩:=rH e;have m:=g.cells _ (yK A);intro v B;have j:v∈vs:=List.mem_of_mem_drop (QP B);cases k with
 |cells ws=>cases d;exact m v j
 |grow s ws=>cases d;exact m v j
 |obj o=>cases d
def nq {b o i m:Nat}{vs us:List Value}(h:us=(vs.drop i).take m):∀x∈kA b (o+i) us,x∈kA b o vs:=by
 intro x g;subst h;obtain⟨j,v,d,rfl⟩:=kI.1 g;refine kI.2 ⟨i+j,v,?_,by congr 1;omega⟩;simp only[List.getElem?_take,Vo]at d;split at d
 .exact d
 .cases d
def fK {σ:Sg}{h:Mp}{b o n:Nat}{us:List Value}(e:lL h b o n=some us):∀x∈kA (σ.tu b) (σ.off b+o) (us.map (rn σ)),x∈kq A σ h:=by
 obtain⟨k,vs,d,g,h3,rfl⟩:=rH e;obtain⟨tl,_,j⟩:=Fm (σ:=σ) (b:=b) g;intro x q;refine(oX d).mem_iff.2 (Zw _ ?_);rw[j];refine nq (m:=n) (i:=o) ?_ x q;rw[List.drop_append_of_le_length tK,List.take_append_of_le_length tK];simp[List.map_take,List.map_drop]
def MM(σ:Sg)(v:Value):jk (rn σ v)=jk v:=by
 cases v<;>try simp[jk]
 .rename_i a;cases a<;>simp[jk]
 .rename_i a _ _;cases a<;>simp[jk]
 .rename_i a;cases a<;>simp[jk]
def xK(σ:Sg)(l:List Value)(h:l.all jk=true):(l.map (rn σ)).all jk=true:=by
 rw[vf]at h|-;intro x d;obtain⟨y,g,rfl⟩:=QO.1 d;rw[MM];exact h y g
def cB(σ:Sg)(Γ:Env):Env:=Γ.map λp=>(p.1,rn σ p.2)
def mJ(σ:Sg)(Γ:Env)(t:Nat):look (cB σ Γ) t=(look Γ t).map (rn σ):=by
 induction Γ with
 |nil=>rfl
 |cons p Γ ih=>
  simp only[cB,QE,look];by_cases e:p.1=t
  .simp[e]
  .simp only[e,if_false];exact ih
def Co {Γ:Env}{t:Nat}{v:Value}(h:look Γ t=some v):v∈Γ.map (·.2):=by
 induction Γ with
 |nil=>cases h
 |cons p Γ ih=>
  simp only[look]at h;split at h
  .cases h;simp
  .simp[ih h]
def Oq(σ:Sg)(d:Option Nat)(v:Value)(Γ:Env):cB σ (au d v Γ)=au d (rn σ v) (cB σ Γ):=by cases d<;>rfl
def JT {k:Nat}{d:Option Nat}{v:Value}{Γ:Env}(h:∀u∈v::Γ.map (·.2),cu k u):∀u∈(au d v Γ).map (·.2),cu k u:=by
 cases d with
 |none=>exact λu g=>h u (QK _ g)
 |some d=>simpa[au]using h
def uS(σ:Sg)(k:List Nat)(Γ:Env):cB σ (bh k Γ)=bh k (cB σ Γ):=by
 induction k with
 |nil=>rfl
 |cons t k ih=>
  simp only[bh,mJ];cases look Γ t with
  |none=>exact ih
  |some v=>simp only[X7,cB,QE];congr 1
def rJ {n:Nat}{k:List Nat}{Γ:Env}(h:∀u∈Γ.map (·.2),cu n u):∀u∈(bh k Γ).map (·.2),cu n u:=by
 induction k with
 |nil=>intro u hu;cases hu
 |cons t k ih=>
  simp only[bh];split
  .rename_i v d;intro u hu;simp only[QE,QJ]at hu;rcases hu with rfl|hu
   .exact h _ (Co d)
   .exact ih u hu
  .exact ih
def uR {k:Nat}{σ d:Sg}{Γ:Env}(a:Ag k σ d)(h:∀u∈Γ.map (·.2),cu k u):cB σ Γ=cB d Γ:=by
 unfold cB;refine QD λp g=>?_
 rw[h p.2 (QO.2 ⟨p,g,rfl⟩) σ d a]
section
variable {N0 nx:Nat} {σ:Sg} {Γ:Env} {h:Mp}
def lA(g:jG N0 σ (Γ.map (·.2)) h nx){x:Operand}{v:Value}(e:xw N0 Γ x=some v):ev (cB σ Γ) x=some (rn σ v)/\cu nx v:=by
 cases x with
 |tmp t=>
  simp only[xw]at e;refine⟨by simp only[ev,mJ,e,X7],g.bJ _ (Co e)⟩
 |const u=>
  simp only[xw]at e;split at e
  .rename_i m;cases e;exact⟨by simp only[ev,eL m],cu.plain m⟩
  .cases e
 |global i=>
  simp only[xw]at e;split at e
  .rename_i j;cases e;obtain⟨B,C⟩:=g.fix i (Gc j);refine⟨by simp only[ev,dO,sS,B,C],λA d a=>?_⟩;obtain⟨q,s,_⟩:=a i (Qv (Gc j) g.le);simp only[dO,sS,q,s]
  .cases e
 |func f=>
  simp only[xw,X9]at e;subst e;exact⟨by simp[ev,rnF],λA d a=>by simp[rnF]⟩
def evs_rn(g:jG N0 σ (Γ.map (·.2)) h nx):∀{xs:List Operand} {vs:List Value},PY N0 Γ xs=some vs->nW (cB σ Γ) xs=some (vs.map (rn σ))/\∀v∈vs,cu nx v:=by
 intro xs
 induction xs with
 |nil=>intro vs e;simp only[PY,X9]at e;subst e;exact⟨rfl,λv d=>by cases d⟩
 |cons x xs ih=>
  intro vs e;simp only[PY]at e;split at e
  case h_2=>cases e
  rename_i v d;split at e
  case h_2=>cases e
  rename_i l A;cases e;obtain⟨j,m⟩:=lA g d;obtain⟨q,s⟩:=ih A;refine⟨by simp only[nW,j,q,QE],λu hu=>?_⟩;rcases QJ.1 hu with rfl|hu
  .exact m
  .exact s u hu
def lG(g:jG N0 σ (Γ.map (·.2)) h nx){x:Operand}(e:uC N0 Γ x=true):known (cB σ Γ) x=true/\Au (cB σ Γ) x=rn σ (tZ N0 Γ x)/\cu nx (tZ N0 Γ x):=by
 obtain⟨v,d⟩:=X4.1 e;obtain⟨j,m⟩:=lA g d;exact⟨by simp[known,j],by simp[Au,tZ,j,d],by simpa[tZ,d]using m⟩
end
def lT(σ:Sg)(k b o c:Nat)(t:List Value):Sg:=⟨λi=>if i=k then b else σ.tu i,λi=>if i=k then o else σ.off i,λi=>if i=k then c else σ.cap i,λi=>if i=k then t else σ.tl i⟩
def pC(σ:Sg)(k b o c:Nat)(t:List Value):Ag k σ (lT σ k b o c t):=λi d=>by
 simp only[lT,if_neg (Nat.ne_of_lt d),and_self]
def AS(σ:Sg)(k b o c:Nat)(t:List Value):(lT σ k b o c t).tu k=b/\(lT σ k b o c t).off k=o/\(lT σ k b o c t).cap k=c/\(lT σ k b o c t).tl k=t:=by simp[lT]
def jG.new {N0 nx:Nat}{σ:Sg}{C j:List Value}{h m:Mp}{B:Ap}{b o c:Nat}{t:List Value}(g:jG N0 σ C h nx)(d:∀p∈m,p∈h)(D:ScB (nx+1) B)(E:Tu (lT σ nx b o c t) nx B)
 (F:∀v∈j,cu (nx+1) v):jG N0 (lT σ nx b o c t) j ((nx,B)::m) (nx+1):=by
 have a:=pC σ nx b o c t;refine⟨λi q=>?_,Nat.le_succ_of_le g.le,λp hp=>?_,λp hp=>?_,λp hp=>?_,F⟩
 .obtain⟨s,A,_⟩:=a i (Qv q g.le);rw[<- s,<- A];exact g.fix i q
 .rcases QJ.1 hp with rfl|hp
  .exact Qw _
  .exact Nat.lt_succ_of_lt (g.ids p (d p hp))
 .rcases QJ.1 hp with rfl|hp
  .exact E
  .exact(g.grow p (d p hp)).ag a (g.ids p (d p hp))
 .rcases QJ.1 hp with rfl|hp
  .exact D
  .exact(g.cells p (d p hp)).mono (Qt _)
def oY {N0 nx:Nat}{σ:Sg}{q:List Value}{h d:Mp}{B:Ap}{b o c:Nat}{t:List Value}(g:jG N0 σ q h nx)(m:∀p∈d,p∈h):
 kq A (lT σ nx b o c t) ((nx,B)::d)=yx (lT σ nx b o c t) nx B++kq A σ d:=by
 have:=WH (A:=A) (pC σ nx b o c t) (λp j=>g.ids p (m p j)) (λp j=>g.cells p (m p j));rw[this];rfl
def cu.ptr {k i o:Nat}{s:Option Nat}(h:i<k):cu k (.pointer (some ⟨i,o,s⟩)):=λσ τ a=>by
 obtain⟨d,g,_⟩:=a i h;simp only[dO,sS,d,g]
def cu.slc {k i o n c:Nat}{s:Option Nat}(j:i<k):cu k (.slice (some ⟨i,o,s⟩) n c):=λσ τ a=>by
 obtain⟨d,g,h,_⟩:=a i j;simp only[bE,sS,J2,d,g,h]
variable {A:List kC}
def J3(σ:Sg)(ch:List PanicEntry):List PanicEntry:=ch.map λe=>{e with v:=rn σ e.v}
def qw(A:List kC)(P:Program)(N0:Nat)(F:CF):Prop:=∀f a5 h nx bT,F f a5 h nx=some bT->∀σ,jG N0 σ a5 h nx->
 jr P f (a5.map (rn σ)) [kq A σ h] (λv dl=>∃v0 h' bp aQ,bT=.val v0 h' bp/\Ag nx σ aQ/\nx<=bp/\jG N0 aQ [v0] h' bp/\v=rn aQ v0/\dl=[kq A aQ h'])
  (λch dl=>∃ch0 h' bp aQ,bT=.AG ch0 h' bp/\Ag nx σ aQ/\nx<=bp/\jG N0 aQ (ch0.map (·.v)) h' bp/\ch=J3 aQ ch0/\dl=[kq A aQ h'])
section
variable {P:Program} {N0 nx n:Nat} {σ:Sg} {Γ:Env} {h:Mp} {rs:List RO} {d:Option Nat} {Z:List PanicEntry->Env->SH->Prop} {K:Env->SH->Prop}
def op_pure {r:R}{v:Value}(g:jG N0 σ (Γ.map (·.2)) h nx)(s:kz r=true)(m:okC r=true)(J:(mS r).all (uC N0 Γ)=true)(q:okS (tZ N0 Γ) r=true)(B:kb (tZ N0 Γ) r=some v)
 (G:cu nx v->VO P n rs (au d (rn σ v) (cB σ Γ)) [kq A σ h] Z K):VO P n (⟨d,none,r⟩::rs) (cB σ Γ) [kq A σ h] Z K:=by
 have C:=vf.1 J;refine pA s ?_ (v:=rn σ v) ?_ (G λD E a=>?_)
 .rw[vf];exact λx j=>(lG g (C x j)).1
 .rw[<- C1 (σ:=σ) m q B];exact iv s λx j=>(lG g (C x j)).2.1
 .have H:=C1 (σ:=D) m q B;have I:=C1 (σ:=E) m q B;have F:kb (λx=>rn D (tZ N0 Γ x)) r=kb (λx=>rn E (tZ N0 Γ x)) r:=iv s λx j=>(lG g (C x j)).2.2 D E a
  rw[H,I]at F;exact X8 F
def Xy {x:Operand}{b o:Nat}{v:Value}(g:jG N0 σ (Γ.map (·.2)) h nx)(s:xw N0 Γ x=some (.pointer (some ⟨b,o,none⟩)))(j:lL h b o 1=some [v])
 (q:cu nx v->VO P n rs (au d (rn σ v) (cB σ Γ)) [kq A σ h] Z K):VO P n (⟨d,none,.lH x⟩::rs) (cB σ Γ) [kq A σ h] Z K:=by
 have m:=(lA g s).1;simp only[dO,sS]at m;refine wJ m (.among ?_) (q (oI g j v Zs));exact fK j _ Nt
def Xz {x:Operand}{b o m:Nat}{us:List Value}(g:jG N0 σ (Γ.map (·.2)) h nx)(E:xw N0 Γ x=some (.pointer (some ⟨b,o,none⟩)))(j:lL h b o m=some us)
 (B:cu nx (.agg us.toArray)->VO P n rs (au d (rn σ (.agg us.toArray)) (cB σ Γ)) [kq A σ h] Z K):VO P n (⟨d,none,.ny m x⟩::rs) (cB σ Γ) [kq A σ h] Z K:=by
 have s:=(lA g E).1;simp only[dO,sS]at s;have q:=B (cu.agg (oI g j));have D:rn σ (.agg us.toArray)=.agg (us.map (rn σ)).toArray:=by simp
 rw[D]at q;refine kR s (λa C=>?_) (by rw[Q6];exact po j) q;simp only[Vd,Ve,vm];exact fK j a C
def AD {C:List kC}{B:List kC}(e:B=C++kq A σ h):ap (C::[kq A σ h]) [B]:=by subst e;exact ap.perm Zs
def Xx {t:TypeId}{z:List Value}(g:jG N0 σ (Γ.map (·.2)) h nx)(s:z.all bG=true)
 (D:∀j,Ag nx σ j->jG N0 j (.pointer (some ⟨nx,0,none⟩)::Γ.map (·.2)) ((nx,.cells z)::h) (nx+1)->VO P n rs (au d (rn j (.pointer (some ⟨nx,0,none⟩))) (cB j Γ)) [kq A j ((nx,.cells z)::h)] Z K):
 VO P n (⟨d,none,.alloc t z⟩::rs) (cB σ Γ) [kq A σ h] Z K:=by
 refine kJ λb=>?_
 have a:=pC σ nx b 0 0 [];obtain⟨u1,C,_⟩:=AS σ nx b 0 0 [];have q:=D (lT σ nx b 0 0 []) a (g.new (λp m=>m) (λv hv=>cu.bG (vf.1 s v hv)) trivial (λv hv=>by
  rcases QJ.1 hv with rfl|hv
  .exact cu.ptr (Qw _)
  .exact(g.bJ v hv).mono (Qt _)))
 simp only[dO,sS,u1,C]at q;rw[uR a g.bJ];refine VO.imp (AD (B:=kq A (lT σ nx b 0 0 []) ((nx,.cells z)::h)) ?_) q;rw[oY g (λp m=>m)];simp only[yx,u1,C,fN s]
def op_box {t:TypeId}{x:Operand}{v:Value}(g:jG N0 σ (Γ.map (·.2)) h nx)(F:xw N0 Γ x=some v)
 (E:∀j,Ag nx σ j->jG N0 j (.pointer (some ⟨nx,0,none⟩)::Γ.map (·.2)) ((nx,.cells v.cells.toList)::h) (nx+1)->VO P n rs (au d (rn j (.pointer (some ⟨nx,0,none⟩))) (cB j Γ)) [kq A j ((nx,.cells v.cells.toList)::h)] Z K):
 VO P n (⟨d,none,.box t x⟩::rs) (cB σ Γ) [kq A σ h] Z K:=by
 obtain⟨G,C⟩:=lA g F;refine kZ G λb=>?_
 have a:=pC σ nx b 0 0 [];obtain⟨u1,D,_⟩:=AS σ nx b 0 0 [];have s:=E (lT σ nx b 0 0 []) a (g.new (λp m=>m) (λw q=>(C.cells w q).mono (Qt _)) trivial (λv hv=>by
  rcases QJ.1 hv with rfl|hv
  .exact cu.ptr (Qw _)
  .exact(g.bJ v hv).mono (Qt _)))
 simp only[dO,sS,u1,D]at s;rw[uR a g.bJ];refine VO.imp (AD (B:=kq A (lT σ nx b 0 0 []) ((nx,.cells v.cells.toList)::h)) ?_) s;rw[oY g (λp m=>m)];simp only[yx,u1,D];rw[sU,vE]
 congr 2
 exact QD λw q=>(C.cells w q _ _ a.symm)
def LO(g:jG N0 σ (Γ.map (·.2)) h nx){d:List (Nat×Nat×Operand)}(j:(d.map (·.2.2)).all (uC N0 Γ)=true):
 ja (Au (cB σ Γ)) d=(ja (tZ N0 Γ) d).map fun(a,b,v)=>(a,b,rn σ v):=by
 simp only[ja,QF];refine QD λp m=>?_
 obtain⟨a,b,c⟩:=p;have:=(lG g (vf.1 j c (QO.2 ⟨_,m,rfl⟩))).2.1;simp[this]
def JS {k:Nat}:∀{d:List (Nat×Nat×Value)} {cs out:List Value},(∀v∈cs,cu k v)->(∀p∈d,cu k p.2.2)->jb cs d=some out->∀v∈out,cu k v:=by
 intro d
 induction d with
 |nil=>intro cs out g _ e;simp only[jb,X9]at e;subst e;exact g
 |cons p d ih=>
  intro cs out g j e;obtain⟨o,s,v⟩:=p;simp only[jb]at e;split at e
  .refine ih (λu hu=>?_) (λq m=>j q (by simp[m])) e;rcases QH.1 hu with hu|hu
   .rcases QH.1 hu with hu|hu
    .exact g u (QP hu)
    .exact(j (o,s,v) Zs).cells u hu
   .exact g u (List.mem_of_mem_drop hu)
  .cases e
def Em {k:Nat}{z:List Value}(h:z.all bG=true):(jA k z).all bG=true:=by
 rw[vf]at h|-;intro x j;simp only[jA,QO,QS]at j;obtain⟨i,g,rfl⟩:=j;have m:0<z.length:=Nat.pos_of_ne_zero λe=>by rw[e]at g;simp at g
 have d:i%z.length<z.length:=Nat.mod_lt _ m;rw[getElem!_pos z _ d];exact h _ (List.getElem_mem d)
def R4 {t:TypeId}{len:Nat}{z out:List Value}{E:List (Nat×Nat×Operand)}(g:jG N0 σ (Γ.map (·.2)) h nx)(O:z.all bG=true)(C:(E.map (·.2.2)).all (uC N0 Γ)=true)
 (H:jb (jA len z) (ja (tZ N0 Γ) E)=some out) (s:len<ni)
 (L:∀m,Ag nx σ m->jG N0 m (.slice (some ⟨nx,0,none⟩) len len::Γ.map (·.2)) ((nx,.cells out)::h) (nx+1)->VO P n rs (au d (rn m (.slice (some ⟨nx,0,none⟩) len len)) (cB m Γ)) [kq A m ((nx,.cells out)::h)] Z K):
 VO P n (⟨d,none,.nP t len z E⟩::rs) (cB σ Γ) [kq A σ h] Z K:=by
 have G:=Em (k:=len) O;have I:∀v∈out,cu nx v:=JS (λv hv=>cu.bG (vf.1 G v hv)) (λp j=>by
  simp only[ja,QO]at j;obtain⟨q,M,rfl⟩:=j;exact(lG g (vf.1 C _ (QO.2 ⟨q,M,rfl⟩))).2.2) H
 refine kV (out:=out.map (rn σ)) ?_ ?_ λb=>?_
 .rw[vf]at C|-;exact λx N=>(lG g (C x N)).1
 .rw[LO g C];have:=xO (σ:=σ) H;rw[fN G]at this;exact this
 have a:=pC σ nx b 0 0 [];obtain⟨u1,J,_⟩:=AS σ nx b 0 0 [];have F:=L (lT σ nx b 0 0 []) a (g.new (λp j=>j) (λw D=>(I w D).mono (Qt _)) trivial (λv hv=>by
  rcases QJ.1 hv with rfl|hv
  .exact cu.slc (Qw _)
  .exact(g.bJ v hv).mono (Qt _)))
 simp only[bE,sS,J2,u1,J,if_pos s]at F;rw[uR a g.bJ];refine VO.imp (AD (B:=kq A (lT σ nx b 0 0 []) ((nx,.cells out)::h)) ?_) F;rw[oY g (λp j=>j)];simp only[yx,u1,J]
 congr 2
 exact QD λw D=>(I w D _ _ a.symm)
def XC {x y:Operand}{m b o:Nat}{u:Value}{J:Mp}(g:jG N0 σ (Γ.map (·.2)) h nx)(hx:xw N0 Γ x=some (.pointer (some ⟨b,o,none⟩)))(hy:xw N0 Γ y=some u)(Q:u.cells.toList.length=m)(C:Nn h b o u.cells.toList=some J)
 (U:jG N0 σ (undef::Γ.map (·.2)) J nx->VO P n rs (au d (rn σ undef) (cB σ Γ)) [kq A σ J] Z K):VO P n (⟨d,none,.store m x y⟩::rs) (cB σ Γ) [kq A σ h] Z K:=by
 have S:=(lA g hx).1;obtain⟨L,Y⟩:=lA g hy;simp only[dO,sS]at S;have I:(rn σ u).cells.toList=u.cells.toList.map (rn σ):=by rw[sU,vE]
 have H:=Y.cells;generalize u.cells.toList=us at Q C I H;unfold Nn at C;split at C
 case h_2=>cases C
 rename_i k F;split at C
 case h_2=>cases C
 rename_i vs E;split at C
 case h_2=>cases C
 rename_i G;split at C
 case h_2=>cases C
 rename_i W;cases C;have X:=me G;obtain⟨T,t1,t2⟩:=Fm (σ:=σ) (b:=b) E;have O:∀v∈vs,cu nx v:=by
  have:=g.cells _ (yK F);cases k with
  |cells ws=>cases E;exact this
  |grow s ws=>cases E;exact this
  |obj q=>cases E
 have M:∀v∈vs.take o++us++vs.drop (o+us.length),cu nx v:=λv hv=>by
  rcases QH.1 hv with hv|hv
  .rcases QH.1 hv with hv|hv
   .exact O v (QP hv)
   .exact H v hv
  .exact O v (List.mem_of_mem_drop hv)
 have D:(vs.take o++us++vs.drop (o+us.length)).length=vs.length:=by simp;omega
 have N:=U ⟨g.fix,g.le,λp j=>?_,λp j=>?_,λp j=>?_,λv hv=>?_⟩
 .refine VO.imp (ap.perm (B:=[kA (σ.tu b) (σ.off b) (vs.map (rn σ)++T),kq A σ (tX h b)]) ?_) ?_
  .have:=oX (A:=A) (σ:=σ) F;rw[t2]at this;simpa using this
  refine Kc (H':=[kA (σ.tu b) (σ.off b) ((vs.take o++us++vs.drop (o+us.length)).map (rn σ)++T),kq A σ (tX h b)]) S L ?_ ?_ ?_ ?_
  .rw[<- Q,<- Array.length_toList,I,Q6]
  .rw[I];exact xK σ _ W
  .rw[I];refine .cells Zo tK ?_;have e0:σ.off b+o-σ.off b=o:=by omega
   rw[e0,List.take_append_of_le_length tK,Q6,List.drop_append_of_le_length tK];simp[List.map_take,List.map_drop]
  .have hu:rn σ undef=undef:=eL rfl;rw[hu]at N;refine VO.imp (ap.perm ?_) N;have:=RD (A:=A) (σ:=σ) (c:=XH k (vs.take o++us++vs.drop (o+us.length))) F;rw[t1]at this;simpa using this.symm
 .rcases C8 j with j|rfl
  .exact g.ids p j
  .exact g.ids (b,k) (yK F)
 .rcases C8 j with j|rfl
  .exact g.grow p j
  .have:=g.grow (b,k) (yK F);cases k with
   |cells ws=>trivial
   |grow s ws=>cases E;simp only[Tu,XH]at this|-;rw[D];exact this
   |obj q=>cases E
 .rcases C8 j with j|rfl
  .exact g.cells p j
  .cases k with
   |cells ws=>exact M
   |grow s ws=>exact M
   |obj q=>cases E
 .rcases QJ.1 hv with rfl|hv
  .exact cu.plain rfl
  .exact g.bJ v hv
end
end Go.V

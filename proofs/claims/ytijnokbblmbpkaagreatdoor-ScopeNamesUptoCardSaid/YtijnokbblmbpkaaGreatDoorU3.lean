/-
  A part of the proof.
-/
import Derived.Test.YtijnokbblmbpkaaGreatDoorU2
import Derived.DefersIn
import Derived.RecoverIn
set_option linter.all false
namespace Go.V
open Go
def Hw(P:Program)(fv:Value)(args:List Value)(w:World)(R:Ending->World->Prop):Prop:=
 match fv with
 |.func (.func f) first cap=>wK P f=true/\Calls P f (first++args.toArray++cap) w R
 |.func (.yield l) first _=>∃f tmps KC body,(Instr.yield l (first++args.toArray)).run P w=.ok (.round l f tmps KC body) w/\RoundIn Fence.wide 0 P l f tmps KC body w R
 |_=>False
def eH(P:Program)(fv:Value)(args:List Value)(bx:SH)(Q:Value->SH->Prop):Prop:=
 ∀F w,Sat w (bx.flatten++F)->Hw P fv args w λe w'=>∃v Post,e=.returned v/\Q v Post/\Sat w' (Post.flatten++F)/\kz w w'
theorem Hw.mono {P:Program}{g:Value}{args:List Value}{w:World}{R d:Ending->World->Prop}(h:Hw P g args w R)(j:∀e w',R e w'->d e w'):Hw P g args w d:=by
 unfold Hw at*;split at h
 .exact⟨h.1,Calls.mono h.2 j⟩
 .obtain⟨f,tmps,m,body,q,s⟩:=h;exact⟨f,tmps,m,body,q,RoundIn.mono s j⟩
 .exact h.elim
theorem eH.conv {P:Program}{j:Value}{args:List Value}{H g R:SH}{Q Q':Value->SH->Prop}(h:eH P j args g Q)(E:fJ H g R)(D:∀v Post,Q v Post->∃d,Q' v d/\ai (Post++R) d):eH P j args H Q':=by
 intro F w G;have I:Sat w (g.flatten++(R.flatten++F)):=by
  rw[<- vm];exact G.perm (vd F E)
 refine(h (R.flatten++F) w I).mono ?_
 rintro e w' ⟨v,Post,m,q,s,A⟩
 obtain⟨d,B,C⟩:=D v Post q;refine⟨v,d,m,B,Sat.imp C ?_,A⟩;rw[Vc,vm];exact s
theorem eH.cB {P:Program}{f:Nat}{first cap:Array Value}{args:List Value}{d:SH}{Q:Value->SH->Prop}(h:au P f (first.toList++args++cap.toList) d Q):eH P (.func (.func f) first cap) args d Q:=by
 exact zCZ
theorem fj {P:Program}{n:Nat}{rs:List RO}{Γ:Env}{H:SH}{Z:List PanicEntry->Env->SH->Prop}{K:Env->SH->Prop}{d:Option Nat}{x:Operand}{s:Value}{xs:List Operand}{args:List Value}{q R:SH}{Q:Value->SH->Prop}
 (U:ev Γ x=some s) (M:eH P s args q Q) (j:nt Γ xs=some args) (hs:fJ H q R)
 (h:∀v Post,Q v Post->VO P n rs (aq d v Γ) (Post++R) Z K):VO P n (⟨d,none,.rR x xs⟩::rs) Γ H Z K:=by
 intro l N a w F ZZ Q' ha lj hq hz;obtain⟨o,l',rfl,s6,ops,O⟩:=ze N;obtain⟨L,g2,g3,g4⟩:=jP O;show wJ P ZZ (_,o) (cH P ZZ Q' l') a w;unfold wJ;have S:kg (V.R.rR x xs)=false:=rfl;have T:jL (V.R.rR x xs)=false:=rfl;simp only[jK,S,T,if_true,vM,if_false];refine⟨λe=>(by cases e),?_⟩;obtain⟨c,D,E,h3⟩:=Em L;have hm:xs.map a.eval=args:=ha.nt j;have C:(c.args.map a.eval)=args.toArray:=by
  exact zEX
 have G:Sat w (q.flatten++(R.flatten++F)):=by
  exact zDD
 have g:=M (R.flatten++F) w G;have fin:∀(e:Ending) (w':World),(∃v Post,e=.returned v/\Q v Post/\Sat w' (Post.flatten++(R.flatten++F))/\kz w w')->∃v,e=.returned v/\cH P ZZ Q' l' (a.put o.dst v) w':=by
  rintro e w' ⟨v,Post,rfl,hQ,AX,hk⟩
  refine⟨v,rfl,?_⟩;exact zBP
 have B:a.eval x=s:=ha.ev U;unfold Hw at g;split at g
 .rename_i f first cap
  have m:(execOp a.eval o).run P w=.ok (.enter f (first++args.toArray++cap)) w:=by
   simp[execOp,D,resolve,E,B,Deferred.ofValue,invoke,C];rw[zn g.1]
  simp only[CW,m,jz];refine g.2.mono (λe w' j=>?_);obtain⟨v,rfl,A⟩:=fin e w' j;exact A
 .rename_i X first cap
  obtain⟨f,tmps,J,body,W,I⟩:=g;have m:(execOp a.eval o).run P w=.ok (.round X f tmps J body) w:=by
   simp[execOp,D,resolve,E,B,Deferred.ofValue,invoke,C];exact W
  simp only[CW,m,jz];refine I.mono (λe w' j=>?_);obtain⟨v,rfl,A⟩:=fin e w' j;exact A
 .exact g.elim
def Aj:List Nat->List Value->Env->Env
 |p::ps,v::vs,Γ=>Aj ps vs ((p,v)::Γ)
 |_,_,Γ=>Γ
def OkC {α:Type}(Spec:List α->Prop)(c:List α):Prop:=∃t,Spec (c++t)
def Iter(P:Program)(g:Value){α:Type}(enc:α->List Value)(bx Post:SH)(Spec:List α->Prop):Prop:=
 ∀(y:Value) (J SP:List α->List kC->Prop),
  (∀c x A,OkC Spec (c++[x])->J c A->eH P y (enc x) [A] (λv B=>(v=.bool true/\∃A',J (c++[x]) A'/\B=[A'])∨(v=.bool false/\∃B',SP (c++[x]) B'/\B=[B'])))->
  ∀A,J [] A->eH P g [y] (bx++[A]) (λv B=>v=.tuple #[]/\((∃full A',Spec full/\J full A'/\B=Post++[A'])∨(∃c B',OkC Spec c/\SP c B'/\B=Post++[B'])))
section
variable {P:Program} {n:Nat} {Γ:Env} {H:SH} {Q:Exit->Env->SH->Prop}
theorem KE {g:List Nat}:∀{vs:List Value} {Γ:Env} {tmps:Array Value},(∀t∈g,t < n)->g.length=vs.length->wH n Γ {tmps:=tmps,defers:=[]}->
 wH n (Aj g vs Γ) {tmps:=(g.zip vs).foldl (λtmps (t,a)=>tmps.setIfInBounds t a) tmps,defers:=[]}:=by
 induction g with
 |nil=>intro vs Γ tmps _ _ h;cases vs <;> exact h
 |cons p g ih=>
  intro vs Γ tmps m j h;cases vs with
  |nil=>simp at j
  |cons v vs=>
   simp only[Aj,List.zip_cons_cons,Vg];refine ih (λt q=>m t (by simp[q])) (by simpa using j) ?_;exact h.put (d:=p) (m p Zs) v
def zR(fn:FuncId)(tmps:Array Value)(qs:Array Tmp)(A B:Code)(db:Nat)(st:LoopState)(pe:Option Code):Loop:={state:=st,pending:=pe,fn,tmps,params:=qs,assign:=A,body:=B,defers:=db}
theorem fh {w:World}{l:Nat}{r:Loop}(h:w.heap[l]? =some (.loop r)):(Instr.getLoop l).run P w=.ok r w:=by
 simp[Instr.getLoop,Go.getObj,Sem.run,h]
theorem L7 {N:Nat->List Nat}{O:Nat->List (List Nat)}{fn:FuncId}{tmps:Array Value}{qs:Array Tmp}{A B:Code}{db l:Nat}{U body:IC}{vs:List Value}{I:List kC}{Qb:Exit->SH->Prop}
 (S:∀t∈qs.toList,t < n) (d:qs.toList.length=vs.length) (ha:wH n Γ {tmps:=tmps,defers:=[]}) (h1:zS P n N O A=some U) (h2:zS P n N O B=some body)
 (h:VC P n U (Aj qs.toList vs Γ) [I] (λe aw H'=>e=.normal/\VC P n body aw H' (λe _ s=>match e with|.normal=>Qb .normal s|.ret=>Qb .ret s|.exit id=>Qb (.exit id) s|_=>False))):
 eH P (.func (.yield l) #[] #[]) vs [I++[.obj l (.loop (zR fn tmps qs A B db .ready none))]] (λv Q=>(v=.bool true/\∃s,Qb .normal s/\Q=[s.flatten++[.obj l (.loop (zR fn tmps qs A B db .ready none))]])∨
  (v=.bool false/\∃s,((Qb .ret s/\Q=[s.flatten++[.obj l (.loop (zR fn tmps qs A B db .done (some .ret)))]])∨(∃id,Qb (.exit id) s/\Q=[s.flatten++[.obj l (.loop (zR fn tmps qs A B db .done (some (.exit id))))]])))):=by
 intro F w hs;have Z:Sat w ([I].flatten++(.obj l (.loop (zR fn tmps qs A B db .ready none))::F)):=by simpa using hs
 have J:=(Z.obj (b:=l) (QH _ (QK ..))).1;refine⟨fn,(qs.zip vs.toArray).foldl (λtmps (t,a)=>tmps.setIfInBounds t a) tmps,A,B,?_,?_⟩
 .simp only[Instr.yield,Sem.run_bind,fh J,Result.andThen_ok];have:(#[]++vs.toArray:Array Value).size=qs.size:=by simpa using d.symm
  simp[zR,d.symm]
 .have hz:(qs.zip vs.toArray).foldl (λtmps (t,a)=>tmps.setIfInBounds t a) tmps=(qs.toList.zip vs).foldl (λtmps (t,a)=>tmps.setIfInBounds t a) tmps:=by
   rw[<- Array.foldl_toList];simp
  rw[hz];refine roundIn_of_wpIn trivial ?_;refine h (some l) N O A h1 _ w _ _ (λl' e=>by cases e;exact⟨_,QK ..⟩) (KE S d ha) Z ?_
  rintro e a1 L Γ1 T X ⟨rfl,hb⟩ g1 _ g3 g4
  have H:Sat L (.obj l (.loop (zR fn tmps qs A B db .ready none))::(T.flatten++(F++marks X))):=by
   refine g3.perm ?_;simp only[vr];exact Qe
  have g:=(H.obj (QK ..)).1;obtain⟨s1,s2⟩:=Sat.setObj (u:=.loop (zR fn tmps qs A B db .busy none)) H rfl;refine⟨{L with heap:=L.heap.setIfInBounds l (.loop (zR fn tmps qs A B db .busy none))},?_,?_⟩
  .have hg:=fh (P:=P) g;simp only[Instr.beginRound,Sem.run_bind,hg,Result.andThen_ok];simp[zR,Go.setObj,Sem.run,g]
  have s3:Sat {L with heap:=L.heap.setIfInBounds l (.loop (zR fn tmps qs A B db .busy none))} (T.flatten++(.obj l (.loop (zR fn tmps qs A B db .busy none))::(F++marks X))):=s1.perm Qe.symm;refine hb (some l) N O B h2 a1 _ _ _ (λl' e=>by cases e;exact⟨_,QK ..⟩) g1 s3 ?_;intro e a2 C cJ M Y q k1 _ k3 k4;have K:Sat C (.obj l (.loop (zR fn tmps qs A B db .busy none))::(M.flatten++F)):=by
   have p:(M.flatten++(.obj l (.loop (zR fn tmps qs A B db .busy none))::(F++marks X)++marks Y)).Perm ((.obj l (.loop (zR fn tmps qs A B db .busy none))::(M.flatten++F))++(marks X++marks Y)):=by
    simp only[vr,vm];exact Qe
   exact(k3.perm p).left
  have m:=(K.obj (QK ..)).1;have aV:=g4.trans (s2.trans k4);have fin:∀(j:Option Code) (st:LoopState),∀(W:st=if j.isNone then .ready else .done),(Instr.endRound l j).run P C=.ok (.bool j.isNone) {C with heap:=C.heap.setIfInBounds l (.loop (zR fn tmps qs A B db st j))}/\
   Sat {C with heap:=C.heap.setIfInBounds l (.loop (zR fn tmps qs A B db st j))} ([M.flatten++[kC.obj l (.loop (zR fn tmps qs A B db st j))]].flatten++F)/\kz w {C with heap:=C.heap.setIfInBounds l (.loop (zR fn tmps qs A B db st j))}:=by
   intro j st W;obtain⟨t1,t2⟩:=Sat.setObj (u:=.loop (zR fn tmps qs A B db st j)) K rfl;refine⟨?_,?_,aV.trans t2⟩
   .subst W;simp only[Instr.endRound,Sem.run_bind,fh m,Result.andThen_ok,zR,Go.setObj,Sem.run,m,Sem.run_pure]
   .refine t1.perm ?_;simp only[Vd,Ve,vp,vm,List.singleton_append];exact Qe.symm
  cases e with
  |normal=>
   obtain⟨D,E,G⟩:=fin none .ready rfl;exact⟨_,_,D,_,_,rfl,.inl ⟨rfl,_,q,rfl⟩,E,G⟩
  |ret=>
   obtain⟨D,E,G⟩:=fin (some .ret) .done rfl;exact⟨_,_,D,_,_,rfl,.inr ⟨rfl,_,.inl ⟨q,rfl⟩⟩,E,G⟩
  |exit id=>
   obtain⟨D,E,G⟩:=fin (some (.exit id)) .done rfl;exact⟨_,_,D,_,_,rfl,.inr ⟨rfl,_,.inr ⟨id,q,rfl⟩⟩,E,G⟩
  |goto _=>exact q.elim
  |panic _=>exact q.elim
  |outgrown=>exact q.elim
theorem KO {lY:FuncId}{tmps:Array Value}{qs:Array Tmp}{A B:Code}{ρ:Option Nat}{w:World}{L F:List kC}(s:Rnd ρ F)(d:Sat w (L++F)):
 ∃(l db:Nat) (X:List Nat) (j:World),(Instr.enterLoop lY tmps qs A B ρ).run P w=.ok (l,X.map qh) j/\
  Sat j (.obj l (.loop (zR lY tmps qs A B db .ready none))::(L++(F++marks X)))/\kz w j:=by
 cases ρ with
 |none=>
  obtain⟨C,D⟩:=d.newObj (.deferred (some [])) rfl;obtain⟨g,h⟩:=C.newObj (.loop (zR lY tmps qs A B w.heap.size .ready none)) rfl;refine⟨(w.heap.push (.deferred (some []))).size,w.heap.size,[w.heap.size],_,?_,g.perm ?_,D.trans h⟩
  .simp[Instr.enterLoop,Go.newObj,Sem.run,zR,qh];rfl
  .refine List.Perm.cons _ ?_;simp only[marks,QD,QF];rw[<- vm];exact(List.perm_append_singleton _ _).symm
 |some l0=>
  obtain⟨r,m⟩:=s l0 rfl;have q:=(d.obj (QH _ m)).1;obtain⟨g,h⟩:=d.newObj (.loop (zR lY tmps qs A B r.defers .ready none)) rfl;refine⟨w.heap.size,r.defers,[],_,?_,?_,h⟩
  .simp[Instr.enterLoop,fh q,Go.newObj,Sem.run,zR]
  .simpa[marks]using g
theorem Aw {lY:FuncId}{tmps:Array Value}{qs:Array Tmp}{A B:Code}{db l:Nat}{st:LoopState}{pe:Option Code}{w:World}{L F:List kC}(m:st≠.busy)
 (s:Sat w (L++[.obj l (.loop (zR lY tmps qs A B db st pe))]++F)):∃h,(Instr.endLoop l).run P w=.ok pe h/\Sat h (L++F)/\kz w h:=by
 have d:Sat w (.obj l (.loop (zR lY tmps qs A B db st pe))::(L++F)):=by
  refine s.perm ?_;rw[vm];exact Qe
 have j:=(d.obj (QK ..)).1;obtain⟨C,D⟩:=Sat.setObj (u:=.loop (zR lY tmps qs A B db .exhausted pe)) d rfl;refine⟨_,?_,C.sub (Qh ..),D⟩;have g:=fh (P:=P) j;have q:((zR lY tmps qs A B db st pe).state==LoopState.busy)=false:=by cases st <;> first|rfl|exact absurd rfl m
 simp only[Instr.endLoop,Sem.run_bind,g,Result.andThen_ok,q];simp[zR,Go.setObj,Sem.run,j]
theorem VC.iM {α:Type}{enc:α->List Value}{g:Operand}{f:Nat}{first cap:Array Value}{ps:List Nat}{KC body:IC}{Y Post R:SH}{Spec:List α->Prop}(I:List α->List kC->Prop)(W:List kC)(hg:ev Γ g=some (.func (.func f) first cap))
 (hit:Iter P (.func (.func f) first cap) enc Y Post Spec) (hs:fJ H Y R) (h0:ai R [W]) (h1:I [] W) (S:∀x,(enc x).length=ps.length)
 (G:∀c x A,OkC Spec (c++[x])->I c A->VC P n KC (Aj ps (enc x) Γ) [A] (λe aw H'=>e=.normal/\VC P n body aw H' (λe _ d=>match e with|.normal=>∃D,I (c++[x]) D/\ai d [D]|.ret=>Q .ret Γ (Post++d)|.exit id=>Q (.exit id) Γ (Post++d)|_=>False)))
 (done:∀j A,Spec j->I j A->Q .normal Γ (Post++[A])):VC P n (.iM g ps KC body) Γ H Q:=by
 intro ρ kp od code hl a w F QQ hr O lj hh;obtain⟨qs,A,B,rfl,rfl,aJ,h1',h2⟩:=jn hl;refine wpIn_rangeFunc (λlY _=>?_);obtain⟨l,db,X,T,he,nU,xI⟩:=KO (P:=P) (lY:=lY) (tmps:=a.tmps) (qs:=qs) (A:=A) (B:=B) hr lj;have C:=hit (.func (.yield l) #[] #[]) (λc D=>∃E,I c E/\D=E++[.obj l (.loop (zR lY a.tmps qs A B db .ready none))])
  (λc Z=>∃d,(Q .ret Γ (Post++d)/\Z=d.flatten++[.obj l (.loop (zR lY a.tmps qs A B db .done (some .ret)))])∨(∃id,Q (.exit id) Γ (Post++d)/\Z=d.flatten++[.obj l (.loop (zR lY a.tmps qs A B db .done (some (.exit id))))]))
  (λc x D hc hA=>by
    obtain⟨E,hI,rfl⟩:=hA;have hx:=L7 (P:=P) (n:=n) (Γ:=Γ) (fn:=lY) (tmps:=a.tmps) (db:=db) (l:=l) (vs:=enc x) (I:=E) (Qb:=λe d=>match e with|.normal=>∃D,I (c++[x]) D/\ai d [D]|.ret=>Q .ret Γ (Post++d)|.exit id=>Q (.exit id) Γ (Post++d)|_=>False)
     aJ (S x).symm ⟨O.size,O.slots⟩ h1' h2 ((G c x E hc hI).mono (λe aw H' ⟨q1,q2⟩=>⟨q1,q2.mono (λe _ d q=>by cases e <;> exact q)⟩))
    refine hx.conv (R:=[]) (by simp[fJ]) ?_
    rintro v Bk (⟨rfl,d,⟨A2,hI2,q⟩,rfl⟩|⟨rfl,d,q⟩)
    .refine⟨_,.inl ⟨rfl,_,⟨A2,hI2,rfl⟩,rfl⟩,?_⟩;obtain⟨R',N⟩:=q;refine⟨R',?_⟩;simp only[fJ,Vd,Ve,vp]at N|-;rw[vm];refine(vd _ N).trans ?_;rw[vm];exact zDX
    .rcases q with⟨q,rfl⟩|⟨id,q,rfl⟩
     .exact⟨_,.inr ⟨rfl,_,⟨d,.inl ⟨q,rfl⟩⟩,rfl⟩,by rw[vp];exact ai.refl _⟩
     .exact⟨_,.inr ⟨rfl,_,⟨d,.inr ⟨id,q,rfl⟩⟩,rfl⟩,by rw[vp];exact ai.refl _⟩)
  _ ⟨W,h1,rfl⟩
 have tQ:Sat T ((Y++[W++[kC.obj l (.loop (zR lY a.tmps qs A B db .ready none))]]).flatten++(F++marks X)):=by
  have p1:(kC.obj l (.loop (zR lY a.tmps qs A B db .ready none))::(H.flatten++(F++marks X))).Perm (R.flatten++(Y.flatten++(kC.obj l (.loop (zR lY a.tmps qs A B db .ready none))::(F++marks X)))):=by
   refine Qe.symm.trans ?_;refine(vd _ hs).trans ?_;rw[vm];exact zo _ _ _
  have h3:=(nU.perm p1).imp h0;refine h3.perm ?_;simp only[Vc,Vd,Ve,vp,vm,List.singleton_append];exact zo _ _ _
 have az:=C (F++marks X) T tQ;obtain⟨OY,s⟩:=az;refine⟨l,X.map qh,T,{target:=.fn (.func f) cap,args:=first++[Value.func (.yield l) #[] #[]].toArray},T,f,first++[Value.func (.yield l) #[] #[]].toArray++cap,T,he,?_,λ_ _=>trivial,?_,?_,?_⟩
 .have Um:a.eval g=.func (.func f) first cap:=O.ev hg
  simp only[resolve,Um,Deferred.ofValue];simp[Act.eval]
 .simp only[invoke];rw[zn OY]
 .intro h;simp at h
 refine DP (s.mono ?_)
 .rintro e w3 ⟨v,Pst,rfl,⟨rfl,hp⟩,UF,qI⟩
  have Kg:wH n Γ {a with defers:=X.map qh++a.defers}:=⟨O.size,O.slots⟩;rcases hp with⟨j,_,hf,⟨E,hI,rfl⟩,rfl⟩|⟨c,Z,_,⟨d,hj⟩,rfl⟩
  .obtain⟨U,J,K,m⟩:=Aw (P:=P) (L:=Post.flatten++E) (st:=.ready) (pe:=none) Zs (by simpa[vm]using UF);have M:=xI.trans (qI.trans m);exact⟨none,U,J,hh _ _ _ _ _ X (done j E hf hI) Kg rfl (by simpa using K) M⟩
  .rcases hj with⟨q,rfl⟩|⟨id,q,rfl⟩
   .obtain⟨U,J,K,m⟩:=Aw (P:=P) (L:=Post.flatten++d.flatten) (st:=.done) (pe:=some .ret) Zs (by simpa[vm]using UF);have M:=xI.trans (qI.trans m);exact⟨_,U,J,wpIn_ret (hh _ _ _ _ _ X q Kg rfl (by simpa using K) M)⟩
   .obtain⟨U,J,K,m⟩:=Aw (P:=P) (L:=Post.flatten++d.flatten) (st:=.done) (pe:=some (.exit id)) Zs (by simpa[vm]using UF);have M:=xI.trans (qI.trans m);exact⟨_,U,J,wpIn_exit (hh _ _ _ _ _ X q Kg rfl (by simpa using K) M)⟩
end
def pY(P:Program)(n:Nat)(c:IC)(Γ:Env)(H:SH)(Q:Exit->Env->SH->Prop):Prop:=
 ∀ρ kp od code,zS P n kp od code=some c->∀a w F (QQ:Exit->Act->World->Prop),wH n Γ a->Sat w (H.flatten++F)->
  (∀e a' w' aw H',Q e aw H'->wH n aw a'->a'.defers=a.defers->Sat w' (H'.flatten++F)->kz w w'->QQ e a' w')->code.wpIn (C1 ρ) 0 P QQ a w
section
variable {P:Program} {n:Nat} {Γ:Env} {H:SH} {Q Q':Exit->Env->SH->Prop}
theorem pY.skip(h:Q .normal Γ H):pY P n .skip Γ H Q:=by
 intro ρ kp od d m a w F QQ g q j;obtain rfl:=jn m;exact wpIn_skip (j _ _ _ _ _ h g rfl q (.refl w))
theorem pY.ret(h:Q .ret Γ H):pY P n .ret Γ H Q:=by
 intro ρ kp od d m a w F QQ g q j;obtain rfl:=jn m;exact wpIn_ret (j _ _ _ _ _ h g rfl q (.refl w))
theorem pY.cond {c:Operand}{x y:IC}{t:Bool}(C:ev Γ c=some (.bool t))(G:t=true->pY P n x Γ H Q)(D:t=false->pY P n y Γ H Q):pY P n (.cond c x y) Γ H Q:=by
 intro ρ m s g E a w F QQ d j h;obtain⟨p,q,rfl,A,B⟩:=jn E;exact wpIn_cond_split (d.ev C) (λe=>G e ρ m s _ A a w F QQ d j h) (λe=>D e ρ m s _ B a w F QQ d j h)
theorem pY.seq {x y:IC}(h:pY P n x Γ H (bK (λd H'=>pY P n y d H' Q) Q)):pY P n (.seq x y) Γ H Q:=by
 intro ρ C D g N a w F QQ M O B;obtain⟨p,q,rfl,K,L⟩:=jn N;refine wpIn_seq (h ρ C D _ K a w F _ M O (λe G w' d H' q j m s A=>?_));cases e <;> first
  |exact q ρ C D _ L G w' F QQ j s (λe I Y J E X S T U W=>B e I Y J E X S (by rw[T,m]) U (A.trans W))
  |exact B _ _ _ _ _ q j m s A
theorem pY.mY {rs:List RO}{s:List Nat}(h:VO P n rs Γ H (λj d H'=>Q (.panic j) d H') λd H'=>Q .normal (aT s d) H'):pY P n (.mY rs s) Γ H Q:=by
 intro ρ kp od A E a w F QQ D G B;obtain⟨id,ops,rfl,h1,rfl⟩:=jn E;refine wpIn_region ?_;refine fZ (P:=P) (ρ:=ρ) (n:=n) (ops:=ops) (X:=λi=>(rs.zip ops.toList).getD i default) (QQ:=QQ) (λi hi=>?_) (List.range ops.size) a w (λi hi=>by simpa using hi) ?_
 .exact zDH
 .have hlen:=(wD h1).1;have C:(List.range ops.size).map (λi=>(rs.zip ops.toList).getD i default)=rs.zip ops.toList:=by
   exact zBA
  rw[C];refine h (rs.zip ops.toList) ⟨?_,?_⟩ a w F _ _ D G (λg w' d H' q g1 g2 g3 m=>B .normal g w' _ H' q (g1.sub (o7 _ _)) g2 g3 m) (λj g w' d H' q g1 g2 g3 m=>B (.panic j) g w' _ H' q g1 g2 g3 m)
  .rw[List.map_fst_zip];simp[hlen]
  .exact zBH
end
def FunD(P:Program)(f:Nat)(args:List Value)(bx:SH)(Q:Value->SH->Prop):Prop:=
 wK P f=true/\∀F w u,Sat w (bx.flatten++F)->CallsDIn (C1 none) 0 P f args.toArray u w λe u' w'=>u'=u/\∃v Post,e=.returned v/\Q v Post/\Sat w' (Post.flatten++F)/\kz w w'
structure DR where
 d:Nat
 g:Nat
 xA:List Operand
def LH(P:Program)(n:Nat):Code->Option DR
 |.region _ ops false=>match ops.toList with
  |[o1,o2]=>match eU P n ops o1,o2.op with
   |some ⟨some d,none,.C4 (.func g) [] xA⟩,.defer c=>match c.callee with
    |.value (.tmp d')=>if d'=d/\c.args.size=0/\o2.guard.isNone=true/\o2.dst.isNone=true then some ⟨d,g,xA⟩else none
    |_=>none
   |_,_=>none
  |_=>none
 |_=>none
structure DIR where
 n:Nat
 bO:List RV
 pre:List IC
 dr:DR
 post:IC
def fu(P:Program)(n:Nat)(kp:Nat->List Nat)(od:Nat->List (List Nat)):Code->Option (List IC×DR×IC)
 |.seq a b=>match LH P n a with
  |some x=>(zS P n kp od b).map λy=>([],x,y)
  |none=>match zS P n kp od a,fu P n kp od b with
   |some x,some (l,d,y)=>some (x::l,d,y)
   |_,_=>none
 |_=>none
def Np(P:Program)(kp:Nat->List Nat)(od:Nat->List (List Nat))(f:Nat):Option DIR:=
 match P.funcs[f]? with
 |none=>none
 |some fn=>match fn.body with
  |none=>none
  | some c => if fn.name != "runtime.NumGoroutine" then
     match fu P fn.ntmps kp od c,zB P fn.results.toList with
     |some (l,d,y),some r=>some ⟨fn.ntmps,r,l,d,y⟩
     |_,_=>none
    else none
def endD(P:Program)(g:Nat)(xA:List Value)(bO:List RV)(Q:Value->SH->Prop):Exit->Env->SH->Prop:=λe Γ H=>(e=.normal∨e=.ret)/\∃bx R Q2,FunD P g xA bx Q2/\fJ H bx R/\
 ∀v Post,Q2 v Post->tG bO Q .ret Γ (Post++R)
def VD(P:Program)(n:Nat)(bO:List RV)(dr:DR)(post:IC)(Q:Value->SH->Prop):List IC->Env->SH->Prop
 |[],Γ,H=>∃vs,nt Γ dr.xA=some vs/\VC P n post ((dr.d,.func (.func dr.g) #[] vs.toArray)::Γ) H (endD P dr.g vs bO Q)
 |x::l,Γ,H=>VC P n x Γ H (bK (λaw H'=>VD P n bO dr post Q l aw H') (tG bO Q))
theorem LI {P:Program}{n:Nat}{c:Code}{x:DR}(h:LH P n c=some x):∃id ops o1 j m,c=.region id ops false/\ops.toList=[o1,j]/\eU P n ops o1=some ⟨some x.d,none,.C4 (.func x.g) [] x.xA⟩/\
 j.op=.defer m/\m.callee=.value (.tmp x.d)/\m.args=#[]/\j.guard=none/\j.dst=none:=by
 unfold LH at h;split at h
 case h_2=>cases h
 rename_i id ops;split at h
 case h_2=>cases h
 rename_i o1 j q;split at h
 case h_2=>cases h
 rename_i d g xA c s A;split at h
 case h_2=>cases h
 rename_i d' E;split at h
 case isFalse=>cases h
 rename_i F;obtain⟨rfl,B,C,D⟩:=F;cases h;exact⟨id,ops,o1,j,c,rfl,q,s,A,E,by simpa using B,by simpa using C,by simpa using D⟩
section
variable {P:Program} {n:Nat} {fn:Func} {tmps:Array Value} {FF:List kC} {w0:World}
theorem F9 {R:Ending->World->Prop}{ds:List Deferred}{L:List kC}:∀(X:List Nat) (w':World),Sat w' (L++(FF++marks X))->kz w0 w'->
 (∀j,Sat j (L++FF)->kz w0 j->LeavesInM (C1 none) 0 P fn tmps R ds .returning j)->LeavesInM (C1 none) 0 P fn tmps R (X.map qh++ds) .returning w':=by
 intro X
 induction X with
 |nil=>intro w' g d h;exact h w' (by simpa[V.marks]using g) d
 |cons r X ih=>
  intro w' g d h;have q:(L++(FF++V.marks (r::X))).Perm (.obj r (.deferred (some []))::(L++(FF++V.marks X))):=by
   exact zCQ
  have m:=g.perm q;obtain⟨k1,k2⟩:=m.obj (QK ..);obtain⟨s,A⟩:=Sat.setObj (u:=.deferred none) m rfl;refine⟨Zs,.inl ⟨r,_,rfl,?_,ih _ (s.sub (Qh ..)) (d.trans A) h⟩⟩;exact zEJ
theorem Ba {r:List RV}{Q:Value->SH->Prop}{d:Act}{w':World}{g:Env}{H':SH}{X:List Nat}{e:Exit}(D:zB P fn.results.toList=some r)(q:tG r Q e g H')(h:wH n g d)(j:Sat w' (H'.flatten++(FF++marks X)))(m:kz w0 w'):
 LeavesInM (C1 none) 0 P fn d.tmps (λe w'=>∃v Post,e=.returned v/\Q v Post/\Sat w' (Post.flatten++FF)/\kz w0 w') (X.map qh) .returning w':=by
 obtain⟨he,vs,Post,A,B,C⟩:=q;have:=F9 (P:=P) (fn:=fn) (tmps:=d.tmps) (R:=λe w'=>∃v Post,e=.returned v/\Q v Post/\Sat w' (Post.flatten++FF)/\kz w0 w') (ds:=[]) X w' j m (λpS s k=>⟨_,ir s D h A,_,Post,rfl,C,s.imp B,k⟩);simpa using this
end
def ju(P:Program)(f:Nat)(args:List Value)(bx:SH)(Q:Value->SH->Prop)(Z:List PanicEntry->SH->Prop):Prop:=
 wK P f=true/\∀F w,Sat w (bx.flatten++F)->
  Calls P f args.toArray w λe w'=>∃Post,((∃v,e=.returned v/\Q v Post)∨(∃ch,e=.panicked ch/\Z ch Post))/\Sat w' (Post.flatten++F)/\kz w w'
section
variable {P:Program} {f:Nat} {args:List Value} {bx:SH} {Q Q':Value->SH->Prop} {Z Z':List PanicEntry->SH->Prop}
theorem ju.mono(h:ju P f args bx Q Z)(g:∀v Post,Q v Post->Q' v Post)(m:∀d Post,Z d Post->Z' d Post):ju P f args bx Q' Z':=
 ⟨h.1,λF w j=>(h.2 F w j).mono λ_ _ ⟨Post,a,b,c⟩=>⟨Post,a.imp (λ⟨v,e,q⟩=>⟨v,e,g _ _ q⟩) (λ⟨d,e,q⟩=>⟨d,e,m _ _ q⟩),b,c⟩⟩
theorem ju.cB(h:au P f args bx Q):ju P f args bx Q Z:=
 ⟨h.1,λF w g=>(h.2 F w g).mono λ_ _ ⟨v,Post,a,b,c,d⟩=>⟨Post,.inl ⟨v,a,b⟩,c,d⟩⟩
theorem ju.fun(h:ju P f args bx Q (λ_ _=>False)):au P f args bx Q:=
 ⟨h.1,λF w d=>(h.2 F w d).mono λ_ _ ⟨Post,a,b,c⟩=>by
   rcases a with⟨v,e,q⟩|⟨ch,e,q⟩
   .exact⟨v,Post,e,q,b,c⟩
   .exact q.elim⟩
theorem ju.conv {H R:SH}(h:ju P f args bx Q Z)(E:fJ H bx R)(D:∀v Post,Q v Post->∃d,Q' v d/\ai (Post++R) d)(I:∀g Post,Z g Post->∃d,Z' g d/\ai (Post++R) d):ju P f args H Q' Z':=by
 refine⟨h.1,λF w G=>?_⟩;have J:Sat w (bx.flatten++(R.flatten++F)):=by
  rw[<- vm];exact G.perm (vd F E)
 refine(h.2 (R.flatten++F) w J).mono ?_
 rintro e w' ⟨Post,B,C,A⟩
 have j:Sat w' ((Post++R).flatten++F):=by rw[Vc,vm];exact C
 rcases B with⟨v,e1,q⟩|⟨g,e1,q⟩
 .obtain⟨d,m,s⟩:=D v Post q;exact⟨d,.inl ⟨v,e1,m⟩,Sat.imp s j,A⟩
 .obtain⟨d,m,s⟩:=I g Post q;exact⟨d,.inr ⟨g,e1,m⟩,Sat.imp s j,A⟩
end
section
variable {P:Program} {n:Nat} {rs:List RO} {Γ:Env} {H:SH} {Z:List PanicEntry->Env->SH->Prop} {K:Env->SH->Prop} {d:Option Nat}
theorem kN {f:Nat}{xs:List Operand}{args:List Value}{bx R:SH}{Q:Value->SH->Prop}{Z':List PanicEntry->SH->Prop}(E:ju P f args bx Q Z')(D:nt Γ xs=some args)(hs:fJ H bx R)
 (h:∀v Post,Q v Post->VO P n rs (aq d v Γ) (Post++R) Z K) (Lg:∀ch Post,Z' ch Post->Z ch Γ (Post++R)):VO P n (⟨d,none,.call f xs⟩::rs) Γ H Z K:=by
 intro l G a w F ZZ Q' ha lj hq hz;obtain⟨o,l',rfl,s6,ops,I⟩:=ze G;obtain⟨q,g2,g3,g4⟩:=jP I;show wJ P ZZ (_,o) (cH P ZZ Q' l') a w;unfold wJ;simp only[jK,show kg (V.R.call f xs)=false from rfl,show jL (V.R.call f xs)=false from rfl,if_true,vM,if_false];refine⟨λe=>(by cases e),?_⟩;obtain⟨c,s,A,B,C⟩:=sh q;have m:(c.args.map a.eval)=args.toArray:=by
  apply vD.1;rw[vE,B,ha.nt D]
 have j:(execOp a.eval o).run P w=.ok (.enter f args.toArray) w:=by
  simp[execOp,s,resolve,A,Act.eval,Deferred.ofValue,invoke,m,zn C]
 refine NU j ?_;have g:Sat w (bx.flatten++(R.flatten++F)):=by
  exact zDD
 refine(E.2 (R.flatten++F) w g).mono ?_;exact zAT
theorem Yc {x:Operand}{t:TypeId}{v:Value}(E:ev Γ x=some (.iface t v))(h:Z [{v:=.iface t v,recovered:=false}] Γ H):VO P n (⟨d,none,.pnc x⟩::rs) Γ H Z K:=by
 intro l C a w F m Q' q J hq G;obtain⟨o,I,rfl,s6,ops,D⟩:=ze C;obtain⟨g,g2,g3,g4⟩:=jP D;show wJ P m (_,o) (cH P m Q' I) a w;unfold wJ;simp only[jK,show kg (V.R.pnc x)=false from rfl,show jL (V.R.pnc x)=false from rfl,if_true,vM,if_false];refine⟨λe=>(by cases e),?_⟩;have s:o.op=.panic x:=by
  obtain⟨B,op,ty,pos,j,guard⟩:=o;simp only at g|-;cases op
  case panic y=>simp only[jG,XD,V.R.pnc.injEq]at g;rw[g]
  all_goals (exfalso;try simp only[jG]at g)
  all_goals (repeat' split at g)
  all_goals first
   |(cases g;done)
   |(simp only[X9]at g;obtain⟨_,_,g⟩:=g;cases g;done)
 have A:(execOp a.eval o).run P w=.halt (.panic (.iface t v)) w:=by
  simp[execOp,s,q.ev E,Instr.panic,goPanic,Sem.run]
 simp only[CW,A,jz];exact G _ a w Γ H h q rfl J (.refl w)
end
def ZY(bO:List RV)(Q:Value->SH->Prop)(Z:List PanicEntry->SH->Prop):Exit->Env->SH->Prop
 |.panic ch,_,H=>∃Post,ai H Post/\Z ch Post
 |e,Γ,H=>tG bO Q e Γ H
theorem jT {d:List RV}{Q:Value->SH->Prop}{Z:List PanicEntry->SH->Prop}{e:Exit}{Γ:Env}{H:SH}(h:tG d Q e Γ H):ZY d Q Z e Γ H:=by
 have g:=h.1;rcases g with rfl|rfl <;> exact h
section
variable {P:Program} {fn:Func} {tmps:Array Value} {FF:List kC} {w0:World}
theorem iJ {R:Ending->World->Prop}{ds:List Deferred}{L:List kC}{u:FrameMode}(s:u≠.run):∀(X:List Nat) (w':World),Sat w' (L++(FF++marks X))->kz w0 w'->
 (∀j,Sat j (L++FF)->kz w0 j->LeavesInM (C1 none) 0 P fn tmps R ds u j)->LeavesInM (C1 none) 0 P fn tmps R (X.map qh++ds) u w':=by
 intro X
 induction X with
 |nil=>intro w' g d h;exact h w' (by simpa[V.marks]using g) d
 |cons r X ih=>
  intro w' g d h;have q:(L++(FF++V.marks (r::X))).Perm (.obj r (.deferred (some []))::(L++(FF++V.marks X))):=by
   exact zCQ
  have m:=g.perm q;obtain⟨k1,k2⟩:=m.obj (QK ..);obtain⟨A,B⟩:=Sat.setObj (u:=.deferred none) m rfl;refine⟨s,.inl ⟨r,_,rfl,?_,ih _ (A.sub (Qh ..)) (d.trans B) h⟩⟩;exact zEJ
end
theorem ju.intro {P:Program}{G:Nat->List Nat}{H:Nat->List (List Nat)}{f:Nat}{F:aO}{args:List Value}{bx:SH}{Q:Value->SH->Prop}{Z:List PanicEntry->SH->Prop}(g:pC P G H f=some F)(O:args.length<=F.n)
 (h:VC P F.n F.body (aM 0 args) bx (ZY F.bO Q Z)):ju P f args bx Q Z:=by
 unfold pC at g;split at g
 .cases g
 rename_i fn I;split at g
 .cases g
 rename_i c E;split at g
 case isFalse=>cases g
 rename_i U;split at g
 case h_2=>cases g
 rename_i b r N S;cases g;refine⟨by simp only[wK,I,U,E];rfl,λFF w T=>?_⟩;refine(callsIn_wide (n:=0)).1 (callsIn_of_wp_marks I E trivial (h none G H c N _ w FF _ (λl e=>by cases e) ⟨?_,λt v e=>?_⟩ T (λe m w' J H' X q K B C D=>?_)))
 .simp at O|-;omega
 .exact zAQ
 .have j:∀e0,tG r Q e0 J H'->LeavesInM (C1 none) 0 P fn m.tmps (λe w'=>∃Post,((∃v,e=.returned v/\Q v Post)∨(∃d,e=.panicked d/\Z d Post))/\Sat w' (Post.flatten++FF)/\kz w w') m.defers .returning w':=by
   rintro e0 ⟨_,vs,Post,M,h2,A⟩
   have:=iJ (P:=P) (fn:=fn) (tmps:=m.tmps) (w0:=w) (FF:=FF) (L:=H'.flatten) (u:=.returning) (R:=λe w'=>∃Post,((∃v,e=.returned v/\Q v Post)∨(∃d,e=.panicked d/\Z d Post))/\Sat w' (Post.flatten++FF)/\kz w w') (ds:=[]) Zs X w' C D
    (λW s k=>⟨_,ir s S K M,Post,.inl ⟨_,rfl,A⟩,s.imp h2,k⟩)
   rw[B];exact this
  cases e with
  |normal=>exact j _ q
  |ret=>exact j _ q
  |panic d=>
   obtain⟨Post,h2,A⟩:=q;have:=iJ (P:=P) (fn:=fn) (tmps:=m.tmps) (w0:=w) (FF:=FF) (L:=H'.flatten) (u:=.panicking d) (R:=λe w'=>∃Post,((∃v,e=.returned v/\Q v Post)∨(∃d,e=.panicked d/\Z d Post))/\Sat w' (Post.flatten++FF)/\kz w w') (ds:=[]) Zs X w' C D
    (λW s k=>(⟨Post,.inr ⟨d,rfl,A⟩,s.imp h2,k⟩:∃Post,_))
   show LeavesInM _ _ _ _ _ _ m.defers _ _;rw[B];exact this
  |exit id=>exact absurd q.1 Zs
  |goto l=>exact absurd q.1 Zs
  |outgrown=>exact absurd q.1 Zs
def Ht(P:Program)(fv:Value)(args:List Value)(bx:SH)(Q:Value->SH->Prop)(Z:List PanicEntry->SH->Prop):Prop:=
 ∀F w,Sat w (bx.flatten++F)->Hw P fv args w λe w'=>∃Post,((∃v,e=.returned v/\Q v Post)∨(∃ch,e=.panicked ch/\Z ch Post))/\Sat w' (Post.flatten++F)/\kz w w'
theorem Ht.cB {P:Program}{f:Nat}{first cap:Array Value}{args:List Value}{bx:SH}{Q:Value->SH->Prop}{Z:List PanicEntry->SH->Prop}(h:ju P f (first.toList++args++cap.toList) bx Q Z):Ht P (.func (.func f) first cap) args bx Q Z:=by
 exact zCZ
theorem RT {P:Program}{n:Nat}{rs:List RO}{Γ:Env}{H:SH}{Z:List PanicEntry->Env->SH->Prop}{K:Env->SH->Prop}{d:Option Nat}{x:Operand}{q:Value}{xs:List Operand}{args:List Value}{bx R:SH}{Q:Value->SH->Prop}{Z':List PanicEntry->SH->Prop}
 (S:ev Γ x=some q) (J:Ht P q args bx Q Z') (j:nt Γ xs=some args) (hs:fJ H bx R)
 (h:∀v Post,Q v Post->VO P n rs (aq d v Γ) (Post++R) Z K) (Lg:∀ch Post,Z' ch Post->Z ch Γ (Post++R)):VO P n (⟨d,none,.rR x xs⟩::rs) Γ H Z K:=by
 intro l L a w F ZZ Q' ha lj hq hz;obtain⟨o,l',rfl,s6,ops,M⟩:=ze L;obtain⟨I,g2,g3,g4⟩:=jP M;show wJ P ZZ (_,o) (cH P ZZ Q' l') a w;unfold wJ;have N:kg (V.R.rR x xs)=false:=rfl;have O:jL (V.R.rR x xs)=false:=rfl;simp only[jK,N,O,if_true,vM,if_false];refine⟨λe=>(by cases e),?_⟩;obtain⟨c,B,C,h3⟩:=Em I;have hm:xs.map a.eval=args:=ha.nt j;have A:(c.args.map a.eval)=args.toArray:=by
  exact zEX
 have D:Sat w (bx.flatten++(R.flatten++F)):=by
  exact zDD
 have g:=J (R.flatten++F) w D;have fin:∀(e:Ending) (w':World),(∃Post,((∃v,e=.returned v/\Q v Post)∨(∃ch,e=.panicked ch/\Z' ch Post))/\Sat w' (Post.flatten++(R.flatten++F))/\kz w w')->
  (∃v,e=.returned v/\cH P ZZ Q' l' (a.put o.dst v) w')∨(∃ch,e=.panicked ch/\ZZ (.panic ch) a w'):=by
  exact zAT
 have s:a.eval x=q:=ha.ev S;unfold Hw at g;split at g
 .rename_i f first cap
  have m:(execOp a.eval o).run P w=.ok (.enter f (first++args.toArray++cap)) w:=by
   simp[execOp,B,resolve,C,s,Deferred.ofValue,invoke,A];rw[zn g.1]
  simp only[CW,m,jz];refine g.2.mono (λe w' j=>?_);rcases fin e w' j with⟨v,rfl,hv⟩|⟨ch,rfl,hv⟩ <;> exact hv
 .rename_i U first cap
  obtain⟨f,tmps,G,body,T,E⟩:=g;have m:(execOp a.eval o).run P w=.ok (.round U f tmps G body) w:=by
   simp[execOp,B,resolve,C,s,Deferred.ofValue,invoke,A];exact T
  simp only[CW,m,jz];refine E.mono (λe w' j=>?_);rcases fin e w' j with⟨v,rfl,hv⟩|⟨ch,rfl,hv⟩ <;> exact hv
 .exact g.elim
def upd {α:Type}(f:Int->α)(i:Int)(v:α):Int->α:=λk=>if k=i then v else f k
abbrev swp {α:Type}(f:Int->α)(i j:Int):Int->α:=upd (upd f i (f j)) j (f i)
inductive Sw {α:Type}(a b:Int)(f:Int->α):(Int->α)->Prop where
 |refl:Sw a b f f
 |step {g:Int->α} {i j:Int}:Sw a b f g->a<=i/\i < b->a<=j/\j < b->Sw a b f (swp g i j)
structure LtOk {α:Type}(lt:α->α->Bool):Prop where
 asymm:∀x y,lt x y=true->lt y x=false
 le_trans:∀x y z,lt y x=false->lt z y=false->lt z x=false
 eq:∀x y,lt x y=false->lt y x=false->x=y
section
variable {P:Program} {n:Nat} {rs:List RO} {Γ:Env} {H R:SH} {Z:List PanicEntry->Env->SH->Prop} {K:Env->SH->Prop} {d:Option Nat} {α:Type} {e:α->Value} {N b o:Nat} {f:Int->α}
end
section
variable {α:Type} {lt:α->α->Bool}
end
section
variable {α:Type} {lt:α->α->Bool}
end
section
variable {α:Type} {lt:α->α->Bool}
structure PI (lt:α->α->Bool)(a z i j:Int)(p:α)(g:Int->α):Prop where
 piv:g a=p
 less:∀k,a < k->k < i->lt (g k) p=true
 more:∀k,j < k->k < z->lt (g k) p=false
 lo:a+1<=i
 mid:i<=j+1
 hi:j < z
end
section
variable {α:Type} {lt:α->α->Bool}
end
section
variable {α:Type}
end
theorem ky.other {size n:Nat}{sv:Value}{us vs sp:List Value}(h:ky size sv n us sp)(d:vs.length=us.length):ky size sv n vs sp:=by
 cases h with
 |mk a1 a2 a3=>exact .mk Zo Zo a3
 |nil=>
  have:vs=[]:=vz (by simpa using d);subst this;exact .nil
structure Ch where
 kind:Int
 n:Int
 text:ByteArray
structure De where
 kind:Int
 handle:Int
 text:ByteArray
 to:ByteArray
 n:Int
 err:Int
structure Wr where
 seq:Int
 at_:Int
 text:ByteArray
 empty:Bool
structure FO where
 now:List UInt8
 base:List UInt8
 writes:List Wr
 nv:Value
 bv:Value
 wv:Value
 ns:List Value
 bs:List Value
 ws:List Value
structure HO where
 sX:Nat
 closed:Bool
 stale:Bool
 file:Option Nat
 mode:Int
 at_:Int
def chEnc(c:Ch):List Value:=[.int .u8 c.kind,vi c.n,.string c.text]
def deEnc(d:De):List Value:=[.int .u8 d.kind,vi d.handle,.string d.text,.string d.to,vi d.n,vi d.err]
def wrEnc(x:Wr):List Value:=[vi x.seq,vi x.at_,.string x.text,.bool x.empty]
def u8v(c:UInt8):Value:=.int .u8 c.toNat
def pf(f:Option Nat):Value:=.pointer (f.map λb=>⟨b,0,none⟩)
def hoEnc(h:HO):List Value:=[.bool h.closed,.bool h.stale,pf h.file,vi h.mode,vi h.at_]
def hoA(h:HO):List kC:=kA h.sX 0 (hoEnc h)
def foA(p:Nat×FO):List kC:=kA p.1 0 [p.2.nv,p.2.bv,p.2.wv]++(ao p.2.nv (p.2.now.map u8v) p.2.ns++(ao p.2.bv (p.2.base.map u8v) p.2.bs++ao p.2.wv (p.2.writes.flatMap wrEnc) p.2.ws))
structure WR where
 cv:Value
 lW:List Ch
 cC:List Value
 fm:Nat
 bM:Array MapEntry
 fc:Nat
 names:List (ByteArray×Nat)
 Dp:List (Nat×FO)
 hv:Value
 hs:List HO
 IF:List Value
 tv:Value
 trace:List De
 lM:List Value
 clock:Int
 seq:Int
 dead:Bool
abbrev Ki (w:WR):List Value:=[w.cv,.map (some w.fm),w.hv,w.tv,vi w.clock,vi w.seq,.bool w.dead]
abbrev WMem (t:Nat)(w:WR):SH:=
 [kA t 0 [w.cv,.map (some w.fm),w.hv,w.tv,vi w.clock,vi w.seq,.bool w.dead],ao w.cv (w.lW.flatMap chEnc) w.cC,[.obj w.fm (.map w.bM w.fc)],w.Dp.flatMap foA,ao w.hv (w.hs.map λh=>kE h.sX) w.IF,w.hs.flatMap hoA,ao w.tv (w.trace.flatMap deEnc) w.lM]
structure FOk (f:FO)(M:Nat):Prop where
 now:ky 1 f.nv f.now.length (f.now.map u8v) f.ns
 base:ky 1 f.bv f.base.length (f.base.map u8v) f.bs
 wr:ky 4 f.wv f.writes.length (f.writes.flatMap wrEnc) f.ws
 len:f.now.length<=4194304
 len2:f.base.length<=4194304
 many:f.writes.length<=M
 at_:∀x∈f.writes,0<=x.at_/\x.at_+x.text.size<=4194304
structure WOk (w:WR)(M:Nat):Prop where
 ch:ky 3 w.cv w.lW.length (w.lW.flatMap chEnc) w.cC
 fm:yK yc (λb:Nat=>kE b) w.bM w.fc w.names
 keys:(w.names.map (·.1)).Nodup
 blks:(w.Dp.map (·.1)).Nodup
 named:∀p∈w.names,p.2∈w.Dp.map (·.1)
 fo:∀p∈w.Dp,FOk p.2 M
 hv:ky 1 w.hv w.hs.length (w.hs.map λh=>kE h.sX) w.IF
 hfile:∀h∈w.hs,∀b,h.file=some b->b∈w.Dp.map (·.1)
 Y0:∀h∈w.hs,0<=h.at_/\h.at_<=4194304
 bH:w.hs.length<=M
 tr:ky 6 w.tv w.trace.length (w.trace.flatMap deEnc) w.lM
 trmany:w.trace.length<=M
 seq:0<=w.seq/\w.seq<=M
 clock:0<=w.clock/\w.clock<=1000000000000000000
 files:w.names.length<=1073741823
 chmany:w.lW.length<=65536
def yw(K:List RO->Prop):List (List RO)->Prop
 |[]=>True
 |rs::r=>K rs/\yw K r
theorem yw.mem {K:List RO->Prop}:∀{d:List (List RO)},yw K d->∀rs∈d,K rs:=by
 intro d
 induction d with
 |nil=>intro _ rs h;cases h
 |cons a r ih=>
  intro h rs hm;rcases QI.1 hm with rfl|hm
  .exact h.1
  .exact ih h.2 rs hm
theorem VC.draws {P:Program}{n:Nat}{Γ:Env}{H:SH}{Q:Exit->Env->SH->Prop}{g:List (List RO)}{d:List Nat}(h:yw (λrs=>VO P n rs Γ H (λ_ _ _=>False) λj H'=>Q .normal (aT d j) H') g):VC P n (.draw g d) Γ H Q:=VC.draw h.mem
theorem VC.oZ {P:Program}{n:Nat}{Γ:Env}{H:SH}{Q:Exit->Env->SH->Prop}{q:List (List RO)}{g:List Nat}{y:IC}{α:Type}(bg:α->Env)(Hf:α->SH)(I:α->Prop)
 (h:yw (λrs=>VO P n rs Γ H (λ_ _ _=>False) λd H'=>∃s,I s/\Sub (aT g d) (bg s)/\ai H' (Hf s)) q) (A:∀s,I s->VC P n y (bg s) (Hf s) Q):VC P n (.seq (.draw q g) y) Γ H Q:=by
 refine VC.seq (VC.draws ?_);have j:∀{l:List (List RO)},yw (λrs=>VO P n rs Γ H (λ_ _ _=>False) λd H'=>∃s,I s/\Sub (aT g d) (bg s)/\ai H' (Hf s)) l->
  yw (λrs=>VO P n rs Γ H (λ_ _ _=>False) λd H'=>VC P n y (aT g d) H' Q) l:=by
  intro l
  induction l with
  |nil=>intro _;trivial
  |cons a r ih=>
   intro m;exact⟨m.1.mono (λd H' ⟨s,B,C,i3⟩=>VC.sub C (VC.imp i3 (A s B))),ih m.2⟩
 exact j h
section
variable {P:Program} {n:Nat} {rs:List RO} {Γ:Env} {H:SH} {Z:List PanicEntry->Env->SH->Prop} {K:Env->SH->Prop} {d:Option Nat}
theorem sO {r:R}{s:Nat}{b c:Bool}(h:look Γ s=some (.bool c))(j:c=true->VO P n (⟨d,some (s,b),r⟩::rs) ((s,.bool true)::Γ) H Z K)(g:c=false->VO P n (⟨d,some (s,b),r⟩::rs) ((s,.bool false)::Γ) H Z K):
 VO P n (⟨d,some (s,b),r⟩::rs) Γ H Z K:=NM h j g
theorem sS {s:Nat}{x y:Operand}{c:Bool}(h:look Γ s=some (.bool c))(j:c=true->VO P n (⟨d,none,.pick (.tmp s) x y⟩::rs) ((s,.bool true)::Γ) H Z K)(g:c=false->VO P n (⟨d,none,.pick (.tmp s) x y⟩::rs) ((s,.bool false)::Γ) H Z K):
 VO P n (⟨d,none,.pick (.tmp s) x y⟩::rs) Γ H Z K:=NM h j g
end
def fw(s:ByteArray):List Value:=s.data.toList.map λc=>.int .u8 c.toNat
section
variable {P:Program} {n:Nat} {rs:List RO} {Γ:Env} {H:SH} {Z:List PanicEntry->Env->SH->Prop} {K:Env->SH->Prop} {d:Option Nat}
end
def setObj(Dp:List (Nat×FO))(b:Nat)(fo:FO):List (Nat×FO):=Dp.map λp=>if p.1=b then(b,fo)else p
structure AF where
 now:List UInt8
 base:List UInt8
 writes:List Wr
structure AW where
 lW:List Ch
 names:List (ByteArray×Nat)
 files:List AF
 hs:List HO
 trace:List De
 clock:Int
 seq:Int
 dead:Bool
def foF(f:FO):AF:=⟨f.now,f.base,f.writes⟩
def ho0(h:HO):HO:={h with sX:=0}
def hoB(B:List Nat)(h:HO):HO:={h with sX:=0,file:=h.file.map λi=>B.getD i 0}
structure Rep (w:WR)(a:AW)(M:Nat):Prop where
 ch:w.lW=a.lW
 tr:w.trace=a.trace
 clock:w.clock=a.clock
 seq:w.seq=a.seq
 dead:w.dead=a.dead
 names:w.names=a.names.map λp=>(p.1,(w.Dp.map (·.1)).getD p.2 0)
 nin:∀p∈a.names,p.2 < a.files.length
 files:w.Dp.map (λp=>foF p.2)=a.files
 hs:w.hs.map ho0=a.hs.map (hoB (w.Dp.map (·.1)))
 aR:∀h∈a.hs,∀i,h.file=some i->i < a.files.length
 ok:WOk w M
section
variable {w:WR} {a:AW} {M:Nat}
end
def ftxt(l:List UInt8):ByteArray:=⟨l.toArray⟩
section
variable {P:Program} {n:Nat} {Γ:Env} {H:SH} {Q:Exit->Env->SH->Prop}
theorem VO.know {rs:List RO}{Z:List PanicEntry->Env->SH->Prop}{K:Env->SH->Prop}{φ:Prop}(h:∀w F,Sat w (H.flatten++F)->φ)(k:φ->VO P n rs Γ H Z K):VO P n rs Γ H Z K:=by
 intro l m a w F g Q j d q s;exact k (h w F d) l m a w F g Q j d q s
end
theorem I3 {α:Type}(l:Array α)(x:α)(f:α->α):(l.push x).modify l.size f=l.push (f x):=by
 apply Array.ext
 .simp
 .intro i d h2;simp only[Array.getElem_modify,Array.getElem_push];by_cases hi:i < l.size
  .simp[hi,Nat.ne_of_gt hi]
  .have:l.size=i:=by simp at d;omega
   simp[hi,this]
section
variable {P:Program}
theorem Yg {H:List kC}{c:Array Value}{t:TypeId}{K:Addr->List kC->Prop}(h:∀b,K ⟨b,0,none⟩ (kA b 0 c.toList++H)):aL P (do let a <- newRow t c;markStringish a;pure a) H K:=by
 intro F w s;obtain⟨B,C⟩:=s.push (.cells c t (c.size,c.size+1)) (kA w.heap.size 0 c.toList) (λx A=>by
  obtain⟨i,v,d,rfl⟩:=kJ.1 A;refine⟨rfl,c,t,c.size,c.size+1,Zs,by simpa using d,?_⟩;have:=(Vt.1 d).1;simp at this|-;omega) (ej _ _ _)
 refine⟨⟨w.heap.size,0,none⟩,_,_,?_,h _,by rw[vm];exact B,C⟩;have j:({w with heap:=w.heap.push (.cells c t)}:World).shape? w.heap.size=some (t,c.size):=by simp[World.shape?]
 have g:({w with heap:=w.heap.push (.cells c t)}:World).freeze ⟨w.heap.size,c.size,none⟩ 1={w with heap:=w.heap.push (.cells c t (c.size,c.size+1))}:=by
  simp[World.freeze,I3]
 have m:(Go.newRow t c).run P w=.ok ⟨w.heap.size,0,none⟩ {w with heap:=w.heap.push (.cells c t)}:=by
  simp[Go.newRow,Go.newObj,Sem.run]
 have q:(markStringish ⟨w.heap.size,0,none⟩).run P {w with heap:=w.heap.push (.cells c t)}=.ok () {w with heap:=w.heap.push (.cells c t (c.size,c.size+1))}:=by
  rw[<- g];unfold markStringish;simp only[Go.shape,Sem.run_bind,Sem.run,j,Result.andThen_ok,Go.freeze]
 simp only[Sem.run_bind,m,q,Result.andThen_ok,Sem.run_pure]
theorem swp_s2b {H:List kC}{t:TypeId}{s:ByteArray}{K:Value->List kC->Prop}(h:∀b cap,s.size<=cap->K (.slice (some ⟨b,0,none⟩) s.size cap) (kA b 0 (fw s++List.replicate (cap - s.size) (.int .u8 0))++H)):aL P (Conv.stringToBytes t s) H K:=by
 have fin:∀cap,s.size<=cap->aL P (do
  let a <- newRow t (s.data.map (λb=>Value.int .u8 b.toNat)++Array.replicate (cap - s.size) (.int .u8 0))
  markStringish a
  pure (Value.slice (some a) s.size cap)) H K:=by
  intro cap d;have:=Yg (P:=P) (H:=H) (c:=s.data.map (λb=>Value.int .u8 b.toNat)++Array.replicate (cap - s.size) (.int .u8 0)) (t:=t) (K:=λa L=>K (.slice (some a) s.size cap) L) (λb=>by
   have:=h b cap d;simpa[fw]using this)
  have g:=aL.bind (f:=λa=>(pure (Value.slice (some a) s.size cap):Sem Value)) (this.mono (λa L j=>aL.pure j));simpa using g
 unfold Conv.stringToBytes;refine aL.bind (aL.choose (λm=>by simp[Question.forced]at m) (λt'=>?_));simp only[Question.cut];exact fin _ Zo
end
def E5(H:SH):Value->List UInt8->Prop
 |.slice (some ⟨b,o,none⟩) k _,l=>k=l.length/\∀a∈kA b o (l.map u8v),a∈H.flatten
 |.slice none _ _,l=>l=[]
 |_,_=>False
theorem W9(c:UInt8):UInt8.ofNat (((c.toNat:Nat):Int).toNat)=c:=by simp
theorem XO {P:Program}{w:World}{f:Value->ByteArray->Sem (ForInStep ByteArray)}(g:∀(c:UInt8) r,f (u8v c) r=pure (ForInStep.yield (r.push (UInt8.ofNat ((c.toNat:Int)).toNat)))):∀(l:List UInt8) (d:ByteArray),(forIn (l.map u8v) d f).run P w=.ok ⟨d.data++l.toArray⟩ w:=by
 intro l
 induction l with
 |nil=>intro d;simp
 |cons c l ih=>
  intro d;have:=ih (d.push c);rw[QD,List.forIn_cons,g,Sem.run_bind,Sem.run_pure,Result.andThen_ok];simp only[W9];rw[this];simp[ByteArray.push]
theorem run_b2s {P:Program}{H:SH}{d:Value}{l:List UInt8}{F:List kC}{w:World}(h:E5 H d l)(q:Sat w (H.flatten++F)):(Conv.bytesToString d).run P w=.ok (.string (ftxt l)) w:=by
 unfold E5 at h;split at h
 .obtain⟨rfl,j⟩:=h;have g:=run_loadCells (P:=P) (m:=l.length) (us:=l.map u8v) Zs j q;unfold Conv.bytesToString;simp only[Sem.run_bind,g,Result.andThen_ok];rw[List.forIn_toArray];rw[XO (λc r=>rfl)];simp[ftxt]
 .subst h;unfold Conv.bytesToString;rfl
 .exact h.elim
section
variable {P:Program} {n:Nat} {rs:List RO} {Γ:Env} {H:SH} {Z:List PanicEntry->Env->SH->Prop} {K:Env->SH->Prop} {d:Option Nat}
theorem st_b2s {x:Operand}{g:Value}{l:List UInt8}(s:ev Γ x=some g)(m:E5 H g l)(h:VO P n rs (aq d (.string (ftxt l)) Γ) H Z K):VO P n (⟨d,none,.b2s x⟩::rs) Γ H Z K:=
 VO.read rfl rfl (λρ j=>⟨_,rfl,λF w q=>by
  rw[j _ _ s];simp[run_b2s m q]⟩) h
theorem st_s2b {t:TypeId}{x:Operand}{s:ByteArray}(m:ev Γ x=some (.string s))(h:∀sv sp,ky 1 sv s.size (fw s) sp->VO P n rs (aq d sv Γ) (ao sv (fw s) sp::H) Z K):VO P n (⟨d,none,.s2b t x⟩::rs) Γ H Z K:=by
 refine VO.act rfl rfl (λρ j=>⟨_,rfl,?_⟩);rw[j _ _ m];refine aL.bind (swp_s2b (λb cap g=>aL.pure ?_));refine⟨_,ao (.slice (some ⟨b,0,none⟩) s.size cap) (fw s) (List.replicate (cap - s.size) (.int .u8 0))::H,.inl rfl,by simp[ao],h _ _ (.mk (by simp[fw]) (by simp[fw];omega) g)⟩
end
section
variable {P:Program} {n:Nat} {rs:List RO} {Γ:Env} {H:SH} {Z:List PanicEntry->Env->SH->Prop} {K:Env->SH->Prop} {d:Option Nat}
end
section
variable {κ α β:Type} [DecidableEq κ] {g:α->β} {k:κ}
end
section
variable {w:WR} {a:AW} {M:Nat}
end
structure Seen {β:Type}(es:Array MapEntry)(l:List (ByteArray×β))(seen:Array Nat)(C:List (ByteArray×β)):Prop where
 nodup:(C.map (·.1)).Nodup
 mem:∀p∈C,p∈l
 seen:∀e∈es.toList,(e.born∈seen.toList↔∃p∈C,e.key=.string p.1)
section
variable {β:Type} {Vf:β->Value} {es:Array MapEntry} {c:Nat} {l:List (ByteArray×β)}
end
abbrev uv (n:Nat):Value:=.int .u64 n
abbrev cv (n:Nat):Value:=.int .u8 n
theorem YH {n:Nat}:IntKind.u64.wrap (n:Int)=((n % 18446744073709551616:Nat):Int):=by
 simp only[IntKind.wrap,IntKind.bits,IntKind.signed];simp
theorem gZ {n:Nat}(h:n < 18446744073709551616):IntKind.u64.wrap (n:Int)=(n:Int):=by
 rw[YH,Nat.mod_eq_of_lt h]
theorem wrapB {n:Nat}:IntKind.u8.wrap (n:Int)=((n % 256:Nat):Int):=by
 simp only[IntKind.wrap,IntKind.bits,IntKind.signed];simp
theorem oC {n:Nat}(h:n < 256):IntKind.u8.wrap (n:Int)=(n:Int):=by
 rw[wrapB,Nat.mod_eq_of_lt h]
theorem J9 {n:Nat}(h:n < 9223372036854775808):IntKind.i64.wrap (n:Int)=(n:Int):=wrap64 ⟨Zo,Zo⟩
theorem bvN {n:Nat}(h:n < 18446744073709551616):(BitVec.ofInt 64 (n:Int)).toNat=n:=by
 rw[BitVec.toNat_ofInt];omega
theorem powI(b:Nat):((2:Int) ^ b)=((2 ^ b:Nat):Int):=by push_cast;rfl
theorem shrU {k:IntKind}{a b:Nat}(g:b<=64):y9 .shr (uv a) (.int k (b:Int))=some (uv (a / 2 ^ b)):=by
 have d:¬((b:Int) < 0):=by omega
 simp only[y9,nY,d,if_false,IntKind.bits,vX,Nat.min_eq_left g,powI];rw[Int.fdiv_eq_ediv_of_nonneg _ (Int.natCast_nonneg _)]
 push_cast;rfl
theorem shlU {k:IntKind}{a b:Nat}(g:b<=64):y9 .shl (uv a) (.int k (b:Int))=some (uv (a*2 ^ b % 18446744073709551616)):=by
 have d:¬((b:Int) < 0):=by omega
 simp only[y9,nY,d,if_false,IntKind.bits,vX,Nat.min_eq_left g,powI];rw[show((a:Int)*((2 ^ b:Nat):Int))=((a*2 ^ b:Nat):Int) by push_cast;rfl,YH]
theorem andU {a b:Nat}(d:a < 18446744073709551616)(g:b < 18446744073709551616):y9 .and (uv a) (uv b)=some (uv (a&&&b)):=by
 show(if IntKind.u64=IntKind.u64 then some (Value.int .u64 (IntKind.u64.wrap ((BitVec.ofInt 64 (a:Int)&&&BitVec.ofInt 64 (b:Int)).toNat:Int)))else none)=_;rw[if_pos rfl,BitVec.toNat_and,bvN d,bvN g];rw[gZ (Nat.lt_of_le_of_lt Nat.and_le_left d)]
theorem orU {a b:Nat}(d:a < 18446744073709551616)(g:b < 18446744073709551616):y9 .or (uv a) (uv b)=some (uv (a|||b)):=by
 show(if IntKind.u64=IntKind.u64 then some (Value.int .u64 (IntKind.u64.wrap ((BitVec.ofInt 64 (a:Int)|||BitVec.ofInt 64 (b:Int)).toNat:Int)))else none)=_;rw[if_pos rfl,BitVec.toNat_or,bvN d,bvN g];rw[gZ (Nat.or_lt_two_pow (n:=64) d g)]
def andN(a b:Nat):Nat:=a&&&(18446744073709551615 - b)
theorem ZF {a b:Nat}(d:a < 18446744073709551616):andN a b < 18446744073709551616:=Nat.lt_of_le_of_lt Nat.and_le_left d
theorem andNU {a b:Nat}(d:a < 18446744073709551616)(g:b < 18446744073709551616):y9 .andNot (uv a) (uv b)=some (uv (andN a b)):=by
 show(if IntKind.u64=IntKind.u64 then some (Value.int .u64 (IntKind.u64.wrap ((BitVec.ofInt 64 (a:Int)&&&~~~ BitVec.ofInt 64 (b:Int)).toNat:Int)))else none)=_;rw[if_pos rfl,BitVec.toNat_and,BitVec.toNat_not,bvN d,bvN g];rw[show(2 ^ 64 - 1 - b)=18446744073709551615 - b by omega];rw[gZ (Nat.lt_of_le_of_lt Nat.and_le_left d)];rfl
theorem subU {a b:Nat}(h:b<=a):y9 .sub (uv a) (uv b)=some (uv ((a - b) % 18446744073709551616)):=by
 simp only[y9,nY,if_true];rw[show((a:Int) - (b:Int))=((a - b:Nat):Int) by omega,YH]
section
variable {P:Program} {n:Nat} {rs:List RO} {Γ:Env} {H:SH} {Z:List PanicEntry->Env->SH->Prop} {K:Env->SH->Prop} {d:Option Nat}
theorem gW {op:BinOp}{x y:Operand}{u v w:Value}(m:ev Γ x=some u)(q:ev Γ y=some v)(j:y9 op u v=some w)(h:VO P n rs (aq d w Γ) H Z K):VO P n (⟨d,none,.bin op x y⟩::rs) Γ H Z K:=
 VO.pure rfl (λρ g=>by simp[kW,g _ _ m,g _ _ q,j]) h
theorem Zx {c:Int}(h:0<=c):Value.int .u64 c=uv c.toNat:=by
 show Value.int .u64 c=Value.int .u64 ((c.toNat:Nat):Int);rw[vY h]
theorem G2 {x y:Operand}{k:IntKind}{j g:Int}{a b m r:Nat}(q:ev Γ x=some (.int .u64 j))(s:ev Γ y=some (.int k g))(E:0<=j)(hb:0<=g/\g<=64)(A:j.toNat=a)(B:g.toNat=b)(C:2 ^ b=m)(D:a / m=r)
 (h:VO P n rs (aq d (uv r) Γ) H Z K):VO P n (⟨d,none,.bin .shr x y⟩::rs) Γ H Z K:=by
 subst D C B A;rw[Zx E]at q;rw[show g=((g.toNat:Nat):Int) by omega]at s;exact gW q s (shrU Zo) h
theorem G1 {x y:Operand}{k:IntKind}{j g:Int}{a b m r:Nat}(q:ev Γ x=some (.int .u64 j))(s:ev Γ y=some (.int k g))(E:0<=j)(hb:0<=g/\g<=64)(A:j.toNat=a)(B:g.toNat=b)(C:2 ^ b=m)(D:a*m % 18446744073709551616=r)
 (h:VO P n rs (aq d (uv r) Γ) H Z K):VO P n (⟨d,none,.bin .shl x y⟩::rs) Γ H Z K:=by
 subst D C B A;rw[Zx E]at q;rw[show g=((g.toNat:Nat):Int) by omega]at s;exact gW q s (shlU Zo) h
theorem GV {x y:Operand}{g j:Int}{a b r:Nat}(m:ev Γ x=some (.int .u64 g))(q:ev Γ y=some (.int .u64 j))(C:0<=g/\g < 18446744073709551616)(D:0<=j/\j < 18446744073709551616)(s:g.toNat=a)(A:j.toNat=b)(B:a&&&b=r)
 (h:VO P n rs (aq d (uv r) Γ) H Z K):VO P n (⟨d,none,.bin .and x y⟩::rs) Γ H Z K:=by
 subst B A s;rw[Zx C.1]at m;rw[Zx D.1]at q;exact gW m q (andU Zo Zo) h
theorem NP {x y:Operand}{g j:Int}{a b r:Nat}(m:ev Γ x=some (.int .u64 g))(q:ev Γ y=some (.int .u64 j))(C:0<=g/\g < 18446744073709551616)(D:0<=j/\j < 18446744073709551616)(s:g.toNat=a)(A:j.toNat=b)(B:a|||b=r)
 (h:VO P n rs (aq d (uv r) Γ) H Z K):VO P n (⟨d,none,.bin .or x y⟩::rs) Γ H Z K:=by
 subst B A s;rw[Zx C.1]at m;rw[Zx D.1]at q;exact gW m q (orU Zo Zo) h
theorem yk {x y:Operand}{g j:Int}{a b:Nat}(m:ev Γ x=some (.int .u64 g))(q:ev Γ y=some (.int .u64 j))(B:0<=g/\g < 18446744073709551616)(C:0<=j/\j < 18446744073709551616)(s:g.toNat=a)(A:j.toNat=b)
 (h:VO P n rs (aq d (uv (andN a b)) Γ) H Z K):VO P n (⟨d,none,.bin .andNot x y⟩::rs) Γ H Z K:=by
 subst A s;rw[Zx B.1]at m;rw[Zx C.1]at q;exact gW m q (andNU Zo Zo) h
theorem yp {x y:Operand}{g j:Int}{a b:Nat}(m:ev Γ x=some (.int .u64 g))(q:ev Γ y=some (.int .u64 j))(B:0<=j/\j<=g)(ha:g < 18446744073709551616)(s:g.toNat=a)(A:j.toNat=b)
 (h:VO P n rs (aq d (uv (a - b)) Γ) H Z K):VO P n (⟨d,none,.bin .sub x y⟩::rs) Γ H Z K:=by
 subst A s;rw[Zx Zo]at m;rw[Zx B.1]at q;refine gW m q ?_ h;rw[subU Zo,Nat.mod_eq_of_lt Zo]
theorem x9 {x y:Operand}{g j:Int}{a b:Nat}(A:ev Γ x=some (.int .u8 g))(B:ev Γ y=some (.int .u8 j))(ha:0<=g)(hb:0<=j)(s:g+j < 256)(m:g.toNat=a)(q:j.toNat=b)
 (h:VO P n rs (aq d (cv (a+b)) Γ) H Z K):VO P n (⟨d,none,.bin .add x y⟩::rs) Γ H Z K:=by
 subst q m;refine gW A B ?_ h;simp only[y9,nY,if_true];rw[show g+j=((g.toNat+j.toNat:Nat):Int) by omega,oC Zo]
theorem orC {a b:Nat}(d:a < 18446744073709551616)(g:b < 18446744073709551616):a|||b < 18446744073709551616:=Nat.or_lt_two_pow (n:=64) d g
theorem ltB {a:Nat}(ha:a < 18446744073709551616):0<=((a:Nat):Int)/\((a:Nat):Int) < 18446744073709551616:=by omega
theorem divC {a b:Nat}(h:a < 18446744073709551616):a / b < 18446744073709551616:=Nat.lt_of_le_of_lt (Nat.div_le_self _ _) h
theorem modM {x:Nat}:x % 18446744073709551616 < 18446744073709551616:=Nat.mod_lt _ Zd
theorem ltM {x:Nat}:0<=((x % 18446744073709551616:Nat):Int)/\((x % 18446744073709551616:Nat):Int) < 18446744073709551616:=ltB modM
theorem ZD(a:Nat):a&&&1=a % 2:=Qq a 1
theorem ZE(a:Nat):a&&&7=a % 8:=Qq a 3
theorem MM(a:Nat):a&&&15=a % 16:=Qq a 4
theorem yo {x y:Operand}{j g:Int}{a b:Nat}(B:ev Γ x=some (.int .i64 j))(C:ev Γ y=some (.int .i64 g))(m:0<=j)(hb:0 < g)(q:j.toNat=a)(s:g.toNat=b)(h:VO P n rs (aq d (vi ((a % b:Nat):Int)) Γ) H Z K):VO P n (⟨d,none,.bin .rem x y⟩::rs) Γ H Z K:=by
 refine gW B C ?_ h;subst q s;have A:¬(g=0):=by omega
 simp only[y9,nY,ne_eq,A,not_false_eq_true,and_self,if_true];rw[Int.tmod_eq_emod_of_nonneg m]
 congr 2
 push_cast
 rw[vY m,vY Zo]
theorem yn {x y:Operand}{g j:Int}{a b:Nat}(B:ev Γ x=some (.int .i64 g))(C:ev Γ y=some (.int .i64 j))(m:0<=g/\g < 9223372036854775808)(hb:0 < j)(q:g.toNat=a)(s:j.toNat=b)(h:VO P n rs (aq d (vi ((a / b:Nat):Int)) Γ) H Z K):VO P n (⟨d,none,.bin .quo x y⟩::rs) Γ H Z K:=by
 refine gW B C ?_ h;subst q s;have A:¬(j=0):=by omega
 simp only[y9,nY,ne_eq,A,not_false_eq_true,and_self,if_true];rw[Int.tdiv_eq_ediv_of_nonneg m.1];have e:g / j=((g.toNat / j.toNat:Nat):Int):=by
  push_cast;rw[vY m.1,vY Zo]
 rw[e,J9 (Nat.lt_of_le_of_lt (Nat.div_le_self _ _) Zo)]
theorem sN {k m:IntKind}{x:Operand}{a:Nat}(j:ev Γ x=some (.int m (a:Int)))(g:k.wrap (a:Int)=(a:Int))(h:VO P n rs (aq d (.int k (a:Int)) Γ) H Z K):VO P n (⟨d,none,.conv k x⟩::rs) Γ H Z K:=st_conv j g h
end
def bitAt(st:List Nat)(w:Nat):Bool:=(st.getD (w / 64) 0).testBit (w % 64)
section
variable {P:Program} {n:Nat} {rs:List RO} {Γ:Env} {H:SH} {Z:List PanicEntry->Env->SH->Prop} {K:Env->SH->Prop} {d:Option Nat}
end
section
variable {P:Program} {n:Nat} {rs:List RO} {Γ:Env} {H:SH} {Z:List PanicEntry->Env->SH->Prop} {K:Env->SH->Prop} {d:Option Nat}
theorem kL {f:Nat}{xs:List Operand}{args:List Value}{w:Value}(j:au P f args [] (λv Post=>v=w/\Post=[]))(g:nt Γ xs=some args)(h:VO P n rs (aq d w Γ) H Z K):VO P n (⟨d,none,.call f xs⟩::rs) Γ H Z K:=by
 refine kH j g fJ.nil (λv Post m=>?_);obtain⟨rfl,rfl⟩:=m;exact h
end
theorem ae {R G:Prop}(r:R)(h:SJ R->G:=by
 intro d
 (repeat (first
   |(first
   |(apply sP;rfl)
   |(apply G2;rfl;rfl;omega;omega;exact Zi;exact Zi;(first|assumption|((try simp only[Nat.reducePow]);rfl));rfl)
   |(apply G1;rfl;rfl;omega;omega;exact Zi;exact Zi;(first|assumption|((try simp only[Nat.reducePow]);rfl));rfl)
   |(apply GV;rfl;rfl;exact Zl;exact Zl;exact Zi;exact Zi;(first|exact ZD _|exact ZE _|exact MM _|rfl))
   |(apply NP;rfl;rfl;exact Zl;exact Zl;exact Zi;exact Zi;rfl)
   |(apply yk;rfl;rfl;exact Zl;exact Zl;exact Zi;exact Zi)
   |(apply yp;rfl;rfl;omega;omega;exact Zi;exact Zi)
   |(apply x9;rfl;rfl;omega;omega;omega;exact Zi;exact Zi)
   |(apply sN;rfl;(first|exact J9 Zo|exact gZ Zo|exact oC Zo))
   |(apply yn;rfl;rfl;omega;omega;exact Zi;exact Zi)
   |(apply yo;rfl;rfl;omega;omega;exact Zi;exact Zi)
   |(apply EX;rfl;rfl)
   |(apply JQ;rfl)
   |(apply sR;rfl)
   |(apply GZ;rfl)
   |(apply lJ;rfl;rfl)
   |(apply lI;rfl;rfl)
   |(apply z8;rfl;exact Zz)
   |(apply jg;rfl;exact Zh)
   |(apply jg;rfl;exact Zm)
   |(apply yC;rfl;exact YV)
   |(apply yl;rfl;rfl)
   |(apply GW;rfl;rfl)
   |(apply GQ;rfl;rfl;omega)
   |(apply G3;rfl;rfl;omega)
   |(apply GY;rfl;rfl;omega)
   |(apply G0;rfl;rfl;decide)
   |(apply sQ;rfl;rfl;omega;exact Zz)
   |(apply ym;rfl;rfl;omega;exact Zz)
   |(apply sM;rfl;(focus (simp only[Zn,Value.cells,X2,Nat.reduceEqDiff,↓reduceIte,eq_self,Nat.reduceAdd,Nat.reduceSub,Qz,Nat.reduceLeDiff,Qt,and_self,rep,jB] <;> rfl)))
   |(apply yX;rfl;rfl;(focus (simp only[Zn,Value.cells,X2,Nat.reduceEqDiff,↓reduceIte,eq_self,Nat.reduceAdd,Nat.reduceSub,Qz,Nat.reduceLeDiff,Qt,and_self,rep,jB] <;> rfl));rfl;rfl;exact Zac)
   |(apply o6;rfl;rfl;rfl))
    |(refine VO.nil ?_;simp only[V.aM,V.aT,V.look,V.aq,V.bK,V.bG,X2,Nat.reduceAdd,Nat.reduceEqDiff,↓reduceIte,eq_self])
    |refine VC.x8 ?_
    |refine VC.oY ?_
    |refine VC.GL ?_
    |refine VC.oX ?_
    |refine VC.sI ?_
    |refine VC.mY ?_
    |refine VC.DT ?_
    |refine VC.block ?_
    |(refine VC.skip ?_;try simp only[V.aM,V.aT,V.look,V.aq,V.bK,V.bG,X2,Nat.reduceAdd,Nat.reduceEqDiff,↓reduceIte,eq_self])
    |(refine VC.exit ?_;try simp only[V.aM,V.aT,V.look,V.aq,V.bK,V.bG,X2,Nat.reduceAdd,Nat.reduceEqDiff,↓reduceIte,eq_self])
    |(refine VC.ret ?_;try simp only[V.bK,V.bG])
    |(apply VC.mw;rfl)
    |(apply VC.mu;rfl)
    |(apply VC.tB;rfl)
    |(apply VC.tA;rfl)))
 exact d.out):G:=h ⟨r⟩
theorem ZB {R G:Prop}(r:R)(h:SJ R->G:=by
 intro d
 (first
   |(first
   |(apply sP;rfl)
   |(apply G2;rfl;rfl;omega;omega;exact Zi;exact Zi;(first|assumption|((try simp only[Nat.reducePow]);rfl));rfl)
   |(apply G1;rfl;rfl;omega;omega;exact Zi;exact Zi;(first|assumption|((try simp only[Nat.reducePow]);rfl));rfl)
   |(apply GV;rfl;rfl;exact Zl;exact Zl;exact Zi;exact Zi;(first|exact ZD _|exact ZE _|exact MM _|rfl))
   |(apply NP;rfl;rfl;exact Zl;exact Zl;exact Zi;exact Zi;rfl)
   |(apply yk;rfl;rfl;exact Zl;exact Zl;exact Zi;exact Zi)
   |(apply yp;rfl;rfl;omega;omega;exact Zi;exact Zi)
   |(apply x9;rfl;rfl;omega;omega;omega;exact Zi;exact Zi)
   |(apply sN;rfl;(first|exact J9 Zo|exact gZ Zo|exact oC Zo))
   |(apply yn;rfl;rfl;omega;omega;exact Zi;exact Zi)
   |(apply yo;rfl;rfl;omega;omega;exact Zi;exact Zi)
   |(apply EX;rfl;rfl)
   |(apply JQ;rfl)
   |(apply sR;rfl)
   |(apply GZ;rfl)
   |(apply lJ;rfl;rfl)
   |(apply lI;rfl;rfl)
   |(apply z8;rfl;exact Zz)
   |(apply jg;rfl;exact Zh)
   |(apply jg;rfl;exact Zm)
   |(apply yC;rfl;exact YV)
   |(apply yl;rfl;rfl)
   |(apply GW;rfl;rfl)
   |(apply GQ;rfl;rfl;omega)
   |(apply G3;rfl;rfl;omega)
   |(apply GY;rfl;rfl;omega)
   |(apply G0;rfl;rfl;decide)
   |(apply sQ;rfl;rfl;omega;exact Zz)
   |(apply ym;rfl;rfl;omega;exact Zz)
   |(apply sM;rfl;(focus (simp only[Zn,Value.cells,X2,Nat.reduceEqDiff,↓reduceIte,eq_self,Nat.reduceAdd,Nat.reduceSub,Qz,Nat.reduceLeDiff,Qt,and_self,rep,jB] <;> rfl)))
   |(apply yX;rfl;rfl;(focus (simp only[Zn,Value.cells,X2,Nat.reduceEqDiff,↓reduceIte,eq_self,Nat.reduceAdd,Nat.reduceSub,Qz,Nat.reduceLeDiff,Qt,and_self,rep,jB] <;> rfl));rfl;rfl;exact Zac)
   |(apply o6;rfl;rfl;rfl))
    |(refine VO.nil ?_;simp only[V.aM,V.aT,V.look,V.aq,V.bK,V.bG,X2,Nat.reduceAdd,Nat.reduceEqDiff,↓reduceIte,eq_self])
    |refine VC.x8 ?_
    |refine VC.oY ?_
    |refine VC.GL ?_
    |refine VC.oX ?_
    |refine VC.sI ?_
    |refine VC.mY ?_
    |refine VC.DT ?_
    |refine VC.block ?_
    |(refine VC.skip ?_;try simp only[V.aM,V.aT,V.look,V.aq,V.bK,V.bG,X2,Nat.reduceAdd,Nat.reduceEqDiff,↓reduceIte,eq_self])
    |(refine VC.exit ?_;try simp only[V.aM,V.aT,V.look,V.aq,V.bK,V.bG,X2,Nat.reduceAdd,Nat.reduceEqDiff,↓reduceIte,eq_self])
    |(refine VC.ret ?_;try simp only[V.bK,V.bG])
    |(apply VC.mw;rfl)
    |(apply VC.mu;rfl)
    |(apply VC.tB;rfl)
    |(apply VC.tA;rfl))
 (repeat (first
   |(first
   |(apply sP;rfl)
   |(apply G2;rfl;rfl;omega;omega;exact Zi;exact Zi;(first|assumption|((try simp only[Nat.reducePow]);rfl));rfl)
   |(apply G1;rfl;rfl;omega;omega;exact Zi;exact Zi;(first|assumption|((try simp only[Nat.reducePow]);rfl));rfl)
   |(apply GV;rfl;rfl;exact Zl;exact Zl;exact Zi;exact Zi;(first|exact ZD _|exact ZE _|exact MM _|rfl))
   |(apply NP;rfl;rfl;exact Zl;exact Zl;exact Zi;exact Zi;rfl)
   |(apply yk;rfl;rfl;exact Zl;exact Zl;exact Zi;exact Zi)
   |(apply yp;rfl;rfl;omega;omega;exact Zi;exact Zi)
   |(apply x9;rfl;rfl;omega;omega;omega;exact Zi;exact Zi)
   |(apply sN;rfl;(first|exact J9 Zo|exact gZ Zo|exact oC Zo))
   |(apply yn;rfl;rfl;omega;omega;exact Zi;exact Zi)
   |(apply yo;rfl;rfl;omega;omega;exact Zi;exact Zi)
   |(apply EX;rfl;rfl)
   |(apply JQ;rfl)
   |(apply sR;rfl)
   |(apply GZ;rfl)
   |(apply lJ;rfl;rfl)
   |(apply lI;rfl;rfl)
   |(apply z8;rfl;exact Zz)
   |(apply jg;rfl;exact Zh)
   |(apply jg;rfl;exact Zm)
   |(apply yC;rfl;exact YV)
   |(apply yl;rfl;rfl)
   |(apply GW;rfl;rfl)
   |(apply GQ;rfl;rfl;omega)
   |(apply G3;rfl;rfl;omega)
   |(apply GY;rfl;rfl;omega)
   |(apply G0;rfl;rfl;decide)
   |(apply sQ;rfl;rfl;omega;exact Zz)
   |(apply ym;rfl;rfl;omega;exact Zz)
   |(apply sM;rfl;(focus (simp only[Zn,Value.cells,X2,Nat.reduceEqDiff,↓reduceIte,eq_self,Nat.reduceAdd,Nat.reduceSub,Qz,Nat.reduceLeDiff,Qt,and_self,rep,jB] <;> rfl)))
   |(apply yX;rfl;rfl;(focus (simp only[Zn,Value.cells,X2,Nat.reduceEqDiff,↓reduceIte,eq_self,Nat.reduceAdd,Nat.reduceSub,Qz,Nat.reduceLeDiff,Qt,and_self,rep,jB] <;> rfl));rfl;rfl;exact Zac)
   |(apply o6;rfl;rfl;rfl))
    |(refine VO.nil ?_;simp only[V.aM,V.aT,V.look,V.aq,V.bK,V.bG,X2,Nat.reduceAdd,Nat.reduceEqDiff,↓reduceIte,eq_self])
    |refine VC.x8 ?_
    |refine VC.oY ?_
    |refine VC.GL ?_
    |refine VC.oX ?_
    |refine VC.sI ?_
    |refine VC.mY ?_
    |refine VC.DT ?_
    |refine VC.block ?_
    |(refine VC.skip ?_;try simp only[V.aM,V.aT,V.look,V.aq,V.bK,V.bG,X2,Nat.reduceAdd,Nat.reduceEqDiff,↓reduceIte,eq_self])
    |(refine VC.exit ?_;try simp only[V.aM,V.aT,V.look,V.aq,V.bK,V.bG,X2,Nat.reduceAdd,Nat.reduceEqDiff,↓reduceIte,eq_self])
    |(refine VC.ret ?_;try simp only[V.bK,V.bG])
    |(apply VC.mw;rfl)
    |(apply VC.mu;rfl)
    |(apply VC.tB;rfl)
    |(apply VC.tA;rfl)))
 exact d.out):G:=h ⟨r⟩
inductive Lt where
 |mk (kind:Nat) (n:Int) (bits:Nat) (text:ByteArray) (items:List Lt)
inductive Nd where
 |mk (kind:Nat) (name:ByteArray) (lit:Lt) (args ab:List ByteArray) (kids:List Nd) (at_:Int)
def Lt.kind:Lt->Nat|.mk k _ _ _ _=>k
def Lt.n:Lt->Int|.mk _ n _ _ _=>n
def Lt.bits:Lt->Nat|.mk _ _ b _ _=>b
def Lt.text:Lt->ByteArray|.mk _ _ _ t _=>t
def Lt.items:Lt->List Lt|.mk _ _ _ _ l=>l
def Nd.kind:Nd->Nat|.mk k _ _ _ _ _ _=>k
def Nd.name:Nd->ByteArray|.mk _ s _ _ _ _ _=>s
def Nd.lit:Nd->Lt|.mk _ _ l _ _ _ _=>l
def Nd.args:Nd->List ByteArray|.mk _ _ _ a _ _ _=>a
def Nd.ab:Nd->List ByteArray|.mk _ _ _ _ t _ _=>t
def Nd.kids:Nd->List Nd|.mk _ _ _ _ _ k _=>k
def Nd.at_:Nd->Int|.mk _ _ _ _ _ _ p=>p
theorem Nd.eta(x:Nd):x=.mk x.kind x.name x.lit x.args x.ab x.kids x.at_:=by cases x;rfl
mutual
def Lt.size:Lt->Nat
 |.mk _ _ _ _ items=>1+Lt.ap items
def Lt.ap:List Lt->Nat
 |[]=>0
 |x::r=>x.size+Lt.ap r
end
mutual
def Nd.size:Nd->Nat
 |.mk _ _ _ _ _ kids _=>1+Nd.ap kids
def Nd.ap:List Nd->Nat
 |[]=>0
 |x::r=>x.size+Nd.ap r
end
theorem Lt.size_pos(x:Lt):0 < x.size:=by cases x;simp only[Lt.size];omega
theorem Nd.size_pos(x:Nd):0 < x.size:=by cases x;simp only[Nd.size];omega
theorem Lt.aD {x:Lt}:∀{l:List Lt},x∈l->x.size<=Lt.ap l:=by
 intro l
 induction l with
 |nil=>intro h;cases h
 |cons y r ih=>
  intro h;simp only[Lt.ap];exact zCB
theorem Nd.aD {x:Nd}:∀{l:List Nd},x∈l->x.size<=Nd.ap l:=by
 intro l
 induction l with
 |nil=>intro h;cases h
 |cons y r ih=>
  intro h;simp only[Nd.ap];exact zCB
def cO(A:List kC)(v:Value)(l:List ByteArray):Prop:=∃a c,v=.slice a l.length c/\l.length<=1099511627776/\∀(i:Nat) t,l[i]? =some t->∃b o,a=some ⟨b,o,none⟩/\kC.cell b (o+i) (.string t)∈A/\t.size<=140737488355328
theorem cO.more {A B:List kC}{v:Value}{l:List ByteArray}(h:cO A v l)(m:∀x∈A,x∈B):cO B v l:=by
 obtain⟨a,c,d,g,j⟩:=h;exact⟨a,c,d,g,λi t e=>let⟨b,o,k1,k2,k3⟩:=j i t e;⟨b,o,k1,m _ k2,k3⟩⟩
structure N2 (k:Nat)(n:Int)(b:Nat)(t:ByteArray)(m:Nat):Prop where
 kind:k < 256
 n:-9223372036854775808<=n/\n<=9223372036854775807
 bits:b < 18446744073709551616
 text:t.size<=140737488355328
 many:m<=140737488355328
inductive zl (A:List kC):Lt->List Value->Prop
 |mk {k:Nat} {n:Int} {b:Nat} {t:ByteArray} {items:List Lt} {a:Option Addr} {c bk o:Nat} {us:Nat->List Value} (wf:N2 k n b t items.length) (ha:0 < items.length->a=some ⟨bk,o,none⟩)
   (hm:∀i,i < items.length->∀y∈kA bk (o+i*5) (us i),y∈A) (hr:∀i x,items[i]? =some x->zl A x (us i)):zl A (.mk k n b t items) [cv k,vi n,uv b,.string t,.slice a items.length c]
structure Kv (k:Nat)(s:ByteArray)(m:Nat)(p:Int):Prop where
 kind:k < 256
 name:s.size<=140737488355328
 many:m<=140737488355328
 at_:-9223372036854775808<=p/\p<=9223372036854775807
inductive jN (A:List kC):Nd->List Value->Prop
 |mk {k:Nat} {s:ByteArray} {lit:Lt} {args ab:List ByteArray} {kids:List Nd} {p:Int} {lv:List Value} {av tv:Value} {a:Option Addr} {c bk o:Nat} {us:Nat->List Value} (wf:Kv k s kids.length p) (hl:zl A lit lv) (bD:cO A av args) (bB:cO A tv ab)
   (ha:0 < kids.length->a=some ⟨bk,o,none⟩) (hm:∀i,i < kids.length->∀y∈kA bk (o+i*11) (us i),y∈A) (hr:∀i x,kids[i]? =some x->jN A x (us i)) (rV:kids.length<=c):jN A (.mk k s lit args ab kids p) ([cv k,.string s]++lv++[av,tv,.slice a kids.length c,vi p])
theorem zl.len {A:List kC}{x:Lt}{vs:List Value}(h:zl A x vs):vs.length=5:=by cases h;rfl
theorem jN.len {A:List kC}{x:Nd}{vs:List Value}(h:jN A x vs):vs.length=11:=by
 cases h with
 |mk wf hl=>simp[hl.len]
theorem zl.more {A B:List kC}(g:∀x∈A,x∈B){x:Lt}{vs:List Value}(h:zl A x vs):zl B x vs:=by
 induction h with
 |mk wf ha hm hr ih=>exact .mk wf ha (λi d y j=>g _ (hm i d y j)) ih
theorem jN.more {A B:List kC}(d:∀x∈A,x∈B){x:Nd}{vs:List Value}(h:jN A x vs):jN B x vs:=by
 induction h with
 |mk wf hl bD bB ha hm hr rV ih=>exact .mk wf (hl.more d) (bD.more d) (bB.more d) ha (λi g y j=>d _ (hm i g y j)) ih rV
def kB(s:ByteArray):List Nat:=s.data.toList.map UInt8.toNat
def Be(c:Nat):Bool:=(decide (97<=c)&&decide (c<=122))||(decide (65<=c)&&decide (c<=90))||decide (c=95)
def wX(c:Nat):Bool:=decide (48<=c)&&decide (c<=57)
def nX(c:Nat):Bool:=Be c||wX c
def cS(c:Nat):Bool:=[43,45,42,47,92,126,60,62,61,64,37,38,63,44,33].contains c
def fF(l:List Nat):Bool:=match l with
 |[]=>false
 |c::_=>decide (l.length<=40)&&Be c&&l.all nX
def Dv(on:List Nat->Bool):List Nat->Nat
 |[]=>0
 |c::r=>if on (c::r)then 1+Dv on r else 0
def gV:List Nat->Bool
 |[]=>false
 |c::r=>cS c&&(decide (c≠45)||!(match r with|d::_=>wX d|[]=>false))
def fH:List Nat->Nat
 |[]=>0
 |c::r=>if c=124 then 1 else if cS c then 1+Dv gV r else 0
def j9:List Nat->List (List Nat)
 |[]=>[[]]
 |c::r=>if c=58 then [58]::j9 r else match j9 r with
  |p::ps=>(c::p)::ps
  |[]=>[[c]]
def zg:List (List Nat)->Nat->Int
 |[],n=>n
 |p::ps,n=>if p=[]then n else if p.getLast? =some 58&&fF p.dropLast then zg ps (n+1)else -1
def p7(l:List Nat):Int:=
 if fF l then 0 else match l with
 |[]=>-1
 |c::_=>if cS c||decide (c=124)then(if fH l=l.length then 1 else -1)else zg (j9 l) 0
def wm(s:ByteArray):Bool:=fF (kB s)
def kS(s:ByteArray):Int:=p7 (kB s)
def zz:List (List Nat):=[[115,101,108,102],[115,117,112,101,114],[110,105,108],[116,114,117,101],[102,97,108,115,101]]
def jF(s:ByteArray):Bool:=!zz.contains (kB s)&&wm s
def wP:List Nat->List Nat
 |48::c::r=>wP (c::r)
 |l=>l
def zc(l:List Nat):Nat:=l.foldl (λn c=>n*10+(c - 48)) 0
def n6(l:List Nat):Bool:=
 let(d,minus):=match l with|45::r=>(r,true)|_=>(l,false)
 decide (d≠[])&&d.all wX&&decide (wP d=d)&&decide (d.length<=255)&&decide ((if minus then 1152921504606846976 else 1152921504606846975) < zc d)
abbrev Rs:=Option (Nat×Bool)
def jm:List Rs->Rs
 |[]=>some (0,false)
 |r::rs=>match r,jm rs with
  |some (d,m),some (e,k)=>some (max d e,m||k)
  |_,_=>none
def z7(b:Bool):Rs->Rs
 |some (d,m)=>some (d,b||m)
 |none=>none
def wy:Rs->Rs
 |some (d,m)=>some (d+1,m)
 |none=>none
def kQ(b:Bool)(r:Rs):Rs:=if b then r else none
mutual
def jS:Lt->Bool->Rs
 |.mk k n b t items,inside=>
  if k=1∨k=2∨k=3 then kQ (inside&&decide (n=0/\b=0/\t.size=0/\items.length=0)) (some (0,false))
  else if k=4 then kQ (decide (-1152921504606846976<=n/\n<=1152921504606846975/\b=0/\t.size=0/\items.length=0)) (some (0,false))
  else if k=5 then kQ (n6 (kB t)&&decide (n=0/\b=0/\items.length=0)) (some (0,false))
  else if k=6 then kQ (decide (b*2 % 18446744073709551616 / 9007199254740992≠2047/\n=0/\t.size=0/\items.length=0)) (some (0,false))
  else if k=7 then kQ (decide (0<=n/\n<=255/\b=0/\t.size=0/\items.length=0)) (some (0,false))
  else if k=8∨k=9 then kQ (decide (n=0/\b=0/\items.length=0)) (some (0,false))
  else if k=11 then kQ (decide (n=0/\b=0/\items.length=0)) (some (0,decide (255 < t.size)))
  else if k=10 then kQ (decide (n=0/\b=0/\t.size=0)) (wy (z7 (decide (255 < items.length)) (jm (uS items))))
  else none
def uS:List Lt->List Rs
 |[]=>[]
 |x::r=>jS x true::uS r
end
def jR(x:Nd):Bool:=decide (x.kind=2)&&decide (kB x.name=[115,117,112,101,114])
def zw(s:ByteArray):Nat:=if kS s=0 then 5 else if kS s=1/\(kB s).getLast?≠some 58 then 4 else 3
def wE(x:Nd):Nat:=if x.kind=3 then 1 else if x.kind=5 then 2 else if x.kind=4 then zw x.name else 6
def gQ(s:ByteArray):Nat:=max 4 (zw s)
def ni(s:ByteArray):Nat:=if zw s=4 then 5 else 4
def uX(x:Nd)(place:Nat)(r:Rs):Rs:=kQ (decide (x.kind≠9/\x.kind≠6)) (if wE x < place then wy r else r)
def jX(x:Nd)(place:Nat)(r:Rs):Rs:=kQ (!jR x) (uX x place r)
def wx(x:Nd)(aQ:ByteArray)(r:Rs):Rs:=if jR x then r else jX x (gQ aQ) r
def yM(place:Nat):List Nd->List Rs->List Rs
 |x::l,r::rs=>jX x place r::yM place l rs
 |_,_=>[]
def fB(aQ:ByteArray)(l:List Nd)(rs:List Rs):Rs:=kQ (decide (kS aQ=l.length)) (z7 (decide (15 < kS aQ)) (jm (yM (ni aQ) l rs)))
def wM:List Nd->List Rs->List Rs
 |[x],r::_=>[if x.kind=9 then r else jX x 1 r]
 |x::l,r::rs=>jX x 1 r::wM l rs
 |_,_=>[]
def lr:List Nd->List Rs->List Rs
 |x::l,r::rs=>kQ (decide (x.kind=6)) r::lr l rs
 |_,_=>[]
def wa(LO:Nat)(l:List ByteArray)(r:Rs):Rs:=kQ (l.all jF) (z7 (decide (LO < l.length)) r)
def wz(l:Lt):Bool:=decide (l.kind=0/\l.n=0/\l.bits=0/\l.text.size=0/\l.items.length=0)
def yJ:Rs->Rs->Rs
 |some (d,m),some (e,k)=>some (max d e,m||k)
 |_,_=>none
def w8(k:Nat)(s:ByteArray)(lit:Lt)(args ab:List ByteArray)(kids:List Nd)(rs:List Rs):Rs:=
 if k=1 then kQ (decide (kids.length=0/\s.size=0/\args.length=0/\ab.length=0)) (jS lit false)
 else if k=2 then kQ (decide (kids.length=0/\args.length=0/\ab.length=0)&&wm s&&wz lit) (some (0,false))
 else if k=3 then kQ (decide (args.length=0/\ab.length=0)&&wz lit&&jF s) (match kids,rs with|[x],[r]=>jX x 1 r|_,_=>none)
 else if k=4 then kQ (decide (args.length=0/\ab.length=0)&&wz lit&&decide (0<=kS s)) (match kids,rs with|x::l,r::q=>yJ (wx x s r) (fB s l q)|_,_=>none)
 else if k=6 then kQ (decide (args.length=0/\ab.length=0)&&wz lit) (fB s kids rs)
 else if k=5 then kQ (decide (s.size=0/\args.length=0/\ab.length=0/\2 < kids.length)&&wz lit) (match kids,rs with|x::y::l,r::q=>z7 (decide (256 < kids.length)) (yJ (jm (lr (y::l) q)) (wx x y.name r))|_,_=>none)
 else if k=7 then kQ (decide (s.size=0)&&wz lit) (wa 15 args (wa 63 ab (wy (jm (wM kids rs)))))
 else if k=8 then kQ (decide (s.size=0/\args.length=0/\ab.length=0)&&wz lit) (wy (z7 (decide (255 < kids.length)) (jm (yM 1 kids rs))))
 else if k=9 then kQ (decide (s.size=0/\args.length=0/\ab.length=0)&&wz lit) (match kids,rs with|[x],[r]=>jX x 1 r|_,_=>none)
 else none
mutual
def kM:Nd->Rs
 |.mk k s lit args ab kids _=>w8 k s lit args ab kids (wt kids)
def wt:List Nd->List Rs
 |[]=>[]
 |x::r=>kM x::wt r
end
theorem jl:∀l:List Nd,wt l=l.map kM:=by
 intro l
 induction l with
 |nil=>rfl
 |cons x r ih=>simp only[wt,ih,QD]
theorem dI:∀l:List Lt,uS l=l.map λx=>jS x true:=by
 intro l
 induction l with
 |nil=>rfl
 |cons x r ih=>simp only[uS,ih,QD]
def Tt(deep:Nat->Bool):Rs->Nat
 |none=>150
 |some (d,m)=>if m then 151 else if deep d then 152 else 0
mutual
def litEq:Lt->Lt->Bool
 |.mk k n b t l,.mk k' n' b' t' l'=>decide (k=k')&&decide (n=n')&&decide (b=b')&&decide (t=t')&&Wl l l'
def Wl:List Lt->List Lt->Bool
 |[],[]=>true
 |x::r,y::q=>litEq x y&&Wl r q
 |_,_=>false
end
mutual
def WW:Nd->Nd->Bool
 |.mk k s l a t ks _,.mk k' s' l' a' t' ks' _=>decide (k=k')&&decide (s=s')&&decide (a=a')&&decide (t=t')&&litEq l l'&&ndsEq ks ks'
def ndsEq:List Nd->List Nd->Bool
 |[],[]=>true
 |x::r,y::q=>WW x y&&ndsEq r q
 |_,_=>false
end
theorem dK:∀{l:List Rs},none∈l->jm l=none:=by
 intro l
 induction l with
 |nil=>intro h;cases h
 |cons r l ih=>
  intro h;cases r with
  |none=>rfl
  |some p=>
   rcases QI.1 h with h|h
   .cases h
   .simp only[jm,ih h]
theorem dL {d e:Nat}{m k:Bool}:∀{l:List Rs},jm l=some (d,m)->jm (l++[some (e,k)])=some (max d e,m||k):=by
 intro l
 induction l generalizing d m with
 |nil=>intro h;cases h;simp[jm]
 |cons r l ih=>
  intro h;cases r with
  |none=>cases h
  |some p=>
   simp only[jm]at h;cases hl:jm l with
   |none=>rw[hl]at h;cases h
   |some q=>
    rw[hl]at h;cases h;simp only[vr,jm,ih hl,XD,XE];exact⟨Zo,by rw[vR]⟩
theorem ik {K:Nat}:∀{l:List Rs} {d:Nat} {m:Bool},(∀r∈l,∀d m,r=some (d,m)->d<=K)->jm l=some (d,m)->d<=K:=by
 intro l
 induction l with
 |nil=>intro d m _ h;cases h;omega
 |cons r l ih=>
  intro d m g h;cases r with
  |none=>cases h
  |some p=>
   simp only[jm]at h;cases hq:jm l with
   |none=>rw[hq]at h;cases h
   |some q=>
    rw[hq]at h;cases h;have h1:=g (some p) Zs p.1 p.2 rfl;have h2:=ih (λr j=>g r (by simp[j])) hq;omega
theorem jY {b:Bool}{r:Rs}{p:Nat×Bool}(h:kQ b r=some p):r=some p:=by
 unfold kQ at h;split at h
 .exact h
 .cases h
theorem dJ {b:Bool}{r:Rs}{d:Nat}{m:Bool}(h:z7 b r=some (d,m)):∃g,r=some (d,g):=by
 cases r with
 |none=>cases h
 |some p=>cases h;exact⟨_,rfl⟩
theorem ie {r:Rs}{d:Nat}{m:Bool}(h:wy r=some (d,m)):∃g,d=g+1/\r=some (g,m):=by
 cases r with
 |none=>cases h
 |some p=>cases h;exact⟨_,rfl,rfl⟩
theorem Gb:∀(N:Nat) (x:Lt),x.size<=N->∀(i:Bool) (d:Nat) (m:Bool),jS x i=some (d,m)->d<=x.size:=by
 intro N
 induction N with
 |zero=>intro x s;have:=x.size_pos;omega
 |succ N ih=>
  intro x s i d m h;cases x with
  |mk k n b t items=>
  simp only[Lt.size]at s|-;simp only[jS]at h;have zero:∀(c:Bool) (q:Bool),kQ c (some (0,q))=some (d,m)->d=0:=λc q h=>by have:=jY h;cases this;rfl
  split at h
  .have:=zero _ _ h;omega
  split at h
  .have:=zero _ _ h;omega
  split at h
  .have:=zero _ _ h;omega
  split at h
  .have:=zero _ _ h;omega
  split at h
  .have:=zero _ _ h;omega
  split at h
  .have:=zero _ _ h;omega
  split at h
  .have:=zero _ _ h;omega
  split at h
  .obtain⟨d',hd,g⟩:=ie (jY h);obtain⟨m',j⟩:=dJ g;rw[dI]at j;have:=ik (K:=Lt.ap items) (λr A d m e=>by
    obtain⟨y,B,rfl⟩:=QO.1 A;have h1:=Lt.aD B;have g:=ih y Zo true d m e;omega) j
   omega
  .cases h
theorem fk(place:Nat):∀l:List Nd,yM place l (l.map kM)=l.map λx=>jX x place (kM x):=by
 intro l
 induction l with
 |nil=>rfl
 |cons x r ih=>simp only[QD,yM,ih]
theorem ug:∀l:List Nd,lr l (l.map kM)=l.map λx=>kQ (decide (x.kind=6)) (kM x):=by
 intro l
 induction l with
 |nil=>rfl
 |cons x r ih=>simp only[QD,lr,ih]
theorem xl(x:Nd):∀l:List Nd,wM (l++[x]) ((l++[x]).map kM)=(l.map λy=>jX y 1 (kM y))++[if x.kind=9 then kM x else jX x 1 (kM x)]:=by
 intro l
 induction l with
 |nil=>rfl
 |cons y r ih=>
  cases r with
  |nil=>rfl
  |cons z r=>simpa[wM]using ih
theorem uF {x:Nd}{place K d:Nat}{r:Rs}{m:Bool}(j:∀d m,r=some (d,m)->d<=K)(h:jX x place r=some (d,m)):d<=K+1:=by
 have g:=jY (jY h);split at g
 .obtain⟨q,e,s⟩:=ie g;have:=j q m s;omega
 .have:=j d m g;omega
mutual
def Nd.w:Nd->Nat
 |.mk _ s lit args ab kids _=>1+s.size+lit.size+args.length+ab.length+Nd.ws kids
def Nd.ws:List Nd->Nat
 |[]=>0
 |x::r=>x.w+Nd.ws r
end
theorem Nd.iy(x:Nd):0 < x.w:=by cases x;simp only[Nd.w];omega
theorem Nd.cj {x:Nd}:∀{l:List Nd},x∈l->x.w<=Nd.ws l:=by
 intro l
 induction l with
 |nil=>intro h;cases h
 |cons y r ih=>
  intro h;simp only[Nd.ws];exact zCB
theorem Nd.ws_le {f:Nat->Nat}:∀{l:List Nd} {o:Nat},(∀i x,l[i]? =some x->x.w<=f (o+i))->Nd.ws l<=((List.range' o l.length).map f).sum:=by
 intro l
 induction l with
 |nil=>intro o _;simp[Nd.ws]
 |cons y r ih=>
  intro o h;have d:=h 0 y rfl;have g:=ih (o:=o+1) (λi x e=>by have:=h (i+1) x e;rwa [Qn,Nat.add_comm 1 i]);simp only[Nd.ws,Vz,List.range'_succ,QD,List.sum_cons,Qp]at d g|-;omega
theorem Lt.XR {f:Nat->Nat}:∀{l:List Lt} {o:Nat},(∀i x,l[i]? =some x->x.size<=f (o+i))->Lt.ap l<=((List.range' o l.length).map f).sum:=by
 intro l
 induction l with
 |nil=>intro o _;simp[Lt.ap]
 |cons y r ih=>
  intro o h;have d:=h 0 y rfl;have g:=ih (o:=o+1) (λi x e=>by have:=h (i+1) x e;rwa [Qn,Nat.add_comm 1 i]);simp only[Lt.ap,Vz,List.range'_succ,QD,List.sum_cons,Qp]at d g|-;omega
theorem HP {K d:Nat}{m:Bool}{p q:Rs}(g:∀d m,p=some (d,m)->d<=K)(j:∀d m,q=some (d,m)->d<=K)(h:yJ p q=some (d,m)):d<=K:=by
 cases p with
 |none=>cases h
 |some p=>
  cases q with
  |none=>cases h
  |some q=>
   simp only[yJ,XD,XE]at h;have h1:=g p.1 p.2 rfl;have h2:=j q.1 q.2 rfl;omega
theorem ry:∀l:List Nd,(wM l (l.map kM)).length=l.length:=by
 intro l
 induction l with
 |nil=>rfl
 |cons x r ih=>
  cases r with
  |nil=>rfl
  |cons y r=>simpa[wM]using ih
theorem ru:∀(l:List Nd) (j:Nat) (y:Nd),l[j]? =some y->(wM l (l.map kM))[j]? =some (if y.kind=9/\j+1=l.length then kM y else jX y 1 (kM y)):=by
 intro l
 induction l with
 |nil=>intro j y h;simp at h
 |cons x r ih=>
  intro j y h;cases r with
  |nil=>
   cases j with
   |zero=>
    simp only[Vn,XD]at h;subst h;simp[wM]
   |succ j=>simp at h
  |cons z r=>
   cases j with
   |zero=>
    simp only[Vn,XD]at h;subst h;simp[wM]
   |succ j=>
    have:=ih j y (by simpa using h);simpa[wM]using this
theorem Jc:∀(N:Nat) (x:Nd),x.w<=N->∀(d:Nat) (m:Bool),kM x=some (d,m)->d<=2*x.w:=by
 intro N
 induction N with
 |zero=>intro x T;have:=x.iy;omega
 |succ N ih=>
  intro x T d m h;cases x with
  |mk k s lit args ab kids p=>
  simp only[Nd.w]at T|-;have C:∀y∈kids,∀d m,kM y=some (d,m)->d<=2*Nd.ws kids:=λy A d m e=>by
   have h1:=Nd.cj A;have g:=ih y Zo d m e;omega
  have D:∀(y:Nd) (E:Nat),y∈kids->∀d m,jX y E (kM y)=some (d,m)->d<=2*Nd.ws kids+1:=λy E A d m e=>uF (C y A) e
  have U:∀(l:List Nd) (E:Nat),(∀y∈l,y∈kids)->∀d m,jm (yM E l (l.map kM))=some (d,m)->d<=2*Nd.ws kids+1:=λl E M d m e=>by
   rw[fk]at e;refine ik (λr G d m e=>?_) e;obtain⟨y,A,rfl⟩:=QO.1 G;exact D y E (M y A) d m e
  have I:∀(l:List Nd) (q:ByteArray),(∀y∈l,y∈kids)->∀d m,fB q l (l.map kM)=some (d,m)->d<=2*Nd.ws kids+1:=λl q M d m e=>by
   obtain⟨H,g⟩:=dJ (jY e);exact U l _ M d H g
  have B:∀(y:Nd) (q:ByteArray),y∈kids->∀d m,wx y q (kM y)=some (d,m)->d<=2*Nd.ws kids+1:=λy q A d m e=>by
   unfold wx at e;split at e
   .have:=C y A d m e;omega
   .exact D y _ A d m e
  have S:∀d m,(match kids,kids.map kM with|[x],[r]=>jX x 1 r|_,_=>none)=some (d,m)->d<=2*Nd.ws kids+1:=λd m e=>by
   match kids,D,e with
   |[y],D,e=>exact D y 1 Zs d m e
   |[],_,e=>cases e
   |_::_::_,_,e=>cases e
  simp only[kM,jl,w8]at h;split at h
  .have g:=Gb _ lit (Qt _) false d m (jY h);omega
  split at h
  .have:=jY h;cases this;omega
  split at h
  .have:=S d m (jY h);omega
  split at h
  .have g:=jY h
   match kids,B,I,g with
   |[],_,_,g=>cases g
   |y::l,B,I,g=>
    have:=HP (B y s Zs) (I l s (λz hz=>by simp[hz])) g;omega
  split at h
  .have:=I kids s (λ_ h=>h) d m (jY h);omega
  split at h
  .have g:=jY h
   match kids,B,C,g with
   |[],_,_,g=>cases g
   |[_],_,_,g=>cases g
   |y::z::l,B,C,g=>
    obtain⟨H,J⟩:=dJ g;have:=HP (K:=2*Nd.ws (y::z::l)+1) (λd m e=>?_) (B y z.name Zs) J
    .omega
    .change jm (lr (z::l) ((z::l).map kM))=some (d,m)at e;rw[ug]at e;have:=ik (K:=2*Nd.ws (y::z::l)) (λr G d m e=>by
      obtain⟨u,hu,rfl⟩:=QO.1 G;exact C u (QJ _ hu) d m (jY e)) e
     omega
  split at h
  .have g:=jY h;simp only[wa]at g;obtain⟨H,J⟩:=dJ (jY g);obtain⟨m'',Y⟩:=dJ (jY J);obtain⟨Q,rfl,L⟩:=ie Y;have:=ik (K:=2*Nd.ws kids+1) (λr G d m e=>by
    obtain⟨j,F⟩:=Vv G;have W:=(Vt.1 F).1;rw[ry]at W;have X:=ru kids j kids[j] (Zg W);rw[X]at F;have O:kids[j]∈kids:=List.getElem_mem _;split at F
    .cases F;have:=C _ O d m e;omega
    .cases F;exact D _ 1 O d m e) L
   omega
  split at h
  .obtain⟨Q,rfl,L⟩:=ie (jY h);obtain⟨H,Z⟩:=dJ L;have:=U kids 1 (λ_ h=>h) Q H Z;omega
  split at h
  .have:=S d m (jY h);omega
  .cases h
theorem iW {b d:Nat}:∀{rows:List (List Value)} {o:Nat},(∀r∈rows,r.length=d)->∀{i:Nat} {r:List Value},rows[i]? =some r->∀y∈kA b (o+i*d) r,y∈kA b o rows.flatten:=by
 intro rows
 induction rows with
 |nil=>intro o _ i r h;simp at h
 |cons q rows ih=>
  intro o h i r g y j;rw[Vd,ku,QG];cases i with
  |zero=>
   simp only[Vn,XD]at g;subst g;rw[X4,Qp]at j;exact .inl j
  |succ i=>
   right;rw[h q Zs];refine ih (λr m=>h r (by simp[m])) (by simpa using g) y ?_
   rwa [show o+d+i*d=o+(i+1)*d by rw[X1];omega]
theorem ff {d:Nat}:∀{rows:List (List Value)},(∀r∈rows,r.length=d)->rows.flatten.length=rows.length*d:=by
 intro rows
 induction rows with
 |nil=>intro _;simp
 |cons q rows ih=>
  intro h;rw[Vd,Vy,h q Zs,ih λr g=>h r (by simp[g]),Vz,X1];omega
theorem lt_made {B:List kC}{k:Nat}{n:Int}{b:Nat}{t:ByteArray}{items:List Lt}{sv:Value}{rows:List (List Value)}{sp:List Value}(j:ky 5 sv items.length rows.flatten sp)(hl:rows.length=items.length)(F:∀r∈rows,r.length=5)
 (G:∀(i:Nat) x r,items[i]? =some x->rows[i]? =some r->zl B x r) (C:N2 k n b t items.length):zl (ao sv rows.flatten sp++B) (.mk k n b t items) [cv k,vi n,uv b,.string t,sv]:=by
 have s:∀i,i < items.length->rows[i]? =some (rows.getD i []):=λi d=>by
  rw[Vh,Zg Zo];rfl
 generalize A:items.length=m at j;generalize D:rows.flatten=xs at j|-;cases j with
 |@mk bk o _ c _ _ h1 h2 h3=>
  rw[<- A];subst D;refine .mk (bk:=bk) (o:=o) (us:=λi=>rows.getD i []) C (λ_=>rfl) (λi d y q=>?_) (λi x g=>?_)
  .refine Zw _ ?_;simp only[ao,ku];exact Zw _ (iW F (s i d) y q)
  .have d:=(Vt.1 g).1;exact(G i x _ g (s i d)).more λy q=>QH _ q
 |nil=>
  have E:items=[]:=vz A;subst E;exact .mk (bk:=0) (o:=0) (us:=λ_=>[]) C (λh=>absurd h Zs) (λi d=>absurd d Zs) (λi x g=>by simp at g)
theorem nd_made {B:List kC}{k:Nat}{s:ByteArray}{lit:Lt}{args ab:List ByteArray}{kids:List Nd}{p:Int}{lv:List Value}{E L sv:Value}{rows:List (List Value)}{sp:List Value}(q:ky 11 sv kids.length rows.flatten sp)(hl:rows.length=kids.length)(O:∀r∈rows,r.length=11)
 (S:∀(i:Nat) x r,kids[i]? =some x->rows[i]? =some r->jN B x r) (M:Kv k s kids.length p) (D:zl B lit lv) (G:cO B E args) (F:cO B L ab):jN (ao sv rows.flatten sp++B) (.mk k s lit args ab kids p) ([cv k,.string s]++lv++[E,L,sv,vi p]):=by
 have C:∀i,i < kids.length->rows[i]? =some (rows.getD i []):=λi d=>by
  rw[Vh,Zg Zo];rfl
 have g:∀y∈B,y∈ao sv rows.flatten sp++B:=λy A=>QH _ A
 have K:=D.more g;have H:=G.more g;have I:=F.more g;clear D G F;generalize J:kids.length=m at q;generalize N:rows.flatten=xs at q|-;cases q with
 |@mk bk o _ c _ _ h1 h2 h3=>
  rw[<- J];subst N;refine .mk (bk:=bk) (o:=o) (us:=λi=>rows.getD i []) M K H I (λ_=>rfl) (λi d y A=>?_) (λi x j=>?_) Zo
  .refine Zw _ ?_;simp only[ao,ku];exact Zw _ (iW O (C i d) y A)
  .have d:=(Vt.1 j).1;exact(S i x _ j (C i d)).more g
 |nil=>
  have Q:kids=[]:=vz J;subst Q;exact .mk (bk:=0) (o:=0) (us:=λ_=>[]) M K H I (λh=>absurd h Zs) (λi d=>absurd d Zs) (λi x j=>by simp at j) Zs
theorem Mu {sv:Value}{l:List ByteArray}{sp:List Value}{n:Nat}(g:n=l.length)(d:ky 1 sv n (l.map Value.string) sp)(m:l.length<=1099511627776)(q:∀t∈l,t.size<=140737488355328):cO (ao sv (l.map Value.string) sp) sv l:=by
 generalize s:l.map Value.string=xs at d;cases d with
 |@mk bk o _ c _ _ h1 h2 h3=>
  subst s;refine⟨_,c,by rw[g],m,λi t e=>⟨bk,o,rfl,?_,q t (Zv e)⟩⟩;simp only[ao,ku];refine Zw _ (kJ.2 ⟨i,_,?_,rfl⟩);rw[Vu,e];rfl
 |nil=>
  have j:l=[]:=vz g.symm;subst j;exact⟨none,0,rfl,Zs,λi t e=>by simp at e⟩
theorem rp {P:Program}{n:Nat}{rs:List RO}{Γ:Env}{H:SH}{Z:List PanicEntry->Env->SH->Prop}{K:Env->SH->Prop}{d:Option Nat}{t:TypeId}{size bytes:Nat}{zero:List Value}{s x:Operand}{b o k c m:Nat}{j:Addr}
 (A:ev Γ s=some (.slice (some ⟨b,o,none⟩) k c)) (B:ev Γ x=some (.slice (some j) 0 m)) (q:k<=c) (h:VO P n rs (aq d (.slice (some ⟨b,o,none⟩) k c) Γ) H Z K):VO P n (⟨d,none,.append t size bytes zero s x⟩::rs) Γ H Z K:=by
 refine VO.act' rfl rfl (λρ g=>⟨_,rfl,?_⟩);rw[g _ _ A,g _ _ B];simp only[fA];rw[if_pos (show k+0<=c by omega)];have e0:(Builtin.firstCells size 0 (.slice (some j) 0 m):Sem (Array Value))=pure #[]:=by
  simp only[Builtin.firstCells,X4];rfl
 rw[e0];refine aL.bind (aL.pure ?_);refine aL.bind (aL.pure (aL.pure ?_));exact⟨_,H,[],.inl rfl,Zs,h⟩
theorem JN:∀l:List Lt,l.length<=Lt.ap l:=by
 intro l
 induction l with
 |nil=>exact X3 _
 |cons x r ih=>have:=x.size_pos;simp only[Lt.ap,Vz];omega
theorem ws_ge:∀l:List Nd,l.length<=Nd.ws l:=by
 intro l
 induction l with
 |nil=>exact X3 _
 |cons x r ih=>have:=x.iy;simp only[Nd.ws,Vz];omega
structure Sg where
 sX:Nat->Nat
 off:Nat->Nat
 cap:Nat->Nat
 tl:Nat->List Value
def mO:Nat:=18446744073709551616
def sE(σ:Sg)(a:Addr):Addr:=⟨σ.sX a.block,σ.off a.block+a.off,a.spot⟩
def rnF(σ:Sg):Fn->Fn
 |.yield l=>.yield (σ.sX l)
 |f=>f
def Jy(σ:Sg)(b c:Nat):Nat:=if c < mO then c else σ.cap b - (c - mO)
def rn(σ:Sg)(x:Value):Value:=match x with
 |.pointer (some a)=>.pointer (some (sE σ a))
 |.slice (some a) n c=>.slice (some (sE σ a)) n (Jy σ a.block c)
 |.map (some r)=>.map (some (σ.sX r))
 |.func f x y=>.func (rnF σ f) (x.attach.map λ⟨v,_⟩=>rn σ v) (y.attach.map λ⟨v,_⟩=>rn σ v)
 |.iface t v=>.iface t (rn σ v)
 |.agg cs=>.agg (cs.attach.map λ⟨v,_⟩=>rn σ v)
 |.tuple cs=>.tuple (cs.attach.map λ⟨v,_⟩=>rn σ v)
 |v=>v
 termination_by SizeOf.sizeOf x
section
variable (σ:Sg)
@[simp] theorem cN (k:IntKind) (z:Int):rn σ (.int k z)=.int k z:=by simp[rn]
@[simp] theorem sF (b:Bool):rn σ (.bool b)=.bool b:=by simp[rn]
@[simp] theorem fX (s:ByteArray):rn σ (.string s)=.string s:=by simp[rn]
@[simp] theorem rn_float (k:FloatKind) (s:Nat):rn σ (.float k s)=.float k s:=by simp[rn]
@[simp] theorem rn_complex (k:FloatKind) (s t:Nat):rn σ (.complex k s t)=.complex k s t:=by simp[rn]
@[simp] theorem rn_chan (c:Option Nat):rn σ (.chan c)=.chan c:=by simp[rn]
@[simp] theorem rn_ptr0:rn σ (.pointer none)=.pointer none:=by simp[rn]
@[simp] theorem dQ (a:Addr):rn σ (.pointer (some a))=.pointer (some (sE σ a)):=by simp[rn]
@[simp] theorem oU (n c:Nat):rn σ (.slice none n c)=.slice none n c:=by simp[rn]
@[simp] theorem bz (a:Addr) (n c:Nat):rn σ (.slice (some a) n c)=.slice (some (sE σ a)) n (Jy σ a.block c):=by simp[rn]
@[simp] theorem rn_map0:rn σ (.map none)=.map none:=by simp[rn]
@[simp] theorem rn_map (r:Nat):rn σ (.map (some r))=.map (some (σ.sX r)):=by simp[rn]
@[simp] theorem rn_nilF:rn σ .nilFunc=.nilFunc:=by simp[rn]
@[simp] theorem rn_nilI:rn σ .nilIface=.nilIface:=by simp[rn]
@[simp] theorem XJ (t:TypeId) (v:Value):rn σ (.iface t v)=.iface t (rn σ v):=by simp[rn]
@[simp] theorem Cl (cs:Array Value):rn σ (.agg cs)=.agg (cs.map (rn σ)):=by simp[rn]
@[simp] theorem Cm (cs:Array Value):rn σ (.tuple cs)=.tuple (cs.map (rn σ)):=by simp[rn]
@[simp] theorem rn_func (f:Fn) (x y:Array Value):rn σ (.func f x y)=.func (rnF σ f) (x.map (rn σ)) (y.map (rn σ)):=by simp[rn]
end
theorem sG(σ:Sg)(v:Value):(rn σ v).cells=v.cells.map (rn σ):=by
 cases v <;> try simp[Value.cells]
 .rename_i a;cases a <;> simp
 .rename_i a n c;cases a <;> simp
 .rename_i a;cases a <;> simp
def bC:Value->Bool
 |.bool _|.int .. |.float .. |.string _|.pointer none|.slice none _ _|.map none|.nilFunc|.nilIface=>true
 |_=>false
def rh:Value->Bool
 |.agg cs=>cs.toList.all bC
 |.tuple cs=>cs.toList.all bC
 |v=>bC v
theorem fV {σ:Sg}{v:Value}(h:bC v=true):rn σ v=v:=by
 cases v <;> try simp_all [bC]
 .rename_i a;cases a <;> simp_all [bC]
 .rename_i a n c;cases a <;> simp_all [bC]
 .rename_i a;cases a <;> simp_all [bC]
theorem fW {σ:Sg}{l:List Value}(h:l.all bC=true):l.map (rn σ)=l:=by
 rw[vg]at h
 conv=>rhs;rw[<- List.map_id l]
 exact QC λx d=>fV (h x d)
theorem eZ {σ:Sg}{v:Value}(h:rh v=true):rn σ v=v:=by
 cases v with
 |agg cs=>simp only[rh]at h;rw[Cl];congr 1;apply vD.1;rw[vE,fW h]
 |tuple cs=>simp only[rh]at h;rw[Cm];congr 1;apply vD.1;rw[vE,fW h]
 |_=>exact fV h
theorem Lm {op:BinOp}{k d:IntKind}{a b:Int}{w:Value}(h:nY op k a d b=some w):bC w=true:=by
 unfold nY at h;cases op <;> simp only at h <;> (split at h) <;> first|(cases h;rfl)|cases h
theorem Mn {op:BinOp}{a b:ByteArray}{w:Value}(h:RZ op a b=some w):bC w=true:=by
 unfold RZ at h;cases op <;> simp only at h <;> first|(cases h;rfl)|(split at h <;> first|(cases h;rfl)|cases h)|cases h
theorem ZO {σ:Sg}{op:BinOp}{u v w:Value}(h:y9 op u v=some w):y9 op (rn σ u) (rn σ v)=some (rn σ w):=by
 unfold y9 at h;split at h
 .rw[fV (Lm h)];simpa[y9]using h
 .rw[fV (Mn h)];simpa[y9]using h
 .cases h
theorem U8 {σ:Sg}{k:NK}{u:Value}{b:Bool}(h:isNil k u=some b):isNil k (rn σ u)=some b:=by
 unfold isNil at h;split at h <;> first|(cases h;done)|skip
 .rename_i a;cases a <;> simpa[isNil]using h
 .rename_i a;cases a <;> simpa[isNil]using h
 .rename_i a _ _;cases a <;> simpa[isNil]using h
 all_goals simpa[isNil]using h
theorem RJ {σ:Sg}{k:SK}{u v:Value}{b:Bool}(h:rl k u v=some b):rl k (rn σ u) (rn σ v)=some b:=by
 unfold rl at h;split at h <;> first|(cases h;done)|simpa[rl]using h
theorem SZ {σ:Sg}:∀{d:List SK} {xs ys:List Value} {b:Bool},ia d xs ys=some b->ia d (xs.map (rn σ)) (ys.map (rn σ))=some b:=by
 intro d
 induction d with
 |nil=>intro xs ys b h;simpa[ia]using h
 |cons k d ih=>
  intro xs ys b h;cases xs with
  |nil=>simp[ia]at h
  |cons x xs=>
   cases ys with
   |nil=>simp[ia]at h
   |cons y ys=>
    simp only[ia]at h;split at h
    .rename_i a c g j;simp only[QD,ia,RJ g,ih j];exact h
    .cases h
theorem u7 {σ:Sg}:∀{d:List (Nat×Nat×Value)} {cs out:List Value},jh cs d=some out->
 jh (cs.map (rn σ)) (d.map fun(a,b,v)=>(a,b,rn σ v))=some (out.map (rn σ)):=by
 intro d
 induction d with
 |nil=>intro cs out h;simp only[jh,XD]at h;subst h;rfl
 |cons p d ih=>
  intro cs out h;obtain⟨o,s,v⟩:=p;simp only[jh]at h;split at h
  .rename_i g;have:=ih h;simp only[QD,jh,sG,Array.size_map,Q6,if_pos g];simpa[QB,List.map_take,List.map_drop]using this
  .cases h
theorem Tc {σ:Sg}{v:Value}{y k:Nat}(h:bound v y=some k):bound (rn σ v) y=some k:=by
 unfold bound at h;split at h
 .simpa[bound]using h
 .cases h
theorem tx {σ:Sg}{v:Option Value}{y k:Nat}{d:Option Nat}(h:wY y d v=some k):wY y d (v.map (rn σ))=some k:=by
 cases v with
 |none=>exact h
 |some v=>exact Tc h
theorem oE {σ:Sg}{n c:Nat}{g d mx:Option Value}{r:Nat×Nat×Nat}(h:y8 n c g d mx=some r):y8 n c (g.map (rn σ)) (d.map (rn σ)) (mx.map (rn σ))=some r:=by
 unfold y8 at h|-;simp only[X6]at h|-;obtain⟨m,j,B,q,l,s,A⟩:=h;exact⟨m,tx j,B,by simpa using tx q,l,tx s,A⟩
theorem nK {σ:Sg}{cs:Array Value}{i:Nat}{v:Value}(h:cs[i]? =some v):(cs.map (rn σ))[i]? =some (rn σ v):=by
 rw[Array.getElem?_map,h];rfl
def okC:R->Bool
 |.build z _=>z.all bC
 |.iv _ z _ _=>rh z
 |.Mj n _ _ _ _=>Nat.blt n mO
 |.C4 f _ _=>match f with|.yield _=>false|_=>true
 |_=>true
def unkS:Value->Bool
 |.slice (some _) _ c=>!Nat.blt c mO
 |_=>false
def okS(ρ:Operand->Value):R->Bool
 |.sL _ x _ _ _=>!unkS (ρ x)
 |.cap x=>!unkS (ρ x)
 |.uU x=>match ρ x with|.pointer (some ⟨_,_,none⟩)=>true|_=>false
 |_=>true
theorem Cd {σ:Sg}{ρ:Operand->Value}{r:R}{v:Value}(C:okC r=true)(E:okS ρ r=true)(h:kW ρ r=some v):kW (λx=>rn σ (ρ x)) r=some (rn σ v):=by
 cases r <;> simp only[kW]at h|- <;> first|(cases h;done)|skip
 case mv x=>cases h;rfl
 case pick c a b=>
  split at h
  .rename_i t T;cases h;simp only[T,sF];cases t <;> rfl
  .cases h
 case bin op x y=>exact ZO h
 case eqb neq x y=>
  split at h
  .rename_i a b B A;cases h;simp only[B,A,sF]
  .cases h
 case D0 neq k x=>
  simp only[X9]at h;obtain⟨b,g,rfl⟩:=h;rw[U8 g];simp
 case DZ neq ks x y=>
  split at h
  .rename_i a b B A;split at h
   .rename_i S;simp only[X9]at h;obtain⟨c,g,rfl⟩:=h;simp only[B,A,Cl,Array.size_map,if_pos S,vE,SZ g];simp
   .cases h
  .cases h
 case un op x=>
  cases op <;> simp only at h|-
  all_goals first|(cases h;done)|(split at h <;> first|(cases h;done)|(rename_i d;cases h;simp only[d,sF,cN]))
 case conv k x=>
  split at h
  .rename_i d;cases h;simp only[d,cN]
  .cases h
 case cvs x=>
  split at h
  .rename_i d;cases h;simp only[d,fX]
  .cases h
 case I2 t x=>cases h;simp
 case C4 f a b=>
  cases h;have Q:rnF σ f=f:=by cases f <;> simp_all [okC,rnF]
  simp[QE,Function.comp_def,Q]
 case ext x i=>
  split at h
  .rename_i vs d;simp only[d,Cm];exact nK h
  .cases h
 case build z ps=>
  simp only[X9]at h;obtain⟨l,g,rfl⟩:=h;have:=u7 (σ:=σ) g;rw[fW C]at this;have e:jb (λx=>rn σ (ρ x)) ps=(jb ρ ps).map fun(a,b,v)=>(a,b,rn σ v):=by simp[jb,QE,Function.comp_def]
  rw[e,this];simp
 case uU x=>
  split at h
  .rename_i a B;cases h;simp only[B,dQ]
  .cases h
 case Ha off x=>
  split at h
  .rename_i b o d;cases h;simp only[d,dQ,sE,Qn]
  .cases h
 case KU off size agg x=>
  split at h
  .rename_i cs d;simp only[d,Cl];exact zD9
  .cases h
 case Pc len size x i=>
  split at h
  .rename_i b o k z d j;split at h
   .rename_i A;cases h;simp only[d,j,dQ,sE,cN,if_pos A,Qn]
   .cases h
  .cases h
 case Lh size x i=>
  split at h
  .rename_i b o len c k z d j;split at h
   .rename_i A;cases h;simp only[d,j,dQ,bz,sE,cN,if_pos A,Qn]
   .cases h
  .cases h
 case xM x i=>
  split at h
  .rename_i s k z d j;split at h
   .rename_i A;simp only[X9]at h;obtain⟨b,g,rfl⟩:=h;simp only[d,j,fX,cN,if_pos A,g,XB]
   .cases h
  .cases h
 case Li len size agg x i=>
  split at h
  .rename_i cs k z d j;split at h
   .rename_i A;simp only[d,j,Cl,cN,if_pos A];exact zD9
   .cases h
  .cases h
 case Mk x lo j=>
  split at h
  .rename_i s d;simp only[X9]at h;obtain⟨⟨l,H,m⟩,g,rfl⟩:=h;have:=oE (σ:=σ) g;simp only[Option.map_map,XA]at this;simp only[d,fX];rw[show(lo.map λx=>rn σ (ρ x))=lo.map (rn σ ∘ ρ)from rfl,show(j.map λx=>rn σ (ρ x))=j.map (rn σ ∘ ρ)from rfl,this];rfl
  .cases h
 case sL size x lo j mx=>
  split at h
  .rename_i b o len c d;simp only[X9]at h;obtain⟨⟨l,H,m⟩,g,rfl⟩:=h;have D:c < mO:=by
    simp only[okS,d,unkS,Bool.not_not]at E;exact Qs E
   have J:m - l < mO:=by
    have I:m<=c:=by
     simp only[y8,X6]at g;obtain⟨W,q,O,M,U,N,G⟩:=g;cases G;cases Ss:mx.map ρ with
     |none=>rw[Ss]at q;simp only[wY,XD]at q;omega
     |some u=>
      rw[Ss]at q;simp only[wY,bound]at q;split at q
      .split at q
       .rename_i hz;cases q;omega
       .cases q
      .cases q
    omega
   have:=oE (σ:=σ) g;simp only[Option.map_map]at this;simp only[d,bz,sE,Jy,if_pos D,if_pos J];rw[show(lo.map λx=>rn σ (ρ x))=lo.map (rn σ ∘ ρ)from rfl,show(j.map λx=>rn σ (ρ x))=j.map (rn σ ∘ ρ)from rfl,show(mx.map λx=>rn σ (ρ x))=mx.map (rn σ ∘ ρ)from rfl,this];simp only[XB];split <;> simp only[Qn]
  .rename_i len c d;simp only[X9]at h;obtain⟨⟨l,H,m⟩,g,rfl⟩:=h;have:=oE (σ:=σ) g;simp only[Option.map_map]at this;simp only[d,oU];rw[show(lo.map λx=>rn σ (ρ x))=lo.map (rn σ ∘ ρ)from rfl,show(j.map λx=>rn σ (ρ x))=j.map (rn σ ∘ ρ)from rfl,show(mx.map λx=>rn σ (ρ x))=mx.map (rn σ ∘ ρ)from rfl,this];rfl
  .cases h
 case Mj len size x lo j=>
  split at h
  .rename_i b o d;simp only[X9]at h;obtain⟨⟨l,H,m⟩,g,rfl⟩:=h;have:=oE (σ:=σ) g;simp only[Option.map_map,XA]at this;have J:m - l < mO:=by
    have D:len < mO:=Qs C;have I:m<=len:=by
     simp only[y8,X6]at g;obtain⟨W,q,O,M,U,N,G⟩:=g;cases G;simp only[wY,XD]at q;omega
    omega
   simp only[d,bz,dQ,sE,Jy,if_pos J];rw[show(lo.map λx=>rn σ (ρ x))=lo.map (rn σ ∘ ρ)from rfl,show(j.map λx=>rn σ (ρ x))=j.map (rn σ ∘ ρ)from rfl,this];simp only[XB];split <;> simp only[Qn]
  .cases h
 case Ga x=>
  split at h
  .rename_i d;cases h;simp only[d,fX,cN]
  .cases h
 case Lq x=>
  split at h
  .rename_i a k c d;cases h;cases a <;> simp only[d,bz,oU,cN]
  .cases h
 case cap x=>
  split at h
  .rename_i a k c d;cases h;cases a with
   |none=>simp only[d,oU,cN]
   |some a=>
    have D:c < mO:=by
     simp only[okS,d,unkS,Bool.not_not]at E;exact Qs E
    simp only[d,bz,Jy,if_pos D,cN]
  .cases h
 case min2 x y=>
  split at h
  .rename_i d L;cases h;simp only[d,L,cN]
  .cases h
 case max2 x y=>
  split at h
  .rename_i d L;cases h;simp only[d,L,cN]
  .cases h
 case iv t z ok x=>
  simp only[okC]at C;split at h
  .rename_i d;split at h
   .rename_i F;cases h;simp[d,F,eZ C]
   .cases h
  .rename_i u w d;split at h
   .rename_i K;cases h;simp only[d,XJ,if_pos K];split <;> simp
   .rename_i K;split at h
    .rename_i F;cases h;simp[d,if_neg K,F,eZ C]
    .cases h
  .cases h
def Xc(r:R):Bool:=kg r||jL r||nZ r||(match r with|.store .. =>true|_=>false)
def isRcv(o:Oper):Bool:=match o.op with
 |.call c=>(match c.callee with|.builtin .recover=>true|_=>false)&&o.guard.isNone
 |_=>false
def Wq(P:Program)(n:Nat)(kp:Nat->List Nat)(od:Nat->List (List Nat)):Code->Option (Nat×List RO×IC)
 |.seq (.region _ ops false) c=>match ops.toList with
  |o1::os=>if isRcv o1 then match o1.dst,yO P n ops os,zS P n kp od c with
   |some d,some rs,some y=>if d < n/\rs.all (λr=>Xc r.op)=true then some (d,rs,y)else none
   |_,_,_=>none else none
  |[]=>none
 |_=>none
structure RIR where
 n:Nat
 bO:List RV
 d:Nat
 rs:List RO
 post:IC
def Nq(P:Program)(kp:Nat->List Nat)(od:Nat->List (List Nat))(f:Nat):Option RIR:=
 match P.funcs[f]? with
 |none=>none
 |some fn=>match fn.body with
  |none=>none
  | some c => if fn.name != "runtime.NumGoroutine" then
     match Wq P fn.ntmps kp od c,zB P fn.results.toList with
     |some (d,rs,y),some r=>some ⟨fn.ntmps,r,d,rs,y⟩
     |_,_=>none
    else none
def iS(P:Program)(f:Nat)(args:List Value)(u u':FrameMode)(bx:SH)(Q:SH->Prop):Prop:=
 wK P f=true/\∀F w,Sat w (bx.flatten++F)->CallsDIn (C1 none) 0 P f args.toArray u w λe u2 w'=>u2=u'/\∃v Post,e=.returned v/\Q Post/\Sat w' (Post.flatten++F)/\kz w w'
inductive Rcv:FrameMode->Value->FrameMode->Prop where
 |none:Rcv .returning .nilIface .returning
 |some {v:Value}:Rcv (.panicking [{v:=v,recovered:=false}]) v (.panicking [{v:=v,recovered:=true}])
section
variable {P:Program} {n m:Nat} {ops:Array Oper} {Q:Exit->Act->List Frame->World->Prop} {cs:List Frame}
theorem Ma {o:Oper}{t:TypeId}{x y:Operand}(h:o.op=.store t x y){ρ:Operand->Value}{w:World}:(∃w',(execOp ρ o).run P w=.ok .skip w')∨(∃e w',(execOp ρ o).run P w=.halt e w'):=by
 simp only[execOp,h];rw[Sem.run_bind];cases hh:(Instr.storeAt t (ρ x) (ρ y)).run P w with
 |ok v w'=>exact .inl ⟨w',rfl⟩
 |halt e w'=>exact .inr ⟨e,w',rfl⟩
theorem Ru:∀(l:List (RO×Oper)) (idx:List Nat),idx.map (λi=>ops[i]?)=l.map (λx=>some x.2)->(∀x∈l,Xc x.1.op=true/\eU P n ops x.2=some x.1)->
 ∀(a:Act) (w:World),cH P (λ_ _ _=>False) (λE w'=>Q .normal E cs w') l a w->wpOpsSIn (C1 none) m P ops Q idx a cs w:=by
 intro l
 induction l with
 |nil=>
  intro idx B _ a w h;obtain rfl:idx=[]:=by simpa using B
  exact h
 |cons x l ih=>
  intro idx B K a w h;cases idx with
  |nil=>simp at B
  |cons i idx=>
   simp only[QD,vq]at B;obtain⟨I,L⟩:=B;obtain⟨J,T⟩:=K x Zs;obtain⟨d,H,g3,O⟩:=jP T;have A:=ih idx L (λy S=>K y (by simp[S]));simp only[wpOpsSIn,I];refine⟨λ_ _=>trivial,?_⟩;rw[O a];have j:wJ P (λ_ _ _=>False) x (cH P (λ_ _ _=>False) (λE w'=>Q .normal E cs w') l) a w:=h;unfold wJ at j;by_cases hw:jK x.1.guard a=true
   .rw[if_pos hw]at j|-;by_cases hpu:kg x.1.op=true
    .rw[if_pos hpu]at j;obtain⟨v,e,C⟩:=j;have g:(execOp a.eval x.2).run P w=.ok (.value v) w:=ri (w:=w) (yU a) d e;rw[g];rw[H]at C;exact A _ _ C
    .by_cases hre:jL x.1.op=true
     .rw[if_neg hpu,if_pos hre]at j;obtain⟨s,v,e,N,C⟩:=j;have g:(execOp a.eval x.2).run P w=.ok (.value v) w:=uf (yU a) d e (N w (.refl w));rw[g];rw[H]at C;exact A _ _ C
     .rw[if_neg hpu,if_neg hre]at j;obtain⟨W,q⟩:=j;by_cases hnw:nZ x.1.op=true
      .obtain⟨u,w',g,_⟩:=W hnw;simp only[CW,g,jz]at q;rw[g];exact A _ _ q
      .have G:∃k y z,x.1.op=.store k y z:=by
        simp only[Xc,vT]at J;rcases J with((h|h)|h)|h
        .exact absurd h hpu
        .exact absurd h hre
        .exact absurd h hnw
        .split at h
         .exact⟨_,_,_,by assumption⟩
         .cases h
       obtain⟨k,y,z,G⟩:=G;have D:∃t,x.2.op=.store t y z:=by
        rw[G]at d;generalize x.2=U at d|-;obtain⟨M,op,ty,pos,F,guard⟩:=U;simp only at d|-;cases op
        case store t y' z'=>
         simp only[jG,X9]at d;obtain⟨i,_,d⟩:=d;cases d;exact⟨_,rfl⟩
        all_goals (exfalso;try simp only[jG]at d)
        all_goals (repeat' split at d)
        all_goals first
         |(cases d;done)
         |(simp only[X9]at d;obtain⟨_,_,d⟩:=d;cases d;done)
       obtain⟨t,D⟩:=D;rcases Ma (P:=P) D (ρ:=a.eval) (w:=w)with⟨w',g⟩|⟨e,w',g⟩
       .simp only[CW,g,jz]at q;rw[g];exact A _ _ q
       .simp only[CW,g]at q;cases e <;> exact q.elim
   .rw[if_neg hw]at j|-;rw[H]at j;exact A _ _ j
end
theorem iS.intro {P:Program}{kp:Nat->List Nat}{od:Nat->List (List Nat)}{f:Nat}{F:RIR}{args:List Value}{bx:SH}{u u':FrameMode}{rv:Value}{Q:SH->Prop}(B:Nq P kp od f=some F)(hn:args.length<=F.n)(hu:Rcv u rv u')
 (h:VO P F.n F.rs ((F.d,rv)::aM 0 args) bx (λ_ _ _=>False) λaw H'=>pY P F.n F.post aw H' (tG F.bO λ_ Post=>Q Post)):iS P f args u u' bx Q:=by
 unfold Nq at B;split at B
 .cases B
 rename_i fn xU;split at B
 .cases B
 rename_i c hc;split at B
 case isFalse=>cases B
 rename_i pM;split at B
 case h_2=>cases B
 rename_i d rs y r g hr;cases B;refine⟨by simp only[wK,xU,pM,hc];rfl,λFF w hs=>?_⟩;unfold Wq at g;split at g
 case h_2=>cases g
 rename_i id ops U;split at g
 case h_2=>cases g
 rename_i o1 j S;split at g
 case isFalse=>cases g
 rename_i I;split at g
 case h_2=>cases g
 rename_i d' rs' y' X C7 Y;split at g
 case isFalse=>cases g
 rename_i ii;cases g;obtain⟨Z,aj⟩:=ii;refine callsDIn_of_wpSIn xU hc trivial (λm cs A=>?_);have fq:ops.size=j.length+1:=by rw[<- Array.length_toList,S];rfl
 refine wpSIn_seq (wpSIn_region ?_);rw[fq,List.range_succ_eq_map];have h0:ops[0]? =some o1:=by rw[<- vC,S];rfl
 unfold isRcv at I;split at I
 case h_2=>cases I
 rename_i cl pA;simp only[vG]at I;obtain⟨ι,hg⟩:=I;have H:cl.callee=.builtin .recover:=by
  split at ι
  .assumption
  .cases ι
 have hg':o1.guard=none:=by simpa using hg
 obtain⟨a0,G⟩:∃a0:Act,a0={tmps:=args.toArray++Array.replicate (fn.ntmps - args.toArray.size) undef,defers:=[]}:=⟨_,rfl⟩;rw[<- G];have D:wH fn.ntmps (aM 0 args) a0:=by
  rw[G];refine⟨?_,λt v e=>?_⟩
  .simp at hn|-;omega
  .exact zAQ
 have K:a0.defers=[]:=by rw[G]
 simp only[wpOpsSIn,h0];refine⟨λ_ _=>trivial,?_⟩;have hw:Region.wanted o1 (yielded ops a0.tmps)=true:=by simp[Region.wanted,hg']
 rw[if_pos hw];have bJ:(execOp a0.eval o1).run P w=.ok .recover w:=by
  simp[execOp,pA,resolve,H,invoke,builtin]
 rw[bJ];have J:=D.put Z rv;have dE:yO P fn.ntmps ops j=some rs:=C7;obtain⟨hlen,aC⟩:=wD dE;have L:∀E,(∃C,E={m with mode:=C}::cs/\C=u')->wpOpsSIn (C1 none) 0 P ops (Exit.thenS (U.wpSIn (C1 none) 0 P (bodyPostS P fn m cs λe C w'=>C=u'/\∃v Post,e=.returned v/\Q Post/\Sat w' (Post.flatten++FF)/\kz w w')) (bodyPostS P fn m cs λe C w'=>C=u'/\∃v Post,e=.returned v/\Q Post/\Sat w' (Post.flatten++FF)/\kz w w')) (List.map Nat.succ (List.range j.length)) (a0.put o1.dst rv) E w:=by
  rintro E ⟨C,rfl,rfl⟩
  refine Ru (n:=fn.ntmps) (rs.zip j) _ ?_ ?_ _ _ ?_
  .apply V0;intro i;simp only[Vu];by_cases s:i < j.length
   .rw[List.getElem?_range s];have hz:(rs.zip j)[i]? =some (rs[i]'Zo,j[i]):=by
     rw[Zg tj];simp
    rw[hz];simp only[XB];rw[<- vC,S];simp[s]
   .rw[Vp (by simpa using s),Vp tj];rfl
  .intro x hx;obtain⟨i,s⟩:=Vv hx;have W:=(Vt.1 s).1;simp at W;have e:(rs.zip j)[i]? =some (rs[i]'Zo,j[i]'Zo):=by
    rw[Zg tj];simp
   rw[e]at s;cases s;refine⟨?_,aC i _ _ (Zg Zo) (Zg Zo)⟩;exact vg.1 aj _ (List.getElem_mem _)
  .rw[X];refine h (rs.zip j) ⟨by rw[List.map_fst_zip];omega,λx hx=>?_⟩ _ w FF _ _ J hs (λa2 w2 cJ H2 q k1 k2 k3 k4=>?_) (λ_ _ _ _ _ q=>q.elim)
   .obtain⟨i,s⟩:=Vv hx;have W:=(Vt.1 s).1;simp at W;have e:(rs.zip j)[i]? =some (rs[i]'Zo,j[i]'Zo):=by
     rw[Zg tj];simp
    rw[e]at s;cases s;exact⟨ops,aC i _ _ (Zg Zo) (Zg Zo)⟩
   .show U.wpSIn _ _ _ _ a2 _ w2;refine wpSIn_of_wpIn rfl ?_;refine q none kp od U Y a2 w2 FF _ k1 k3 (λe T N Γ3 H3 q3 j1 j2 j3 j4=>?_);obtain⟨he,vs,Post,e1,e2,e3⟩:=q3;have K1:T.defers=[]:=by rw[j2,k2,jr,K]
    have g:T.defers=[]/\∃M,({m with mode:=C}::cs:List Frame)={m with mode:=M}::cs/\∃v,(results fn T.tmps).run P N=.ok v N/\(M=C/\∃v' Post,(Ending.returned v)=.returned v'/\Q Post/\Sat N (Post.flatten++FF)/\kz w N):=
     ⟨K1,C,rfl,_,ir j3 hr j1 e1,rfl,_,Post,rfl,e3,j3.imp e2,k4.trans j4⟩
    rcases he with rfl|rfl <;> exact g
 cases hu with
 |none=>
  have O:recoverD (m::cs)=none:=by simp[recoverD,A]
  simp only[O];refine L _ ⟨.returning,?_,rfl⟩;have:m={m with mode:=.returning}:=by cases m;simp_all
  rw[<- this]
 |some=>
  have O:recoverD (m::cs)=some (rv,{m with mode:=.panicking [{v:=rv,recovered:=true}]}::cs):=by simp[recoverD,A]
  simp only[O];exact L _ ⟨_,rfl,rfl⟩
def endDP(P:Program)(g:Nat)(xA:List Value)(bO:List RV)(Q:Value->SH->Prop):Exit->Env->SH->Prop
 |.panic ch,Γ,H=>∃bx R Q2 u',iS P g xA (.panicking ch) u' bx Q2/\settle u'=.returning/\fJ H bx R/\∀Post,Q2 Post->tG bO Q .ret Γ (Post++R)
 |e,Γ,H=>(e=.normal∨e=.ret)/\∃bx R Q2,iS P g xA .returning .returning bx Q2/\fJ H bx R/\∀Post,Q2 Post->tG bO Q .ret Γ (Post++R)
def VDP(P:Program)(n:Nat)(bO:List RV)(dr:DR)(post:IC)(Q:Value->SH->Prop):List IC->Env->SH->Prop
 |[],Γ,H=>∃vs,nt Γ dr.xA=some vs/\VC P n post ((dr.d,.func (.func dr.g) #[] vs.toArray)::Γ) H (endDP P dr.g vs bO Q)
 |x::l,Γ,H=>VC P n x Γ H (bK (λaw H'=>VDP P n bO dr post Q l aw H') (tG bO Q))
section
variable {P:Program} {n:Nat} {fn:Func} {tmps:Array Value} {FF:List kC} {w0:World}
theorem Sc {kp:Nat->List Nat}{od:Nat->List (List Nat)}{r:List RV}{Q:Value->SH->Prop}(hr:zB P fn.results.toList=some r):∀(l:List IC) (c:Code) (j:DR) (y:IC),fu P n kp od c=some (l,j,y)->
 ∀Γ H a w X,VDP P n r j y Q l Γ H->wH n Γ a->Sat w (H.flatten++(FF++marks X))->a.defers=X.map qh->kz w0 w->
 c.wpIn (C1 none) 0 P (bodyPostM (C1 none) 0 P fn (λe w'=>∃v Post,e=.returned v/\Q v Post/\Sat w' (Post.flatten++FF)/\kz w0 w')) a w:=by
 intro l
 induction l with
 |nil=>
  intro c j y m Γ H a w X U I T S J;unfold fu at m;split at m
  case h_2=>cases m
  rename_i p q;split at m
  case h_2=>
   split at m <;> cases m
  rename_i x Z;simp only[X9]at m;obtain⟨y',hy,F⟩:=m;cases F;obtain⟨id,ops,o1,o2,cl,rfl,K7,h1,h2,ι,cE,hg,E⟩:=LI Z;obtain⟨vs,nu,B⟩:=U;refine wpIn_seq (wpIn_region_list ?_);rw[K7];obtain⟨g1,g2,g3,g4⟩:=jP h1;have W:kW a.eval (.C4 (.func j.g) [] j.xA)=some (.func (.func j.g) #[] vs.toArray):=by
   simp[kW,I.nt nu]
  have bJ:(execOp a.eval o1).run P w=.ok (.value (.func (.func j.g) #[] vs.toArray)) w:=ri (w:=w) (yU a) g1 W;have s:=I.aq g3 (.func (.func j.g) #[] vs.toArray);simp only at s g2;simp only[wpListIn,g4 a,jK,if_true];refine⟨λ_ _=>trivial,?_⟩;rw[Oper.semAt_none,bJ];show(if Region.wanted o2 (yielded ops (a.put o1.dst _).tmps)then _ else _);rw[<- g2];have hw:Region.wanted o2 (yielded ops (a.put (some j.d) (.func (.func j.g) #[] vs.toArray)).tmps)=true:=by simp[Region.wanted,hg]
  rw[if_pos hw];have Um:(a.put (some j.d) (.func (.func j.g) #[] vs.toArray)).eval (.tmp j.d)=.func (.func j.g) #[] vs.toArray:=s.ev (by simp[V.ev,V.aq,V.look]);have D:(execOp (a.put (some j.d) (.func (.func j.g) #[] vs.toArray)).eval o2).run P w=.ok (.defer {target:=.fn (.func j.g) vs.toArray,args:=#[]}) w:=by
   simp[execOp,h2,resolve,ι,cE,Um,Deferred.ofValue]
  refine⟨λ_ _=>trivial,?_⟩;rw[Oper.semAt_none,D,Oper.uponIn_defer,E];show q.wpIn _ _ _ _ _ w;have C:(a.put (some j.d) (.func (.func j.g) #[] vs.toArray)).defers=a.defers:=jr ..;refine B none kp od _ hy _ w (FF++marks X) _ (λl e=>by cases e) ⟨s.size,s.slots⟩ T (λe A w' O H' Y q K k2 L M=>?_);have G:A.defers=Y.map qh++({target:=.fn (.func j.g) vs.toArray,args:=#[]}::X.map qh):=by
   rw[k2];show _++({target:=.fn (.func j.g) vs.toArray,args:=#[]}::(a.put (some j.d) (.func (.func j.g) #[] vs.toArray)).defers)=_;rw[C,S]
  have go:∀(u u':FrameMode) (bx Rr:SH) (Q2:SH->Prop),u≠.run->settle u'=.returning->iS P j.g vs u u' bx Q2->fJ H' bx Rr->(∀Post,Q2 Post->tG r Q .ret O (Post++Rr))->
   LeavesInM (C1 none) 0 P fn A.tmps (λe w'=>∃v Post,e=.returned v/\Q v Post/\Sat w' (Post.flatten++FF)/\kz w0 w') A.defers u w':=by
   intro u u' bx Rr Q2 hu N Y6 UJ fL;rw[G];refine iJ (w0:=w0) (FF:=FF++marks X) hu Y w' L (J.trans M) (λw2 s2 c2=>?_);refine⟨hu,.inr ⟨Zs,.func j.g,vs.toArray,j.g,vs.toArray,rfl,?_,λ_ _=>trivial,?_⟩⟩
   .simp[invoke,zn Y6.1]
   .have tQ:Sat w2 (bx.flatten++(Rr.flatten++(FF++marks X))):=by
     rw[<- vm];exact s2.perm (UJ.append_right _)
    refine(Y6.2 (Rr.flatten++(FF++marks X)) w2 tQ).mono ?_
    rintro e2 u2 w3 ⟨rfl,v,Post,rfl,lR,UF,qI⟩
    show LeavesInM _ _ _ _ _ _ (X.map qh) (settle u2) w3;rw[N];refine Ba hr (fL Post lR) K ?_ (c2.trans qI);rw[Vc,vm];exact UF
  cases e with
  |normal=>
   exact zEG
  |ret=>
   exact zEG
  |panic ch=>
   obtain⟨bx,Rr,Q2,u',Y6,N,UJ,fL⟩:=q;exact go (.panicking ch) u' bx Rr Q2 Zs N Y6 UJ fL
  |exit id=>exact absurd q.1 Zs
  |goto l=>exact absurd q.1 Zs
  |outgrown=>exact absurd q.1 Zs
 |cons x l ih=>
  intro c j y m Γ H a w X U I T S J;unfold fu at m;split at m
  case h_2=>cases m
  rename_i p q;split at m
  .simp only[X9]at m;obtain⟨y',hy,F⟩:=m;cases F
  split at m
  case h_2=>cases m
  rename_i x' l' d' y' Z hq;cases m;refine wpIn_seq (U none kp od _ Z a w (FF++marks X) _ (λl e=>by cases e) I T (λe A w' O H' Y q K k2 L M=>?_));have G:A.defers=(Y++X).map qh:=by rw[k2,S];simp
  cases e <;> first
   |exact ih _ _ _ hq O H' A w' (Y++X) q K L.marks G (J.trans M)
   |(obtain⟨F,_⟩:=q;simp at F;done)
   |(show LeavesInM _ _ _ _ _ _ A.defers _ w';rw[G];exact Ba hr q K L.marks (J.trans M))
end
theorem au.Nj {P:Program}{D:Nat->List Nat}{E:Nat->List (List Nat)}{f:Nat}{F:DIR}{args:List Value}{j:SH}{Q:Value->SH->Prop}(g:Np P D E f=some F)(A:args.length<=F.n)
 (h:VDP P F.n F.bO F.dr F.post Q F.pre (aM 0 args) j):au P f args j Q:=by
 unfold Np at g;split at g
 .cases g
 rename_i fn q;split at g
 .cases g
 rename_i c m;split at g
 case isFalse=>cases g
 rename_i G;split at g
 case h_2=>cases g
 rename_i l d y r s B;cases g;refine⟨by simp only[wK,q,G,m];rfl,λFF w C=>?_⟩;refine(callsIn_wide (n:=0)).1 (callsIn_of_wp_marks q m trivial (Sc B l c d y s _ _ _ w [] h ⟨?_,λt v e=>?_⟩ (by simpa[V.marks]using C) rfl (.refl w)))
 .simp at A|-;omega
 .exact zAQ
section
variable {ops:Array Oper}
theorem H4 {j:Bool}{rs:List (RO×Oper)}{g:List (List Nat)}(E:rs.length=ops.size)
 (D:gw j rs ops g=true) (t:Nat):∃o∈g,o.Perm (jq ops ops.size t (Array.replicate ops.size false))/\(jq ops ops.size t (Array.replicate ops.size false)).Nodup/\
   o.Pairwise (λx y=>indep (rs.getD y default) (rs.getD x default)=true∨[x,y].Sublist (jq ops ops.size t (Array.replicate ops.size false))):=by
 simp only[gw,vG]at D;obtain⟨⟨⟨C,hd⟩,L⟩,hp⟩:=D;have F:pR ops (Array.replicate ops.size false)=List.range ops.size:=by
  exact zAV
 obtain⟨s1,G,_⟩:=yR C ops.size t (Array.replicate ops.size false) Zs (by rw[F];simp);generalize K:jq ops ops.size t (Array.replicate ops.size false)=l at s1 G|-;have ε:∀{x y:Nat},y < ops.size->x∈(iV ops).getD y []->MG l x y:=λhy hx=>K ▸ xS C (Qt _) (lT hx) hy
 have bV:∀i,i∈l↔i < ops.size:=λi=>by rw[G,F];simp
 generalize K1:HX j rs (iV ops) ops.size=d at hd hp;have hdlt:∀x∈d,x < ops.size:=by
  exact zCV
 have I:(l.filter (d.contains ·)).Perm d:=by
  exact zBF
 have m:=vg.1 hp _ (ue I);simp only[vT,vO,vj]at m;have H:yE (λx y=>!((iV ops).getD x []).contains y) (l.filter (d.contains ·))=true:=by
  exact zAD
 rcases m with m|⟨o,B,hpo⟩
 .rw[H]at m;cases m
 have A:=vg.1 L o B;simp only[vG,beq_iff_eq,vg,decide_eq_true_eq]at A;obtain⟨⟨o1,o2⟩,o3⟩:=A;have J:o.Perm l:=by
  exact zAI
 refine⟨o,B,J,s1,?_⟩
 .exact zAN
theorem ZV {rs:List (RO×Oper)}{d:List (List Nat)}(g:rs.length=ops.size)
 (hc:qq rs ops d=true) (t:Nat):∃o∈d,o.Perm (jq ops ops.size t (Array.replicate ops.size false))/\(jq ops ops.size t (Array.replicate ops.size false)).Nodup/\
   o.Pairwise (λx y=>indep (rs.getD y default) (rs.getD x default)=true∨[x,y].Sublist (jq ops ops.size t (Array.replicate ops.size false))):=by
 unfold qq at hc;rcases vU.1 hc with hc|hc
 .exact H4 g hc t
 .exact H4 g hc t
theorem Yf {x y c:Nat}{d q:List Nat}(C:(d++c::q).Nodup)(hx:x∈d)(hy:y∈d)(h:[x,y].Sublist (d++c::q)):[x,y].Sublist d:=by
 rw[List.sublist_append_iff]at h;obtain⟨a,b,e,s,A⟩:=h;have B:=(QW.1 C).2.2;have g:b=[]:=by
  cases b with
  |nil=>rfl
  |cons z b=>
   have m:z∈[x,y]:=by rw[e];simp
   have j:z∈d:=by simp only[QI,QZ,or_false]at m;rcases m with rfl|rfl <;> assumption
   exact absurd rfl (B z j z (A.subset Zs))
 subst g;rw[vp]at e;rw[e];exact s
theorem Jh {P:Program}{n:Nat}{X:Nat->RO×Oper}{Z:Exit->Act->World->Prop}{Q:Act->World->Prop}{c:Nat}{d g o:List Nat}(s:o.Perm (d++c::g))(j:(d++c::g).Nodup)(I:∀i∈d++c::g,Good P n ops (X i))
 (C:o.Pairwise (λx y=>indep (X y) (X x)=true∨[x,y].Sublist (d++c::g))) {a:Act} {w:World}
 (h:cH P wi (cH P Z (λ_ _=>False) [X c]) ((o.filter (d.contains ·)).map X) a w):cH P Z Q ((d++c::g).map X) a w:=by
 have q:=(QW.1 j).1;have D:o.Nodup:=s.nodup_iff.2 j;have m:(o.filter (d.contains ·)).Perm d:=by
  refine(Qd (D.filter _) q).2 λx=>?_
  simp only[QL,vt,s.mem_iff];exact⟨λh=>h.2,λh=>⟨by simp[h],h⟩⟩
 have E:=reorder (P:=P) (n:=n) (ops:=ops) d _ m q (λi J=>I i (Zw _ J)) ((C.filter _).imp_of_mem λ{x y} A B h=>by
  rcases h with h|h
  .exact .inl h
  .simp only[QL,vt]at A B;exact .inr (Yf j A.2 B.2 h)) h
 have F:cH P Z (cH P Z (λ_ _=>False) [X c]) (d.map X) a w:=E3 E;rw[QB,QD];have app:∀(u v:List (RO×Oper)) (a:Act) (w:World),cH P Z (cH P Z Q v) u a w->cH P Z Q (u++v) a w:=by
  intro u v
  induction u with
  |nil=>intro a w h;exact h
  |cons x u ih=>intro a w h;exact fY (λa w h=>ih a w h) h
 refine app _ _ _ _ (J7 (λa w G=>?_) F);exact fY (λa w (H:False)=>H.elim) G
end
def GI(x:RO):List Nat:=dC x.guard++dN (mq x.op)
def Dw(bi cd:List Nat):List Nat->List (RO×Bool)->List (List RO)
 |_,[]=>[[]]
 |skip,(x,late)::r=>
  (if(kg x.op||!late)&&!(kg x.op||jL x.op)||(GI x).all (λt=>!skip.contains t&&!(late&&cd.contains t))&&(kg x.op||!late)then(Dw bi cd skip r).map (x::·)else [])++
  (if late||kg x.op&&(pD x.dst).all (λd=>!bi.contains d)then Dw bi cd (pD x.dst++skip) r else [])
where
 pD (d:Option Nat):List Nat:=d.toList
theorem Wu {bi I:List Nat}(p:Nat->Bool)(X:Nat->RO)(g:Nat->Bool):∀(o:List Nat) (skip:List Nat),
 (∀i∈o,p i=true->(kg (X i).op||!g i)=true)->
 (∀i∈o,p i=false->g i=false->kg (X i).op=true)->
 (∀i∈o,p i=false->g i=false->∀d,(X i).dst=some d->d∉bi)->
 (∀i∈o,p i=true->(kg (X i).op||jL (X i).op)=true->∀t∈GI (X i),t∉skip/\(g i=true->t∉I))->
 o.Pairwise (λi j=>p i=false->p j=true->(kg (X j).op||jL (X j).op)=true->∀d,(X i).dst=some d->d∉GI (X j))->
 (o.filter p).map X∈Dw bi I skip (o.map λi=>(X i,g i)):=by
 intro o
 induction o with
 |nil=>intro skip _ _ _ _ _;simp[Dw]
 |cons i o ih=>
  intro skip D E F A B;rw[List.pairwise_cons]at B;simp only[QD,Dw,QG];cases hp:p i with
  |true=>
   left;have C:=D i Zs hp;rw[if_pos,List.filter_cons_of_pos hp,QD]
   .exact QO.2 ⟨_,ih skip (λj m=>D j (by simp[m])) (λj m=>E j (by simp[m])) (λj m=>F j (by simp[m])) (λj m=>A j (by simp[m])) B.2,rfl⟩
   .cases hq:(kg (X i).op||jL (X i).op)with
    |false=>simp[C]
    |true=>
     have:=A i Zs hp hq;rw[C];simp only[vQ,Bool.and_false,vN,vI,vg,vO];intro t s;have:=this t s;cases hl:g i <;> simp_all
  |false=>
   right;rw[if_pos,List.filter_cons_of_neg (by simp[hp])]
   .refine ih _ (λj m=>D j (by simp[m])) (λj m=>E j (by simp[m])) (λj m=>F j (by simp[m])) (λj m H q t s=>⟨λhm=>?_,(A j (by simp[m]) H q t s).2⟩) B.2;rcases QG.1 hm with hm|hm
    .have G:(X i).dst=some t:=by simpa[Dw.pD]using hm
     exact B.1 j m hp H q t G s
    .exact(A j (by simp[m]) H q t s).1 hm
   .cases hl:g i with
    |true=>rfl
    |false=>
     have C:=E i Zs hp hl;rw[C];simp only[vW,vN,vg,vO];intro d G;have J:(X i).dst=some d:=by simpa[Dw.pD]using G
     have:=F i Zs hp hl d J;simpa using this
theorem eQ {x y:RO×Oper}(h:indep x y=true):tq x y=true/\tq y x=true/\(kg x.1.op||kg y.1.op||(jL x.1.op&&jL y.1.op)||(nZ x.1.op&&jL y.1.op))=true:=by
 simp only[indep,vG]at h;exact⟨h.1.1,h.1.2,h.2⟩
theorem VC.Tp {P:Program}{n:Nat}{Γ:Env}{H:SH}{Q:Exit->Env->SH->Prop}{s8:List (List RO)}{aV:List Nat}
 (h:∀rs∈s8,∃E d f xs A,rs=E++⟨d,none,.call f xs⟩::A/\∀S∈Dw (dN xs) d.toList [] (E.map (λx=>(x,false))++A.map (λx=>(x,true))),
   VO P n S Γ H (λ_ _ _=>False) λaw H'=>VO P n [⟨d,none,.call f xs⟩] aw H' (λch _ nq=>Q (.panic ch) [] nq) (λ_ _=>False)):VC P n (.draw s8 aV) Γ H Q:=by
 intro ρ kp od code I a w F QQ hr ha hs hh;obtain⟨id,ops,rs,rfl,h1,O,hc,rfl,rfl⟩:=jn I;have hlen:=(wD h1).1;refine wpIn_region_draw (λt=>?_);have qM:Region.schedule (P.follows .mixedOrders) ops t=jq ops ops.size t (Array.replicate ops.size false):=by simp[Region.schedule,O,Region.linearise,jq]
 rw[qM];have hu:pR ops (Array.replicate ops.size false)=List.range ops.size:=by
  exact zAV
 have cM:zO ops=true:=by
  exact zEM
 have bV:=(yR cM ops.size t (Array.replicate ops.size false) Zs (by rw[hu];simp)).2.1;refine fZ (P:=P) (ρ:=ρ) (n:=n) (ops:=ops) (X:=λi=>(rs.zip ops.toList).getD i default) (QQ:=QQ) (λi hi=>?_) _ a _ (λi hi=>by rw[bV,hu]at hi;simpa using hi) ?_
 .exact zDH
 obtain⟨o,St,M,L,Fz⟩:=ZV (rs:=rs.zip ops.toList) (by simp[hlen]) hc t;obtain⟨E,d,f,xs,A,e,hS⟩:=h (o.map λi=>rs.getD i default) (QO.2 ⟨o,St,rfl⟩);have W:∀i∈o,i < ops.size:=λi hi=>by have:=M.mem_iff.1 hi;rw[bV,hu]at this;simpa using this
 generalize jq ops ops.size t (Array.replicate ops.size false)=l at M L Fz bV|-;obtain⟨o1,oc,rfl,e1,e2⟩:=List.map_eq_append_iff.1 e;obtain⟨g,m,rfl,e3,e4⟩:=List.map_eq_cons_iff.1 e2;obtain⟨B,l2,rfl⟩:=List.append_of_mem (M.mem_iff.1 (show g∈o1++g::m by simp));have cV:(o1++g::m).Nodup:=M.nodup_iff.2 L;refine Jh (n:=n) (ops:=ops) (o:=o1++g::m) M L (λi hi=>?_) Fz ?_
 .obtain⟨g1,g2,g3⟩:=zI h1 (W i (M.mem_iff.2 hi));exact Good.Xa g3
 have G:∀i∈o1++g::m,((rs.zip ops.toList).getD i default).1=rs.getD i default:=λi hi=>(zI h1 (W i hi)).2.1
 have hpc:B.contains g=false:=by
  have:=(QW.1 L).2.2;cases Y3:B.contains g with
  |false=>rfl
  |true=>exact absurd rfl (this g (vt.1 Y3) g Zs)
 have hfil:(o1++g::m).filter (B.contains ·)=(o1++m).filter (B.contains ·):=by
  simp only[V5,V6,hpc,vM,↓reduceIte]
 have hdj:∀i∈o1,i∉m:=λi h1 s=>(QW.1 cV).2.2 i h1 i (by simp[s]) rfl
 have Fu:(o1++m).map (λi=>(rs.getD i default,m.contains i))=E.map (λx=>(x,false))++A.map (λx=>(x,true)):=by
  rw[<- e1,<- e4,QB,QE,QE]
  congr 1
  .refine QC λi hi=>?_
   simp[hdj i hi]
  .refine QC λi hi=>?_
   simp[hi]
 have bZ:((o1++m).filter (B.contains ·)).map (λi=>rs.getD i default)∈Dw (dN xs) d.toList [] (E.map (λx=>(x,false))++A.map (λx=>(x,true))):=by
  rw[<- Fu];have D:((rs.zip ops.toList).getD g default).1=⟨d,none,.call f xs⟩:=by rw[G g Zs,e3]
  have nN:jG P ((rs.zip ops.toList).getD g default).2.op=some (.call f xs):=by
   obtain⟨g1,g2,g3⟩:=zI h1 (W g Zs);have:=(jP g3).1;rw[D]at this;exact this
  have hndl:∀x∈B,x∉g::l2:=λx h1 s=>(QW.1 L).2.2 x h1 x s rfl
  have K:g∉B:=λh=>by simp[h]at hpc
  have U:∀{x y:Nat},[x,y].Sublist (B++g::l2)->y∈g::B->x∈B:=by
   intro x y hxy hy;have hb:=yq L hxy;by_cases T:x∈B
   .exact T
   .exfalso;have:=hb.2.2;rw[List.idxOf_append,if_neg T]at this;rcases QI.1 hy with rfl|hy
    .rw[List.idxOf_append,if_neg K]at this;have h0:List.idxOf y (y::l2)=0:=List.idxOf_cons_self;omega
    .have s:=List.idxOf_lt_length_of_mem hy;rw[List.idxOf_append,if_pos hy]at this;omega
  have J:=List.pairwise_append.1 Fz;have rX:=List.pairwise_cons.1 J.2.1;refine Wu (B.contains ·) (λi=>rs.getD i default) (λi=>m.contains i) (o1++m) [] ?_ ?_ ?_ ?_ ?_
  .intro i hi C;have C:=vt.1 C;by_cases s:i∈m
   .have Y:=eQ ((rX.1 i s).resolve_right λq=>K (U q (by simp[C])));have N:=Y.2.2;rw[D,G i (by simp[s])]at N;have h4:kg (rs.getD i default).op=true:=by simpa[kg,jL]using N
    show(kg (rs.getD i default).op||!m.contains i)=true;rw[h4];rfl
   .show(kg (rs.getD i default).op||!m.contains i)=true;simp[s]
  .intro i hi C I;have s:i∈o1:=by
    rcases QG.1 hi with h|h
    .exact h
    .simp[h]at I
   have C:i∉B:=λh=>by simp[h]at C
   have hB:=eQ ((J.2.2 i s g Zs).resolve_right λq=>C (U q Zs));have N:=hB.2.2;rw[D,G i (by simp[s])]at N;simp[kg,jL,nZ]at N;exact N
  .intro i hi C I dd Z O;have s:i∈o1:=by
    rcases QG.1 hi with h|h
    .exact h
    .simp[h]at I
   have C:i∉B:=λh=>by simp[h]at C
   have hB:=eQ ((J.2.2 i s g Zs).resolve_right λq=>C (U q Zs));refine(zj hB.2.1 dd (by rw[G i (by simp[s])];exact Z)).1 ?_;obtain⟨c,Y3,pK,hc3,_⟩:=sh nN;unfold looks;rw[D,Y3];simp only[kg,jL,vV,vM,↓reduceIte,dC,QV,Op.operands,Call.operands,pK,Array.toList_append,hc3];unfold dN at O|-;rw[List.filterMap_append];exact QH _ O
  .intro i hi C hq tt ht;refine⟨Zs,λI=>?_⟩;have C:=vt.1 C;have s:i∈m:=vt.1 I;have Y:=eQ ((rX.1 i s).resolve_right λq=>K (U q (by simp[C])));intro Z;have Uj:d=some tt:=by simpa using Z
   have:=(zj Y.2.1 tt (by rw[D];exact Uj)).1;unfold looks at this;rw[G i (by simp[s])]at this;simp only[hq,↓reduceIte]at this;exact this ht
  .have hpw2:(o1++m).Pairwise (λx y=>indep ((rs.zip ops.toList).getD y default) ((rs.zip ops.toList).getD x default)=true∨[x,y].Sublist (B++g::l2)):=Fz.sublist (List.Sublist.append_left (Qh _ _) _);refine hpw2.imp_of_mem λ{i j} hi hj h pi pj hq dd Z O=>?_
   have pj:=vt.1 pj;have pi:i∉B:=λh=>by simp[h]at pi
   have mem:∀{x:Nat},x∈o1++m->x∈o1++g::m:=λ{x} h=>by
    rcases QG.1 h with h|h <;> simp[h]
   have Y:=eQ (h.resolve_right λq=>pi (U q (by simp[pj])));have:=(zj Y.2.1 dd (by rw[G i (mem hi)];exact Z)).1;unfold looks at this;rw[G j (mem hj)]at this;simp only[hq,↓reduceIte]at this;exact this O
 rw[hfil];refine hS _ bZ _ ⟨?_,?_⟩ a {w with drawn:=w.drawn+1} F _ _ ha (hs.drawn _) (λa' w' aw H' q g1 g2 g3 g4=>?_) (λ_ _ _ _ _ q=>q.elim)
 .rw[QE];refine QC λi hi=>G i ?_
  exact zE8
 .intro x T;obtain⟨i,hi,rfl⟩:=QO.1 T;have bU:i∈o1++g::m:=by
   exact zE8
  obtain⟨g1,g2,g3⟩:=zI h1 (W i bU);exact⟨ops,g3⟩
 .refine q [(rs.zip ops.toList).getD g default] ⟨?_,?_⟩ a' w' F _ _ g1 g3 (λ_ _ _ _ q=>q.elim) (λch a2 w2 cJ H2 q2 k1 k2 k3 k4=>hh (.panic ch) a2 w2 [] H2 [] q2 ⟨k1.size,λt v e=>by cases e⟩ (by rw[k2,g2];rfl) k3.cy (((kz.refl w).drawn _).trans (g4.trans k4)))
  .show [((rs.zip ops.toList).getD g default).1]=_;rw[G g Zs,e3]
  .intro x T;rw[QU.1 T];obtain⟨g1,g2,g3⟩:=zI h1 (W g Zs);exact⟨ops,g3⟩
inductive xQ where
 |cells (vs:List Value)
 |grow (size:Nat) (vs:List Value)
 |obj (o:Obj)
abbrev Mp:=List (Nat×xQ)
def tL:Mp->Nat->Option xQ
 |[],_=>none
 |(i,b)::r,k=>match Nat.beq i k with|true=>some b|false=>tL r k
def Mf:Mp->Nat->xQ->Mp
 |[],_,_=>[]
 |(i,b)::r,k,c=>match Nat.beq i k with|true=>(i,c)::r|false=>(i,b)::Mf r k c
def tF:Mp->Nat->Mp
 |[],_=>[]
 |(i,b)::r,k=>match Nat.beq i k with|true=>r|false=>(i,b)::tF r k
def rowB:xQ->Option (List Value)
 |.cells vs=>some vs
 |.grow _ vs=>some vs
 |.obj _=>none
def Xq:xQ->List Value->xQ
 |.cells _,vs=>.cells vs
 |.grow s _,vs=>.grow s vs
 |.obj o,_=>.obj o
def uO(N0:Nat)(Γ:Env):Operand->Option Value
 |.tmp t=>look Γ t
 |.const v=>if rh v then some v else none
 |.global g=>if Nat.blt g N0 then some (.pointer (some ⟨g,0,none⟩))else none
 |.func f=>some (.func (.func f) #[] #[])
def OK(N0:Nat)(Γ:Env):List Operand->Option (List Value)
 |[]=>some []
 |x::r=>match uO N0 Γ x with
  |some v=>match OK N0 Γ r with
   |some l=>some (v::l)
   |none=>none
  |none=>none
def tH(N0:Nat)(Γ:Env)(x:Operand):Value:=(uO N0 Γ x).getD undef
def tU(N0:Nat)(Γ:Env)(x:Operand):Bool:=(uO N0 Γ x).isSome
inductive PR where
 |val (v:Value) (h:Mp) (nx:Nat)
 |xZ (ch:List PanicEntry) (h:Mp) (nx:Nat)
inductive OR where
 |ok (Γ:Env) (h:Mp) (nx:Nat)
 |xZ (ch:List PanicEntry) (Γ:Env) (h:Mp) (nx:Nat)
abbrev CF:=Nat->List Value->Mp->Nat->Option PR
def lC(h:Mp)(b o n:Nat):Option (List Value):=
 match tL h b with
 |some k=>match rowB k with
  |some vs=>match Nat.ble (o+n) vs.length with
   |true=>some ((vs.drop o).take n)
   |false=>none
  |none=>none
 |none=>none
def ME(h:Mp)(b o:Nat)(us:List Value):Option Mp:=
 match tL h b with
 |some k=>match rowB k with
  |some vs=>match Nat.ble (o+us.length) vs.length with
   |true=>match us.all jo with
    |true=>some (Mf h b (Xq k (vs.take o++us++vs.drop (o+us.length))))
    |false=>none
   |false=>none
  |none=>none
 |none=>none
def srcE(h:Mp)(size:Nat):Value->Option (Nat×List Value)
 |.slice (some ⟨b,o,none⟩) m _=>match lC h b o (m*size)with
  |some l=>some (m,l)
  |none=>none
 |.slice none m _=>match m with|0=>some (0,[])|_=>none
 |.string s=>match size with|1=>some (s.size,fw s)|_=>none
 |_=>none
def NS(h:Mp)(size:Nat):Value->Option (List Value×Mp)
 |.slice none 0 0=>some ([],h)
 |.slice (some ⟨b,o,none⟩) n c=>match o with
  |0=>match tL h b with
   |some (.cells vs)=>match Nat.beq vs.length (c*size)&&(Nat.ble n c&&Nat.blt c mO)with
    |true=>some (vs.take (n*size),tF h b)
    |false=>none
   |some (.grow s vs)=>match Nat.beq s size&&(Nat.beq c mO&&Nat.ble (n*size) vs.length)with
    |true=>some (vs.take (n*size),tF h b)
    |false=>none
   |_=>none
  |_=>none
 |_=>none
def Tb(N0:Nat)(Γ:Env)(d:Nat):Option Operand->Option Nat
 |none=>some d
 |some x=>match uO N0 Γ x with
  |some (.int _ (.ofNat z))=>some z
  |_=>none
def EF(N0:Nat)(r:R)(Γ:Env)(h:Mp)(nx:Nat):Option PR:=
 match kg r&&(okC r&&((mq r).all (tU N0 Γ)&&okS (tH N0 Γ) r))with
 |true=>match kW (tH N0 Γ) r with
  |some v=>some (.val v h nx)
  |none=>none
 |false=>none
def slcU(N0:Nat)(Γ:Env)(h:Mp)(size:Nat)(lo hi:Option Operand)(b o n c:Nat):Option Value:=
 match tL h b with
 |some (.grow s vs)=>match Tb N0 Γ 0 lo,Tb N0 Γ n hi with
  |some l,some m=>match Nat.beq s size&&(Nat.blt 0 size&&(Nat.beq o ((c - mO)*size)&&(Nat.ble ((c - mO+n)*size) vs.length&&(Nat.ble l m&&(Nat.ble m n&&(Nat.blt l n||Nat.beq l 0))))))with
   |true=>some (.slice (some ⟨b,o+l*size,none⟩) (m - l) (c+l))
   |false=>none
  |_,_=>none
 |_=>none
def yh(N0:Nat)(F:CF)(r:R)(Γ:Env)(h:Mp)(nx:Nat):Option PR:=
 match r with
 |.dc x=>match uO N0 Γ x with
  |some (.pointer (some ⟨b,o,none⟩))=>match lC h b o 1 with
   |some [v]=>some (.val v h nx)
   |_=>none
  |_=>none
 |.ij n x=>match uO N0 Γ x with
  |some (.pointer (some ⟨b,o,none⟩))=>match lC h b o n with
   |some us=>some (.val (.agg us.toArray) h nx)
   |none=>none
  |_=>none
 |.alloc t z=>match z.all bC with
  |true=>some (.val (.pointer (some ⟨nx,0,none⟩)) ((nx,.cells z)::h) (nx+1))
  |false=>none
 |.box t x=>match uO N0 Γ x with
  |some v=>some (.val (.pointer (some ⟨nx,0,none⟩)) ((nx,.cells v.cells.toList)::h) (nx+1))
  |none=>none
 |.nA t len z ps=>match z.all bC&&((ps.map (·.2.2)).all (tU N0 Γ)&&Nat.blt len mO)with
  |true=>match jh (jB len z) (jb (tH N0 Γ) ps)with
   |some out=>some (.val (.slice (some ⟨nx,0,none⟩) len len) ((nx,.cells out)::h) (nx+1))
   |none=>none
  |false=>none
 |.store n x v=>match uO N0 Γ x,uO N0 Γ v with
  |some (.pointer (some ⟨b,o,none⟩)),some u=>match Nat.beq u.cells.toList.length n with
   |true=>match ME h b o u.cells.toList with
    |some h'=>some (.val undef h' nx)
    |none=>none
   |false=>none
  |_,_=>none
 |.append t size bytes zero s x=>match uO N0 Γ s,uO N0 Γ x with
  |some sv,some xv=>match NS h size sv with
   |some (xs,h')=>match srcE h' size xv with
    |some (m,ys)=>match ys.all jo&&(Nat.beq zero.length size&&(!Nat.beq bytes 0&&(Nat.ble (xs.length+m) 1048576&&(Nat.ble bytes 65536&&(Nat.blt 0 size&&!Nat.beq (xs.length+m) 0)))))with
     |true=>some (.val (.slice (some ⟨nx,0,none⟩) (xs.length / size+m) mO) ((nx,.grow size (xs++ys))::h') (nx+1))
     |false=>none
    |none=>none
   |none=>none
  |_,_=>none
 |.call f xs=>match OK N0 Γ xs with
  |some args=>F f args h nx
  |none=>none
 |.sL size x lo hi mx=>match mx,uO N0 Γ x with
  |none,some (.slice (some ⟨b,o,none⟩) n c)=>match Nat.blt c mO with
   |true=>EF N0 (.sL size x lo hi mx) Γ h nx
   |false=>match slcU N0 Γ h size lo hi b o n c with
    |some v=>some (.val v h nx)
    |none=>none
  |_,_=>EF N0 (.sL size x lo hi mx) Γ h nx
 |r=>EF N0 r Γ h nx
def KW(Γ:Env):Option (Nat×Bool)->Option Bool
 |none=>some true
 |some (s,b)=>match look Γ s with
  |some (.bool c)=>some (c==b)
  |some (.tuple vs)=>match vs.toList with
   |[]=>some false
   |_=>none
  |_=>none
def zE(N0:Nat)(F:CF):List RO->Env->Mp->Nat->Option OR
 |[],Γ,h,nx=>some (.ok Γ h nx)
 |x::rs,Γ,h,nx=>match KW Γ x.guard with
  |none=>none
  |some false=>zE N0 F rs (aq x.dst undef Γ) h nx
  |some true=>match yh N0 F x.op Γ h nx with
   |none=>none
   |some (.xZ ch h' bf)=>some (.xZ ch Γ h' bf)
   |some (.val v h' bf)=>zE N0 F rs (aq x.dst v Γ) h' bf
def Tv(e:Value->Value->Bool):List Value->List Value->Bool
 |[],[]=>true
 |x::xs,y::ys=>e x y&&Tv e xs ys
 |_,_=>false
def Oz:Nat->Value->Value->Bool
 |0,_,_=>false
 |k+1,a,b=>match a,b with
  |.bool x,.bool y=>x==y
  |.int i x,.int j y=>decide (i=j)&&decide (x=y)
  |.string x,.string y=>decide (x=y)
  |.pointer none,.pointer none=>true
  |.pointer (some x),.pointer (some y)=>decide (x=y)
  |.slice none n c,.slice none m d=>Nat.beq n m&&Nat.beq c d
  |.slice (some x) n c,.slice (some y) m d=>decide (x=y)&&(Nat.beq n m&&Nat.beq c d)
  |.map none,.map none=>true
  |.map (some x),.map (some y)=>Nat.beq x y
  |.nilFunc,.nilFunc=>true
  |.nilIface,.nilIface=>true
  |.iface t x,.iface u y=>decide (t=u)&&Oz k x y
  |.agg x,.agg y=>Tv (Oz k) x.toList y.toList
  |.tuple x,.tuple y=>Tv (Oz k) x.toList y.toList
  |.func (.func f) x y,.func (.func g) z w=>decide (f=g)&&(Tv (Oz k) x.toList z.toList&&Tv (Oz k) y.toList w.toList)
  |_,_=>false
def eqE:Env->Env->Bool
 |[],[]=>true
 |(s,x)::r,(t,y)::q=>Nat.beq s t&&(Oz 20 x y&&eqE r q)
 |_,_=>false
def eqM:List MapEntry->List MapEntry->Bool
 |[],[]=>true
 |x::xs,y::ys=>(Oz 20 x.key y.key&&Oz 20 x.val y.val)&&(Nat.beq x.born y.born&&eqM xs ys)
 |_,_=>false
def eqB:xQ->xQ->Bool
 |.cells x,.cells y=>Tv (Oz 20) x y
 |.grow n x,.grow m y=>Nat.beq n m&&Tv (Oz 20) x y
 |.obj (.map x c),.obj (.map y d)=>eqM x.toList y.toList&&Nat.beq c d
 |.obj (.stringIter x c),.obj (.stringIter y d)=>decide (x=y)&&Nat.beq c d
 |_,_=>false
def eqH:Mp->Mp->Bool
 |[],[]=>true
 |(s,x)::r,(t,y)::q=>Nat.beq s t&&(eqB x y&&eqH r q)
 |_,_=>false
def MU(N0:Nat)(F:CF)(aV:List Nat)(Γ:Env)(h:Mp)(nx:Nat)(Δ:Env)(h1:Mp)(n1:Nat):List (List RO)->Bool
 |[]=>true
 |rs::r=>match zE N0 F rs Γ h nx with
  |some (.ok aw h' bf)=>match eqE (aT aV aw) Δ&&(Nat.beq bf n1&&eqH h' h1)with
   |true=>MU N0 F aV Γ h nx Δ h1 n1 r
   |false=>false
  |_=>false
inductive Ex where
 |normal
 |exit (id:Nat)
 |ret
 |xZ (ch:List PanicEntry)
abbrev IR:=Option (Ex×Env×Mp×Nat)
def IX(body:Env->Mp->Nat->IR):Nat->Env->Mp->Nat->IR
 |0,_,_,_=>none
 |k+1,Γ,h,nx=>match body Γ h nx with
  |none=>none
  |some (.normal,aw,h',bf)=>IX body k aw h' bf
  |some r=>some r
def wS(N0:Nat)(F:CF)(L:Nat):IC->Env->Mp->Nat->IR
 |.skip,Γ,h,nx=>some (.normal,Γ,h,nx)
 |.mY rs aV,Γ,h,nx=>match zE N0 F rs Γ h nx with
  |none=>none
  |some (.ok aw h' bf)=>some (.normal,aT aV aw,h',bf)
  |some (.xZ ch aw h' bf)=>some (.xZ ch,aw,h',bf)
 |.draw s8 aV,Γ,h,nx=>match s8 with
  |[]=>none
  |rs::r=>match zE N0 F rs Γ h nx with
   |some (.ok aw h' bf)=>match r with
    |[]=>some (.normal,aT aV aw,h',bf)
    |r0::r1=>match MU N0 F aV Γ h nx (aT aV aw) h' bf (r0::r1)with
     |true=>some (.normal,aT aV aw,h',bf)
     |false=>none
   |_=>none
 |.seq a b,Γ,h,nx=>match wS N0 F L a Γ h nx with
  |none=>none
  |some (.normal,aw,h',bf)=>wS N0 F L b aw h' bf
  |some r=>some r
 |.cond c a b,Γ,h,nx=>match uO N0 Γ c with
  |some (.bool true)=>wS N0 F L a Γ h nx
  |some (.bool false)=>wS N0 F L b Γ h nx
  |_=>none
 |.block id a,Γ,h,nx=>match wS N0 F L a Γ h nx with
  |none=>none
  |some (.exit i,aw,h',bf)=>match Nat.beq i id with
   |true=>some (.normal,aw,h',bf)
   |false=>some (.exit i,aw,h',bf)
  |some r=>some r
 |.loop a,Γ,h,nx=>IX (wS N0 F L a) L Γ h nx
 |.exit id,Γ,h,nx=>some (.exit id,Γ,h,nx)
 |.ret,Γ,h,nx=>some (.ret,Γ,h,nx)
 |.iM ..,_,_,_=>none
 |.scope a,Γ,h,nx=>wS N0 F L a Γ h nx
 |.label _,Γ,h,nx=>some (.normal,Γ,h,nx)
 |.free ..,_,_,_=>none
def Ck(Γ:Env)(h:Mp):List RV->Option (List Value)
 |[]=>some []
 |.tmp t::r=>match look Γ t,Ck Γ h r with
  |some v,some l=>some (v::l)
  |_,_=>none
 |.cq t::r=>match look Γ t with
  |some (.pointer (some ⟨b,o,none⟩))=>match lC h b o 1,Ck Γ h r with
   |some [v],some l=>some (v::l)
   |_,_=>none
  |_=>none
 |.aI t n::r=>match look Γ t with
  |some (.pointer (some ⟨b,o,none⟩))=>match lC h b o n,Ck Γ h r with
   |some us,some l=>some (.agg us.toArray::l)
   |_,_=>none
  |_=>none
inductive FE where
 |fir (F:aO)
def Yk:List (Nat×FE)->Nat->Option FE
 |[],_=>none
 |(i,b)::r,k=>match Nat.beq i k with|true=>some b|false=>Yk r k
def orcTo(a b:CF):CF:=λf args h nx=>match a f args h nx with
 |some r=>some r
 |none=>b f args h nx
def Ax(N0:Nat)(EY:List (Nat×FE))(Zq:CF)(L:Nat):Nat->CF
 |0,_,_,_,_=>none
 |k+1,f,args,h,nx=>match Zq f args h nx with
  |some r=>some r
  |none=>match Yk EY f with
   |none=>none
   |some (.fir R)=>match Nat.ble args.length R.n with
    |false=>none
    |true=>match wS N0 (Ax N0 EY Zq L k) L R.body (aM 0 args) h nx with
     |some (.normal,aw,h',bf)=>match Ck aw h' R.bO with
      |some vs=>some (.val (bN vs) h' bf)
      |none=>none
     |some (.ret,aw,h',bf)=>match Ck aw h' R.bO with
      |some vs=>some (.val (bN vs) h' bf)
      |none=>none
     |some (.xZ ch,_,h',bf)=>some (.xZ ch h' bf)
     |_=>none
def Ag(k:Nat)(σ τ:Sg):Prop:=∀i,i < k->σ.sX i=τ.sX i/\σ.off i=τ.off i/\σ.cap i=τ.cap i/\σ.tl i=τ.tl i
theorem Ag.refl(k:Nat)(σ:Sg):Ag k σ σ:=λ_ _=>⟨rfl,rfl,rfl,rfl⟩
theorem Ag.symm {k:Nat}{σ g:Sg}(h:Ag k σ g):Ag k g σ:=λi j=>let⟨a,b,c,d⟩:=h i j;⟨a.symm,b.symm,c.symm,d.symm⟩
theorem Ag.mono {k l:Nat}{σ d:Sg}(h:Ag l σ d)(hk:k<=l):Ag k σ d:=λi hi=>h i Zo
theorem Ag.trans {k l:Nat}{σ j m:Sg}(h:Ag k σ j)(g:Ag l j m)(hk:k<=l):Ag k σ m:=λi q=>
 let⟨a,b,c,d⟩:=h i q;let⟨a',b',c',d'⟩:=g i Zo;⟨a.trans a',b.trans b',c.trans c',d.trans d'⟩
def ck(k:Nat)(v:Value):Prop:=∀σ τ,Ag k σ τ->rn σ v=rn τ v
theorem ck.mono {k l:Nat}{v:Value}(h:ck k v)(d:k<=l):ck l v:=λσ g a=>h σ g (a.mono d)
theorem ck.plain {k:Nat}{v:Value}(h:rh v=true):ck k v:=λσ τ _=>by rw[eZ h,eZ h]
theorem ck.bC {k:Nat}{v:Value}(h:V.bC v=true):ck k v:=λσ τ _=>by rw[fV h,fV h]
theorem map_inj {f g:Value->Value}:∀{l:List Value},l.map f=l.map g->∀v∈l,f v=g v:=by
 intro l
 induction l with
 |nil=>intro _ v h;cases h
 |cons x l ih=>
  intro h v hv;simp only[QD,vq]at h;rcases QI.1 hv with rfl|hv
  .exact h.1
  .exact ih h.2 v hv
theorem ck.cells {k:Nat}{v:Value}(h:ck k v):∀c∈v.cells.toList,ck k c:=λc g σ j a=>by
 have d:=congrArg (λu=>(Value.cells u).toList) (h σ j a);simp only[sG,vE]at d;exact map_inj d c g
theorem ck.agg {k:Nat}{l:List Value}(h:∀v∈l,ck k v):ck k (.agg l.toArray):=λσ g a=>by
 simp only[Cl];congr 1;apply vD.1;simp only[vE];exact QC λx d=>h x d σ g a
theorem ck.bN {k:Nat}{l:List Value}(h:∀v∈l,ck k v):ck k (V.bN l):=by
 have d:ck k (.tuple l.toArray):=λσ j a=>by
  simp only[Cm];congr 1;apply vD.1;simp only[vE];exact QC λx g=>h x g σ j a
 cases l with
 |nil=>exact d
 |cons x l=>cases l with
  |nil=>exact h x Zs
  |cons y l=>exact d
theorem rn_tup(σ:Sg)(l:List Value):rn σ (V.bN l)=V.bN (l.map (rn σ)):=by
 cases l with
 |nil=>simp[V.bN]
 |cons x l=>cases l with
  |nil=>simp[V.bN]
  |cons y l=>simp[V.bN]
def rnO(σ:Sg):Obj->Obj
 |.map es c=>.map (es.map λe=>{e with key:=rn σ e.key,val:=rn σ e.val}) c
 |o=>o
def yd(σ:Sg)(i:Nat):xQ->List kC
 |.cells vs=>kA (σ.sX i) (σ.off i) (vs.map (rn σ))
 |.grow _ vs=>kA (σ.sX i) (σ.off i) (vs.map (rn σ)++σ.tl i)
 |.obj o=>[.obj (σ.sX i) (rnO σ o)]
def kY(A:List kC)(σ:Sg):Mp->List kC
 |[]=>A
 |p::h=>yd σ p.1 p.2++kY A σ h
variable {A:List kC}
theorem IN {σ:Sg}:∀{h:Mp},(kY A σ h).Perm (A++kY [] σ h):=by
 intro h
 induction h with
 |nil=>simp[kY]
 |cons p h ih=>exact(vZ _ ih).trans (zo _ _ _)
def ScB(k:Nat):xQ->Prop
 |.cells vs=>∀v∈vs,ck k v
 |.grow _ vs=>∀v∈vs,ck k v
 |.obj o=>∀σ τ,Ag k σ τ->rnO σ o=rnO τ o
theorem ScB.mono {k l:Nat}{b:xQ}(h:ScB k b)(d:k<=l):ScB l b:=by
 cases b with
 |cells vs=>exact λv g=>(h v g).mono d
 |grow s vs=>exact λv g=>(h v g).mono d
 |obj o=>exact λσ j a=>h σ j (a.mono d)
def SI(σ:Sg)(i:Nat):xQ->Prop
 |.cells _=>True
 |.grow s vs=>vs.length+(σ.tl i).length=σ.cap i*s
 |.obj _=>σ.off i=0
structure jA (N0:Nat)(σ:Sg)(bE:List Value)(h:Mp)(nx:Nat):Prop where
 fix:∀g,g < N0->σ.sX g=g/\σ.off g=0
 le:N0<=nx
 ids:∀p∈h,p.1 < nx
 grow:∀p∈h,SI σ p.1 p.2
 cells:∀p∈h,ScB nx p.2
 bE:∀v∈bE,ck nx v
theorem jA.with {N0:Nat}{σ:Sg}{j d:List Value}{h:Mp}{nx:Nat}(g:jA N0 σ j h nx)(m:∀v∈d,ck nx v):jA N0 σ d h nx:=⟨g.fix,g.le,g.ids,g.grow,g.cells,m⟩
theorem U6 {k i:Nat}{σ d:Sg}{b:xQ}(a:Ag k σ d)(A:i < k)(h:ScB k b):yd σ i b=yd d i b:=by
 obtain⟨g,m,a3,q⟩:=a i A;cases b with
 |cells vs=>simp only[yd,g,m];congr 1;exact QC λv j=>h v j σ d a
 |grow s vs=>simp only[yd,g,m,q];congr 2;exact QC λv j=>h v j σ d a
 |obj o=>simp only[yd,g,h σ d a]
theorem U7 {k:Nat}{σ m:Sg}{h:Mp}(a:Ag k σ m)(j:∀p∈h,p.1 < k)(g:∀p∈h,ScB k p.2):kY A σ h=kY A m h:=by
 induction h with
 |nil=>rfl
 |cons p h ih=>
  simp only[kY];rw[U6 a (j p Zs) (g p Zs),ih (λq d=>j q (by simp[d])) (λq d=>g q (by simp[d]))]
theorem SI.ag {k i:Nat}{σ d:Sg}{b:xQ}(a:Ag k σ d)(q:i < k)(h:SI σ i b):SI d i b:=by
 obtain⟨a1,g,j,m⟩:=a i q;cases b with
 |cells vs=>trivial
 |grow s vs=>simpa only[SI,<- j,<- m]using h
 |obj o=>simpa only[SI,<- g]using h
theorem yj {a b:Nat}(h:Nat.beq a b=true):a=b:=Nat.eq_of_beq_eq_true h
theorem beqF {a b:Nat}(h:Nat.beq a b=false):a≠b:=Nat.ne_of_beq_eq_false h
theorem lU {a b:Nat}(h:Nat.ble a b=true):a<=b:=Qs h
theorem E8 {a b:Nat}(h:Nat.blt a b=true):a < b:=Qs h
theorem yG {h:Mp}{b:Nat}{k:xQ}(e:tL h b=some k):(b,k)∈h:=by
 induction h with
 |nil=>cases e
 |cons p h ih=>
  obtain⟨i,c⟩:=p;simp only[tL]at e;split at e
  .rename_i d;cases e;rw[yj d];simp
  .simp[ih e]
theorem H5 {h:Mp}{b:Nat}{p:Nat×xQ}(e:p∈tF h b):p∈h:=by
 induction h with
 |nil=>cases e
 |cons q h ih=>
  obtain⟨i,c⟩:=q;simp only[tF]at e;split at e
  .simp[e]
  .rcases QI.1 e with rfl|e
   .simp
   .simp[ih e]
theorem Cp {h:Mp}{b:Nat}{c:xQ}{p:Nat×xQ}(e:p∈Mf h b c):p∈h∨p=(b,c):=by
 induction h with
 |nil=>cases e
 |cons q h ih=>
  obtain⟨i,d⟩:=q;simp only[Mf]at e;split at e
  .rename_i g;rcases QI.1 e with rfl|e
   .right;rw[yj g]
   .left;simp[e]
  .rcases QI.1 e with rfl|e
   .simp
   .rcases ih e with h1|h1
    .left;simp[h1]
    .exact .inr h1
theorem oH {σ:Sg}{h:Mp}{b:Nat}{k:xQ}(e:tL h b=some k):(kY A σ h).Perm (yd σ b k++kY A σ (tF h b)):=by
 induction h with
 |nil=>cases e
 |cons p h ih=>
  obtain⟨i,c⟩:=p;simp only[tL]at e;split at e
  .rename_i d;cases e;simp only[tF,d];rw[yj d];exact .refl _
  .rename_i d;simp only[tF,d];exact(vZ _ (ih e)).trans (zo _ _ _)
theorem Pg {σ:Sg}{h:Mp}{b:Nat}{k c:xQ}(e:tL h b=some k):(kY A σ (Mf h b c)).Perm (yd σ b c++kY A σ (tF h b)):=by
 induction h with
 |nil=>cases e
 |cons p h ih=>
  obtain⟨i,d⟩:=p;simp only[tL]at e;split at e
  .rename_i g;cases e;simp only[tF,Mf,g];rw[yj g];exact .refl _
  .rename_i g;simp only[tF,Mf,g];exact(vZ _ (ih e)).trans (zo _ _ _)
theorem ER {σ:Sg}{b:Nat}{k:xQ}{vs:List Value}(e:rowB k=some vs):∃tl,(∀us,yd σ b (Xq k us)=kA (σ.sX b) (σ.off b) (us.map (rn σ)++tl))/\yd σ b k=kA (σ.sX b) (σ.off b) (vs.map (rn σ)++tl):=by
 cases k with
 |cells ws=>cases e;exact⟨[],λus=>by simp[yd,Xq],by simp[yd]⟩
 |grow s ws=>cases e;exact⟨σ.tl b,λus=>rfl,rfl⟩
 |obj o=>cases e
theorem rj {h:Mp}{b o n:Nat}{us:List Value}(e:lC h b o n=some us):∃k vs,tL h b=some k/\rowB k=some vs/\o+n<=vs.length/\us=(vs.drop o).take n:=by
 unfold lC at e;split at e
 case h_2=>cases e
 rename_i k g;split at e
 case h_2=>cases e
 rename_i vs j;split at e
 case h_2=>cases e
 rename_i d;cases e;exact⟨k,vs,g,j,lU d,rfl⟩
theorem oT {h:Mp}{b o n:Nat}{us:List Value}(e:lC h b o n=some us):us.length=n:=by
 obtain⟨k,vs,_,_,h1,rfl⟩:=rj e;simp;omega
theorem oj {N0:Nat}{σ:Sg}{q:List Value}{h:Mp}{nx b o n:Nat}{us:List Value}(g:jA N0 σ q h nx)(e:lC h b o n=some us):∀v∈us,ck nx v:=by
 obtain⟨k,vs,A,d,_,rfl⟩:=rj e;have m:=g.cells _ (yG A);intro v B;have j:v∈vs:=List.mem_of_mem_drop (QP B);cases k with
 |cells ws=>cases d;exact m v j
 |grow s ws=>cases d;exact m v j
 |obj o=>cases d
theorem mS {b o i m:Nat}{vs us:List Value}(h:us=(vs.drop i).take m):∀x∈kA b (o+i) us,x∈kA b o vs:=by
 intro x g;subst h;obtain⟨j,v,d,rfl⟩:=kJ.1 g;refine kJ.2 ⟨i+j,v,?_,by congr 1;omega⟩;simp only[List.getElem?_take,Vo]at d;split at d
 .exact d
 .cases d
theorem fU {σ:Sg}{h:Mp}{b o n:Nat}{us:List Value}(e:lC h b o n=some us):∀x∈kA (σ.sX b) (σ.off b+o) (us.map (rn σ)),x∈kY A σ h:=by
 obtain⟨k,vs,d,g,h3,rfl⟩:=rj e;obtain⟨tl,_,j⟩:=ER (σ:=σ) (b:=b) g;intro x q;refine(oH d).mem_iff.2 (Zw _ ?_);rw[j];refine mS (m:=n) (i:=o) ?_ x q;rw[List.drop_append_of_le_length tj,List.take_append_of_le_length tj];simp[List.map_take,List.map_drop]
theorem LW(σ:Sg)(v:Value):jo (rn σ v)=jo v:=by
 cases v <;> try simp[jo]
 .rename_i a;cases a <;> simp[jo]
 .rename_i a _ _;cases a <;> simp[jo]
 .rename_i a;cases a <;> simp[jo]
theorem uW(σ:Sg)(l:List Value)(h:l.all jo=true):(l.map (rn σ)).all jo=true:=by
 rw[vg]at h|-;intro x d;obtain⟨y,g,rfl⟩:=QO.1 d;rw[LW];exact h y g
def cp(σ:Sg)(Γ:Env):Env:=Γ.map λp=>(p.1,rn σ p.2)
theorem l8(σ:Sg)(Γ:Env)(t:Nat):look (cp σ Γ) t=(look Γ t).map (rn σ):=by
 induction Γ with
 |nil=>rfl
 |cons p Γ ih=>
  simp only[cp,QD,look];by_cases e:p.1=t
  .simp[e]
  .simp only[e,if_false];exact ih
theorem Bh {Γ:Env}{t:Nat}{v:Value}(h:look Γ t=some v):v∈Γ.map (·.2):=by
 induction Γ with
 |nil=>cases h
 |cons p Γ ih=>
  simp only[look]at h;split at h
  .cases h;simp
  .simp[ih h]
theorem NH(σ:Sg)(d:Option Nat)(v:Value)(Γ:Env):cp σ (aq d v Γ)=aq d (rn σ v) (cp σ Γ):=by cases d <;> rfl
theorem Jm {k:Nat}{d:Option Nat}{v:Value}{Γ:Env}(h:∀u∈v::Γ.map (·.2),ck k u):∀u∈(aq d v Γ).map (·.2),ck k u:=by
 cases d with
 |none=>exact λu g=>h u (QJ _ g)
 |some d=>simpa[aq]using h
theorem uA(σ:Sg)(k:List Nat)(Γ:Env):cp σ (aT k Γ)=aT k (cp σ Γ):=by
 induction k with
 |nil=>rfl
 |cons t k ih=>
  simp only[aT,l8];cases look Γ t with
  |none=>exact ih
  |some v=>simp only[XB,cp,QD];congr 1
theorem rk {n:Nat}{k:List Nat}{Γ:Env}(h:∀u∈Γ.map (·.2),ck n u):∀u∈(aT k Γ).map (·.2),ck n u:=by
 induction k with
 |nil=>intro u hu;cases hu
 |cons t k ih=>
  simp only[aT];split
  .rename_i v d;intro u hu;simp only[QD,QI]at hu;rcases hu with rfl|hu
   .exact h _ (Bh d)
   .exact ih u hu
  .exact ih
theorem uz {k:Nat}{σ d:Sg}{Γ:Env}(a:Ag k σ d)(h:∀u∈Γ.map (·.2),ck k u):cp σ Γ=cp d Γ:=by
 unfold cp;refine QC λp g=>?_
 rw[h p.2 (QO.2 ⟨p,g,rfl⟩) σ d a]
section
variable {N0 nx:Nat} {σ:Sg} {Γ:Env} {h:Mp}
theorem lg(g:jA N0 σ (Γ.map (·.2)) h nx){x:Operand}{v:Value}(e:uO N0 Γ x=some v):ev (cp σ Γ) x=some (rn σ v)/\ck nx v:=by
 cases x with
 |tmp t=>
  simp only[uO]at e;refine⟨by simp only[ev,l8,e,XB],g.bE _ (Bh e)⟩
 |const u=>
  simp only[uO]at e;split at e
  .rename_i m;cases e;exact⟨by simp only[ev,eZ m],ck.plain m⟩
  .cases e
 |global i=>
  simp only[uO]at e;split at e
  .rename_i j;cases e;obtain⟨B,C⟩:=g.fix i (E8 j);refine⟨by simp only[ev,dQ,sE,B,C],λA d a=>?_⟩;obtain⟨q,s,_⟩:=a i (Qw (E8 j) g.le);simp only[dQ,sE,q,s]
  .cases e
 |func f=>
  simp only[uO,XD]at e;subst e;exact⟨by simp[ev,rnF],λA d a=>by simp[rnF]⟩
theorem evs_rn(g:jA N0 σ (Γ.map (·.2)) h nx):∀{xs:List Operand} {vs:List Value},OK N0 Γ xs=some vs->nt (cp σ Γ) xs=some (vs.map (rn σ))/\∀v∈vs,ck nx v:=by
 intro xs
 induction xs with
 |nil=>intro vs e;simp only[OK,XD]at e;subst e;exact⟨rfl,λv d=>by cases d⟩
 |cons x xs ih=>
  intro vs e;simp only[OK]at e;split at e
  case h_2=>cases e
  rename_i v d;split at e
  case h_2=>cases e
  rename_i l A;cases e;obtain⟨j,m⟩:=lg g d;obtain⟨q,s⟩:=ih A;refine⟨by simp only[nt,j,q,QD],λu hu=>?_⟩;rcases QI.1 hu with rfl|hu
  .exact m
  .exact s u hu
theorem lq(g:jA N0 σ (Γ.map (·.2)) h nx){x:Operand}(e:tU N0 Γ x=true):known (cp σ Γ) x=true/\G9 (cp σ Γ) x=rn σ (tH N0 Γ x)/\ck nx (tH N0 Γ x):=by
 obtain⟨v,d⟩:=X8.1 e;obtain⟨j,m⟩:=lg g d;exact⟨by simp[known,j],by simp[G9,tH,j,d],by simpa[tH,d]using m⟩
end
def lO(σ:Sg)(k b o c:Nat)(t:List Value):Sg:=⟨λi=>if i=k then b else σ.sX i,λi=>if i=k then o else σ.off i,λi=>if i=k then c else σ.cap i,λi=>if i=k then t else σ.tl i⟩
theorem pb(σ:Sg)(k b o c:Nat)(t:List Value):Ag k σ (lO σ k b o c t):=λi d=>by
 simp only[lO,if_neg (Nat.ne_of_lt d),and_self]
theorem yu(σ:Sg)(k b o c:Nat)(t:List Value):(lO σ k b o c t).sX k=b/\(lO σ k b o c t).off k=o/\(lO σ k b o c t).cap k=c/\(lO σ k b o c t).tl k=t:=by simp[lO]
theorem jA.new {N0 nx:Nat}{σ:Sg}{C j:List Value}{h m:Mp}{B:xQ}{b o c:Nat}{t:List Value}(g:jA N0 σ C h nx)(d:∀p∈m,p∈h)(D:ScB (nx+1) B)(E:SI (lO σ nx b o c t) nx B)
 (F:∀v∈j,ck (nx+1) v):jA N0 (lO σ nx b o c t) j ((nx,B)::m) (nx+1):=by
 have a:=pb σ nx b o c t;refine⟨λi q=>?_,Nat.le_succ_of_le g.le,λp hp=>?_,λp hp=>?_,λp hp=>?_,F⟩
 .obtain⟨s,A,_⟩:=a i (Qw q g.le);rw[<- s,<- A];exact g.fix i q
 .rcases QI.1 hp with rfl|hp
  .exact Qx _
  .exact Nat.lt_succ_of_lt (g.ids p (d p hp))
 .rcases QI.1 hp with rfl|hp
  .exact E
  .exact(g.grow p (d p hp)).ag a (g.ids p (d p hp))
 .rcases QI.1 hp with rfl|hp
  .exact D
  .exact(g.cells p (d p hp)).mono (Qu _)
theorem oI {N0 nx:Nat}{σ:Sg}{q:List Value}{h d:Mp}{B:xQ}{b o c:Nat}{t:List Value}(g:jA N0 σ q h nx)(m:∀p∈d,p∈h):
 kY A (lO σ nx b o c t) ((nx,B)::d)=yd (lO σ nx b o c t) nx B++kY A σ d:=by
 have:=U7 (A:=A) (pb σ nx b o c t) (λp j=>g.ids p (m p j)) (λp j=>g.cells p (m p j));rw[this];rfl
theorem ck.ptr {k i o:Nat}{s:Option Nat}(h:i < k):ck k (.pointer (some ⟨i,o,s⟩)):=λσ τ a=>by
 obtain⟨d,g,_⟩:=a i h;simp only[dQ,sE,d,g]
theorem ck.slc {k i o n c:Nat}{s:Option Nat}(j:i < k):ck k (.slice (some ⟨i,o,s⟩) n c):=λσ τ a=>by
 obtain⟨d,g,h,_⟩:=a i j;simp only[bz,sE,Jy,d,g,h]
end Go.V

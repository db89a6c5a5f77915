/-
  A function that defers one closure.
-/
import Derived.Test.YtijnokbblmbpkaaGreatDoorN5
import Derived.DefersIn
import Derived.RecoverIn
set_option linter.all false
namespace Go.V
open Go
def ox(P:Program)(n:Nat)(c:IC)(Γ:Env)(H:SH)(Q:Exit->Env->SH->Prop):Prop:=
 ∀ρ kp od code,wk P n kp od code=some c->∀a w F (QQ:Exit->Act->World->Prop),jl n Γ a->Sat w (H.flatten++F)->
  (∀e a' w' aw H',Q e aw H'->jl n aw a'->a'.defers=a.defers->Sat w' (H'.flatten++F)->ki w w'->QQ e a' w')->code.wpIn (yW ρ) 0 P QQ a w
section
variable {P:Program} {n:Nat} {Γ:Env} {H:SH} {Q Q':Exit->Env->SH->Prop}
theorem ox.skip(h:Q .normal Γ H):ox P n .skip Γ H Q:=by
 intro ρ kp od code hl a w F QQ ha hs hh;obtain rfl:=jV hl;exact wpIn_skip (hh _ _ _ _ _ h ha rfl hs (.refl w))
theorem ox.ret(h:Q .ret Γ H):ox P n .ret Γ H Q:=by
 intro ρ kp od code hl a w F QQ ha hs hh;obtain rfl:=jV hl;exact wpIn_ret (hh _ _ _ _ _ h ha rfl hs (.refl w))
theorem ox.cond {c:Operand}{x y:IC}{t:Bool}(hc:ev Γ c=some (.bool t))(ht:t=true->ox P n x Γ H Q)(hf:t=false->ox P n y Γ H Q):ox P n (.cond c x y) Γ H Q:=by
 intro ρ kp od code hl a w F QQ ha hs hh;obtain⟨p,q,rfl,h1,h2⟩:=jV hl;exact wpIn_cond_split (ha.ev hc) (fun e=>ht e ρ kp od _ h1 a w F QQ ha hs hh) (fun e=>hf e ρ kp od _ h2 a w F QQ ha hs hh)
theorem ox.seq {x y:IC}(h:ox P n x Γ H (bt (fun aw H'=>ox P n y aw H' Q) Q)):ox P n (.seq x y) Γ H Q:=by
 intro ρ kp od code hl a w F QQ ha hs hh;obtain⟨p,q,rfl,h1,h2⟩:=jV hl;refine wpIn_seq (h ρ kp od _ h1 a w F _ ha hs (fun e a' w' aw H' q g1 g2 g3 g4=>?_));cases e <;> first
  |exact q ρ kp od _ h2 a' w' F QQ g1 g3 (fun e a2 w2 cr H2 q2 k1 k2 k3 k4=>hh e a2 w2 cr H2 q2 k1 (by rw[k2,g2]) k3 (g4.trans k4))
  |exact hh _ _ _ _ _ q g1 g2 g3 g4
theorem ox.lE {rs:List RO}{aP:List Nat}(h:VO P n rs Γ H (fun ch aw H'=>Q (.panic ch) aw H') fun aw H'=>Q .normal (aJ aP aw) H'):ox P n (.lE rs aP) Γ H Q:=by
 intro ρ kp od code hl a w F QQ ha hs hh;obtain⟨id,ops,rfl,h1,rfl⟩:=jV hl;refine wpIn_region ?_;refine eM (P:=P) (ρ:=ρ) (n:=n) (ops:=ops) (X:=fun i=>(rs.zip ops.toList).getD i default) (QQ:=QQ) (fun i hi=>?_) (List.range ops.size) a w (fun i hi=>by simpa using hi) ?_
 ·exact zDC
 ·have hlen:=(ji h1).1;have CM:(List.range ops.size).map (fun i=>(rs.zip ops.toList).getD i default)=rs.zip ops.toList:=by
   exact zB7
  rw[CM];refine h (rs.zip ops.toList) ⟨?_,?_⟩ a w F _ _ ha hs (fun a' w' aw H' q g1 g2 g3 g4=>hh .normal a' w' _ H' q (g1.sub (nH _ _)) g2 g3 g4) (fun ch a' w' aw H' q g1 g2 g3 g4=>hh (.panic ch) a' w' _ H' q g1 g2 g3 g4)
  ·rw[List.map_fst_zip];simp[hlen]
  ·exact zBF
end
def FunD(P:Program)(f:Nat)(args:List Value)(bq:SH)(Q:Value->SH->Prop):Prop:=
 jo P f=true/\∀F w u,Sat w (bq.flatten++F)->CallsDIn (yW none) 0 P f args.toArray u w fun e u' w'=>u'=u/\∃v Post,e=.returned v/\Q v Post/\Sat w' (Post.flatten++F)/\ki w w'
structure DR where
 d:Nat
 g:Nat
 tw:List Operand
def Ij(P:Program)(n:Nat):Code->Option DR
 |.region _ ops false=>match ops.toList with
  |[o1,o2]=>match dJ P n ops o1,o2.op with
   |some ⟨some d,none,.yZ (.func g) [] tw⟩,.defer c=>match c.callee with
    |.value (.tmp d')=>if d'=d/\c.args.size=0/\o2.guard.isNone=true/\o2.dst.isNone=true then some ⟨d,g,tw⟩else none
    |_=>none
   |_,_=>none
  |_=>none
 |_=>none
structure DIR where
 n:Nat
 bG:List RV
 pre:List IC
 dr:DR
 post:IC
def eZ(P:Program)(n:Nat)(kp:Nat->List Nat)(od:Nat->List (List Nat)):Code->Option (List IC×DR×IC)
 |.seq a b=>match Ij P n a with
  |some x=>(wk P n kp od b).map fun y=>([],x,y)
  |none=>match wk P n kp od a,eZ P n kp od b with
   |some x,some (l,d,y)=>some (x::l,d,y)
   |_,_=>none
 |_=>none
def Ka(P:Program)(kp:Nat->List Nat)(od:Nat->List (List Nat))(f:Nat):Option DIR:=
 match P.funcs[f]? with
 |none=>none
 |some fn=>match fn.body with
  |none=>none
  | some c => if fn.name != "runtime.NumGoroutine" then
     match eZ P fn.ntmps kp od c,wR P fn.results.toList with
     |some (l,d,y),some r=>some ⟨fn.ntmps,r,l,d,y⟩
     |_,_=>none
    else none
def endD(P:Program)(g:Nat)(tw:List Value)(bG:List RV)(Q:Value->SH->Prop):Exit->Env->SH->Prop:=fun e Γ H=>(e=.normal∨e=.ret)/\∃bq R Q2,FunD P g tw bq Q2/\cz H bq R/\
 ∀v Post,Q2 v Post->rK bG Q .ret Γ (Post++R)
def VD(P:Program)(n:Nat)(bG:List RV)(dr:DR)(post:IC)(Q:Value->SH->Prop):List IC->Env->SH->Prop
 |[],Γ,H=>∃vs,gN Γ dr.tw=some vs/\VC P n post ((dr.d,.func (.func dr.g) #[] vs.toArray)::Γ) H (endD P dr.g vs bG Q)
 |x::l,Γ,H=>VC P n x Γ H (bt (fun aw H'=>VD P n bG dr post Q l aw H') (rK bG Q))
theorem Ik {P:Program}{n:Nat}{c:Code}{x:DR}(h:Ij P n c=some x):∃id ops o1 o2 cl,c=.region id ops false/\ops.toList=[o1,o2]/\dJ P n ops o1=some ⟨some x.d,none,.yZ (.func x.g) [] x.tw⟩/\
 o2.op=.defer cl/\cl.callee=.value (.tmp x.d)/\cl.args=#[]/\o2.guard=none/\o2.dst=none:=by
 unfold Ij at h;split at h
 case h_2=>cases h
 rename_i id ops;split at h
 case h_2=>cases h
 rename_i o1 o2 HI;split at h
 case h_2=>cases h
 rename_i d g tw c h1 h2;split at h
 case h_2=>cases h
 rename_i d' hc;split at h
 case isFalse=>cases h
 rename_i fI;obtain⟨rfl,h3,h4,h5⟩:=fI;cases h;exact⟨id,ops,o1,o2,c,rfl,HI,h1,h2,hc,by simpa using h3,by simpa using h4,by simpa using h5⟩
section
variable {P:Program} {n:Nat} {fn:Func} {tmps:Array Value} {FF:List kB} {w0:World}
theorem CW {R:Ending->World->Prop}{ds:List Deferred}{L:List kB}:∀(X:List Nat) (w':World),Sat w' (L++(FF++marks X))->ki w0 w'->
 (∀oq,Sat oq (L++FF)->ki w0 oq->LeavesInM (yW none) 0 P fn tmps R ds .returning oq)->LeavesInM (yW none) 0 P fn tmps R (X.map oC++ds) .returning w':=by
 intro X
 induction X with
 |nil=>intro w' hs hk h;exact h w' (by simpa[V.marks]using hs) hk
 |cons r X ih=>
  intro w' hs hk h;have hp:(L++(FF++V.marks (r::X))).Perm (.obj r (.deferred (some []))::(L++(FF++V.marks X))):=by
   exact zCM
  have g5:=hs.perm hp;obtain⟨k1,k2⟩:=g5.obj (QB ..);obtain⟨s1,s2⟩:=Sat.setObj (u:=.deferred none) g5 rfl;refine⟨Zs,.inl ⟨r,_,rfl,?_,ih _ (s1.sub (QX ..)) (hk.trans s2) h⟩⟩;exact zEB
theorem xH {r:List RV}{Q:Value->SH->Prop}{a':Act}{w':World}{aw:Env}{H':SH}{X:List Nat}{e:Exit}(hr:wR P fn.results.toList=some r)(q:rK r Q e aw H')(g1:jl n aw a')(g3:Sat w' (H'.flatten++(FF++marks X)))(g4:ki w0 w'):
 LeavesInM (yW none) 0 P fn a'.tmps (fun e w'=>∃v Post,e=.returned v/\Q v Post/\Sat w' (Post.flatten++FF)/\ki w0 w') (X.map oC) .returning w':=by
 obtain⟨he,vs,Post,h1,h2,h3⟩:=q;have:=CW (P:=P) (fn:=fn) (tmps:=a'.tmps) (R:=fun e w'=>∃v Post,e=.returned v/\Q v Post/\Sat w' (Post.flatten++FF)/\ki w0 w') (ds:=[]) X w' g3 g4 (fun oq s k=>⟨_,fP s hr g1 h1,_,Post,rfl,h3,s.imp h2,k⟩);simpa using this
end
def jb(P:Program)(f:Nat)(args:List Value)(bq:SH)(Q:Value->SH->Prop)(Z:List PanicEntry->SH->Prop):Prop:=
 jo P f=true/\∀F w,Sat w (bq.flatten++F)->
  Calls P f args.toArray w fun e w'=>∃Post,((∃v,e=.returned v/\Q v Post)∨(∃ch,e=.panicked ch/\Z ch Post))/\Sat w' (Post.flatten++F)/\ki w w'
section
variable {P:Program} {f:Nat} {args:List Value} {bq:SH} {Q Q':Value->SH->Prop} {Z Z':List PanicEntry->SH->Prop}
theorem jb.mono(h:jb P f args bq Q Z)(hq:∀v Post,Q v Post->Q' v Post)(hz:∀ch Post,Z ch Post->Z' ch Post):jb P f args bq Q' Z':=
 ⟨h.1,fun F w hs=>(h.2 F w hs).mono fun _ _ ⟨Post,a,b,c⟩=>⟨Post,a.imp (fun⟨v,e,q⟩=>⟨v,e,hq _ _ q⟩) (fun⟨ch,e,q⟩=>⟨ch,e,hz _ _ q⟩),b,c⟩⟩
theorem jb.bX(h:ao P f args bq Q):jb P f args bq Q Z:=
 ⟨h.1,fun F w hs=>(h.2 F w hs).mono fun _ _ ⟨v,Post,a,b,c,d⟩=>⟨Post,.inl ⟨v,a,b⟩,c,d⟩⟩
theorem jb.fun(h:jb P f args bq Q (fun _ _=>False)):ao P f args bq Q:=
 ⟨h.1,fun F w hs=>(h.2 F w hs).mono fun _ _ ⟨Post,a,b,c⟩=>by
   rcases a with⟨v,e,q⟩|⟨ch,e,q⟩
   ·exact⟨v,Post,e,q,b,c⟩
   ·exact q.elim⟩
theorem jb.conv {H R:SH}(h:jb P f args bq Q Z)(hs:cz H bq R)(hq:∀v Post,Q v Post->∃aO,Q' v aO/\aj (Post++R) aO)(hz:∀ch Post,Z ch Post->∃aO,Z' ch aO/\aj (Post++R) aO):jb P f args H Q' Z':=by
 refine⟨h.1,fun F w hw=>?_⟩;have rT:Sat w (bq.flatten++(R.flatten++F)):=by
  rw[<- vZ];exact hw.perm (vV F hs)
 refine(h.2 (R.flatten++F) w rT).mono ?_
 rintro e w' ⟨Post,h1,h3,h4⟩
 have X5:Sat w' ((Post++R).flatten++F):=by rw[V5,vZ];exact h3
 rcases h1 with⟨v,e1,q⟩|⟨ch,e1,q⟩
 ·obtain⟨aO,h5,h6⟩:=hq v Post q;exact⟨aO,.inl ⟨v,e1,h5⟩,Sat.imp h6 X5,h4⟩
 ·obtain⟨aO,h5,h6⟩:=hz ch Post q;exact⟨aO,.inr ⟨ch,e1,h5⟩,Sat.imp h6 X5,h4⟩
end
section
variable {P:Program} {n:Nat} {rs:List RO} {Γ:Env} {H:SH} {Z:List PanicEntry->Env->SH->Prop} {K:Env->SH->Prop} {d:Option Nat}
theorem kK {f:Nat}{xs:List Operand}{args:List Value}{bq R:SH}{Q:Value->SH->Prop}{Z':List PanicEntry->SH->Prop}(hf:jb P f args bq Q Z')(he:gN Γ xs=some args)(hs:cz H bq R)
 (h:∀v Post,Q v Post->VO P n rs (ak d v Γ) (Post++R) Z K) (HY:∀ch Post,Z' ch Post->Z ch Γ (Post++R)):VO P n (⟨d,none,.call f xs⟩::rs) Γ H Z K:=by
 intro l hl a w F ZZ Q' ha fC hq hz;obtain⟨o,l',rfl,qZ,ops,ho⟩:=wz hl;obtain⟨g1,g2,g3,g4⟩:=jG ho;show jx P ZZ (_,o) (eK P ZZ Q' l') a w;unfold jx;simp only[jD,show kf (V.R.call f xs)=false from rfl,show jE (V.R.call f xs)=false from rfl,if_true,vJ,if_false];refine⟨fun e=>(by cases e),?_⟩;obtain⟨c,h1,h2,h3,h4⟩:=pZ g1;have cu:(c.args.map a.eval)=args.toArray:=by
  apply vD.1;rw[vE,h3,ha.gN he]
 have bI:(execOp a.eval o).run P w=.ok (.enter f args.toArray) w:=by
  simp[execOp,h1,resolve,h2,Act.eval,Deferred.ofValue,invoke,cu,zC h4]
 refine Kx bI ?_;have xy:Sat w (bq.flatten++(R.flatten++F)):=by
  exact zD9
 refine(hf.2 (R.flatten++F) w xy).mono ?_;exact zAU
theorem Sl {x:Operand}{t:TypeId}{v:Value}(hx:ev Γ x=some (.iface t v))(h:Z [{v:=.iface t v,recovered:=false}] Γ H):VO P n (⟨d,none,.pnc x⟩::rs) Γ H Z K:=by
 intro l hl a w F ZZ Q' ha fC hq hz;obtain⟨o,l',rfl,qZ,ops,ho⟩:=wz hl;obtain⟨g1,g2,g3,g4⟩:=jG ho;show jx P ZZ (_,o) (eK P ZZ Q' l') a w;unfold jx;simp only[jD,show kf (V.R.pnc x)=false from rfl,show jE (V.R.pnc x)=false from rfl,if_true,vJ,if_false];refine⟨fun e=>(by cases e),?_⟩;have Lq:o.op=.panic x:=by
  obtain⟨dst,op,ty,pos,after,guard⟩:=o;simp only at g1|-;cases op
  case panic y=>simp only[kz,X1,V.R.pnc.injEq]at g1;rw[g1]
  all_goals (exfalso;try simp only[kz]at g1)
  all_goals (repeat' split at g1)
  all_goals first
   |(cases g1;done)
   |(simp only[Qx]at g1;obtain⟨_,_,g1⟩:=g1;cases g1;done)
 have bI:(execOp a.eval o).run P w=.halt (.panic (.iface t v)) w:=by
  simp[execOp,Lq,ha.ev hx,Instr.panic,goPanic,Sem.run]
 simp only[yS,bI,jg];exact hz _ a w Γ H h ha rfl fC (.refl w)
end
def Ud(bG:List RV)(Q:Value->SH->Prop)(Z:List PanicEntry->SH->Prop):Exit->Env->SH->Prop
 |.panic ch,_,H=>∃Post,aj H Post/\Z ch Post
 |e,Γ,H=>rK bG Q e Γ H
theorem jJ {bG:List RV}{Q:Value->SH->Prop}{Z:List PanicEntry->SH->Prop}{e:Exit}{Γ:Env}{H:SH}(h:rK bG Q e Γ H):Ud bG Q Z e Γ H:=by
 have he:=h.1;rcases he with rfl|rfl <;> exact h
section
variable {P:Program} {fn:Func} {tmps:Array Value} {FF:List kB} {w0:World}
theorem gk {R:Ending->World->Prop}{ds:List Deferred}{L:List kB}{u:FrameMode}(hu:u≠.run):∀(X:List Nat) (w':World),Sat w' (L++(FF++marks X))->ki w0 w'->
 (∀oq,Sat oq (L++FF)->ki w0 oq->LeavesInM (yW none) 0 P fn tmps R ds u oq)->LeavesInM (yW none) 0 P fn tmps R (X.map oC++ds) u w':=by
 intro X
 induction X with
 |nil=>intro w' hs hk h;exact h w' (by simpa[V.marks]using hs) hk
 |cons r X ih=>
  intro w' hs hk h;have hp:(L++(FF++V.marks (r::X))).Perm (.obj r (.deferred (some []))::(L++(FF++V.marks X))):=by
   exact zCM
  have g5:=hs.perm hp;obtain⟨k1,k2⟩:=g5.obj (QB ..);obtain⟨s1,s2⟩:=Sat.setObj (u:=.deferred none) g5 rfl;refine⟨hu,.inl ⟨r,_,rfl,?_,ih _ (s1.sub (QX ..)) (hk.trans s2) h⟩⟩;exact zEB
end
theorem jb.intro {P:Program}{kp:Nat->List Nat}{od:Nat->List (List Nat)}{f:Nat}{F:aR}{args:List Value}{bq:SH}{Q:Value->SH->Prop}{Z:List PanicEntry->SH->Prop}(hl:C1 P kp od f=some F)(hn:args.length<=F.n)
 (h:VC P F.n F.body (aB 0 args) bq (Ud F.bG Q Z)):jb P f args bq Q Z:=by
 unfold C1 at hl;split at hl
 ·cases hl
 rename_i fn tY;split at hl
 ·cases hl
 rename_i c hc;split at hl
 case isFalse=>cases hl
 rename_i n6;split at hl
 case h_2=>cases hl
 rename_i b r hb hr;cases hl;refine⟨by simp only[jo,tY,n6,hc];rfl,fun FF w hs=>?_⟩;refine(callsIn_wide (n:=0)).1 (callsIn_of_wp_marks tY hc trivial (h none kp od c hb _ w FF _ (fun l e=>by cases e) ⟨?_,fun t v e=>?_⟩ hs (fun e a' w' aw H' X q g1 g2 g3 g4=>?_)))
 ·simp at hn|-;omega
 ·exact zAS
 ·have OZ:∀e0,rK r Q e0 aw H'->LeavesInM (yW none) 0 P fn a'.tmps (fun e w'=>∃Post,((∃v,e=.returned v/\Q v Post)∨(∃ch,e=.panicked ch/\Z ch Post))/\Sat w' (Post.flatten++FF)/\ki w w') a'.defers .returning w':=by
   rintro e0 ⟨_,vs,Post,h1,h2,h3⟩
   have:=gk (P:=P) (fn:=fn) (tmps:=a'.tmps) (w0:=w) (FF:=FF) (L:=H'.flatten) (u:=.returning) (R:=fun e w'=>∃Post,((∃v,e=.returned v/\Q v Post)∨(∃ch,e=.panicked ch/\Z ch Post))/\Sat w' (Post.flatten++FF)/\ki w w') (ds:=[]) Zs X w' g3 g4
    (fun oq s k=>⟨_,fP s hr g1 h1,Post,.inl ⟨_,rfl,h3⟩,s.imp h2,k⟩)
   rw[g2];exact this
  cases e with
  |normal=>exact OZ _ q
  |ret=>exact OZ _ q
  |panic ch=>
   obtain⟨Post,h2,h3⟩:=q;have:=gk (P:=P) (fn:=fn) (tmps:=a'.tmps) (w0:=w) (FF:=FF) (L:=H'.flatten) (u:=.panicking ch) (R:=fun e w'=>∃Post,((∃v,e=.returned v/\Q v Post)∨(∃ch,e=.panicked ch/\Z ch Post))/\Sat w' (Post.flatten++FF)/\ki w w') (ds:=[]) Zs X w' g3 g4
    (fun oq s k=>(⟨Post,.inr ⟨ch,rfl,h3⟩,s.imp h2,k⟩:∃Post,_))
   show LeavesInM _ _ _ _ _ _ a'.defers _ _;rw[g2];exact this
  |exit id=>exact absurd q.1 Zs
  |goto l=>exact absurd q.1 Zs
  |outgrown=>exact absurd q.1 Zs
def DI(P:Program)(fv:Value)(args:List Value)(bq:SH)(Q:Value->SH->Prop)(Z:List PanicEntry->SH->Prop):Prop:=
 ∀F w,Sat w (bq.flatten++F)->DK P fv args w fun e w'=>∃Post,((∃v,e=.returned v/\Q v Post)∨(∃ch,e=.panicked ch/\Z ch Post))/\Sat w' (Post.flatten++F)/\ki w w'
theorem DI.bX {P:Program}{f:Nat}{first cap:Array Value}{args:List Value}{bq:SH}{Q:Value->SH->Prop}{Z:List PanicEntry->SH->Prop}(h:jb P f (first.toList++args++cap.toList) bq Q Z):DI P (.func (.func f) first cap) args bq Q Z:=by
 exact zCV
theorem MW {P:Program}{n:Nat}{rs:List RO}{Γ:Env}{H:SH}{Z:List PanicEntry->Env->SH->Prop}{K:Env->SH->Prop}{d:Option Nat}{x:Operand}{fv:Value}{xs:List Operand}{args:List Value}{bq R:SH}{Q:Value->SH->Prop}{Z':List PanicEntry->SH->Prop}
 (hx:ev Γ x=some fv) (hf:DI P fv args bq Q Z') (he:gN Γ xs=some args) (hs:cz H bq R)
 (h:∀v Post,Q v Post->VO P n rs (ak d v Γ) (Post++R) Z K) (HY:∀ch Post,Z' ch Post->Z ch Γ (Post++R)):VO P n (⟨d,none,.pK x xs⟩::rs) Γ H Z K:=by
 intro l hl a w F ZZ Q' ha fC hq hz;obtain⟨o,l',rfl,qZ,ops,ho⟩:=wz hl;obtain⟨g1,g2,g3,g4⟩:=jG ho;show jx P ZZ (_,o) (eK P ZZ Q' l') a w;unfold jx;have hp:kf (V.R.pK x xs)=false:=rfl;have hr:jE (V.R.pK x xs)=false:=rfl;simp only[jD,hp,hr,if_true,vJ,if_false];refine⟨fun e=>(by cases e),?_⟩;obtain⟨c,h1,h2,h3⟩:=Bg g1;have hm:xs.map a.eval=args:=ha.gN he;have cu:(c.args.map a.eval)=args.toArray:=by
  exact zEM
 have xy:Sat w (bq.flatten++(R.flatten++F)):=by
  exact zD9
 have hi:=hf (R.flatten++F) w xy;have fin:∀(e:Ending) (w':World),(∃Post,((∃v,e=.returned v/\Q v Post)∨(∃ch,e=.panicked ch/\Z' ch Post))/\Sat w' (Post.flatten++(R.flatten++F))/\ki w w')->
  (∃v,e=.returned v/\eK P ZZ Q' l' (a.put o.dst v) w')∨(∃ch,e=.panicked ch/\ZZ (.panic ch) a w'):=by
  exact zAU
 have OQ:a.eval x=fv:=ha.ev hx;unfold DK at hi;split at hi
 ·rename_i f first cap
  have bI:(execOp a.eval o).run P w=.ok (.enter f (first++args.toArray++cap)) w:=by
   simp[execOp,h1,resolve,h2,OQ,Deferred.ofValue,invoke,cu];rw[zC hi.1]
  simp only[yS,bI,jg];refine hi.2.mono (fun e w' he=>?_);rcases fin e w' he with⟨v,rfl,hv⟩|⟨ch,rfl,hv⟩ <;> exact hv
 ·rename_i l0 first cap
  obtain⟨f,tmps,G9,body,hy,sO⟩:=hi;have bI:(execOp a.eval o).run P w=.ok (.round l0 f tmps G9 body) w:=by
   simp[execOp,h1,resolve,h2,OQ,Deferred.ofValue,invoke,cu];exact hy
  simp only[yS,bI,jg];refine sO.mono (fun e w' he=>?_);rcases fin e w' he with⟨v,rfl,hv⟩|⟨ch,rfl,hv⟩ <;> exact hv
 ·exact hi.elim
def upd {α:Type}(f:Int->α)(i:Int)(v:α):Int->α:=fun k=>if k=i then v else f k
abbrev swp {α:Type}(f:Int->α)(i j:Int):Int->α:=upd (upd f i (f j)) j (f i)
inductive Sw {α:Type}(a b:Int)(f:Int->α):(Int->α)->Prop where
 |refl:Sw a b f f
 |step {g:Int->α} {i j:Int}:Sw a b f g->a<=i/\i < b->a<=j/\j < b->Sw a b f (swp g i j)
structure LtOk {α:Type}(lt:α->α->Bool):Prop where
 asymm:∀x y,lt x y=true->lt y x=false
 le_trans:∀x y z,lt y x=false->lt z y=false->lt z x=false
 eq:∀x y,lt x y=false->lt y x=false->x=y
section
variable {P:Program} {n:Nat} {rs:List RO} {Γ:Env} {H R:SH} {Z:List PanicEntry->Env->SH->Prop} {K:Env->SH->Prop} {d:Option Nat} {α:Type} {e:α->Value} {N b o:Nat} {f:Int->α}
end
section
variable {α:Type} {lt:α->α->Bool}
end
section
variable {α:Type} {lt:α->α->Bool}
end
section
variable {α:Type} {lt:α->α->Bool}
structure PI (lt:α->α->Bool)(a z i j:Int)(p:α)(g:Int->α):Prop where
 piv:g a=p
 less:∀k,a < k->k < i->lt (g k) p=true
 more:∀k,j < k->k < z->lt (g k) p=false
 lo:a+1<=i
 mid:i<=j+1
 hi:j < z
end
section
variable {α:Type} {lt:α->α->Bool}
end
section
variable {α:Type}
end
theorem kY.other {size n:Nat}{sv:Value}{us vs sp:List Value}(h:kY size sv n us sp)(hv:vs.length=us.length):kY size sv n vs sp:=by
 cases h with
 |mk a1 a2 a3=>exact .mk Zo Zo a3
 |nil=>
  have:vs=[]:=vj (by simpa using hv);subst this;exact .nil
structure Ch where
 kind:Int
 n:Int
 text:ByteArray
structure De where
 kind:Int
 handle:Int
 text:ByteArray
 to:ByteArray
 n:Int
 err:Int
structure Wr where
 seq:Int
 at_:Int
 text:ByteArray
 empty:Bool
structure FO where
 now:List UInt8
 base:List UInt8
 writes:List Wr
 nv:Value
 bv:Value
 wv:Value
 ns:List Value
 bs:List Value
 ws:List Value
structure HO where
 qW:Nat
 closed:Bool
 stale:Bool
 file:Option Nat
 mode:Int
 at_:Int
def XX(c:Ch):List Value:=[.int .u8 c.kind,vi c.n,.string c.text]
def XZ(d:De):List Value:=[.int .u8 d.kind,vi d.handle,.string d.text,.string d.to,vi d.n,vi d.err]
def YN(x:Wr):List Value:=[vi x.seq,vi x.at_,.string x.text,.bool x.empty]
def M3(c:UInt8):Value:=.int .u8 c.toNat
def pf(f:Option Nat):Value:=.pointer (f.map fun b=>⟨b,0,none⟩)
def hoEnc(h:HO):List Value:=[.bool h.closed,.bool h.stale,pf h.file,vi h.mode,vi h.at_]
def hoA(h:HO):List kB:=kA h.qW 0 (hoEnc h)
def foA(p:Nat×FO):List kB:=kA p.1 0 [p.2.nv,p.2.bv,p.2.wv]++(ai p.2.nv (p.2.now.map M3) p.2.ns++(ai p.2.bv (p.2.base.map M3) p.2.bs++ai p.2.wv (p.2.writes.flatMap YN) p.2.ws))
structure WR where
 cv:Value
 iq:List Ch
 bZ:List Value
 fm:Nat
 bF:Array MapEntry
 fc:Nat
 names:List (ByteArray×Nat)
 Ak:List (Nat×FO)
 hv:Value
 hs:List HO
 EO:List Value
 tv:Value
 trace:List De
 ic:List Value
 clock:Int
 seq:Int
 dead:Bool
abbrev OO (w:WR):List Value:=[w.cv,.map (some w.fm),w.hv,w.tv,vi w.clock,vi w.seq,.bool w.dead]
abbrev WMem (t:Nat)(w:WR):SH:=
 [kA t 0 [w.cv,.map (some w.fm),w.hv,w.tv,vi w.clock,vi w.seq,.bool w.dead],ai w.cv (w.iq.flatMap XX) w.bZ,[.obj w.fm (.map w.bF w.fc)],w.Ak.flatMap foA,ai w.hv (w.hs.map fun h=>kE h.qW) w.EO,w.hs.flatMap hoA,ai w.tv (w.trace.flatMap XZ) w.ic]
structure FOk (f:FO)(M:Nat):Prop where
 now:kY 1 f.nv f.now.length (f.now.map M3) f.ns
 base:kY 1 f.bv f.base.length (f.base.map M3) f.bs
 wr:kY 4 f.wv f.writes.length (f.writes.flatMap YN) f.ws
 len:f.now.length<=4194304
 len2:f.base.length<=4194304
 many:f.writes.length<=M
 at_:∀x∈f.writes,0<=x.at_/\x.at_+x.text.size<=4194304
structure WOk (w:WR)(M:Nat):Prop where
 ch:kY 3 w.cv w.iq.length (w.iq.flatMap XX) w.bZ
 fm:zW zw (fun b:Nat=>kE b) w.bF w.fc w.names
 keys:(w.names.map (·.1)).Nodup
 blks:(w.Ak.map (·.1)).Nodup
 named:∀p∈w.names,p.2∈w.Ak.map (·.1)
 fo:∀p∈w.Ak,FOk p.2 M
 hv:kY 1 w.hv w.hs.length (w.hs.map fun h=>kE h.qW) w.EO
 hfile:∀h∈w.hs,∀b,h.file=some b->b∈w.Ak.map (·.1)
 Oy:∀h∈w.hs,0<=h.at_/\h.at_<=4194304
 bL:w.hs.length<=M
 tr:kY 6 w.tv w.trace.length (w.trace.flatMap XZ) w.ic
 trmany:w.trace.length<=M
 seq:0<=w.seq/\w.seq<=M
 clock:0<=w.clock/\w.clock<=1000000000000000000
 files:w.names.length<=1073741823
 chmany:w.iq.length<=65536
def uF(K:List RO->Prop):List (List RO)->Prop
 |[]=>True
 |rs::r=>K rs/\uF K r
theorem uF.mem {K:List RO->Prop}:∀{ri:List (List RO)},uF K ri->∀rs∈ri,K rs:=by
 intro ri
 induction ri with
 |nil=>intro _ rs h;cases h
 |cons a r ih=>
  intro h rs hm;rcases Q9.1 hm with rfl|hm
  ·exact h.1
  ·exact ih h.2 rs hm
theorem VC.draws {P:Program}{n:Nat}{Γ:Env}{H:SH}{Q:Exit->Env->SH->Prop}{ri:List (List RO)}{aP:List Nat}(h:uF (fun rs=>VO P n rs Γ H (fun _ _ _=>False) fun aw H'=>Q .normal (aJ aP aw) H') ri):VC P n (.draw ri aP) Γ H Q:=VC.draw h.mem
theorem VC.B7 {P:Program}{n:Nat}{Γ:Env}{H:SH}{Q:Exit->Env->SH->Prop}{ri:List (List RO)}{aP:List Nat}{y:IC}{α:Type}(aW:α->Env)(Hf:α->SH)(I:α->Prop)
 (h:uF (fun rs=>VO P n rs Γ H (fun _ _ _=>False) fun aw H'=>∃s,I s/\Sub (aJ aP aw) (aW s)/\aj H' (Hf s)) ri) (h2:∀s,I s->VC P n y (aW s) (Hf s) Q):VC P n (.seq (.draw ri aP) y) Γ H Q:=by
 refine VC.seq (VC.draws ?_);have key:∀{l:List (List RO)},uF (fun rs=>VO P n rs Γ H (fun _ _ _=>False) fun aw H'=>∃s,I s/\Sub (aJ aP aw) (aW s)/\aj H' (Hf s)) l->
  uF (fun rs=>VO P n rs Γ H (fun _ _ _=>False) fun aw H'=>VC P n y (aJ aP aw) H' Q) l:=by
  intro l
  induction l with
  |nil=>intro _;trivial
  |cons a r ih=>
   intro hh;exact⟨hh.1.mono (fun aw H' ⟨s,i1,i2,i3⟩=>VC.sub i2 (VC.imp i3 (h2 s i1))),ih hh.2⟩
 exact key h
section
variable {P:Program} {n:Nat} {rs:List RO} {Γ:Env} {H:SH} {Z:List PanicEntry->Env->SH->Prop} {K:Env->SH->Prop} {d:Option Nat}
theorem Gg {r:R}{s:Nat}{b c:Bool}(hs:look Γ s=some (.bool c))(ht:c=true->VO P n (⟨d,some (s,b),r⟩::rs) ((s,.bool true)::Γ) H Z K)(hf:c=false->VO P n (⟨d,some (s,b),r⟩::rs) ((s,.bool false)::Γ) H Z K):
 VO P n (⟨d,some (s,b),r⟩::rs) Γ H Z K:=Kp hs ht hf
theorem Gh {s:Nat}{x y:Operand}{c:Bool}(hs:look Γ s=some (.bool c))(ht:c=true->VO P n (⟨d,none,.pick (.tmp s) x y⟩::rs) ((s,.bool true)::Γ) H Z K)(hf:c=false->VO P n (⟨d,none,.pick (.tmp s) x y⟩::rs) ((s,.bool false)::Γ) H Z K):
 VO P n (⟨d,none,.pick (.tmp s) x y⟩::rs) Γ H Z K:=Kp hs ht hf
end
def dY(s:ByteArray):List Value:=s.data.toList.map fun c=>.int .u8 c.toNat
section
variable {P:Program} {n:Nat} {rs:List RO} {Γ:Env} {H:SH} {Z:List PanicEntry->Env->SH->Prop} {K:Env->SH->Prop} {d:Option Nat}
end
def setObj(Ak:List (Nat×FO))(b:Nat)(fo:FO):List (Nat×FO):=Ak.map fun p=>if p.1=b then(b,fo)else p
structure AF where
 now:List UInt8
 base:List UInt8
 writes:List Wr
structure AW where
 iq:List Ch
 names:List (ByteArray×Nat)
 files:List AF
 hs:List HO
 trace:List De
 clock:Int
 seq:Int
 dead:Bool
def foF(f:FO):AF:=⟨f.now,f.base,f.writes⟩
def ho0(h:HO):HO:={h with qW:=0}
def hoB(B:List Nat)(h:HO):HO:={h with qW:=0,file:=h.file.map fun i=>B.getD i 0}
structure Rep (w:WR)(a:AW)(M:Nat):Prop where
 ch:w.iq=a.iq
 tr:w.trace=a.trace
 clock:w.clock=a.clock
 seq:w.seq=a.seq
 dead:w.dead=a.dead
 names:w.names=a.names.map fun p=>(p.1,(w.Ak.map (·.1)).getD p.2 0)
 nin:∀p∈a.names,p.2 < a.files.length
 files:w.Ak.map (fun p=>foF p.2)=a.files
 hs:w.hs.map ho0=a.hs.map (hoB (w.Ak.map (·.1)))
 bf:∀h∈a.hs,∀i,h.file=some i->i < a.files.length
 ok:WOk w M
section
variable {w:WR} {a:AW} {M:Nat}
end
theorem K7 {α:Type}{f:α->List kB}{l:List α}{i:Nat}{x:α}(hi:l[i]? =some x):
 ∃rest:List kB,(l.flatMap f).Perm (f x++rest)/\∀x',((l.set i x').flatMap f).Perm (f x'++rest):=by
 obtain⟨aI,rfl⟩:=Vh.1 hi;refine⟨(l.take i).flatMap f++(l.drop (i+1)).flatMap f,?_,fun h'=>?_⟩
 ·conv=>lhs;rw[<- QZ i l,vh aI]
  rw[vx,vy];exact ju _ _ _
 ·rw[List.set_eq_take_append_cons_drop,if_pos aI,vx,vy];exact ju _ _ _
def Uj(l:List UInt8):ByteArray:=⟨l.toArray⟩
section
variable {P:Program} {n:Nat} {Γ:Env} {H:SH} {Q:Exit->Env->SH->Prop}
theorem VO.know {rs:List RO}{Z:List PanicEntry->Env->SH->Prop}{K:Env->SH->Prop}{φ:Prop}(h:∀w F,Sat w (H.flatten++F)->φ)(k:φ->VO P n rs Γ H Z K):VO P n rs Γ H Z K:=by
 intro l hl a w F ZZ Q ha hs hq hz;exact k (h w F hs) l hl a w F ZZ Q ha hs hq hz
end
theorem E3 {α:Type}(l:Array α)(x:α)(f:α->α):(l.push x).modify l.size f=l.push (f x):=by
 apply Array.ext
 ·simp
 ·intro i h1 h2;simp only[Array.getElem_modify,Array.getElem_push];by_cases hi:i < l.size
  ·simp[hi,Nat.ne_of_gt hi]
  ·have:l.size=i:=by simp at h1;omega
   simp[hi,this]
section
variable {P:Program}
theorem Sp {H:List kB}{c:Array Value}{t:TypeId}{K:Addr->List kB->Prop}(h:∀b,K ⟨b,0,none⟩ (kA b 0 c.toList++H)):az P (do let a <- newRow t c;markStringish a;pure a) H K:=by
 intro F w hs;obtain⟨s1,s2⟩:=hs.push (.cells c t (c.size,c.size+1)) (kA w.heap.size 0 c.toList) (fun x hx=>by
  obtain⟨i,v,hi,rfl⟩:=kH.1 hx;refine⟨rfl,c,t,c.size,c.size+1,Zs,by simpa using hi,?_⟩;have:=(Vh.1 hi).1;simp at this|-;omega) (df _ _ _)
 refine⟨⟨w.heap.size,0,none⟩,_,_,?_,h _,by rw[vZ];exact s1,s2⟩;have hsh:({w with heap:=w.heap.push (.cells c t)}:World).shape? w.heap.size=some (t,c.size):=by simp[World.shape?]
 have AV:({w with heap:=w.heap.push (.cells c t)}:World).freeze ⟨w.heap.size,c.size,none⟩ 1={w with heap:=w.heap.push (.cells c t (c.size,c.size+1))}:=by
  simp[World.freeze,E3]
 have h1:(Go.newRow t c).run P w=.ok ⟨w.heap.size,0,none⟩ {w with heap:=w.heap.push (.cells c t)}:=by
  simp[Go.newRow,Go.newObj,Sem.run]
 have h2:(markStringish ⟨w.heap.size,0,none⟩).run P {w with heap:=w.heap.push (.cells c t)}=.ok () {w with heap:=w.heap.push (.cells c t (c.size,c.size+1))}:=by
  rw[<- AV];unfold markStringish;simp only[Go.shape,Sem.run_bind,Sem.run,hsh,Result.andThen_ok,Go.freeze]
 simp only[Sem.run_bind,h1,h2,Result.andThen_ok,Sem.run_pure]
theorem Xv {H:List kB}{t:TypeId}{s:ByteArray}{K:Value->List kB->Prop}(h:∀b cap,s.size<=cap->K (.slice (some ⟨b,0,none⟩) s.size cap) (kA b 0 (dY s++List.replicate (cap - s.size) (.int .u8 0))++H)):az P (Conv.stringToBytes t s) H K:=by
 have fin:∀cap,s.size<=cap->az P (do
  let a <- newRow t (s.data.map (fun b=>Value.int .u8 b.toNat)++Array.replicate (cap - s.size) (.int .u8 0))
  markStringish a
  pure (Value.slice (some a) s.size cap)) H K:=by
  intro cap Cw;have:=Sp (P:=P) (H:=H) (c:=s.data.map (fun b=>Value.int .u8 b.toNat)++Array.replicate (cap - s.size) (.int .u8 0)) (t:=t) (K:=fun a L=>K (.slice (some a) s.size cap) L) (fun b=>by
   have:=h b cap Cw;simpa[dY]using this)
  have h2:=az.bind (f:=fun a=>(pure (Value.slice (some a) s.size cap):Sem Value)) (this.mono (fun a L ha=>az.pure ha));simpa using h2
 unfold Conv.stringToBytes;refine az.bind (az.choose (fun hf=>by simp[Question.forced]at hf) (fun t'=>?_));simp only[Question.cut];exact fin _ Zo
end
def tR(H:SH):Value->List UInt8->Prop
 |.slice (some ⟨b,o,none⟩) k _,l=>k=l.length/\∀a∈kA b o (l.map M3),a∈H.flatten
 |.slice none _ _,l=>l=[]
 |_,_=>False
theorem kY.bytes {H R:SH}{sv:Value}{l:List UInt8}{sp:List Value}(h:kY 1 sv l.length (l.map M3) sp)(ht:Tk H (ai sv (l.map M3) sp) R):tR H sv l:=by
 obtain⟨a,c,rfl⟩:=h.form;generalize hk:l.length=k at h;generalize hm:l.map M3=us at h;cases h with
 |mk h1 h2 h3=>
  refine⟨hk.symm,fun x hx=>?_⟩;refine(ht.perm.mem_iff).2 (Zw _ ?_);rw[hk,hm];rw[hm]at hx;simp only[ai,kd,Q7];exact .inl hx
 |nil=>exact List.map_eq_nil_iff.1 hm
theorem Ru(c:UInt8):UInt8.ofNat (((c.toNat:Nat):Int).toNat)=c:=by simp
theorem R7 {P:Program}{w:World}{f:Value->ByteArray->Sem (ForInStep ByteArray)}(hf:∀(c:UInt8) r,f (M3 c) r=pure (ForInStep.yield (r.push (UInt8.ofNat ((c.toNat:Int)).toNat)))):∀(l:List UInt8) (acc:ByteArray),(forIn (l.map M3) acc f).run P w=.ok ⟨acc.data++l.toArray⟩ w:=by
 intro l
 induction l with
 |nil=>intro acc;simp
 |cons c l ih=>
  intro acc;have:=ih (acc.push c);rw[Q3,List.forIn_cons,hf,Sem.run_bind,Sem.run_pure,Result.andThen_ok];simp only[Ru];rw[this];simp[ByteArray.push]
theorem Xi {P:Program}{H:SH}{dv:Value}{l:List UInt8}{F:List kB}{w:World}(h:tR H dv l)(hs:Sat w (H.flatten++F)):(Conv.bytesToString dv).run P w=.ok (.string (Uj l)) w:=by
 unfold tR at h;split at h
 ·obtain⟨rfl,hm⟩:=h;have hl:=run_loadCells (P:=P) (m:=l.length) (us:=l.map M3) Zs hm hs;unfold Conv.bytesToString;simp only[Sem.run_bind,hl,Result.andThen_ok];rw[List.forIn_toArray];rw[R7 (fun c r=>rfl)];simp[Uj]
 ·subst h;unfold Conv.bytesToString;rfl
 ·exact h.elim
section
variable {P:Program} {n:Nat} {rs:List RO} {Γ:Env} {H:SH} {Z:List PanicEntry->Env->SH->Prop} {K:Env->SH->Prop} {d:Option Nat}
theorem st_b2s {x:Operand}{dv:Value}{l:List UInt8}(hx:ev Γ x=some dv)(hb:tR H dv l)(h:VO P n rs (ak d (.string (Uj l)) Γ) H Z K):VO P n (⟨d,none,.b2s x⟩::rs) Γ H Z K:=
 VO.read rfl rfl (fun ρ aG=>⟨_,rfl,fun F w hs=>by
  rw[aG _ _ hx];simp[Xi hb hs]⟩) h
theorem st_s2b {t:TypeId}{x:Operand}{s:ByteArray}(hx:ev Γ x=some (.string s))(h:∀sv sp,kY 1 sv s.size (dY s) sp->VO P n rs (ak d sv Γ) (ai sv (dY s) sp::H) Z K):VO P n (⟨d,none,.s2b t x⟩::rs) Γ H Z K:=by
 refine VO.act rfl rfl (fun ρ aG=>⟨_,rfl,?_⟩);rw[aG _ _ hx];refine az.bind (Xv (fun b cap Cw=>az.pure ?_));refine⟨_,ai (.slice (some ⟨b,0,none⟩) s.size cap) (dY s) (List.replicate (cap - s.size) (.int .u8 0))::H,.inl rfl,by simp[ai],h _ _ (.mk (by simp[dY]) (by simp[dY];omega) Cw)⟩
end
section
variable {P:Program} {n:Nat} {rs:List RO} {Γ:Env} {H:SH} {Z:List PanicEntry->Env->SH->Prop} {K:Env->SH->Prop} {d:Option Nat}
end
section
variable {κ α β:Type} [DecidableEq κ] {g:α->β} {k:κ}
end
section
variable {w:WR} {a:AW} {M:Nat}
end
def yB(size:Nat)(A:List kB)(v:Value)(k:Nat)(xs:List Value):Prop:=
 (v=Nz/\k=0/\xs=[])∨∃b o c,v=.slice (some ⟨b,o,none⟩) k c/\k<=c/\xs.length=k*size/\∀x∈kA b o xs,x∈A
theorem yB.form {size:Nat}{A:List kB}{v:Value}{k:Nat}{xs:List Value}(h:yB size A v k xs):∃a c,v=.slice a k c:=by
 rcases h with⟨rfl,rfl,_⟩|⟨b,o,c,rfl,_⟩
 ·exact⟨_,_,rfl⟩
 ·exact⟨_,_,rfl⟩
theorem yB.mono {size:Nat}{A B:List kB}{v:Value}{k:Nat}{xs:List Value}(h:yB size A v k xs)(hs:∀a∈A,a∈B):yB size B v k xs:=by
 rcases h with h|⟨b,o,c,h1,h2,h3,h4⟩
 ·exact .inl h
 ·exact .inr ⟨b,o,c,h1,h2,h3,fun x hx=>hs x (h4 x hx)⟩
theorem kY.rd {size k:Nat}{v:Value}{xs sp:List Value}(h:kY size v k xs sp):yB size (ai v xs sp) v k xs:=by
 cases h with
 |@mk b o _ c _ _ h1 h2 h3=>
  refine .inr ⟨b,o,c,rfl,h3,h1,fun x hx=>?_⟩;simp only[ai,kd,Q7];exact .inl hx
 |nil=>exact .inl ⟨rfl,rfl,rfl⟩
structure Seen {β:Type}(es:Array MapEntry)(l:List (ByteArray×β))(seen:Array Nat)(C:List (ByteArray×β)):Prop where
 nodup:(C.map (·.1)).Nodup
 mem:∀p∈C,p∈l
 seen:∀e∈es.toList,(e.born∈seen.toList↔∃p∈C,e.key=.string p.1)
section
variable {β:Type} {Vf:β->Value} {es:Array MapEntry} {c:Nat} {l:List (ByteArray×β)}
end
abbrev uv (n:Nat):Value:=.int .u64 n
abbrev cv (n:Nat):Value:=.int .u8 n
theorem SW {n:Nat}:IntKind.u64.wrap (n:Int)=((n % 18446744073709551616:Nat):Int):=by
 simp only[IntKind.wrap,IntKind.bits,IntKind.signed];simp
theorem fA {n:Nat}(h:n < 18446744073709551616):IntKind.u64.wrap (n:Int)=(n:Int):=by
 rw[SW,Nat.mod_eq_of_lt h]
theorem wrapB {n:Nat}:IntKind.u8.wrap (n:Int)=((n % 256:Nat):Int):=by
 simp only[IntKind.wrap,IntKind.bits,IntKind.signed];simp
theorem mR {n:Nat}(h:n < 256):IntKind.u8.wrap (n:Int)=(n:Int):=by
 rw[wrapB,Nat.mod_eq_of_lt h]
theorem GA {n:Nat}(h:n < 9223372036854775808):IntKind.i64.wrap (n:Int)=(n:Int):=wrap64 ⟨Zo,Zo⟩
theorem bvN {n:Nat}(h:n < 18446744073709551616):(BitVec.ofInt 64 (n:Int)).toNat=n:=by
 rw[BitVec.toNat_ofInt];omega
theorem powI(b:Nat):((2:Int) ^ b)=((2 ^ b:Nat):Int):=by push_cast;rfl
theorem shrU {k:IntKind}{a b:Nat}(hb:b<=64):zF .shr (uv a) (.int k (b:Int))=some (uv (a / 2 ^ b)):=by
 have h0:¬((b:Int) < 0):=by omega
 simp only[zF,mh,h0,if_false,IntKind.bits,vS,Nat.min_eq_left hb,powI];rw[Int.fdiv_eq_ediv_of_nonneg _ (Int.natCast_nonneg _)]
 push_cast;rfl
theorem shlU {k:IntKind}{a b:Nat}(hb:b<=64):zF .shl (uv a) (.int k (b:Int))=some (uv (a*2 ^ b % 18446744073709551616)):=by
 have h0:¬((b:Int) < 0):=by omega
 simp only[zF,mh,h0,if_false,IntKind.bits,vS,Nat.min_eq_left hb,powI];rw[show((a:Int)*((2 ^ b:Nat):Int))=((a*2 ^ b:Nat):Int) by push_cast;rfl,SW]
theorem andU {a b:Nat}(ha:a < 18446744073709551616)(hb:b < 18446744073709551616):zF .and (uv a) (uv b)=some (uv (a&&&b)):=by
 show(if IntKind.u64=IntKind.u64 then some (Value.int .u64 (IntKind.u64.wrap ((BitVec.ofInt 64 (a:Int)&&&BitVec.ofInt 64 (b:Int)).toNat:Int)))else none)=_;rw[if_pos rfl,BitVec.toNat_and,bvN ha,bvN hb];rw[fA (Nat.lt_of_le_of_lt Nat.and_le_left ha)]
theorem orU {a b:Nat}(ha:a < 18446744073709551616)(hb:b < 18446744073709551616):zF .or (uv a) (uv b)=some (uv (a|||b)):=by
 show(if IntKind.u64=IntKind.u64 then some (Value.int .u64 (IntKind.u64.wrap ((BitVec.ofInt 64 (a:Int)|||BitVec.ofInt 64 (b:Int)).toNat:Int)))else none)=_;rw[if_pos rfl,BitVec.toNat_or,bvN ha,bvN hb];rw[fA (Nat.or_lt_two_pow (n:=64) ha hb)]
def Y5(a b:Nat):Nat:=a&&&(18446744073709551615 - b)
theorem Ty {a b:Nat}(ha:a < 18446744073709551616):Y5 a b < 18446744073709551616:=Nat.lt_of_le_of_lt Nat.and_le_left ha
theorem andNU {a b:Nat}(ha:a < 18446744073709551616)(hb:b < 18446744073709551616):zF .andNot (uv a) (uv b)=some (uv (Y5 a b)):=by
 show(if IntKind.u64=IntKind.u64 then some (Value.int .u64 (IntKind.u64.wrap ((BitVec.ofInt 64 (a:Int)&&&~~~ BitVec.ofInt 64 (b:Int)).toNat:Int)))else none)=_;rw[if_pos rfl,BitVec.toNat_and,BitVec.toNat_not,bvN ha,bvN hb];rw[show(2 ^ 64 - 1 - b)=18446744073709551615 - b by omega];rw[fA (Nat.lt_of_le_of_lt Nat.and_le_left ha)];rfl
theorem subU {a b:Nat}(h:b<=a):zF .sub (uv a) (uv b)=some (uv ((a - b) % 18446744073709551616)):=by
 simp only[zF,mh,if_true];rw[show((a:Int) - (b:Int))=((a - b:Nat):Int) by omega,SW]
section
variable {P:Program} {n:Nat} {rs:List RO} {Γ:Env} {H:SH} {Z:List PanicEntry->Env->SH->Prop} {K:Env->SH->Prop} {d:Option Nat}
theorem ec {op:BinOp}{x y:Operand}{u v w:Value}(hx:ev Γ x=some u)(hy:ev Γ y=some v)(hv:zF op u v=some w)(h:VO P n rs (ak d w Γ) H Z K):VO P n (⟨d,none,.bin op x y⟩::rs) Γ H Z K:=
 VO.pure rfl (fun ρ aG=>by simp[kR,aG _ _ hx,aG _ _ hy,hv]) h
theorem Ts {c:Int}(h:0<=c):Value.int .u64 c=uv c.toNat:=by
 show Value.int .u64 c=Value.int .u64 ((c.toNat:Nat):Int);rw[vT h]
theorem Ds {x y:Operand}{k:IntKind}{ca cb:Int}{a b m r:Nat}(hx:ev Γ x=some (.int .u64 ca))(hy:ev Γ y=some (.int k cb))(ha:0<=ca)(hb:0<=cb/\cb<=64)(ea:ca.toNat=a)(eb:cb.toNat=b)(em:2 ^ b=m)(er:a / m=r)
 (h:VO P n rs (ak d (uv r) Γ) H Z K):VO P n (⟨d,none,.bin .shr x y⟩::rs) Γ H Z K:=by
 subst er em eb ea;rw[Ts ha]at hx;rw[show cb=((cb.toNat:Nat):Int) by omega]at hy;exact ec hx hy (shrU Zo) h
theorem Dr {x y:Operand}{k:IntKind}{ca cb:Int}{a b m r:Nat}(hx:ev Γ x=some (.int .u64 ca))(hy:ev Γ y=some (.int k cb))(ha:0<=ca)(hb:0<=cb/\cb<=64)(ea:ca.toNat=a)(eb:cb.toNat=b)(em:2 ^ b=m)(er:a*m % 18446744073709551616=r)
 (h:VO P n rs (ak d (uv r) Γ) H Z K):VO P n (⟨d,none,.bin .shl x y⟩::rs) Γ H Z K:=by
 subst er em eb ea;rw[Ts ha]at hx;rw[show cb=((cb.toNat:Nat):Int) by omega]at hy;exact ec hx hy (shlU Zo) h
theorem Dp {x y:Operand}{ca cb:Int}{a b r:Nat}(hx:ev Γ x=some (.int .u64 ca))(hy:ev Γ y=some (.int .u64 cb))(ha:0<=ca/\ca < 18446744073709551616)(hb:0<=cb/\cb < 18446744073709551616)(ea:ca.toNat=a)(eb:cb.toNat=b)(er:a&&&b=r)
 (h:VO P n rs (ak d (uv r) Γ) H Z K):VO P n (⟨d,none,.bin .and x y⟩::rs) Γ H Z K:=by
 subst er eb ea;rw[Ts ha.1]at hx;rw[Ts hb.1]at hy;exact ec hx hy (andU Zo Zo) h
theorem Ks {x y:Operand}{ca cb:Int}{a b r:Nat}(hx:ev Γ x=some (.int .u64 ca))(hy:ev Γ y=some (.int .u64 cb))(ha:0<=ca/\ca < 18446744073709551616)(hb:0<=cb/\cb < 18446744073709551616)(ea:ca.toNat=a)(eb:cb.toNat=b)(er:a|||b=r)
 (h:VO P n rs (ak d (uv r) Γ) H Z K):VO P n (⟨d,none,.bin .or x y⟩::rs) Γ H Z K:=by
 subst er eb ea;rw[Ts ha.1]at hx;rw[Ts hb.1]at hy;exact ec hx hy (orU Zo Zo) h
theorem uz {x y:Operand}{ca cb:Int}{a b:Nat}(hx:ev Γ x=some (.int .u64 ca))(hy:ev Γ y=some (.int .u64 cb))(ha:0<=ca/\ca < 18446744073709551616)(hb:0<=cb/\cb < 18446744073709551616)(ea:ca.toNat=a)(eb:cb.toNat=b)
 (h:VO P n rs (ak d (uv (Y5 a b)) Γ) H Z K):VO P n (⟨d,none,.bin .andNot x y⟩::rs) Γ H Z K:=by
 subst eb ea;rw[Ts ha.1]at hx;rw[Ts hb.1]at hy;exact ec hx hy (andNU Zo Zo) h
theorem uC {x y:Operand}{ca cb:Int}{a b:Nat}(hx:ev Γ x=some (.int .u64 ca))(hy:ev Γ y=some (.int .u64 cb))(hb:0<=cb/\cb<=ca)(ha:ca < 18446744073709551616)(ea:ca.toNat=a)(eb:cb.toNat=b)
 (h:VO P n rs (ak d (uv (a - b)) Γ) H Z K):VO P n (⟨d,none,.bin .sub x y⟩::rs) Γ H Z K:=by
 subst eb ea;rw[Ts Zo]at hx;rw[Ts hb.1]at hy;refine ec hx hy ?_ h;rw[subU Zo,Nat.mod_eq_of_lt Zo]
theorem uy {x y:Operand}{ca cb:Int}{a b:Nat}(hx:ev Γ x=some (.int .u8 ca))(hy:ev Γ y=some (.int .u8 cb))(ha:0<=ca)(hb:0<=cb)(hab:ca+cb < 256)(ea:ca.toNat=a)(eb:cb.toNat=b)
 (h:VO P n rs (ak d (cv (a+b)) Γ) H Z K):VO P n (⟨d,none,.bin .add x y⟩::rs) Γ H Z K:=by
 subst eb ea;refine ec hx hy ?_ h;simp only[zF,mh,if_true];rw[show ca+cb=((ca.toNat+cb.toNat:Nat):Int) by omega,mR Zo]
theorem orC {a b:Nat}(ha:a < 18446744073709551616)(hb:b < 18446744073709551616):a|||b < 18446744073709551616:=Nat.or_lt_two_pow (n:=64) ha hb
theorem ltB {a:Nat}(ha:a < 18446744073709551616):0<=((a:Nat):Int)/\((a:Nat):Int) < 18446744073709551616:=by omega
theorem divC {a b:Nat}(h:a < 18446744073709551616):a / b < 18446744073709551616:=Nat.lt_of_le_of_lt (Nat.div_le_self _ _) h
theorem modM {x:Nat}:x % 18446744073709551616 < 18446744073709551616:=Nat.mod_lt _ Zd
theorem ltM {x:Nat}:0<=((x % 18446744073709551616:Nat):Int)/\((x % 18446744073709551616:Nat):Int) < 18446744073709551616:=ltB modM
theorem Tw(a:Nat):a&&&1=a % 2:=Nat.and_two_pow_sub_one_eq_mod a 1
theorem Tx(a:Nat):a&&&7=a % 8:=Nat.and_two_pow_sub_one_eq_mod a 3
theorem Jr(a:Nat):a&&&15=a % 16:=Nat.and_two_pow_sub_one_eq_mod a 4
theorem uB {x y:Operand}{ca cb:Int}{a b:Nat}(hx:ev Γ x=some (.int .i64 ca))(hy:ev Γ y=some (.int .i64 cb))(ha:0<=ca)(hb:0 < cb)(ea:ca.toNat=a)(eb:cb.toNat=b)(h:VO P n rs (ak d (vi ((a % b:Nat):Int)) Γ) H Z K):VO P n (⟨d,none,.bin .rem x y⟩::rs) Γ H Z K:=by
 refine ec hx hy ?_ h;subst ea eb;have h0:¬(cb=0):=by omega
 simp only[zF,mh,ne_eq,h0,not_false_eq_true,and_self,if_true];rw[Int.tmod_eq_emod_of_nonneg ha]
 congr 2
 push_cast
 rw[vT ha,vT Zo]
theorem uA {x y:Operand}{ca cb:Int}{a b:Nat}(hx:ev Γ x=some (.int .i64 ca))(hy:ev Γ y=some (.int .i64 cb))(ha:0<=ca/\ca < 9223372036854775808)(hb:0 < cb)(ea:ca.toNat=a)(eb:cb.toNat=b)(h:VO P n rs (ak d (vi ((a / b:Nat):Int)) Γ) H Z K):VO P n (⟨d,none,.bin .quo x y⟩::rs) Γ H Z K:=by
 refine ec hx hy ?_ h;subst ea eb;have h0:¬(cb=0):=by omega
 simp only[zF,mh,ne_eq,h0,not_false_eq_true,and_self,if_true];rw[Int.tdiv_eq_ediv_of_nonneg ha.1];have e:ca / cb=((ca.toNat / cb.toNat:Nat):Int):=by
  push_cast;rw[vT ha.1,vT Zo]
 rw[e,GA (Nat.lt_of_le_of_lt (Nat.div_le_self _ _) Zo)]
theorem qM {k k':IntKind}{x:Operand}{a:Nat}(hx:ev Γ x=some (.int k' (a:Int)))(hr:k.wrap (a:Int)=(a:Int))(h:VO P n rs (ak d (.int k (a:Int)) Γ) H Z K):VO P n (⟨d,none,.conv k x⟩::rs) Γ H Z K:=Xs hx hr h
end
def bitAt(st:List Nat)(w:Nat):Bool:=(st.getD (w / 64) 0).testBit (w % 64)
section
variable {P:Program} {n:Nat} {rs:List RO} {Γ:Env} {H:SH} {Z:List PanicEntry->Env->SH->Prop} {K:Env->SH->Prop} {d:Option Nat}
end
section
variable {P:Program} {n:Nat} {rs:List RO} {Γ:Env} {H:SH} {Z:List PanicEntry->Env->SH->Prop} {K:Env->SH->Prop} {d:Option Nat}
theorem kQ {f:Nat}{xs:List Operand}{args:List Value}{w:Value}(hf:ao P f args [] (fun v Post=>v=w/\Post=[]))(he:gN Γ xs=some args)(h:VO P n rs (ak d w Γ) H Z K):VO P n (⟨d,none,.call f xs⟩::rs) Γ H Z K:=by
 refine kI hf he cz.nil (fun v Post hv=>?_);obtain⟨rfl,rfl⟩:=hv;exact h
theorem Gf {f:Nat}{xs:List Operand}{args:List Value}{w:Value}{A:List kB}{R:SH}(hf:ao P f args [A] (fun v Post=>v=w/\Post=[A]))(he:gN Γ xs=some args)(ht:Tk H A R)(h:VO P n rs (ak d w Γ) H Z K):VO P n (⟨d,none,.call f xs⟩::rs) Γ H Z K:=by
 have hs:cz H [A] R:=cz.cons ht cz.nil;refine kI hf he hs (fun v Post hv=>?_);obtain⟨rfl,rfl⟩:=hv;refine VO.perm ?_ h;have:=ht.perm;simp only[QW,V6]at this|-;exact this.symm
end
theorem ae {R G:Prop}(r:R)(h:Jl R->G:=by
 intro later
 (repeat (first
   |(first
   |(apply zG;rfl)
   |(apply Ds;rfl;rfl;omega;omega;exact Zi;exact Zi;(first|assumption|((try simp only[Nat.reducePow]);rfl));rfl)
   |(apply Dr;rfl;rfl;omega;omega;exact Zi;exact Zi;(first|assumption|((try simp only[Nat.reducePow]);rfl));rfl)
   |(apply Dp;rfl;rfl;exact Zl;exact Zl;exact Zi;exact Zi;(first|exact Tw _|exact Tx _|exact Jr _|rfl))
   |(apply Ks;rfl;rfl;exact Zl;exact Zl;exact Zi;exact Zi;rfl)
   |(apply uz;rfl;rfl;exact Zl;exact Zl;exact Zi;exact Zi)
   |(apply uC;rfl;rfl;omega;omega;exact Zi;exact Zi)
   |(apply uy;rfl;rfl;omega;omega;omega;exact Zi;exact Zi)
   |(apply qM;rfl;(first|exact GA Zo|exact fA Zo|exact mR Zo))
   |(apply uA;rfl;rfl;omega;omega;exact Zi;exact Zi)
   |(apply uB;rfl;rfl;omega;omega;exact Zi;exact Zi)
   |(apply yx;rfl;rfl)
   |(apply Cb;rfl)
   |(apply zq;rfl)
   |(apply yz;rfl)
   |(apply eJ;rfl;rfl)
   |(apply cS;rfl;rfl)
   |(apply zL;rfl;exact Zz)
   |(apply jI;rfl;exact Zh)
   |(apply jI;rfl;exact Zm)
   |(apply zQ;rfl;exact SZ)
   |(apply qO;rfl;rfl)
   |(apply yw;rfl;rfl)
   |(apply yq;rfl;rfl;omega)
   |(apply yF;rfl;rfl;omega)
   |(apply yy;rfl;rfl;omega)
   |(apply yE;rfl;rfl;decide)
   |(apply dh;rfl;rfl;omega;exact Zz)
   |(apply qP;rfl;rfl;omega;exact Zz)
   |(apply mN;rfl;(focus (simp only[Nt,Value.cells,Qr,Nat.reduceEqDiff,↓reduceIte,eq_self,Nat.reduceAdd,Nat.reduceSub,Qp,Nat.reduceLeDiff,Qj,and_self,rep,kX] <;> rfl)))
   |(apply jk;rfl;rfl;(focus (simp only[Nt,Value.cells,Qr,Nat.reduceEqDiff,↓reduceIte,eq_self,Nat.reduceAdd,Nat.reduceSub,Qp,Nat.reduceLeDiff,Qj,and_self,rep,kX] <;> rfl));rfl;rfl;exact Zac)
   |(apply iO;rfl;rfl;rfl))
    |(refine VO.nil ?_;simp only[V.aB,V.aJ,V.look,V.ak,V.bt,V.bb,Qr,Nat.reduceAdd,Nat.reduceEqDiff,↓reduceIte,eq_self])
    |refine VC.qI ?_
    |refine VC.hO ?_
    |refine VC.uw ?_
    |refine VC.hK ?_
    |refine VC.mJ ?_
    |refine VC.lE ?_
    |refine VC.uZ ?_
    |refine VC.block ?_
    |(refine VC.skip ?_;try simp only[V.aB,V.aJ,V.look,V.ak,V.bt,V.bb,Qr,Nat.reduceAdd,Nat.reduceEqDiff,↓reduceIte,eq_self])
    |(refine VC.exit ?_;try simp only[V.aB,V.aJ,V.look,V.ak,V.bt,V.bb,Qr,Nat.reduceAdd,Nat.reduceEqDiff,↓reduceIte,eq_self])
    |(refine VC.ret ?_;try simp only[V.bt,V.bb])
    |(apply VC.fu;rfl)
    |(apply VC.ft;rfl)
    |(apply VC.oE;rfl)
    |(apply VC.oD;rfl)))
 exact later.out):G:=h ⟨r⟩
theorem GOPH {R G:Prop}(r:R)(h:Jl R->G:=by
 intro later
 (first
   |(first
   |(apply zG;rfl)
   |(apply Ds;rfl;rfl;omega;omega;exact Zi;exact Zi;(first|assumption|((try simp only[Nat.reducePow]);rfl));rfl)
   |(apply Dr;rfl;rfl;omega;omega;exact Zi;exact Zi;(first|assumption|((try simp only[Nat.reducePow]);rfl));rfl)
   |(apply Dp;rfl;rfl;exact Zl;exact Zl;exact Zi;exact Zi;(first|exact Tw _|exact Tx _|exact Jr _|rfl))
   |(apply Ks;rfl;rfl;exact Zl;exact Zl;exact Zi;exact Zi;rfl)
   |(apply uz;rfl;rfl;exact Zl;exact Zl;exact Zi;exact Zi)
   |(apply uC;rfl;rfl;omega;omega;exact Zi;exact Zi)
   |(apply uy;rfl;rfl;omega;omega;omega;exact Zi;exact Zi)
   |(apply qM;rfl;(first|exact GA Zo|exact fA Zo|exact mR Zo))
   |(apply uA;rfl;rfl;omega;omega;exact Zi;exact Zi)
   |(apply uB;rfl;rfl;omega;omega;exact Zi;exact Zi)
   |(apply yx;rfl;rfl)
   |(apply Cb;rfl)
   |(apply zq;rfl)
   |(apply yz;rfl)
   |(apply eJ;rfl;rfl)
   |(apply cS;rfl;rfl)
   |(apply zL;rfl;exact Zz)
   |(apply jI;rfl;exact Zh)
   |(apply jI;rfl;exact Zm)
   |(apply zQ;rfl;exact SZ)
   |(apply qO;rfl;rfl)
   |(apply yw;rfl;rfl)
   |(apply yq;rfl;rfl;omega)
   |(apply yF;rfl;rfl;omega)
   |(apply yy;rfl;rfl;omega)
   |(apply yE;rfl;rfl;decide)
   |(apply dh;rfl;rfl;omega;exact Zz)
   |(apply qP;rfl;rfl;omega;exact Zz)
   |(apply mN;rfl;(focus (simp only[Nt,Value.cells,Qr,Nat.reduceEqDiff,↓reduceIte,eq_self,Nat.reduceAdd,Nat.reduceSub,Qp,Nat.reduceLeDiff,Qj,and_self,rep,kX] <;> rfl)))
   |(apply jk;rfl;rfl;(focus (simp only[Nt,Value.cells,Qr,Nat.reduceEqDiff,↓reduceIte,eq_self,Nat.reduceAdd,Nat.reduceSub,Qp,Nat.reduceLeDiff,Qj,and_self,rep,kX] <;> rfl));rfl;rfl;exact Zac)
   |(apply iO;rfl;rfl;rfl))
    |(refine VO.nil ?_;simp only[V.aB,V.aJ,V.look,V.ak,V.bt,V.bb,Qr,Nat.reduceAdd,Nat.reduceEqDiff,↓reduceIte,eq_self])
    |refine VC.qI ?_
    |refine VC.hO ?_
    |refine VC.uw ?_
    |refine VC.hK ?_
    |refine VC.mJ ?_
    |refine VC.lE ?_
    |refine VC.uZ ?_
    |refine VC.block ?_
    |(refine VC.skip ?_;try simp only[V.aB,V.aJ,V.look,V.ak,V.bt,V.bb,Qr,Nat.reduceAdd,Nat.reduceEqDiff,↓reduceIte,eq_self])
    |(refine VC.exit ?_;try simp only[V.aB,V.aJ,V.look,V.ak,V.bt,V.bb,Qr,Nat.reduceAdd,Nat.reduceEqDiff,↓reduceIte,eq_self])
    |(refine VC.ret ?_;try simp only[V.bt,V.bb])
    |(apply VC.fu;rfl)
    |(apply VC.ft;rfl)
    |(apply VC.oE;rfl)
    |(apply VC.oD;rfl))
 (repeat (first
   |(first
   |(apply zG;rfl)
   |(apply Ds;rfl;rfl;omega;omega;exact Zi;exact Zi;(first|assumption|((try simp only[Nat.reducePow]);rfl));rfl)
   |(apply Dr;rfl;rfl;omega;omega;exact Zi;exact Zi;(first|assumption|((try simp only[Nat.reducePow]);rfl));rfl)
   |(apply Dp;rfl;rfl;exact Zl;exact Zl;exact Zi;exact Zi;(first|exact Tw _|exact Tx _|exact Jr _|rfl))
   |(apply Ks;rfl;rfl;exact Zl;exact Zl;exact Zi;exact Zi;rfl)
   |(apply uz;rfl;rfl;exact Zl;exact Zl;exact Zi;exact Zi)
   |(apply uC;rfl;rfl;omega;omega;exact Zi;exact Zi)
   |(apply uy;rfl;rfl;omega;omega;omega;exact Zi;exact Zi)
   |(apply qM;rfl;(first|exact GA Zo|exact fA Zo|exact mR Zo))
   |(apply uA;rfl;rfl;omega;omega;exact Zi;exact Zi)
   |(apply uB;rfl;rfl;omega;omega;exact Zi;exact Zi)
   |(apply yx;rfl;rfl)
   |(apply Cb;rfl)
   |(apply zq;rfl)
   |(apply yz;rfl)
   |(apply eJ;rfl;rfl)
   |(apply cS;rfl;rfl)
   |(apply zL;rfl;exact Zz)
   |(apply jI;rfl;exact Zh)
   |(apply jI;rfl;exact Zm)
   |(apply zQ;rfl;exact SZ)
   |(apply qO;rfl;rfl)
   |(apply yw;rfl;rfl)
   |(apply yq;rfl;rfl;omega)
   |(apply yF;rfl;rfl;omega)
   |(apply yy;rfl;rfl;omega)
   |(apply yE;rfl;rfl;decide)
   |(apply dh;rfl;rfl;omega;exact Zz)
   |(apply qP;rfl;rfl;omega;exact Zz)
   |(apply mN;rfl;(focus (simp only[Nt,Value.cells,Qr,Nat.reduceEqDiff,↓reduceIte,eq_self,Nat.reduceAdd,Nat.reduceSub,Qp,Nat.reduceLeDiff,Qj,and_self,rep,kX] <;> rfl)))
   |(apply jk;rfl;rfl;(focus (simp only[Nt,Value.cells,Qr,Nat.reduceEqDiff,↓reduceIte,eq_self,Nat.reduceAdd,Nat.reduceSub,Qp,Nat.reduceLeDiff,Qj,and_self,rep,kX] <;> rfl));rfl;rfl;exact Zac)
   |(apply iO;rfl;rfl;rfl))
    |(refine VO.nil ?_;simp only[V.aB,V.aJ,V.look,V.ak,V.bt,V.bb,Qr,Nat.reduceAdd,Nat.reduceEqDiff,↓reduceIte,eq_self])
    |refine VC.qI ?_
    |refine VC.hO ?_
    |refine VC.uw ?_
    |refine VC.hK ?_
    |refine VC.mJ ?_
    |refine VC.lE ?_
    |refine VC.uZ ?_
    |refine VC.block ?_
    |(refine VC.skip ?_;try simp only[V.aB,V.aJ,V.look,V.ak,V.bt,V.bb,Qr,Nat.reduceAdd,Nat.reduceEqDiff,↓reduceIte,eq_self])
    |(refine VC.exit ?_;try simp only[V.aB,V.aJ,V.look,V.ak,V.bt,V.bb,Qr,Nat.reduceAdd,Nat.reduceEqDiff,↓reduceIte,eq_self])
    |(refine VC.ret ?_;try simp only[V.bt,V.bb])
    |(apply VC.fu;rfl)
    |(apply VC.ft;rfl)
    |(apply VC.oE;rfl)
    |(apply VC.oD;rfl)))
 exact later.out):G:=h ⟨r⟩
inductive Lt where
 |mk (kind:Nat) (n:Int) (bits:Nat) (text:ByteArray) (items:List Lt)
inductive Nd where
 |mk (kind:Nat) (name:ByteArray) (lit:Lt) (args ab:List ByteArray) (kids:List Nd) (at_:Int)
def Lt.kind:Lt->Nat|.mk k _ _ _ _=>k
def Lt.n:Lt->Int|.mk _ n _ _ _=>n
def Lt.bits:Lt->Nat|.mk _ _ b _ _=>b
def Lt.text:Lt->ByteArray|.mk _ _ _ t _=>t
def Lt.items:Lt->List Lt|.mk _ _ _ _ l=>l
def Nd.kind:Nd->Nat|.mk k _ _ _ _ _ _=>k
def Nd.name:Nd->ByteArray|.mk _ s _ _ _ _ _=>s
def Nd.lit:Nd->Lt|.mk _ _ l _ _ _ _=>l
def Nd.args:Nd->List ByteArray|.mk _ _ _ a _ _ _=>a
def Nd.ab:Nd->List ByteArray|.mk _ _ _ _ t _ _=>t
def Nd.kids:Nd->List Nd|.mk _ _ _ _ _ k _=>k
def Nd.at_:Nd->Int|.mk _ _ _ _ _ _ p=>p
theorem Nd.eta(x:Nd):x=.mk x.kind x.name x.lit x.args x.ab x.kids x.at_:=by cases x;rfl
mutual
def Lt.size:Lt->Nat
 |.mk _ _ _ _ items=>1+Lt.aq items
def Lt.aq:List Lt->Nat
 |[]=>0
 |x::r=>x.size+Lt.aq r
end
mutual
def Nd.size:Nd->Nat
 |.mk _ _ _ _ _ kids _=>1+Nd.aq kids
def Nd.aq:List Nd->Nat
 |[]=>0
 |x::r=>x.size+Nd.aq r
end
theorem Lt.size_pos(x:Lt):0 < x.size:=by cases x;simp only[Lt.size];omega
theorem Nd.size_pos(x:Nd):0 < x.size:=by cases x;simp only[Nd.size];omega
theorem Lt.aH {x:Lt}:∀{l:List Lt},x∈l->x.size<=Lt.aq l:=by
 intro l
 induction l with
 |nil=>intro h;cases h
 |cons y r ih=>
  intro h;simp only[Lt.aq];exact zC9
theorem Nd.aH {x:Nd}:∀{l:List Nd},x∈l->x.size<=Nd.aq l:=by
 intro l
 induction l with
 |nil=>intro h;cases h
 |cons y r ih=>
  intro h;simp only[Nd.aq];exact zC9
def du(A:List kB)(v:Value)(l:List ByteArray):Prop:=∃a c,v=.slice a l.length c/\l.length<=1099511627776/\∀(i:Nat) t,l[i]? =some t->∃b o,a=some ⟨b,o,none⟩/\kB.cell b (o+i) (.string t)∈A/\t.size<=140737488355328
theorem du.more {A B:List kB}{v:Value}{l:List ByteArray}(h:du A v l)(hs:∀x∈A,x∈B):du B v l:=by
 obtain⟨a,c,h1,h2,h3⟩:=h;exact⟨a,c,h1,h2,fun i t e=>let⟨b,o,k1,k2,k3⟩:=h3 i t e;⟨b,o,k1,hs _ k2,k3⟩⟩
structure DM (k:Nat)(n:Int)(b:Nat)(t:ByteArray)(m:Nat):Prop where
 kind:k < 256
 n:-9223372036854775808<=n/\n<=9223372036854775807
 bits:b < 18446744073709551616
 text:t.size<=140737488355328
 many:m<=140737488355328
inductive zN (A:List kB):Lt->List Value->Prop
 |mk {k:Nat} {n:Int} {b:Nat} {t:ByteArray} {items:List Lt} {a:Option Addr} {c bk o:Nat} {us:Nat->List Value} (wf:DM k n b t items.length) (ha:0 < items.length->a=some ⟨bk,o,none⟩)
   (hm:∀i,i < items.length->∀y∈kA bk (o+i*5) (us i),y∈A) (hr:∀i x,items[i]? =some x->zN A x (us i)):zN A (.mk k n b t items) [cv k,vi n,uv b,.string t,.slice a items.length c]
structure G5 (k:Nat)(s:ByteArray)(m:Nat)(p:Int):Prop where
 kind:k < 256
 name:s.size<=140737488355328
 many:m<=140737488355328
 at_:-9223372036854775808<=p/\p<=9223372036854775807
inductive j7 (A:List kB):Nd->List Value->Prop
 |mk {k:Nat} {s:ByteArray} {lit:Lt} {args ab:List ByteArray} {kids:List Nd} {p:Int} {lv:List Value} {av tv:Value} {a:Option Addr} {c bk o:Nat} {us:Nat->List Value} (wf:G5 k s kids.length p) (hl:zN A lit lv) (bB:du A av args) (bu:du A tv ab)
   (ha:0 < kids.length->a=some ⟨bk,o,none⟩) (hm:∀i,i < kids.length->∀y∈kA bk (o+i*11) (us i),y∈A) (hr:∀i x,kids[i]? =some x->j7 A x (us i)) (tX:kids.length<=c):j7 A (.mk k s lit args ab kids p) ([cv k,.string s]++lv++[av,tv,.slice a kids.length c,vi p])
theorem zN.len {A:List kB}{x:Lt}{vs:List Value}(h:zN A x vs):vs.length=5:=by cases h;rfl
theorem j7.len {A:List kB}{x:Nd}{vs:List Value}(h:j7 A x vs):vs.length=11:=by
 cases h with
 |mk wf hl=>simp[hl.len]
theorem zN.more {A B:List kB}(hs:∀x∈A,x∈B){x:Lt}{vs:List Value}(h:zN A x vs):zN B x vs:=by
 induction h with
 |mk wf ha hm hr ih=>exact .mk wf ha (fun i hi y hy=>hs _ (hm i hi y hy)) ih
theorem j7.more {A B:List kB}(hs:∀x∈A,x∈B){x:Nd}{vs:List Value}(h:j7 A x vs):j7 B x vs:=by
 induction h with
 |mk wf hl bB bu ha hm hr tX ih=>exact .mk wf (hl.more hs) (bB.more hs) (bu.more hs) ha (fun i hi y hy=>hs _ (hm i hi y hy)) ih tX
def kF(s:ByteArray):List Nat:=s.data.toList.map UInt8.toNat
def LH(c:Nat):Bool:=(decide (97<=c)&&decide (c<=122))||(decide (65<=c)&&decide (c<=90))||decide (c=95)
def dU(c:Nat):Bool:=decide (48<=c)&&decide (c<=57)
def LB(c:Nat):Bool:=LH c||dU c
def lx(c:Nat):Bool:=[43,45,42,47,92,126,60,62,61,64,37,38,63,44,33].contains c
def xW(l:List Nat):Bool:=match l with
 |[]=>false
 |c::_=>decide (l.length<=40)&&LH c&&l.all LB
def MN(on:List Nat->Bool):List Nat->Nat
 |[]=>0
 |c::r=>if on (c::r)then 1+MN on r else 0
def pd:List Nat->Bool
 |[]=>false
 |c::r=>lx c&&(decide (c≠45)||!(match r with|d::_=>dU d|[]=>false))
def yn:List Nat->Nat
 |[]=>0
 |c::r=>if c=124 then 1 else if lx c then 1+MN pd r else 0
def jQ:List Nat->List (List Nat)
 |[]=>[[]]
 |c::r=>if c=58 then [58]::jQ r else match jQ r with
  |p::ps=>(c::p)::ps
  |[]=>[[c]]
def oe:List (List Nat)->Nat->Int
 |[],n=>n
 |p::ps,n=>if p=[]then n else if p.getLast? =some 58&&xW p.dropLast then oe ps (n+1)else -1
def G8(l:List Nat):Int:=
 if xW l then 0 else match l with
 |[]=>-1
 |c::_=>if lx c||decide (c=124)then(if yn l=l.length then 1 else -1)else oe (jQ l) 0
def oi(s:ByteArray):Bool:=xW (kF s)
def jA(s:ByteArray):Int:=G8 (kF s)
def yI:List (List Nat):=[[115,101,108,102],[115,117,112,101,114],[110,105,108],[116,114,117,101],[102,97,108,115,101]]
def wK(s:ByteArray):Bool:=!yI.contains (kF s)&&oi s
def ww:List Nat->List Nat
 |48::c::r=>ww (c::r)
 |l=>l
def lB(l:List Nat):Nat:=l.foldl (fun n c=>n*10+(c - 48)) 0
def oR(l:List Nat):Bool:=
 let(d,minus):=match l with|45::r=>(r,true)|_=>(l,false)
 decide (d≠[])&&d.all dU&&decide (ww d=d)&&decide (d.length<=255)&&decide ((if minus then 1152921504606846976 else 1152921504606846975) < lB d)
abbrev Rs:=Option (Nat×Bool)
def wZ:List Rs->Rs
 |[]=>some (0,false)
 |r::rs=>match r,wZ rs with
  |some (d,m),some (e,k)=>some (max d e,m||k)
  |_,_=>none
def wy(b:Bool):Rs->Rs
 |some (d,m)=>some (d,b||m)
 |none=>none
def wm:Rs->Rs
 |some (d,m)=>some (d+1,m)
 |none=>none
def kP(b:Bool)(r:Rs):Rs:=if b then r else none
mutual
def wE:Lt->Bool->Rs
 |.mk k n b t items,inside=>
  if k=1∨k=2∨k=3 then kP (inside&&decide (n=0/\b=0/\t.size=0/\items.length=0)) (some (0,false))
  else if k=4 then kP (decide (-1152921504606846976<=n/\n<=1152921504606846975/\b=0/\t.size=0/\items.length=0)) (some (0,false))
  else if k=5 then kP (oR (kF t)&&decide (n=0/\b=0/\items.length=0)) (some (0,false))
  else if k=6 then kP (decide (b*2 % 18446744073709551616 / 9007199254740992≠2047/\n=0/\t.size=0/\items.length=0)) (some (0,false))
  else if k=7 then kP (decide (0<=n/\n<=255/\b=0/\t.size=0/\items.length=0)) (some (0,false))
  else if k=8∨k=9 then kP (decide (n=0/\b=0/\items.length=0)) (some (0,false))
  else if k=11 then kP (decide (n=0/\b=0/\items.length=0)) (some (0,decide (255 < t.size)))
  else if k=10 then kP (decide (n=0/\b=0/\t.size=0)) (wm (wy (decide (255 < items.length)) (wZ (Be items))))
  else none
def Be:List Lt->List Rs
 |[]=>[]
 |x::r=>wE x true::Be r
end
def jh(x:Nd):Bool:=decide (x.kind=2)&&decide (kF x.name=[115,117,112,101,114])
def pJ(s:ByteArray):Nat:=if jA s=0 then 5 else if jA s=1/\(kF s).getLast?≠some 58 then 4 else 3
def Pw(x:Nd):Nat:=if x.kind=3 then 1 else if x.kind=5 then 2 else if x.kind=4 then pJ x.name else 6
def qj(s:ByteArray):Nat:=max 4 (pJ s)
def tk(s:ByteArray):Nat:=if pJ s=4 then 5 else 4
def Bm(x:Nd)(place:Nat)(r:Rs):Rs:=kP (decide (x.kind≠9/\x.kind≠6)) (if Pw x < place then wm r else r)
def jm(x:Nd)(place:Nat)(r:Rs):Rs:=kP (!jh x) (Bm x place r)
def ze(x:Nd)(aQ:ByteArray)(r:Rs):Rs:=if jh x then r else jm x (qj aQ) r
def zo(place:Nat):List Nd->List Rs->List Rs
 |x::l,r::rs=>jm x place r::zo place l rs
 |_,_=>[]
def gE(aQ:ByteArray)(l:List Nd)(rs:List Rs):Rs:=kP (decide (jA aQ=l.length)) (wy (decide (15 < jA aQ)) (wZ (zo (tk aQ) l rs)))
def wP:List Nd->List Rs->List Rs
 |[x],r::_=>[if x.kind=9 then r else jm x 1 r]
 |x::l,r::rs=>jm x 1 r::wP l rs
 |_,_=>[]
def oh:List Nd->List Rs->List Rs
 |x::l,r::rs=>kP (decide (x.kind=6)) r::oh l rs
 |_,_=>[]
def wx(It:Nat)(l:List ByteArray)(r:Rs):Rs:=kP (l.all wK) (wy (decide (It < l.length)) r)
def dI(l:Lt):Bool:=decide (l.kind=0/\l.n=0/\l.bits=0/\l.text.size=0/\l.items.length=0)
def nZ:Rs->Rs->Rs
 |some (d,m),some (e,k)=>some (max d e,m||k)
 |_,_=>none
def jU(k:Nat)(s:ByteArray)(lit:Lt)(args ab:List ByteArray)(kids:List Nd)(rs:List Rs):Rs:=
 if k=1 then kP (decide (kids.length=0/\s.size=0/\args.length=0/\ab.length=0)) (wE lit false)
 else if k=2 then kP (decide (kids.length=0/\args.length=0/\ab.length=0)&&oi s&&dI lit) (some (0,false))
 else if k=3 then kP (decide (args.length=0/\ab.length=0)&&dI lit&&wK s) (match kids,rs with|[x],[r]=>jm x 1 r|_,_=>none)
 else if k=4 then kP (decide (args.length=0/\ab.length=0)&&dI lit&&decide (0<=jA s)) (match kids,rs with|x::l,r::q=>nZ (ze x s r) (gE s l q)|_,_=>none)
 else if k=6 then kP (decide (args.length=0/\ab.length=0)&&dI lit) (gE s kids rs)
 else if k=5 then kP (decide (s.size=0/\args.length=0/\ab.length=0/\2 < kids.length)&&dI lit) (match kids,rs with|x::y::l,r::q=>wy (decide (256 < kids.length)) (nZ (wZ (oh (y::l) q)) (ze x y.name r))|_,_=>none)
 else if k=7 then kP (decide (s.size=0)&&dI lit) (wx 15 args (wx 63 ab (wm (wZ (wP kids rs)))))
 else if k=8 then kP (decide (s.size=0/\args.length=0/\ab.length=0)&&dI lit) (wm (wy (decide (255 < kids.length)) (wZ (zo 1 kids rs))))
 else if k=9 then kP (decide (s.size=0/\args.length=0/\ab.length=0)&&dI lit) (match kids,rs with|[x],[r]=>jm x 1 r|_,_=>none)
 else none
mutual
def kN:Nd->Rs
 |.mk k s lit args ab kids _=>jU k s lit args ab kids (wh kids)
def wh:List Nd->List Rs
 |[]=>[]
 |x::r=>kN x::wh r
end
theorem jZ:∀l:List Nd,wh l=l.map kN:=by
 intro l
 induction l with
 |nil=>rfl
 |cons x r ih=>simp only[wh,ih,Q3]
theorem gQ:∀l:List Lt,Be l=l.map fun x=>wE x true:=by
 intro l
 induction l with
 |nil=>rfl
 |cons x r ih=>simp only[Be,ih,Q3]
def Ub(deep:Nat->Bool):Rs->Nat
 |none=>150
 |some (d,m)=>if m then 151 else if deep d then 152 else 0
mutual
def Nd.bare:Nd->Nd
 |.mk k s lit args ab kids _=>.mk k s lit args ab (Nd.DU kids) 0
def Nd.DU:List Nd->List Nd
 |[]=>[]
 |x::r=>x.bare::Nd.DU r
end
mutual
def eo:Lt->Lt->Bool
 |.mk k n b t l,.mk k' n' b' t' l'=>decide (k=k')&&decide (n=n')&&decide (b=b')&&decide (t=t')&&eY l l'
def eY:List Lt->List Lt->Bool
 |[],[]=>true
 |x::r,y::q=>eo x y&&eY r q
 |_,_=>false
end
mutual
def oW:Nd->Nd->Bool
 |.mk k s l a t ks _,.mk k' s' l' a' t' ks' _=>decide (k=k')&&decide (s=s')&&decide (a=a')&&decide (t=t')&&eo l l'&&mr ks ks'
def mr:List Nd->List Nd->Bool
 |[],[]=>true
 |x::r,y::q=>oW x y&&mr r q
 |_,_=>false
end
end Go.V

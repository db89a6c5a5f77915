/-
  A function that defers one closure.
-/
import Derived.Test.YtijnokbblmbpkaaGreatDoorS5
import Derived.DefersIn
import Derived.RecoverIn
set_option linter.all false
namespace Go.V
open Go
def ow(P:Program)(n:Nat)(c:IC)(Γ:Env)(H:SH)(Q:Exit->Env->SH->Prop):Prop:=
 ∀ρ kp od code,z5 P n kp od code=some c->∀a w F (QQ:Exit->Act->World->Prop),wA n Γ a->Sat w (H.flatten++F)->
  (∀e a' w' ay H',Q e ay H'->wA n ay a'->a'.defers=a.defers->Sat w' (H'.flatten++F)->ku w w'->QQ e a' w')->code.wpIn (yZ ρ) 0 P QQ a w
section
variable {P:Program} {n:Nat} {Γ:Env} {H:SH} {Q Q':Exit->Env->SH->Prop}
theorem ow.skip(h:Q .normal Γ H):ow P n .skip Γ H Q:=by
 intro ρ kp od code hl a w F QQ ha hs hh;obtain rfl:=je hl;exact wpIn_skip (hh _ _ _ _ _ h ha rfl hs (.refl w))
theorem ow.ret(h:Q .ret Γ H):ow P n .ret Γ H Q:=by
 intro ρ kp od code hl a w F QQ ha hs hh;obtain rfl:=je hl;exact wpIn_ret (hh _ _ _ _ _ h ha rfl hs (.refl w))
theorem ow.cond {c:Operand}{x y:IC}{t:Bool}(hc:ev Γ c=some (.bool t))(ht:t=true->ow P n x Γ H Q)(hf:t=false->ow P n y Γ H Q):ow P n (.cond c x y) Γ H Q:=by
 intro ρ kp od code hl a w F QQ ha hs hh;obtain⟨p,q,rfl,h1,h2⟩:=je hl;exact wpIn_cond_split (ha.ev hc) (fun e=>ht e ρ kp od _ h1 a w F QQ ha hs hh) (fun e=>hf e ρ kp od _ h2 a w F QQ ha hs hh)
theorem ow.seq {x y:IC}(h:ow P n x Γ H (bD (fun ay H'=>ow P n y ay H' Q) Q)):ow P n (.seq x y) Γ H Q:=by
 intro ρ kp od code hl a w F QQ ha hs hh;obtain⟨p,q,rfl,h1,h2⟩:=je hl;refine wpIn_seq (h ρ kp od _ h1 a w F _ ha hs (fun e a' w' ay H' q g1 g2 g3 g4=>?_));cases e <;> first
  |exact q ρ kp od _ h2 a' w' F QQ g1 g3 (fun e a2 w2 cY H2 q2 k1 k2 k3 k4=>hh e a2 w2 cY H2 q2 k1 (by rw[k2,g2]) k3 (g4.trans k4))
  |exact hh _ _ _ _ _ q g1 g2 g3 g4
theorem ow.ly {rs:List RO}{aU:List Nat}(h:VO P n rs Γ H (fun ch ay H'=>Q (.panic ch) ay H') fun ay H'=>Q .normal (aT aU ay) H'):ow P n (.ly rs aU) Γ H Q:=by
 intro ρ kp od code hl a w F QQ ha hs hh;obtain⟨id,ops,rfl,h1,rfl⟩:=je hl;refine wpIn_region ?_;refine il (P:=P) (ρ:=ρ) (n:=n) (ops:=ops) (X:=fun i=>(rs.zip ops.toList).getD i default) (QQ:=QQ) (fun i hi=>?_) (List.range ops.size) a w (fun i hi=>by simpa using hi) ?_
 ·exact zDD
 ·have hlen:=(wF h1).1;have CX:(List.range ops.size).map (fun i=>(rs.zip ops.toList).getD i default)=rs.zip ops.toList:=by
   exact zB7
  rw[CX];refine h (rs.zip ops.toList) ⟨?_,?_⟩ a w F _ _ ha hs (fun a' w' ay H' q g1 g2 g3 g4=>hh .normal a' w' _ H' q (g1.sub (sD _ _)) g2 g3 g4) (fun ch a' w' ay H' q g1 g2 g3 g4=>hh (.panic ch) a' w' _ H' q g1 g2 g3 g4)
  ·rw[List.map_fst_zip];simp[hlen]
  ·exact zBD
end
def FunD(P:Program)(f:Nat)(args:List Value)(bm:SH)(Q:Value->SH->Prop):Prop:=
 jw P f=true/\∀F w u,Sat w (bm.flatten++F)->CallsDIn (yZ none) 0 P f args.toArray u w fun e u' w'=>u'=u/\∃v Post,e=.returned v/\Q v Post/\Sat w' (Post.flatten++F)/\ku w w'
structure DR where
 d:Nat
 g:Nat
 tC:List Operand
def Iq(P:Program)(n:Nat):Code->Option DR
 |.region _ ops false=>match ops.toList with
  |[o1,o2]=>match dZ P n ops o1,o2.op with
   |some ⟨some d,none,.Ab (.func g) [] tC⟩,.defer c=>match c.callee with
    |.value (.tmp d')=>if d'=d/\c.args.size=0/\o2.guard.isNone=true/\o2.dst.isNone=true then some ⟨d,g,tC⟩else none
    |_=>none
   |_,_=>none
  |_=>none
 |_=>none
structure DIR where
 n:Nat
 bH:List RV
 pre:List IC
 dr:DR
 post:IC
def ff(P:Program)(n:Nat)(kp:Nat->List Nat)(od:Nat->List (List Nat)):Code->Option (List IC×DR×IC)
 |.seq a b=>match Iq P n a with
  |some x=>(z5 P n kp od b).map fun y=>([],x,y)
  |none=>match z5 P n kp od a,ff P n kp od b with
   |some x,some (l,d,y)=>some (x::l,d,y)
   |_,_=>none
 |_=>none
def JR(P:Program)(kp:Nat->List Nat)(od:Nat->List (List Nat))(f:Nat):Option DIR:=
 match P.funcs[f]? with
 |none=>none
 |some fn=>match fn.body with
  |none=>none
  | some c => if fn.name != "runtime.NumGoroutine" then
     match ff P fn.ntmps kp od c,wi P fn.results.toList with
     |some (l,d,y),some r=>some ⟨fn.ntmps,r,l,d,y⟩
     |_,_=>none
    else none
def endD(P:Program)(g:Nat)(tC:List Value)(bH:List RV)(Q:Value->SH->Prop):Exit->Env->SH->Prop:=fun e Γ H=>(e=.normal∨e=.ret)/\∃bm R Q2,FunD P g tC bm Q2/\dX H bm R/\
 ∀v Post,Q2 v Post->rM bH Q .ret Γ (Post++R)
def VD(P:Program)(n:Nat)(bH:List RV)(dr:DR)(post:IC)(Q:Value->SH->Prop):List IC->Env->SH->Prop
 |[],Γ,H=>∃vs,nQ Γ dr.tC=some vs/\VC P n post ((dr.d,.func (.func dr.g) #[] vs.toArray)::Γ) H (endD P dr.g vs bH Q)
 |x::l,Γ,H=>VC P n x Γ H (bD (fun ay H'=>VD P n bH dr post Q l ay H') (rM bH Q))
theorem Ir {P:Program}{n:Nat}{c:Code}{x:DR}(h:Iq P n c=some x):∃id ops o1 o2 cl,c=.region id ops false/\ops.toList=[o1,o2]/\dZ P n ops o1=some ⟨some x.d,none,.Ab (.func x.g) [] x.tC⟩/\
 o2.op=.defer cl/\cl.callee=.value (.tmp x.d)/\cl.args=#[]/\o2.guard=none/\o2.dst=none:=by
 unfold Iq at h;split at h
 case h_2=>cases h
 rename_i id ops;split at h
 case h_2=>cases h
 rename_i o1 o2 HY;split at h
 case h_2=>cases h
 rename_i d g tC c h1 h2;split at h
 case h_2=>cases h
 rename_i d' hc;split at h
 case isFalse=>cases h
 rename_i fO;obtain⟨rfl,h3,h4,h5⟩:=fO;cases h;exact⟨id,ops,o1,o2,c,rfl,HY,h1,h2,hc,by simpa using h3,by simpa using h4,by simpa using h5⟩
section
variable {P:Program} {n:Nat} {fn:Func} {tmps:Array Value} {FF:List kC} {w0:World}
theorem Db {R:Ending->World->Prop}{ds:List Deferred}{L:List kC}:∀(X:List Nat) (w':World),Sat w' (L++(FF++marks X))->ku w0 w'->
 (∀om,Sat om (L++FF)->ku w0 om->LeavesInM (yZ none) 0 P fn tmps R ds .returning om)->LeavesInM (yZ none) 0 P fn tmps R (X.map oD++ds) .returning w':=by
 intro X
 induction X with
 |nil=>intro w' hs hk h;exact h w' (by simpa[V.marks]using hs) hk
 |cons r X ih=>
  intro w' hs hk h;have hp:(L++(FF++V.marks (r::X))).Perm (.obj r (.deferred (some []))::(L++(FF++V.marks X))):=by
   exact zCM
  have g5:=hs.perm hp;obtain⟨k1,k2⟩:=g5.obj (QE ..);obtain⟨s1,s2⟩:=Sat.setObj (u:=.deferred none) g5 rfl;refine⟨Zs,.inl ⟨r,_,rfl,?_,ih _ (s1.sub (QW ..)) (hk.trans s2) h⟩⟩;exact zEB
theorem xN {r:List RV}{Q:Value->SH->Prop}{a':Act}{w':World}{ay:Env}{H':SH}{X:List Nat}{e:Exit}(hr:wi P fn.results.toList=some r)(q:rM r Q e ay H')(g1:wA n ay a')(g3:Sat w' (H'.flatten++(FF++marks X)))(g4:ku w0 w'):
 LeavesInM (yZ none) 0 P fn a'.tmps (fun e w'=>∃v Post,e=.returned v/\Q v Post/\Sat w' (Post.flatten++FF)/\ku w0 w') (X.map oD) .returning w':=by
 obtain⟨he,vs,Post,h1,h2,h3⟩:=q;have:=Db (P:=P) (fn:=fn) (tmps:=a'.tmps) (R:=fun e w'=>∃v Post,e=.returned v/\Q v Post/\Sat w' (Post.flatten++FF)/\ku w0 w') (ds:=[]) X w' g3 g4 (fun om s k=>⟨_,fV s hr g1 h1,_,Post,rfl,h3,s.imp h2,k⟩);simpa using this
end
def jf(P:Program)(f:Nat)(args:List Value)(bm:SH)(Q:Value->SH->Prop)(Z:List PanicEntry->SH->Prop):Prop:=
 jw P f=true/\∀F w,Sat w (bm.flatten++F)->
  Calls P f args.toArray w fun e w'=>∃Post,((∃v,e=.returned v/\Q v Post)∨(∃ch,e=.panicked ch/\Z ch Post))/\Sat w' (Post.flatten++F)/\ku w w'
section
variable {P:Program} {f:Nat} {args:List Value} {bm:SH} {Q Q':Value->SH->Prop} {Z Z':List PanicEntry->SH->Prop}
theorem jf.mono(h:jf P f args bm Q Z)(hq:∀v Post,Q v Post->Q' v Post)(hz:∀ch Post,Z ch Post->Z' ch Post):jf P f args bm Q' Z':=
 ⟨h.1,fun F w hs=>(h.2 F w hs).mono fun _ _ ⟨Post,a,b,c⟩=>⟨Post,a.imp (fun⟨v,e,q⟩=>⟨v,e,hq _ _ q⟩) (fun⟨ch,e,q⟩=>⟨ch,e,hz _ _ q⟩),b,c⟩⟩
theorem jf.bY(h:aq P f args bm Q):jf P f args bm Q Z:=
 ⟨h.1,fun F w hs=>(h.2 F w hs).mono fun _ _ ⟨v,Post,a,b,c,d⟩=>⟨Post,.inl ⟨v,a,b⟩,c,d⟩⟩
theorem jf.fun(h:jf P f args bm Q (fun _ _=>False)):aq P f args bm Q:=
 ⟨h.1,fun F w hs=>(h.2 F w hs).mono fun _ _ ⟨Post,a,b,c⟩=>by
   rcases a with⟨v,e,q⟩|⟨ch,e,q⟩
   ·exact⟨v,Post,e,q,b,c⟩
   ·exact q.elim⟩
theorem jf.conv {H R:SH}(h:jf P f args bm Q Z)(hs:dX H bm R)(hq:∀v Post,Q v Post->∃aS,Q' v aS/\ao (Post++R) aS)(hz:∀ch Post,Z ch Post->∃aS,Z' ch aS/\ao (Post++R) aS):jf P f args H Q' Z':=by
 refine⟨h.1,fun F w hw=>?_⟩;have rX:Sat w (bm.flatten++(R.flatten++F)):=by
  rw[<- vf];exact hw.perm (vW F hs)
 refine(h.2 (R.flatten++F) w rX).mono ?_
 rintro e w' ⟨Post,h1,h3,h4⟩
 have h3':Sat w' ((Post++R).flatten++F):=by rw[V8,vf];exact h3
 rcases h1 with⟨v,e1,q⟩|⟨ch,e1,q⟩
 ·obtain⟨aS,h5,h6⟩:=hq v Post q;exact⟨aS,.inl ⟨v,e1,h5⟩,Sat.imp h6 h3',h4⟩
 ·obtain⟨aS,h5,h6⟩:=hz ch Post q;exact⟨aS,.inr ⟨ch,e1,h5⟩,Sat.imp h6 h3',h4⟩
end
section
variable {P:Program} {n:Nat} {rs:List RO} {Γ:Env} {H:SH} {Z:List PanicEntry->Env->SH->Prop} {K:Env->SH->Prop} {d:Option Nat}
theorem kL {f:Nat}{xs:List Operand}{args:List Value}{bm R:SH}{Q:Value->SH->Prop}{Z':List PanicEntry->SH->Prop}(hf:jf P f args bm Q Z')(he:nQ Γ xs=some args)(hs:dX H bm R)
 (h:∀v Post,Q v Post->VO P n rs (ap d v Γ) (Post++R) Z K) (H7:∀ch Post,Z' ch Post->Z ch Γ (Post++R)):VO P n (⟨d,none,.call f xs⟩::rs) Γ H Z K:=by
 intro l hl a w F ZZ Q' ha gU hq hz;obtain⟨o,l',rfl,tM,ops,ho⟩:=zI hl;obtain⟨g1,g2,g3,g4⟩:=jI ho;show ju P ZZ (_,o) (cp P ZZ Q' l') a w;unfold ju;simp only[jC,show kd (V.R.call f xs)=false from rfl,show jF (V.R.call f xs)=false from rfl,if_true,vK,if_false];refine⟨fun e=>(by cases e),?_⟩;obtain⟨c,h1,h2,h3,h4⟩:=pW g1;have cf:(c.args.map a.eval)=args.toArray:=by
  apply vC.1;rw[vD,h3,ha.nQ he]
 have bB:(execOp a.eval o).run P w=.ok (.enter f args.toArray) w:=by
  simp[execOp,h1,resolve,h2,Act.eval,Deferred.ofValue,invoke,cf,zQ h4]
 refine Kb bB ?_;have xG:Sat w (bm.flatten++(R.flatten++F)):=by
  exact zD9
 refine(hf.2 (R.flatten++F) w xG).mono ?_;exact zAS
theorem RD {x:Operand}{t:TypeId}{v:Value}(hx:ev Γ x=some (.iface t v))(h:Z [{v:=.iface t v,recovered:=false}] Γ H):VO P n (⟨d,none,.pnc x⟩::rs) Γ H Z K:=by
 intro l hl a w F ZZ Q' ha gU hq hz;obtain⟨o,l',rfl,tM,ops,ho⟩:=zI hl;obtain⟨g1,g2,g3,g4⟩:=jI ho;show ju P ZZ (_,o) (cp P ZZ Q' l') a w;unfold ju;simp only[jC,show kd (V.R.pnc x)=false from rfl,show jF (V.R.pnc x)=false from rfl,if_true,vK,if_false];refine⟨fun e=>(by cases e),?_⟩;have K8:o.op=.panic x:=by
  obtain⟨dst,op,ty,pos,after,guard⟩:=o;simp only at g1|-;cases op
  case panic y=>simp only[kz,Qy,V.R.pnc.injEq]at g1;rw[g1]
  all_goals (exfalso;try simp only[kz]at g1)
  all_goals (repeat' split at g1)
  all_goals first
   |(cases g1;done)
   |(simp only[Qu]at g1;obtain⟨_,_,g1⟩:=g1;cases g1;done)
 have bB:(execOp a.eval o).run P w=.halt (.panic (.iface t v)) w:=by
  simp[execOp,K8,ha.ev hx,Instr.panic,goPanic,Sem.run]
 simp only[yW,bB,jl];exact hz _ a w Γ H h ha rfl gU (.refl w)
end
def S7(bH:List RV)(Q:Value->SH->Prop)(Z:List PanicEntry->SH->Prop):Exit->Env->SH->Prop
 |.panic ch,_,H=>∃Post,ao H Post/\Z ch Post
 |e,Γ,H=>rM bH Q e Γ H
theorem jM {bH:List RV}{Q:Value->SH->Prop}{Z:List PanicEntry->SH->Prop}{e:Exit}{Γ:Env}{H:SH}(h:rM bH Q e Γ H):S7 bH Q Z e Γ H:=by
 have he:=h.1;rcases he with rfl|rfl <;> exact h
section
variable {P:Program} {fn:Func} {tmps:Array Value} {FF:List kC} {w0:World}
theorem gA {R:Ending->World->Prop}{ds:List Deferred}{L:List kC}{u:FrameMode}(hu:u≠.run):∀(X:List Nat) (w':World),Sat w' (L++(FF++marks X))->ku w0 w'->
 (∀om,Sat om (L++FF)->ku w0 om->LeavesInM (yZ none) 0 P fn tmps R ds u om)->LeavesInM (yZ none) 0 P fn tmps R (X.map oD++ds) u w':=by
 intro X
 induction X with
 |nil=>intro w' hs hk h;exact h w' (by simpa[V.marks]using hs) hk
 |cons r X ih=>
  intro w' hs hk h;have hp:(L++(FF++V.marks (r::X))).Perm (.obj r (.deferred (some []))::(L++(FF++V.marks X))):=by
   exact zCM
  have g5:=hs.perm hp;obtain⟨k1,k2⟩:=g5.obj (QE ..);obtain⟨s1,s2⟩:=Sat.setObj (u:=.deferred none) g5 rfl;refine⟨hu,.inl ⟨r,_,rfl,?_,ih _ (s1.sub (QW ..)) (hk.trans s2) h⟩⟩;exact zEB
end
theorem jf.intro {P:Program}{kp:Nat->List Nat}{od:Nat->List (List Nat)}{f:Nat}{F:aQ}{args:List Value}{bm:SH}{Q:Value->SH->Prop}{Z:List PanicEntry->SH->Prop}(hl:nU P kp od f=some F)(hn:args.length<=F.n)
 (h:VC P F.n F.body (aI 0 args) bm (S7 F.bH Q Z)):jf P f args bm Q Z:=by
 unfold nU at hl;split at hl
 ·cases hl
 rename_i fn tY;split at hl
 ·cases hl
 rename_i c hc;split at hl
 case isFalse=>cases hl
 rename_i oe;split at hl
 case h_2=>cases hl
 rename_i b r hb hr;cases hl;refine⟨by simp only[jw,tY,oe,hc];rfl,fun FF w hs=>?_⟩;refine(callsIn_wide (n:=0)).1 (callsIn_of_wp_marks tY hc trivial (h none kp od c hb _ w FF _ (fun l e=>by cases e) ⟨?_,fun t v e=>?_⟩ hs (fun e a' w' ay H' X q g1 g2 g3 g4=>?_)))
 ·simp at hn|-;omega
 ·exact zAQ
 ·have hret:∀e0,rM r Q e0 ay H'->LeavesInM (yZ none) 0 P fn a'.tmps (fun e w'=>∃Post,((∃v,e=.returned v/\Q v Post)∨(∃ch,e=.panicked ch/\Z ch Post))/\Sat w' (Post.flatten++FF)/\ku w w') a'.defers .returning w':=by
   rintro e0 ⟨_,vs,Post,h1,h2,h3⟩
   have:=gA (P:=P) (fn:=fn) (tmps:=a'.tmps) (w0:=w) (FF:=FF) (L:=H'.flatten) (u:=.returning) (R:=fun e w'=>∃Post,((∃v,e=.returned v/\Q v Post)∨(∃ch,e=.panicked ch/\Z ch Post))/\Sat w' (Post.flatten++FF)/\ku w w') (ds:=[]) Zs X w' g3 g4
    (fun om s k=>⟨_,fV s hr g1 h1,Post,.inl ⟨_,rfl,h3⟩,s.imp h2,k⟩)
   rw[g2];exact this
  cases e with
  |normal=>exact hret _ q
  |ret=>exact hret _ q
  |panic ch=>
   obtain⟨Post,h2,h3⟩:=q;have:=gA (P:=P) (fn:=fn) (tmps:=a'.tmps) (w0:=w) (FF:=FF) (L:=H'.flatten) (u:=.panicking ch) (R:=fun e w'=>∃Post,((∃v,e=.returned v/\Q v Post)∨(∃ch,e=.panicked ch/\Z ch Post))/\Sat w' (Post.flatten++FF)/\ku w w') (ds:=[]) Zs X w' g3 g4
    (fun om s k=>(⟨Post,.inr ⟨ch,rfl,h3⟩,s.imp h2,k⟩:∃Post,_))
   show LeavesInM _ _ _ _ _ _ a'.defers _ _;rw[g2];exact this
  |exit id=>exact absurd q.1 Zs
  |goto l=>exact absurd q.1 Zs
  |outgrown=>exact absurd q.1 Zs
def D8(P:Program)(fv:Value)(args:List Value)(bm:SH)(Q:Value->SH->Prop)(Z:List PanicEntry->SH->Prop):Prop:=
 ∀F w,Sat w (bm.flatten++F)->Eb P fv args w fun e w'=>∃Post,((∃v,e=.returned v/\Q v Post)∨(∃ch,e=.panicked ch/\Z ch Post))/\Sat w' (Post.flatten++F)/\ku w w'
theorem D8.bY {P:Program}{f:Nat}{first cap:Array Value}{args:List Value}{bm:SH}{Q:Value->SH->Prop}{Z:List PanicEntry->SH->Prop}(h:jf P f (first.toList++args++cap.toList) bm Q Z):D8 P (.func (.func f) first cap) args bm Q Z:=by
 exact zCV
theorem L5 {P:Program}{n:Nat}{rs:List RO}{Γ:Env}{H:SH}{Z:List PanicEntry->Env->SH->Prop}{K:Env->SH->Prop}{d:Option Nat}{x:Operand}{fv:Value}{xs:List Operand}{args:List Value}{bm R:SH}{Q:Value->SH->Prop}{Z':List PanicEntry->SH->Prop}
 (hx:ev Γ x=some fv) (hf:D8 P fv args bm Q Z') (he:nQ Γ xs=some args) (hs:dX H bm R)
 (h:∀v Post,Q v Post->VO P n rs (ap d v Γ) (Post++R) Z K) (H7:∀ch Post,Z' ch Post->Z ch Γ (Post++R)):VO P n (⟨d,none,.pD x xs⟩::rs) Γ H Z K:=by
 intro l hl a w F ZZ Q' ha gU hq hz;obtain⟨o,l',rfl,tM,ops,ho⟩:=zI hl;obtain⟨g1,g2,g3,g4⟩:=jI ho;show ju P ZZ (_,o) (cp P ZZ Q' l') a w;unfold ju;have hp:kd (V.R.pD x xs)=false:=rfl;have hr:jF (V.R.pD x xs)=false:=rfl;simp only[jC,hp,hr,if_true,vK,if_false];refine⟨fun e=>(by cases e),?_⟩;obtain⟨c,h1,h2,h3⟩:=Bo g1;have hm:xs.map a.eval=args:=ha.nQ he;have cf:(c.args.map a.eval)=args.toArray:=by
  exact zEQ
 have xG:Sat w (bm.flatten++(R.flatten++F)):=by
  exact zD9
 have hi:=hf (R.flatten++F) w xG;have fin:∀(e:Ending) (w':World),(∃Post,((∃v,e=.returned v/\Q v Post)∨(∃ch,e=.panicked ch/\Z' ch Post))/\Sat w' (Post.flatten++(R.flatten++F))/\ku w w')->
  (∃v,e=.returned v/\cp P ZZ Q' l' (a.put o.dst v) w')∨(∃ch,e=.panicked ch/\ZZ (.panic ch) a w'):=by
  exact zAS
 have NJ:a.eval x=fv:=ha.ev hx;unfold Eb at hi;split at hi
 ·rename_i f first cap
  have bB:(execOp a.eval o).run P w=.ok (.enter f (first++args.toArray++cap)) w:=by
   simp[execOp,h1,resolve,h2,NJ,Deferred.ofValue,invoke,cf];rw[zQ hi.1]
  simp only[yW,bB,jl];refine hi.2.mono (fun e w' he=>?_);rcases fin e w' he with⟨v,rfl,hv⟩|⟨ch,rfl,hv⟩ <;> exact hv
 ·rename_i l0 first cap
  obtain⟨f,tmps,Hm,body,hy,tZ⟩:=hi;have bB:(execOp a.eval o).run P w=.ok (.round l0 f tmps Hm body) w:=by
   simp[execOp,h1,resolve,h2,NJ,Deferred.ofValue,invoke,cf];exact hy
  simp only[yW,bB,jl];refine tZ.mono (fun e w' he=>?_);rcases fin e w' he with⟨v,rfl,hv⟩|⟨ch,rfl,hv⟩ <;> exact hv
 ·exact hi.elim
def upd {α:Type}(f:Int->α)(i:Int)(v:α):Int->α:=fun k=>if k=i then v else f k
abbrev swp {α:Type}(f:Int->α)(i j:Int):Int->α:=upd (upd f i (f j)) j (f i)
inductive Sw {α:Type}(a b:Int)(f:Int->α):(Int->α)->Prop where
 |refl:Sw a b f f
 |step {g:Int->α} {i j:Int}:Sw a b f g->a<=i/\i < b->a<=j/\j < b->Sw a b f (swp g i j)
structure LtOk {α:Type}(lt:α->α->Bool):Prop where
 asymm:∀x y,lt x y=true->lt y x=false
 le_trans:∀x y z,lt y x=false->lt z y=false->lt z x=false
 eq:∀x y,lt x y=false->lt y x=false->x=y
section
variable {P:Program} {n:Nat} {rs:List RO} {Γ:Env} {H R:SH} {Z:List PanicEntry->Env->SH->Prop} {K:Env->SH->Prop} {d:Option Nat} {α:Type} {e:α->Value} {N b o:Nat} {f:Int->α}
end
section
variable {α:Type} {lt:α->α->Bool}
end
section
variable {α:Type} {lt:α->α->Bool}
end
section
variable {α:Type} {lt:α->α->Bool}
structure PI (lt:α->α->Bool)(a z i j:Int)(p:α)(g:Int->α):Prop where
 piv:g a=p
 less:∀k,a < k->k < i->lt (g k) p=true
 more:∀k,j < k->k < z->lt (g k) p=false
 lo:a+1<=i
 mid:i<=j+1
 hi:j < z
end
section
variable {α:Type} {lt:α->α->Bool}
end
section
variable {α:Type}
end
theorem jG.other {size n:Nat}{sv:Value}{us vs sp:List Value}(h:jG size sv n us sp)(hv:vs.length=us.length):jG size sv n vs sp:=by
 cases h with
 |mk a1 a2 a3=>exact .mk Zo Zo a3
 |nil=>
  have:vs=[]:=vt (by simpa using hv);subst this;exact .nil
structure Ch where
 kind:Int
 n:Int
 text:ByteArray
structure De where
 kind:Int
 handle:Int
 text:ByteArray
 to:ByteArray
 n:Int
 err:Int
structure Wr where
 seq:Int
 at_:Int
 text:ByteArray
 empty:Bool
structure FO where
 now:List UInt8
 base:List UInt8
 writes:List Wr
 nv:Value
 bv:Value
 wv:Value
 ns:List Value
 bs:List Value
 ws:List Value
structure HO where
 qZ:Nat
 closed:Bool
 stale:Bool
 file:Option Nat
 mode:Int
 at_:Int
def Xi(c:Ch):List Value:=[.int .u8 c.kind,vi c.n,.string c.text]
def Xk(d:De):List Value:=[.int .u8 d.kind,vi d.handle,.string d.text,.string d.to,vi d.n,vi d.err]
def X3(x:Wr):List Value:=[vi x.seq,vi x.at_,.string x.text,.bool x.empty]
def X0(c:UInt8):Value:=.int .u8 c.toNat
def pf(f:Option Nat):Value:=.pointer (f.map fun b=>⟨b,0,none⟩)
def hoEnc(h:HO):List Value:=[.bool h.closed,.bool h.stale,pf h.file,vi h.mode,vi h.at_]
def hoA(h:HO):List kC:=kA h.qZ 0 (hoEnc h)
def foA(p:Nat×FO):List kC:=kA p.1 0 [p.2.nv,p.2.bv,p.2.wv]++(ai p.2.nv (p.2.now.map X0) p.2.ns++(ai p.2.bv (p.2.base.map X0) p.2.bs++ai p.2.wv (p.2.writes.flatMap X3) p.2.ws))
structure WR where
 cv:Value
 iw:List Ch
 bZ:List Value
 fm:Nat
 bI:Array MapEntry
 fc:Nat
 names:List (ByteArray×Nat)
 Au:List (Nat×FO)
 hv:Value
 hs:List HO
 E8:List Value
 tv:Value
 trace:List De
 ig:List Value
 clock:Int
 seq:Int
 dead:Bool
abbrev NH (w:WR):List Value:=[w.cv,.map (some w.fm),w.hv,w.tv,vi w.clock,vi w.seq,.bool w.dead]
abbrev WMem (t:Nat)(w:WR):SH:=
 [kA t 0 [w.cv,.map (some w.fm),w.hv,w.tv,vi w.clock,vi w.seq,.bool w.dead],ai w.cv (w.iw.flatMap Xi) w.bZ,[.obj w.fm (.map w.bI w.fc)],w.Au.flatMap foA,ai w.hv (w.hs.map fun h=>kF h.qZ) w.E8,w.hs.flatMap hoA,ai w.tv (w.trace.flatMap Xk) w.ig]
structure FOk (f:FO)(M:Nat):Prop where
 now:jG 1 f.nv f.now.length (f.now.map X0) f.ns
 base:jG 1 f.bv f.base.length (f.base.map X0) f.bs
 wr:jG 4 f.wv f.writes.length (f.writes.flatMap X3) f.ws
 len:f.now.length<=4194304
 len2:f.base.length<=4194304
 many:f.writes.length<=M
 at_:∀x∈f.writes,0<=x.at_/\x.at_+x.text.size<=4194304
structure WOk (w:WR)(M:Nat):Prop where
 ch:jG 3 w.cv w.iw.length (w.iw.flatMap Xi) w.bZ
 fm:zk yC (fun b:Nat=>kF b) w.bI w.fc w.names
 keys:(w.names.map (·.1)).Nodup
 blks:(w.Au.map (·.1)).Nodup
 named:∀p∈w.names,p.2∈w.Au.map (·.1)
 fo:∀p∈w.Au,FOk p.2 M
 hv:jG 1 w.hv w.hs.length (w.hs.map fun h=>kF h.qZ) w.E8
 hfile:∀h∈w.hs,∀b,h.file=some b->b∈w.Au.map (·.1)
 Sm:∀h∈w.hs,0<=h.at_/\h.at_<=4194304
 bA:w.hs.length<=M
 tr:jG 6 w.tv w.trace.length (w.trace.flatMap Xk) w.ig
 trmany:w.trace.length<=M
 seq:0<=w.seq/\w.seq<=M
 clock:0<=w.clock/\w.clock<=1000000000000000000
 files:w.names.length<=1073741823
 chmany:w.iw.length<=65536
def uG(K:List RO->Prop):List (List RO)->Prop
 |[]=>True
 |rs::r=>K rs/\uG K r
theorem uG.mem {K:List RO->Prop}:∀{rj:List (List RO)},uG K rj->∀rs∈rj,K rs:=by
 intro rj
 induction rj with
 |nil=>intro _ rs h;cases h
 |cons a r ih=>
  intro h rs hm;rcases QC.1 hm with rfl|hm
  ·exact h.1
  ·exact ih h.2 rs hm
theorem VC.draws {P:Program}{n:Nat}{Γ:Env}{H:SH}{Q:Exit->Env->SH->Prop}{rj:List (List RO)}{aU:List Nat}(h:uG (fun rs=>VO P n rs Γ H (fun _ _ _=>False) fun ay H'=>Q .normal (aT aU ay) H') rj):VC P n (.draw rj aU) Γ H Q:=VC.draw h.mem
theorem VC.Cg {P:Program}{n:Nat}{Γ:Env}{H:SH}{Q:Exit->Env->SH->Prop}{rj:List (List RO)}{aU:List Nat}{y:IC}{α:Type}(bn:α->Env)(Hf:α->SH)(I:α->Prop)
 (h:uG (fun rs=>VO P n rs Γ H (fun _ _ _=>False) fun ay H'=>∃s,I s/\Sub (aT aU ay) (bn s)/\ao H' (Hf s)) rj) (h2:∀s,I s->VC P n y (bn s) (Hf s) Q):VC P n (.seq (.draw rj aU) y) Γ H Q:=by
 refine VC.seq (VC.draws ?_);have key:∀{l:List (List RO)},uG (fun rs=>VO P n rs Γ H (fun _ _ _=>False) fun ay H'=>∃s,I s/\Sub (aT aU ay) (bn s)/\ao H' (Hf s)) l->
  uG (fun rs=>VO P n rs Γ H (fun _ _ _=>False) fun ay H'=>VC P n y (aT aU ay) H' Q) l:=by
  intro l
  induction l with
  |nil=>intro _;trivial
  |cons a r ih=>
   intro hh;exact⟨hh.1.mono (fun ay H' ⟨s,i1,i2,i3⟩=>VC.sub i2 (VC.imp i3 (h2 s i1))),ih hh.2⟩
 exact key h
section
variable {P:Program} {n:Nat} {rs:List RO} {Γ:Env} {H:SH} {Z:List PanicEntry->Env->SH->Prop} {K:Env->SH->Prop} {d:Option Nat}
theorem qO {r:R}{s:Nat}{b c:Bool}(hs:look Γ s=some (.bool c))(ht:c=true->VO P n (⟨d,some (s,b),r⟩::rs) ((s,.bool true)::Γ) H Z K)(hf:c=false->VO P n (⟨d,some (s,b),r⟩::rs) ((s,.bool false)::Γ) H Z K):
 VO P n (⟨d,some (s,b),r⟩::rs) Γ H Z K:=J5 hs ht hf
theorem qR {s:Nat}{x y:Operand}{c:Bool}(hs:look Γ s=some (.bool c))(ht:c=true->VO P n (⟨d,none,.pick (.tmp s) x y⟩::rs) ((s,.bool true)::Γ) H Z K)(hf:c=false->VO P n (⟨d,none,.pick (.tmp s) x y⟩::rs) ((s,.bool false)::Γ) H Z K):
 VO P n (⟨d,none,.pick (.tmp s) x y⟩::rs) Γ H Z K:=J5 hs ht hf
end
def dV(s:ByteArray):List Value:=s.data.toList.map fun c=>.int .u8 c.toNat
section
variable {P:Program} {n:Nat} {rs:List RO} {Γ:Env} {H:SH} {Z:List PanicEntry->Env->SH->Prop} {K:Env->SH->Prop} {d:Option Nat}
end
def setObj(Au:List (Nat×FO))(b:Nat)(fo:FO):List (Nat×FO):=Au.map fun p=>if p.1=b then(b,fo)else p
structure AF where
 now:List UInt8
 base:List UInt8
 writes:List Wr
structure AW where
 iw:List Ch
 names:List (ByteArray×Nat)
 files:List AF
 hs:List HO
 trace:List De
 clock:Int
 seq:Int
 dead:Bool
def foF(f:FO):AF:=⟨f.now,f.base,f.writes⟩
def ho0(h:HO):HO:={h with qZ:=0}
def hoB(B:List Nat)(h:HO):HO:={h with qZ:=0,file:=h.file.map fun i=>B.getD i 0}
structure Rep (w:WR)(a:AW)(M:Nat):Prop where
 ch:w.iw=a.iw
 tr:w.trace=a.trace
 clock:w.clock=a.clock
 seq:w.seq=a.seq
 dead:w.dead=a.dead
 names:w.names=a.names.map fun p=>(p.1,(w.Au.map (·.1)).getD p.2 0)
 nin:∀p∈a.names,p.2 < a.files.length
 files:w.Au.map (fun p=>foF p.2)=a.files
 hs:w.hs.map ho0=a.hs.map (hoB (w.Au.map (·.1)))
 aY:∀h∈a.hs,∀i,h.file=some i->i < a.files.length
 ok:WOk w M
section
variable {w:WR} {a:AW} {M:Nat}
end
def YU(l:List UInt8):ByteArray:=⟨l.toArray⟩
section
variable {P:Program} {n:Nat} {Γ:Env} {H:SH} {Q:Exit->Env->SH->Prop}
theorem VO.know {rs:List RO}{Z:List PanicEntry->Env->SH->Prop}{K:Env->SH->Prop}{φ:Prop}(h:∀w F,Sat w (H.flatten++F)->φ)(k:φ->VO P n rs Γ H Z K):VO P n rs Γ H Z K:=by
 intro l hl a w F ZZ Q ha hs hq hz;exact k (h w F hs) l hl a w F ZZ Q ha hs hq hz
end
theorem Fp {α:Type}(l:Array α)(x:α)(f:α->α):(l.push x).modify l.size f=l.push (f x):=by
 apply Array.ext
 ·simp
 ·intro i h1 h2;simp only[Array.getElem_modify,Array.getElem_push];by_cases hi:i < l.size
  ·simp[hi,Nat.ne_of_gt hi]
  ·have:l.size=i:=by simp at h1;omega
   simp[hi,this]
section
variable {P:Program}
theorem RI {H:List kC}{c:Array Value}{t:TypeId}{K:Addr->List kC->Prop}(h:∀b,K ⟨b,0,none⟩ (kA b 0 c.toList++H)):aG P (do let a <- newRow t c;markStringish a;pure a) H K:=by
 intro F w hs;obtain⟨s1,s2⟩:=hs.push (.cells c t (c.size,c.size+1)) (kA w.heap.size 0 c.toList) (fun x hx=>by
  obtain⟨i,v,hi,rfl⟩:=kI.1 hx;refine⟨rfl,c,t,c.size,c.size+1,Zs,by simpa using hi,?_⟩;have:=(Vm.1 hi).1;simp at this|-;omega) (de _ _ _)
 refine⟨⟨w.heap.size,0,none⟩,_,_,?_,h _,by rw[vf];exact s1,s2⟩;have hsh:({w with heap:=w.heap.push (.cells c t)}:World).shape? w.heap.size=some (t,c.size):=by simp[World.shape?]
 have xx:({w with heap:=w.heap.push (.cells c t)}:World).freeze ⟨w.heap.size,c.size,none⟩ 1={w with heap:=w.heap.push (.cells c t (c.size,c.size+1))}:=by
  simp[World.freeze,Fp]
 have h1:(Go.newRow t c).run P w=.ok ⟨w.heap.size,0,none⟩ {w with heap:=w.heap.push (.cells c t)}:=by
  simp[Go.newRow,Go.newObj,Sem.run]
 have h2:(markStringish ⟨w.heap.size,0,none⟩).run P {w with heap:=w.heap.push (.cells c t)}=.ok () {w with heap:=w.heap.push (.cells c t (c.size,c.size+1))}:=by
  rw[<- xx];unfold markStringish;simp only[Go.shape,Sem.run_bind,Sem.run,hsh,Result.andThen_ok,Go.freeze]
 simp only[Sem.run_bind,h1,h2,Result.andThen_ok,Sem.run_pure]
theorem WU {H:List kC}{t:TypeId}{s:ByteArray}{K:Value->List kC->Prop}(h:∀b cap,s.size<=cap->K (.slice (some ⟨b,0,none⟩) s.size cap) (kA b 0 (dV s++List.replicate (cap - s.size) (.int .u8 0))++H)):aG P (Conv.stringToBytes t s) H K:=by
 have fin:∀cap,s.size<=cap->aG P (do
  let a <- newRow t (s.data.map (fun b=>Value.int .u8 b.toNat)++Array.replicate (cap - s.size) (.int .u8 0))
  markStringish a
  pure (Value.slice (some a) s.size cap)) H K:=by
  intro cap EV;have:=RI (P:=P) (H:=H) (c:=s.data.map (fun b=>Value.int .u8 b.toNat)++Array.replicate (cap - s.size) (.int .u8 0)) (t:=t) (K:=fun a L=>K (.slice (some a) s.size cap) L) (fun b=>by
   have:=h b cap EV;simpa[dV]using this)
  have h2:=aG.bind (f:=fun a=>(pure (Value.slice (some a) s.size cap):Sem Value)) (this.mono (fun a L ha=>aG.pure ha));simpa using h2
 unfold Conv.stringToBytes;refine aG.bind (aG.choose (fun hf=>by simp[Question.forced]at hf) (fun t'=>?_));simp only[Question.cut];exact fin _ Zo
end
def Cr(H:SH):Value->List UInt8->Prop
 |.slice (some ⟨b,o,none⟩) k _,l=>k=l.length/\∀a∈kA b o (l.map X0),a∈H.flatten
 |.slice none _ _,l=>l=[]
 |_,_=>False
theorem O6(c:UInt8):UInt8.ofNat (((c.toNat:Nat):Int).toNat)=c:=by simp
theorem Rp {P:Program}{w:World}{f:Value->ByteArray->Sem (ForInStep ByteArray)}(hf:∀(c:UInt8) r,f (X0 c) r=pure (ForInStep.yield (r.push (UInt8.ofNat ((c.toNat:Int)).toNat)))):∀(l:List UInt8) (acc:ByteArray),(forIn (l.map X0) acc f).run P w=.ok ⟨acc.data++l.toArray⟩ w:=by
 intro l
 induction l with
 |nil=>intro acc;simp
 |cons c l ih=>
  intro acc;have:=ih (acc.push c);rw[Q7,List.forIn_cons,hf,Sem.run_bind,Sem.run_pure,Result.andThen_ok];simp only[O6];rw[this];simp[ByteArray.push]
theorem Wy {P:Program}{H:SH}{dv:Value}{l:List UInt8}{F:List kC}{w:World}(h:Cr H dv l)(hs:Sat w (H.flatten++F)):(Conv.bytesToString dv).run P w=.ok (.string (YU l)) w:=by
 unfold Cr at h;split at h
 ·obtain⟨rfl,hm⟩:=h;have hl:=run_loadCells (P:=P) (m:=l.length) (us:=l.map X0) Zs hm hs;unfold Conv.bytesToString;simp only[Sem.run_bind,hl,Result.andThen_ok];rw[List.forIn_toArray];rw[Rp (fun c r=>rfl)];simp[YU]
 ·subst h;unfold Conv.bytesToString;rfl
 ·exact h.elim
section
variable {P:Program} {n:Nat} {rs:List RO} {Γ:Env} {H:SH} {Z:List PanicEntry->Env->SH->Prop} {K:Env->SH->Prop} {d:Option Nat}
theorem st_b2s {x:Operand}{dv:Value}{l:List UInt8}(hx:ev Γ x=some dv)(hb:Cr H dv l)(h:VO P n rs (ap d (.string (YU l)) Γ) H Z K):VO P n (⟨d,none,.b2s x⟩::rs) Γ H Z K:=
 VO.read rfl rfl (fun ρ aK=>⟨_,rfl,fun F w hs=>by
  rw[aK _ _ hx];simp[Wy hb hs]⟩) h
theorem st_s2b {t:TypeId}{x:Operand}{s:ByteArray}(hx:ev Γ x=some (.string s))(h:∀sv sp,jG 1 sv s.size (dV s) sp->VO P n rs (ap d sv Γ) (ai sv (dV s) sp::H) Z K):VO P n (⟨d,none,.s2b t x⟩::rs) Γ H Z K:=by
 refine VO.act rfl rfl (fun ρ aK=>⟨_,rfl,?_⟩);rw[aK _ _ hx];refine aG.bind (WU (fun b cap EV=>aG.pure ?_));refine⟨_,ai (.slice (some ⟨b,0,none⟩) s.size cap) (dV s) (List.replicate (cap - s.size) (.int .u8 0))::H,.inl rfl,by simp[ai],h _ _ (.mk (by simp[dV]) (by simp[dV];omega) EV)⟩
end
section
variable {P:Program} {n:Nat} {rs:List RO} {Γ:Env} {H:SH} {Z:List PanicEntry->Env->SH->Prop} {K:Env->SH->Prop} {d:Option Nat}
end
section
variable {κ α β:Type} [DecidableEq κ] {g:α->β} {k:κ}
end
section
variable {w:WR} {a:AW} {M:Nat}
end
structure Seen {β:Type}(es:Array MapEntry)(l:List (ByteArray×β))(seen:Array Nat)(C:List (ByteArray×β)):Prop where
 nodup:(C.map (·.1)).Nodup
 mem:∀p∈C,p∈l
 seen:∀e∈es.toList,(e.born∈seen.toList↔∃p∈C,e.key=.string p.1)
section
variable {β:Type} {Vf:β->Value} {es:Array MapEntry} {c:Nat} {l:List (ByteArray×β)}
end
abbrev uv (n:Nat):Value:=.int .u64 n
abbrev cv (n:Nat):Value:=.int .u8 n
theorem Sb {n:Nat}:IntKind.u64.wrap (n:Int)=((n % 18446744073709551616:Nat):Int):=by
 simp only[IntKind.wrap,IntKind.bits,IntKind.signed];simp
theorem fD {n:Nat}(h:n < 18446744073709551616):IntKind.u64.wrap (n:Int)=(n:Int):=by
 rw[Sb,Nat.mod_eq_of_lt h]
theorem wrapB {n:Nat}:IntKind.u8.wrap (n:Int)=((n % 256:Nat):Int):=by
 simp only[IntKind.wrap,IntKind.bits,IntKind.signed];simp
theorem mO {n:Nat}(h:n < 256):IntKind.u8.wrap (n:Int)=(n:Int):=by
 rw[wrapB,Nat.mod_eq_of_lt h]
theorem GU {n:Nat}(h:n < 9223372036854775808):IntKind.i64.wrap (n:Int)=(n:Int):=wrap64 ⟨Zo,Zo⟩
theorem bvN {n:Nat}(h:n < 18446744073709551616):(BitVec.ofInt 64 (n:Int)).toNat=n:=by
 rw[BitVec.toNat_ofInt];omega
theorem powI(b:Nat):((2:Int) ^ b)=((2 ^ b:Nat):Int):=by push_cast;rfl
theorem shrU {k:IntKind}{a b:Nat}(hb:b<=64):zi .shr (uv a) (.int k (b:Int))=some (uv (a / 2 ^ b)):=by
 have h0:¬((b:Int) < 0):=by omega
 simp only[zi,me,h0,if_false,IntKind.bits,vT,Nat.min_eq_left hb,powI];rw[Int.fdiv_eq_ediv_of_nonneg _ (Int.natCast_nonneg _)]
 push_cast;rfl
theorem shlU {k:IntKind}{a b:Nat}(hb:b<=64):zi .shl (uv a) (.int k (b:Int))=some (uv (a*2 ^ b % 18446744073709551616)):=by
 have h0:¬((b:Int) < 0):=by omega
 simp only[zi,me,h0,if_false,IntKind.bits,vT,Nat.min_eq_left hb,powI];rw[show((a:Int)*((2 ^ b:Nat):Int))=((a*2 ^ b:Nat):Int) by push_cast;rfl,Sb]
theorem andU {a b:Nat}(ha:a < 18446744073709551616)(hb:b < 18446744073709551616):zi .and (uv a) (uv b)=some (uv (a&&&b)):=by
 show(if IntKind.u64=IntKind.u64 then some (Value.int .u64 (IntKind.u64.wrap ((BitVec.ofInt 64 (a:Int)&&&BitVec.ofInt 64 (b:Int)).toNat:Int)))else none)=_;rw[if_pos rfl,BitVec.toNat_and,bvN ha,bvN hb];rw[fD (Nat.lt_of_le_of_lt Nat.and_le_left ha)]
theorem orU {a b:Nat}(ha:a < 18446744073709551616)(hb:b < 18446744073709551616):zi .or (uv a) (uv b)=some (uv (a|||b)):=by
 show(if IntKind.u64=IntKind.u64 then some (Value.int .u64 (IntKind.u64.wrap ((BitVec.ofInt 64 (a:Int)|||BitVec.ofInt 64 (b:Int)).toNat:Int)))else none)=_;rw[if_pos rfl,BitVec.toNat_or,bvN ha,bvN hb];rw[fD (Nat.or_lt_two_pow (n:=64) ha hb)]
def Yq(a b:Nat):Nat:=a&&&(18446744073709551615 - b)
theorem SV {a b:Nat}(ha:a < 18446744073709551616):Yq a b < 18446744073709551616:=Nat.lt_of_le_of_lt Nat.and_le_left ha
theorem andNU {a b:Nat}(ha:a < 18446744073709551616)(hb:b < 18446744073709551616):zi .andNot (uv a) (uv b)=some (uv (Yq a b)):=by
 show(if IntKind.u64=IntKind.u64 then some (Value.int .u64 (IntKind.u64.wrap ((BitVec.ofInt 64 (a:Int)&&&~~~ BitVec.ofInt 64 (b:Int)).toNat:Int)))else none)=_;rw[if_pos rfl,BitVec.toNat_and,BitVec.toNat_not,bvN ha,bvN hb];rw[show(2 ^ 64 - 1 - b)=18446744073709551615 - b by omega];rw[fD (Nat.lt_of_le_of_lt Nat.and_le_left ha)];rfl
theorem subU {a b:Nat}(h:b<=a):zi .sub (uv a) (uv b)=some (uv ((a - b) % 18446744073709551616)):=by
 simp only[zi,me,if_true];rw[show((a:Int) - (b:Int))=((a - b:Nat):Int) by omega,Sb]
section
variable {P:Program} {n:Nat} {rs:List RO} {Γ:Env} {H:SH} {Z:List PanicEntry->Env->SH->Prop} {K:Env->SH->Prop} {d:Option Nat}
theorem fA {op:BinOp}{x y:Operand}{u v w:Value}(hx:ev Γ x=some u)(hy:ev Γ y=some v)(hv:zi op u v=some w)(h:VO P n rs (ap d w Γ) H Z K):VO P n (⟨d,none,.bin op x y⟩::rs) Γ H Z K:=
 VO.pure rfl (fun ρ aK=>by simp[kT,aK _ _ hx,aK _ _ hy,hv]) h
theorem SL {c:Int}(h:0<=c):Value.int .u64 c=uv c.toNat:=by
 show Value.int .u64 c=Value.int .u64 ((c.toNat:Nat):Int);rw[vU h]
theorem DN {x y:Operand}{k:IntKind}{ca cb:Int}{a b m r:Nat}(hx:ev Γ x=some (.int .u64 ca))(hy:ev Γ y=some (.int k cb))(ha:0<=ca)(hb:0<=cb/\cb<=64)(ea:ca.toNat=a)(eb:cb.toNat=b)(em:2 ^ b=m)(er:a / m=r)
 (h:VO P n rs (ap d (uv r) Γ) H Z K):VO P n (⟨d,none,.bin .shr x y⟩::rs) Γ H Z K:=by
 subst er em eb ea;rw[SL ha]at hx;rw[show cb=((cb.toNat:Nat):Int) by omega]at hy;exact fA hx hy (shrU Zo) h
theorem DM {x y:Operand}{k:IntKind}{ca cb:Int}{a b m r:Nat}(hx:ev Γ x=some (.int .u64 ca))(hy:ev Γ y=some (.int k cb))(ha:0<=ca)(hb:0<=cb/\cb<=64)(ea:ca.toNat=a)(eb:cb.toNat=b)(em:2 ^ b=m)(er:a*m % 18446744073709551616=r)
 (h:VO P n rs (ap d (uv r) Γ) H Z K):VO P n (⟨d,none,.bin .shl x y⟩::rs) Γ H Z K:=by
 subst er em eb ea;rw[SL ha]at hx;rw[show cb=((cb.toNat:Nat):Int) by omega]at hy;exact fA hx hy (shlU Zo) h
theorem DG {x y:Operand}{ca cb:Int}{a b r:Nat}(hx:ev Γ x=some (.int .u64 ca))(hy:ev Γ y=some (.int .u64 cb))(ha:0<=ca/\ca < 18446744073709551616)(hb:0<=cb/\cb < 18446744073709551616)(ea:ca.toNat=a)(eb:cb.toNat=b)(er:a&&&b=r)
 (h:VO P n rs (ap d (uv r) Γ) H Z K):VO P n (⟨d,none,.bin .and x y⟩::rs) Γ H Z K:=by
 subst er eb ea;rw[SL ha.1]at hx;rw[SL hb.1]at hy;exact fA hx hy (andU Zo Zo) h
theorem J7 {x y:Operand}{ca cb:Int}{a b r:Nat}(hx:ev Γ x=some (.int .u64 ca))(hy:ev Γ y=some (.int .u64 cb))(ha:0<=ca/\ca < 18446744073709551616)(hb:0<=cb/\cb < 18446744073709551616)(ea:ca.toNat=a)(eb:cb.toNat=b)(er:a|||b=r)
 (h:VO P n rs (ap d (uv r) Γ) H Z K):VO P n (⟨d,none,.bin .or x y⟩::rs) Γ H Z K:=by
 subst er eb ea;rw[SL ha.1]at hx;rw[SL hb.1]at hy;exact fA hx hy (orU Zo Zo) h
theorem uy {x y:Operand}{ca cb:Int}{a b:Nat}(hx:ev Γ x=some (.int .u64 ca))(hy:ev Γ y=some (.int .u64 cb))(ha:0<=ca/\ca < 18446744073709551616)(hb:0<=cb/\cb < 18446744073709551616)(ea:ca.toNat=a)(eb:cb.toNat=b)
 (h:VO P n rs (ap d (uv (Yq a b)) Γ) H Z K):VO P n (⟨d,none,.bin .andNot x y⟩::rs) Γ H Z K:=by
 subst eb ea;rw[SL ha.1]at hx;rw[SL hb.1]at hy;exact fA hx hy (andNU Zo Zo) h
theorem uD {x y:Operand}{ca cb:Int}{a b:Nat}(hx:ev Γ x=some (.int .u64 ca))(hy:ev Γ y=some (.int .u64 cb))(hb:0<=cb/\cb<=ca)(ha:ca < 18446744073709551616)(ea:ca.toNat=a)(eb:cb.toNat=b)
 (h:VO P n rs (ap d (uv (a - b)) Γ) H Z K):VO P n (⟨d,none,.bin .sub x y⟩::rs) Γ H Z K:=by
 subst eb ea;rw[SL Zo]at hx;rw[SL hb.1]at hy;refine fA hx hy ?_ h;rw[subU Zo,Nat.mod_eq_of_lt Zo]
theorem ux {x y:Operand}{ca cb:Int}{a b:Nat}(hx:ev Γ x=some (.int .u8 ca))(hy:ev Γ y=some (.int .u8 cb))(ha:0<=ca)(hb:0<=cb)(hab:ca+cb < 256)(ea:ca.toNat=a)(eb:cb.toNat=b)
 (h:VO P n rs (ap d (cv (a+b)) Γ) H Z K):VO P n (⟨d,none,.bin .add x y⟩::rs) Γ H Z K:=by
 subst eb ea;refine fA hx hy ?_ h;simp only[zi,me,if_true];rw[show ca+cb=((ca.toNat+cb.toNat:Nat):Int) by omega,mO Zo]
theorem orC {a b:Nat}(ha:a < 18446744073709551616)(hb:b < 18446744073709551616):a|||b < 18446744073709551616:=Nat.or_lt_two_pow (n:=64) ha hb
theorem ltB {a:Nat}(ha:a < 18446744073709551616):0<=((a:Nat):Int)/\((a:Nat):Int) < 18446744073709551616:=by omega
theorem divC {a b:Nat}(h:a < 18446744073709551616):a / b < 18446744073709551616:=Nat.lt_of_le_of_lt (Nat.div_le_self _ _) h
theorem modM {x:Nat}:x % 18446744073709551616 < 18446744073709551616:=Nat.mod_lt _ Zd
theorem ltM {x:Nat}:0<=((x % 18446744073709551616:Nat):Int)/\((x % 18446744073709551616:Nat):Int) < 18446744073709551616:=ltB modM
theorem SS(a:Nat):a&&&1=a % 2:=Qe a 1
theorem SU(a:Nat):a&&&7=a % 8:=Qe a 3
theorem Jl(a:Nat):a&&&15=a % 16:=Qe a 4
theorem uC {x y:Operand}{ca cb:Int}{a b:Nat}(hx:ev Γ x=some (.int .i64 ca))(hy:ev Γ y=some (.int .i64 cb))(ha:0<=ca)(hb:0 < cb)(ea:ca.toNat=a)(eb:cb.toNat=b)(h:VO P n rs (ap d (vi ((a % b:Nat):Int)) Γ) H Z K):VO P n (⟨d,none,.bin .rem x y⟩::rs) Γ H Z K:=by
 refine fA hx hy ?_ h;subst ea eb;have h0:¬(cb=0):=by omega
 simp only[zi,me,ne_eq,h0,not_false_eq_true,and_self,if_true];rw[Int.tmod_eq_emod_of_nonneg ha]
 congr 2
 push_cast
 rw[vU ha,vU Zo]
theorem uB {x y:Operand}{ca cb:Int}{a b:Nat}(hx:ev Γ x=some (.int .i64 ca))(hy:ev Γ y=some (.int .i64 cb))(ha:0<=ca/\ca < 9223372036854775808)(hb:0 < cb)(ea:ca.toNat=a)(eb:cb.toNat=b)(h:VO P n rs (ap d (vi ((a / b:Nat):Int)) Γ) H Z K):VO P n (⟨d,none,.bin .quo x y⟩::rs) Γ H Z K:=by
 refine fA hx hy ?_ h;subst ea eb;have h0:¬(cb=0):=by omega
 simp only[zi,me,ne_eq,h0,not_false_eq_true,and_self,if_true];rw[Int.tdiv_eq_ediv_of_nonneg ha.1];have e:ca / cb=((ca.toNat / cb.toNat:Nat):Int):=by
  push_cast;rw[vU ha.1,vU Zo]
 rw[e,GU (Nat.lt_of_le_of_lt (Nat.div_le_self _ _) Zo)]
theorem qM {k k':IntKind}{x:Operand}{a:Nat}(hx:ev Γ x=some (.int k' (a:Int)))(hr:k.wrap (a:Int)=(a:Int))(h:VO P n rs (ap d (.int k (a:Int)) Γ) H Z K):VO P n (⟨d,none,.conv k x⟩::rs) Γ H Z K:=WQ hx hr h
end
def bitAt(st:List Nat)(w:Nat):Bool:=(st.getD (w / 64) 0).testBit (w % 64)
section
variable {P:Program} {n:Nat} {rs:List RO} {Γ:Env} {H:SH} {Z:List PanicEntry->Env->SH->Prop} {K:Env->SH->Prop} {d:Option Nat}
end
section
variable {P:Program} {n:Nat} {rs:List RO} {Γ:Env} {H:SH} {Z:List PanicEntry->Env->SH->Prop} {K:Env->SH->Prop} {d:Option Nat}
theorem kK {f:Nat}{xs:List Operand}{args:List Value}{w:Value}(hf:aq P f args [] (fun v Post=>v=w/\Post=[]))(he:nQ Γ xs=some args)(h:VO P n rs (ap d w Γ) H Z K):VO P n (⟨d,none,.call f xs⟩::rs) Γ H Z K:=by
 refine kJ hf he dX.nil (fun v Post hv=>?_);obtain⟨rfl,rfl⟩:=hv;exact h
end
theorem ae {R G:Prop}(r:R)(h:MO R->G:=by
 intro later
 (repeat (first
   |(first
   |(apply qP;rfl)
   |(apply DN;rfl;rfl;omega;omega;exact Zi;exact Zi;(first|assumption|((try simp only[Nat.reducePow]);rfl));rfl)
   |(apply DM;rfl;rfl;omega;omega;exact Zi;exact Zi;(first|assumption|((try simp only[Nat.reducePow]);rfl));rfl)
   |(apply DG;rfl;rfl;exact Zl;exact Zl;exact Zi;exact Zi;(first|exact SS _|exact SU _|exact Jl _|rfl))
   |(apply J7;rfl;rfl;exact Zl;exact Zl;exact Zi;exact Zi;rfl)
   |(apply uy;rfl;rfl;exact Zl;exact Zl;exact Zi;exact Zi)
   |(apply uD;rfl;rfl;omega;omega;exact Zi;exact Zi)
   |(apply ux;rfl;rfl;omega;omega;omega;exact Zi;exact Zi)
   |(apply qM;rfl;(first|exact GU Zo|exact fD Zo|exact mO Zo))
   |(apply uB;rfl;rfl;omega;omega;exact Zi;exact Zi)
   |(apply uC;rfl;rfl;omega;omega;exact Zi;exact Zi)
   |(apply Ck;rfl;rfl)
   |(apply Gs;rfl)
   |(apply Cl;rfl)
   |(apply DK;rfl)
   |(apply ic;rfl;rfl)
   |(apply ib;rfl;rfl)
   |(apply mJ;rfl;exact Zz)
   |(apply wt;rfl;exact Zh)
   |(apply wt;rfl;exact Zm)
   |(apply dO;rfl;exact Xe)
   |(apply uz;rfl;rfl)
   |(apply DH;rfl;rfl)
   |(apply DF;rfl;rfl;omega)
   |(apply DO;rfl;rfl;omega)
   |(apply DJ;rfl;rfl;omega)
   |(apply DL;rfl;rfl;decide)
   |(apply qQ;rfl;rfl;omega;exact Zz)
   |(apply uA;rfl;rfl;omega;exact Zz)
   |(apply qK;rfl;(focus (simp only[SE,Value.cells,Qo,Nat.reduceEqDiff,↓reduceIte,eq_self,Nat.reduceAdd,Nat.reduceSub,Qn,Nat.reduceLeDiff,Qh,and_self,rep,kq] <;> rfl)))
   |(apply ie;rfl;rfl;(focus (simp only[SE,Value.cells,Qo,Nat.reduceEqDiff,↓reduceIte,eq_self,Nat.reduceAdd,Nat.reduceSub,Qn,Nat.reduceLeDiff,Qh,and_self,rep,kq] <;> rfl));rfl;rfl;exact Zac)
   |(apply nI;rfl;rfl;rfl))
    |(refine VO.nil ?_;simp only[V.aI,V.aT,V.look,V.ap,V.bD,V.bx,Qo,Nat.reduceAdd,Nat.reduceEqDiff,↓reduceIte,eq_self])
    |refine VC.uw ?_
    |refine VC.nH ?_
    |refine VC.DB ?_
    |refine VC.nG ?_
    |refine VC.qG ?_
    |refine VC.ly ?_
    |refine VC.AU ?_
    |refine VC.block ?_
    |(refine VC.skip ?_;try simp only[V.aI,V.aT,V.look,V.ap,V.bD,V.bx,Qo,Nat.reduceAdd,Nat.reduceEqDiff,↓reduceIte,eq_self])
    |(refine VC.exit ?_;try simp only[V.aI,V.aT,V.look,V.ap,V.bD,V.bx,Qo,Nat.reduceAdd,Nat.reduceEqDiff,↓reduceIte,eq_self])
    |(refine VC.ret ?_;try simp only[V.bD,V.bx])
    |(apply VC.iQ;rfl)
    |(apply VC.iP;rfl)
    |(apply VC.rG;rfl)
    |(apply VC.rF;rfl)))
 exact later.out):G:=h ⟨r⟩
theorem SQ {R G:Prop}(r:R)(h:MO R->G:=by
 intro later
 (first
   |(first
   |(apply qP;rfl)
   |(apply DN;rfl;rfl;omega;omega;exact Zi;exact Zi;(first|assumption|((try simp only[Nat.reducePow]);rfl));rfl)
   |(apply DM;rfl;rfl;omega;omega;exact Zi;exact Zi;(first|assumption|((try simp only[Nat.reducePow]);rfl));rfl)
   |(apply DG;rfl;rfl;exact Zl;exact Zl;exact Zi;exact Zi;(first|exact SS _|exact SU _|exact Jl _|rfl))
   |(apply J7;rfl;rfl;exact Zl;exact Zl;exact Zi;exact Zi;rfl)
   |(apply uy;rfl;rfl;exact Zl;exact Zl;exact Zi;exact Zi)
   |(apply uD;rfl;rfl;omega;omega;exact Zi;exact Zi)
   |(apply ux;rfl;rfl;omega;omega;omega;exact Zi;exact Zi)
   |(apply qM;rfl;(first|exact GU Zo|exact fD Zo|exact mO Zo))
   |(apply uB;rfl;rfl;omega;omega;exact Zi;exact Zi)
   |(apply uC;rfl;rfl;omega;omega;exact Zi;exact Zi)
   |(apply Ck;rfl;rfl)
   |(apply Gs;rfl)
   |(apply Cl;rfl)
   |(apply DK;rfl)
   |(apply ic;rfl;rfl)
   |(apply ib;rfl;rfl)
   |(apply mJ;rfl;exact Zz)
   |(apply wt;rfl;exact Zh)
   |(apply wt;rfl;exact Zm)
   |(apply dO;rfl;exact Xe)
   |(apply uz;rfl;rfl)
   |(apply DH;rfl;rfl)
   |(apply DF;rfl;rfl;omega)
   |(apply DO;rfl;rfl;omega)
   |(apply DJ;rfl;rfl;omega)
   |(apply DL;rfl;rfl;decide)
   |(apply qQ;rfl;rfl;omega;exact Zz)
   |(apply uA;rfl;rfl;omega;exact Zz)
   |(apply qK;rfl;(focus (simp only[SE,Value.cells,Qo,Nat.reduceEqDiff,↓reduceIte,eq_self,Nat.reduceAdd,Nat.reduceSub,Qn,Nat.reduceLeDiff,Qh,and_self,rep,kq] <;> rfl)))
   |(apply ie;rfl;rfl;(focus (simp only[SE,Value.cells,Qo,Nat.reduceEqDiff,↓reduceIte,eq_self,Nat.reduceAdd,Nat.reduceSub,Qn,Nat.reduceLeDiff,Qh,and_self,rep,kq] <;> rfl));rfl;rfl;exact Zac)
   |(apply nI;rfl;rfl;rfl))
    |(refine VO.nil ?_;simp only[V.aI,V.aT,V.look,V.ap,V.bD,V.bx,Qo,Nat.reduceAdd,Nat.reduceEqDiff,↓reduceIte,eq_self])
    |refine VC.uw ?_
    |refine VC.nH ?_
    |refine VC.DB ?_
    |refine VC.nG ?_
    |refine VC.qG ?_
    |refine VC.ly ?_
    |refine VC.AU ?_
    |refine VC.block ?_
    |(refine VC.skip ?_;try simp only[V.aI,V.aT,V.look,V.ap,V.bD,V.bx,Qo,Nat.reduceAdd,Nat.reduceEqDiff,↓reduceIte,eq_self])
    |(refine VC.exit ?_;try simp only[V.aI,V.aT,V.look,V.ap,V.bD,V.bx,Qo,Nat.reduceAdd,Nat.reduceEqDiff,↓reduceIte,eq_self])
    |(refine VC.ret ?_;try simp only[V.bD,V.bx])
    |(apply VC.iQ;rfl)
    |(apply VC.iP;rfl)
    |(apply VC.rG;rfl)
    |(apply VC.rF;rfl))
 (repeat (first
   |(first
   |(apply qP;rfl)
   |(apply DN;rfl;rfl;omega;omega;exact Zi;exact Zi;(first|assumption|((try simp only[Nat.reducePow]);rfl));rfl)
   |(apply DM;rfl;rfl;omega;omega;exact Zi;exact Zi;(first|assumption|((try simp only[Nat.reducePow]);rfl));rfl)
   |(apply DG;rfl;rfl;exact Zl;exact Zl;exact Zi;exact Zi;(first|exact SS _|exact SU _|exact Jl _|rfl))
   |(apply J7;rfl;rfl;exact Zl;exact Zl;exact Zi;exact Zi;rfl)
   |(apply uy;rfl;rfl;exact Zl;exact Zl;exact Zi;exact Zi)
   |(apply uD;rfl;rfl;omega;omega;exact Zi;exact Zi)
   |(apply ux;rfl;rfl;omega;omega;omega;exact Zi;exact Zi)
   |(apply qM;rfl;(first|exact GU Zo|exact fD Zo|exact mO Zo))
   |(apply uB;rfl;rfl;omega;omega;exact Zi;exact Zi)
   |(apply uC;rfl;rfl;omega;omega;exact Zi;exact Zi)
   |(apply Ck;rfl;rfl)
   |(apply Gs;rfl)
   |(apply Cl;rfl)
   |(apply DK;rfl)
   |(apply ic;rfl;rfl)
   |(apply ib;rfl;rfl)
   |(apply mJ;rfl;exact Zz)
   |(apply wt;rfl;exact Zh)
   |(apply wt;rfl;exact Zm)
   |(apply dO;rfl;exact Xe)
   |(apply uz;rfl;rfl)
   |(apply DH;rfl;rfl)
   |(apply DF;rfl;rfl;omega)
   |(apply DO;rfl;rfl;omega)
   |(apply DJ;rfl;rfl;omega)
   |(apply DL;rfl;rfl;decide)
   |(apply qQ;rfl;rfl;omega;exact Zz)
   |(apply uA;rfl;rfl;omega;exact Zz)
   |(apply qK;rfl;(focus (simp only[SE,Value.cells,Qo,Nat.reduceEqDiff,↓reduceIte,eq_self,Nat.reduceAdd,Nat.reduceSub,Qn,Nat.reduceLeDiff,Qh,and_self,rep,kq] <;> rfl)))
   |(apply ie;rfl;rfl;(focus (simp only[SE,Value.cells,Qo,Nat.reduceEqDiff,↓reduceIte,eq_self,Nat.reduceAdd,Nat.reduceSub,Qn,Nat.reduceLeDiff,Qh,and_self,rep,kq] <;> rfl));rfl;rfl;exact Zac)
   |(apply nI;rfl;rfl;rfl))
    |(refine VO.nil ?_;simp only[V.aI,V.aT,V.look,V.ap,V.bD,V.bx,Qo,Nat.reduceAdd,Nat.reduceEqDiff,↓reduceIte,eq_self])
    |refine VC.uw ?_
    |refine VC.nH ?_
    |refine VC.DB ?_
    |refine VC.nG ?_
    |refine VC.qG ?_
    |refine VC.ly ?_
    |refine VC.AU ?_
    |refine VC.block ?_
    |(refine VC.skip ?_;try simp only[V.aI,V.aT,V.look,V.ap,V.bD,V.bx,Qo,Nat.reduceAdd,Nat.reduceEqDiff,↓reduceIte,eq_self])
    |(refine VC.exit ?_;try simp only[V.aI,V.aT,V.look,V.ap,V.bD,V.bx,Qo,Nat.reduceAdd,Nat.reduceEqDiff,↓reduceIte,eq_self])
    |(refine VC.ret ?_;try simp only[V.bD,V.bx])
    |(apply VC.iQ;rfl)
    |(apply VC.iP;rfl)
    |(apply VC.rG;rfl)
    |(apply VC.rF;rfl)))
 exact later.out):G:=h ⟨r⟩
inductive Lt where
 |mk (kind:Nat) (n:Int) (bits:Nat) (text:ByteArray) (items:List Lt)
inductive Nd where
 |mk (kind:Nat) (name:ByteArray) (lit:Lt) (args ab:List ByteArray) (kids:List Nd) (at_:Int)
def Lt.kind:Lt->Nat|.mk k _ _ _ _=>k
def Lt.n:Lt->Int|.mk _ n _ _ _=>n
def Lt.bits:Lt->Nat|.mk _ _ b _ _=>b
def Lt.text:Lt->ByteArray|.mk _ _ _ t _=>t
def Lt.items:Lt->List Lt|.mk _ _ _ _ l=>l
def Nd.kind:Nd->Nat|.mk k _ _ _ _ _ _=>k
def Nd.name:Nd->ByteArray|.mk _ s _ _ _ _ _=>s
def Nd.lit:Nd->Lt|.mk _ _ l _ _ _ _=>l
def Nd.args:Nd->List ByteArray|.mk _ _ _ a _ _ _=>a
def Nd.ab:Nd->List ByteArray|.mk _ _ _ _ t _ _=>t
def Nd.kids:Nd->List Nd|.mk _ _ _ _ _ k _=>k
def Nd.at_:Nd->Int|.mk _ _ _ _ _ _ p=>p
theorem Nd.eta(x:Nd):x=.mk x.kind x.name x.lit x.args x.ab x.kids x.at_:=by cases x;rfl
mutual
def Lt.size:Lt->Nat
 |.mk _ _ _ _ items=>1+Lt.aw items
def Lt.aw:List Lt->Nat
 |[]=>0
 |x::r=>x.size+Lt.aw r
end
mutual
def Nd.size:Nd->Nat
 |.mk _ _ _ _ _ kids _=>1+Nd.aw kids
def Nd.aw:List Nd->Nat
 |[]=>0
 |x::r=>x.size+Nd.aw r
end
theorem Lt.size_pos(x:Lt):0 < x.size:=by cases x;simp only[Lt.size];omega
theorem Nd.size_pos(x:Nd):0 < x.size:=by cases x;simp only[Nd.size];omega
theorem Lt.aD {x:Lt}:∀{l:List Lt},x∈l->x.size<=Lt.aw l:=by
 intro l
 induction l with
 |nil=>intro h;cases h
 |cons y r ih=>
  intro h;simp only[Lt.aw];exact zC8
theorem Nd.aD {x:Nd}:∀{l:List Nd},x∈l->x.size<=Nd.aw l:=by
 intro l
 induction l with
 |nil=>intro h;cases h
 |cons y r ih=>
  intro h;simp only[Nd.aw];exact zC8
def eg(A:List kC)(v:Value)(l:List ByteArray):Prop:=∃a c,v=.slice a l.length c/\l.length<=1099511627776/\∀(i:Nat) t,l[i]? =some t->∃b o,a=some ⟨b,o,none⟩/\kC.cell b (o+i) (.string t)∈A/\t.size<=140737488355328
theorem eg.more {A B:List kC}{v:Value}{l:List ByteArray}(h:eg A v l)(hs:∀x∈A,x∈B):eg B v l:=by
 obtain⟨a,c,h1,h2,h3⟩:=h;exact⟨a,c,h1,h2,fun i t e=>let⟨b,o,k1,k2,k3⟩:=h3 i t e;⟨b,o,k1,hs _ k2,k3⟩⟩
structure MP (k:Nat)(n:Int)(b:Nat)(t:ByteArray)(m:Nat):Prop where
 kind:k < 256
 n:-9223372036854775808<=n/\n<=9223372036854775807
 bits:b < 18446744073709551616
 text:t.size<=140737488355328
 many:m<=140737488355328
inductive zw (A:List kC):Lt->List Value->Prop
 |mk {k:Nat} {n:Int} {b:Nat} {t:ByteArray} {items:List Lt} {a:Option Addr} {c bk o:Nat} {us:Nat->List Value} (wf:MP k n b t items.length) (ha:0 < items.length->a=some ⟨bk,o,none⟩)
   (hm:∀i,i < items.length->∀y∈kA bk (o+i*5) (us i),y∈A) (hr:∀i x,items[i]? =some x->zw A x (us i)):zw A (.mk k n b t items) [cv k,vi n,uv b,.string t,.slice a items.length c]
structure NdWf (k:Nat)(s:ByteArray)(m:Nat)(p:Int):Prop where
 kind:k < 256
 name:s.size<=140737488355328
 many:m<=140737488355328
 at_:-9223372036854775808<=p/\p<=9223372036854775807
inductive jJ (A:List kC):Nd->List Value->Prop
 |mk {k:Nat} {s:ByteArray} {lit:Lt} {args ab:List ByteArray} {kids:List Nd} {p:Int} {lv:List Value} {av tv:Value} {a:Option Addr} {c bk o:Nat} {us:Nat->List Value} (wf:NdWf k s kids.length p) (hl:zw A lit lv) (bK:eg A av args) (bG:eg A tv ab)
   (ha:0 < kids.length->a=some ⟨bk,o,none⟩) (hm:∀i,i < kids.length->∀y∈kA bk (o+i*11) (us i),y∈A) (hr:∀i x,kids[i]? =some x->jJ A x (us i)) (rU:kids.length<=c):jJ A (.mk k s lit args ab kids p) ([cv k,.string s]++lv++[av,tv,.slice a kids.length c,vi p])
theorem zw.len {A:List kC}{x:Lt}{vs:List Value}(h:zw A x vs):vs.length=5:=by cases h;rfl
theorem jJ.len {A:List kC}{x:Nd}{vs:List Value}(h:jJ A x vs):vs.length=11:=by
 cases h with
 |mk wf hl=>simp[hl.len]
theorem zw.more {A B:List kC}(hs:∀x∈A,x∈B){x:Lt}{vs:List Value}(h:zw A x vs):zw B x vs:=by
 induction h with
 |mk wf ha hm hr ih=>exact .mk wf ha (fun i hi y hy=>hs _ (hm i hi y hy)) ih
theorem jJ.more {A B:List kC}(hs:∀x∈A,x∈B){x:Nd}{vs:List Value}(h:jJ A x vs):jJ B x vs:=by
 induction h with
 |mk wf hl bK bG ha hm hr rU ih=>exact .mk wf (hl.more hs) (bK.more hs) (bG.more hs) ha (fun i hi y hy=>hs _ (hm i hi y hy)) ih rU
def kB(s:ByteArray):List Nat:=s.data.toList.map UInt8.toNat
def Al(c:Nat):Bool:=(decide (97<=c)&&decide (c<=122))||(decide (65<=c)&&decide (c<=90))||decide (c=95)
def wG(c:Nat):Bool:=decide (48<=c)&&decide (c<=57)
def nT(c:Nat):Bool:=Al c||wG c
def cu(c:Nat):Bool:=[43,45,42,47,92,126,60,62,61,64,37,38,63,44,33].contains c
def fR(l:List Nat):Bool:=match l with
 |[]=>false
 |c::_=>decide (l.length<=40)&&Al c&&l.all nT
def Ay(on:List Nat->Bool):List Nat->Nat
 |[]=>0
 |c::r=>if on (c::r)then 1+Ay on r else 0
def fw:List Nat->Bool
 |[]=>false
 |c::r=>cu c&&(decide (c≠45)||!(match r with|d::_=>wG d|[]=>false))
def ef:List Nat->Nat
 |[]=>0
 |c::r=>if c=124 then 1 else if cu c then 1+Ay fw r else 0
def kg:List Nat->List (List Nat)
 |[]=>[[]]
 |c::r=>if c=58 then [58]::kg r else match kg r with
  |p::ps=>(c::p)::ps
  |[]=>[[c]]
def zK:List (List Nat)->Nat->Int
 |[],n=>n
 |p::ps,n=>if p=[]then n else if p.getLast? =some 58&&fR p.dropLast then zK ps (n+1)else -1
def oz(l:List Nat):Int:=
 if fR l then 0 else match l with
 |[]=>-1
 |c::_=>if cu c||decide (c=124)then(if ef l=l.length then 1 else -1)else zK (kg l) 0
def zz(s:ByteArray):Bool:=fR (kB s)
def kR(s:ByteArray):Int:=oz (kB s)
def fC:List (List Nat):=[[115,101,108,102],[115,117,112,101,114],[110,105,108],[116,114,117,101],[102,97,108,115,101]]
def jO(s:ByteArray):Bool:=!fC.contains (kB s)&&zz s
def jy:List Nat->List Nat
 |48::c::r=>jy (c::r)
 |l=>l
def zG(l:List Nat):Nat:=l.foldl (fun n c=>n*10+(c - 48)) 0
def mg(l:List Nat):Bool:=
 let(d,minus):=match l with|45::r=>(r,true)|_=>(l,false)
 decide (d≠[])&&d.all wG&&decide (jy d=d)&&decide (d.length<=255)&&decide ((if minus then 1152921504606846976 else 1152921504606846975) < zG d)
abbrev Rs:=Option (Nat×Bool)
def jb:List Rs->Rs
 |[]=>some (0,false)
 |r::rs=>match r,jb rs with
  |some (d,m),some (e,k)=>some (max d e,m||k)
  |_,_=>none
def wd(b:Bool):Rs->Rs
 |some (d,m)=>some (d,b||m)
 |none=>none
def wV:Rs->Rs
 |some (d,m)=>some (d+1,m)
 |none=>none
def kP(b:Bool)(r:Rs):Rs:=if b then r else none
mutual
def jL:Lt->Bool->Rs
 |.mk k n b t items,inside=>
  if k=1∨k=2∨k=3 then kP (inside&&decide (n=0/\b=0/\t.size=0/\items.length=0)) (some (0,false))
  else if k=4 then kP (decide (-1152921504606846976<=n/\n<=1152921504606846975/\b=0/\t.size=0/\items.length=0)) (some (0,false))
  else if k=5 then kP (mg (kB t)&&decide (n=0/\b=0/\items.length=0)) (some (0,false))
  else if k=6 then kP (decide (b*2 % 18446744073709551616 / 9007199254740992≠2047/\n=0/\t.size=0/\items.length=0)) (some (0,false))
  else if k=7 then kP (decide (0<=n/\n<=255/\b=0/\t.size=0/\items.length=0)) (some (0,false))
  else if k=8∨k=9 then kP (decide (n=0/\b=0/\items.length=0)) (some (0,false))
  else if k=11 then kP (decide (n=0/\b=0/\items.length=0)) (some (0,decide (255 < t.size)))
  else if k=10 then kP (decide (n=0/\b=0/\t.size=0)) (wV (wd (decide (255 < items.length)) (jb (sX items))))
  else none
def sX:List Lt->List Rs
 |[]=>[]
 |x::r=>jL x true::sX r
end
def jQ(x:Nd):Bool:=decide (x.kind=2)&&decide (kB x.name=[115,117,112,101,114])
def y8(s:ByteArray):Nat:=if kR s=0 then 5 else if kR s=1/\(kB s).getLast?≠some 58 then 4 else 3
def jz(x:Nd):Nat:=if x.kind=3 then 1 else if x.kind=5 then 2 else if x.kind=4 then y8 x.name else 6
def fq(s:ByteArray):Nat:=max 4 (y8 s)
def lD(s:ByteArray):Nat:=if y8 s=4 then 5 else 4
def yc(x:Nd)(place:Nat)(r:Rs):Rs:=kP (decide (x.kind≠9/\x.kind≠6)) (if jz x < place then wV r else r)
def jY(x:Nd)(place:Nat)(r:Rs):Rs:=kP (!jQ x) (yc x place r)
def zL(x:Nd)(aP:ByteArray)(r:Rs):Rs:=if jQ x then r else jY x (fq aP) r
def eB(place:Nat):List Nd->List Rs->List Rs
 |x::l,r::rs=>jY x place r::eB place l rs
 |_,_=>[]
def gN(aP:ByteArray)(l:List Nd)(rs:List Rs):Rs:=kP (decide (kR aP=l.length)) (wd (decide (15 < kR aP)) (jb (eB (lD aP) l rs)))
def we:List Nd->List Rs->List Rs
 |[x],r::_=>[if x.kind=9 then r else jY x 1 r]
 |x::l,r::rs=>jY x 1 r::we l rs
 |_,_=>[]
def pZ:List Nd->List Rs->List Rs
 |x::l,r::rs=>kP (decide (x.kind=6)) r::pZ l rs
 |_,_=>[]
def wk(Iw:Nat)(l:List ByteArray)(r:Rs):Rs:=kP (l.all jO) (wd (decide (Iw < l.length)) r)
def wY(l:Lt):Bool:=decide (l.kind=0/\l.n=0/\l.bits=0/\l.text.size=0/\l.items.length=0)
def zh:Rs->Rs->Rs
 |some (d,m),some (e,k)=>some (max d e,m||k)
 |_,_=>none
def jr(k:Nat)(s:ByteArray)(lit:Lt)(args ab:List ByteArray)(kids:List Nd)(rs:List Rs):Rs:=
 if k=1 then kP (decide (kids.length=0/\s.size=0/\args.length=0/\ab.length=0)) (jL lit false)
 else if k=2 then kP (decide (kids.length=0/\args.length=0/\ab.length=0)&&zz s&&wY lit) (some (0,false))
 else if k=3 then kP (decide (args.length=0/\ab.length=0)&&wY lit&&jO s) (match kids,rs with|[x],[r]=>jY x 1 r|_,_=>none)
 else if k=4 then kP (decide (args.length=0/\ab.length=0)&&wY lit&&decide (0<=kR s)) (match kids,rs with|x::l,r::q=>zh (zL x s r) (gN s l q)|_,_=>none)
 else if k=6 then kP (decide (args.length=0/\ab.length=0)&&wY lit) (gN s kids rs)
 else if k=5 then kP (decide (s.size=0/\args.length=0/\ab.length=0/\2 < kids.length)&&wY lit) (match kids,rs with|x::y::l,r::q=>wd (decide (256 < kids.length)) (zh (jb (pZ (y::l) q)) (zL x y.name r))|_,_=>none)
 else if k=7 then kP (decide (s.size=0)&&wY lit) (wk 15 args (wk 63 ab (wV (jb (we kids rs)))))
 else if k=8 then kP (decide (s.size=0/\args.length=0/\ab.length=0)&&wY lit) (wV (wd (decide (255 < kids.length)) (jb (eB 1 kids rs))))
 else if k=9 then kP (decide (s.size=0/\args.length=0/\ab.length=0)&&wY lit) (match kids,rs with|[x],[r]=>jY x 1 r|_,_=>none)
 else none
mutual
def kO:Nd->Rs
 |.mk k s lit args ab kids _=>jr k s lit args ab kids (zZ kids)
def zZ:List Nd->List Rs
 |[]=>[]
 |x::r=>kO x::zZ r
end
theorem jn:∀l:List Nd,zZ l=l.map kO:=by
 intro l
 induction l with
 |nil=>rfl
 |cons x r ih=>simp only[zZ,ih,Q7]
theorem cJ:∀l:List Lt,sX l=l.map fun x=>jL x true:=by
 intro l
 induction l with
 |nil=>rfl
 |cons x r ih=>simp only[sX,ih,Q7]
def Nj(deep:Nat->Bool):Rs->Nat
 |none=>150
 |some (d,m)=>if m then 151 else if deep d then 152 else 0
mutual
def XN:Lt->Lt->Bool
 |.mk k n b t l,.mk k' n' b' t' l'=>decide (k=k')&&decide (n=n')&&decide (b=b')&&decide (t=t')&&Oy l l'
def Oy:List Lt->List Lt->Bool
 |[],[]=>true
 |x::r,y::q=>XN x y&&Oy r q
 |_,_=>false
end
mutual
def OU:Nd->Nd->Bool
 |.mk k s l a t ks _,.mk k' s' l' a' t' ks' _=>decide (k=k')&&decide (s=s')&&decide (a=a')&&decide (t=t')&&XN l l'&&XS ks ks'
def XS:List Nd->List Nd->Bool
 |[],[]=>true
 |x::r,y::q=>OU x y&&XS r q
 |_,_=>false
end
theorem cL:∀{l:List Rs},none∈l->jb l=none:=by
 intro l
 induction l with
 |nil=>intro h;cases h
 |cons r l ih=>
  intro h;cases r with
  |none=>rfl
  |some p=>
   rcases QC.1 h with h|h
   ·cases h
   ·simp only[jb,ih h]
theorem cM {d e:Nat}{m k:Bool}:∀{l:List Rs},jb l=some (d,m)->jb (l++[some (e,k)])=some (max d e,m||k):=by
 intro l
 induction l generalizing d m with
 |nil=>intro h;cases h;simp[jb]
 |cons r l ih=>
  intro h;cases r with
  |none=>cases h
  |some p=>
   simp only[jb]at h;cases hl:jb l with
   |none=>rw[hl]at h;cases h
   |some q=>
    rw[hl]at h;cases h;simp only[vj,jb,ih hl,Qy,Qz];exact⟨Zo,by rw[vO]⟩
theorem fQ {K:Nat}:∀{l:List Rs} {d:Nat} {m:Bool},(∀r∈l,∀d m,r=some (d,m)->d<=K)->jb l=some (d,m)->d<=K:=by
 intro l
 induction l with
 |nil=>intro d m _ h;cases h;omega
 |cons r l ih=>
  intro d m hl h;cases r with
  |none=>cases h
  |some p=>
   simp only[jb]at h;cases hq:jb l with
   |none=>rw[hq]at h;cases h
   |some q=>
    rw[hq]at h;cases h;have h1:=hl (some p) Zs p.1 p.2 rfl;have h2:=ih (fun r hr=>hl r (by simp[hr])) hq;omega
theorem jR {b:Bool}{r:Rs}{p:Nat×Bool}(h:kP b r=some p):r=some p:=by
 unfold kP at h;split at h
 ·exact h
 ·cases h
theorem cK {b:Bool}{r:Rs}{d:Nat}{m:Bool}(h:wd b r=some (d,m)):∃m',r=some (d,m'):=by
 cases r with
 |none=>cases h
 |some p=>cases h;exact⟨_,rfl⟩
theorem fN {r:Rs}{d:Nat}{m:Bool}(h:wV r=some (d,m)):∃d',d=d'+1/\r=some (d',m):=by
 cases r with
 |none=>cases h
 |some p=>cases h;exact⟨_,rfl,rfl⟩
theorem Dd:∀(N:Nat) (x:Lt),x.size<=N->∀(i:Bool) (d:Nat) (m:Bool),jL x i=some (d,m)->d<=x.size:=by
 intro N
 induction N with
 |zero=>intro x hx;have:=x.size_pos;omega
 |succ N ih=>
  intro x hx i d m h;cases x with
  |mk k n b t items=>
  simp only[Lt.size]at hx|-;simp only[jL]at h;have zero:∀(c:Bool) (q:Bool),kP c (some (0,q))=some (d,m)->d=0:=fun c q h=>by have:=jR h;cases this;rfl
  split at h
  ·have:=zero _ _ h;omega
  split at h
  ·have:=zero _ _ h;omega
  split at h
  ·have:=zero _ _ h;omega
  split at h
  ·have:=zero _ _ h;omega
  split at h
  ·have:=zero _ _ h;omega
  split at h
  ·have:=zero _ _ h;omega
  split at h
  ·have:=zero _ _ h;omega
  split at h
  ·obtain⟨d',hd,h2⟩:=fN (jR h);obtain⟨m',h3⟩:=cK h2;rw[cJ]at h3;have:=fQ (K:=Lt.aw items) (fun r hr d m e=>by
    obtain⟨y,hy,rfl⟩:=QH.1 hr;have h1:=Lt.aD hy;have h2:=ih y Zo true d m e;omega) h3
   omega
  ·cases h
end Go.V

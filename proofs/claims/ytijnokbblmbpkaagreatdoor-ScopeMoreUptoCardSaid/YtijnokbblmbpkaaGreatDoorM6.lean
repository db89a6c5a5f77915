/-
  A function that defers one closure.
-/
import Derived.Test.YtijnokbblmbpkaaGreatDoorM5
import Derived.DefersIn
import Derived.RecoverIn
set_option linter.all false
namespace Go.V
open Go
def oN(P:Program)(n:Nat)(c:IC)(Γ:Env)(H:SH)(Q:Exit->Env->SH->Prop):Prop:=
 ∀ρ kp od code,zG P n kp od code=some c->∀a w F (QQ:Exit->Act->World->Prop),w8 n Γ a->Sat w (H.flatten++F)->
  (∀e a' w' ay H',Q e ay H'->w8 n ay a'->a'.defers=a.defers->Sat w' (H'.flatten++F)->kg w w'->QQ e a' w')->code.wpIn (AP ρ) 0 P QQ a w
section
variable {P:Program} {n:Nat} {Γ:Env} {H:SH} {Q Q':Exit->Env->SH->Prop}
theorem oN.skip(h:Q .normal Γ H):oN P n .skip Γ H Q:=by
 intro ρ kp od code hl a w F QQ ha hs hh;obtain rfl:=jd hl;exact wpIn_skip (hh _ _ _ _ _ h ha rfl hs (.refl w))
theorem oN.ret(h:Q .ret Γ H):oN P n .ret Γ H Q:=by
 intro ρ kp od code hl a w F QQ ha hs hh;obtain rfl:=jd hl;exact wpIn_ret (hh _ _ _ _ _ h ha rfl hs (.refl w))
theorem oN.cond {c:Operand}{x y:IC}{t:Bool}(hc:ev Γ c=some (.bool t))(ht:t=true->oN P n x Γ H Q)(hf:t=false->oN P n y Γ H Q):oN P n (.cond c x y) Γ H Q:=by
 intro ρ kp od code hl a w F QQ ha hs hh;obtain⟨p,q,rfl,h1,h2⟩:=jd hl;exact wpIn_cond_split (ha.ev hc) (fun e=>ht e ρ kp od _ h1 a w F QQ ha hs hh) (fun e=>hf e ρ kp od _ h2 a w F QQ ha hs hh)
theorem oN.seq {x y:IC}(h:oN P n x Γ H (bC (fun ay H'=>oN P n y ay H' Q) Q)):oN P n (.seq x y) Γ H Q:=by
 intro ρ kp od code hl a w F QQ ha hs hh;obtain⟨p,q,rfl,h1,h2⟩:=jd hl;refine wpIn_seq (h ρ kp od _ h1 a w F _ ha hs (fun e a' w' ay H' q g1 g2 g3 g4=>?_));cases e <;> first
  |exact q ρ kp od _ h2 a' w' F QQ g1 g3 (fun e a2 w2 cu H2 q2 k1 k2 k3 k4=>hh e a2 w2 cu H2 q2 k1 (by rw[k2,g2]) k3 (g4.trans k4))
  |exact hh _ _ _ _ _ q g1 g2 g3 g4
theorem oN.lU {rs:List RO}{aV:List Nat}(h:VO P n rs Γ H (fun ch ay H'=>Q (.panic ch) ay H') fun ay H'=>Q .normal (aR aV ay) H'):oN P n (.lU rs aV) Γ H Q:=by
 intro ρ kp od code hl a w F QQ ha hs hh;obtain⟨id,ops,rfl,h1,rfl⟩:=jd hl;refine wpIn_region ?_;refine eY (P:=P) (ρ:=ρ) (n:=n) (ops:=ops) (X:=fun i=>(rs.zip ops.toList).getD i default) (QQ:=QQ) (fun i hi=>?_) (List.range ops.size) a w (fun i hi=>by simpa using hi) ?_
 ·exact zDJ
 ·have hlen:=(jv h1).1;have DL:(List.range ops.size).map (fun i=>(rs.zip ops.toList).getD i default)=rs.zip ops.toList:=by
   exact zBA
  rw[DL];refine h (rs.zip ops.toList) ⟨?_,?_⟩ a w F _ _ ha hs (fun a' w' ay H' q g1 g2 g3 g4=>hh .normal a' w' _ H' q (g1.sub (n6 _ _)) g2 g3 g4) (fun ch a' w' ay H' q g1 g2 g3 g4=>hh (.panic ch) a' w' _ H' q g1 g2 g3 g4)
  ·rw[List.map_fst_zip];simp[hlen]
  ·exact zBG
end
def FunD(P:Program)(f:Nat)(args:List Value)(bm:SH)(Q:Value->SH->Prop):Prop:=
 wE P f=true/\∀F w u,Sat w (bm.flatten++F)->CallsDIn (AP none) 0 P f args.toArray u w fun e u' w'=>u'=u/\∃v Post,e=.returned v/\Q v Post/\Sat w' (Post.flatten++F)/\kg w w'
structure DR where
 d:Nat
 g:Nat
 tZ:List Operand
def Jp(P:Program)(n:Nat):Code->Option DR
 |.region _ ops false=>match ops.toList with
  |[o1,o2]=>match dP P n ops o1,o2.op with
   |some ⟨some d,none,.AR (.func g) [] tZ⟩,.defer c=>match c.callee with
    |.value (.tmp d')=>if d'=d/\c.args.size=0/\o2.guard.isNone=true/\o2.dst.isNone=true then some ⟨d,g,tZ⟩else none
    |_=>none
   |_,_=>none
  |_=>none
 |_=>none
structure DIR where
 n:Nat
 bI:List RV
 pre:List IC
 dr:DR
 post:IC
def ef(P:Program)(n:Nat)(kp:Nat->List Nat)(od:Nat->List (List Nat)):Code->Option (List IC×DR×IC)
 |.seq a b=>match Jp P n a with
  |some x=>(zG P n kp od b).map fun y=>([],x,y)
  |none=>match zG P n kp od a,ef P n kp od b with
   |some x,some (l,d,y)=>some (x::l,d,y)
   |_,_=>none
 |_=>none
def KO(P:Program)(kp:Nat->List Nat)(od:Nat->List (List Nat))(f:Nat):Option DIR:=
 match P.funcs[f]? with
 |none=>none
 |some fn=>match fn.body with
  |none=>none
  | some c => if fn.name != "runtime.NumGoroutine" then
     match ef P fn.ntmps kp od c,ww P fn.results.toList with
     |some (l,d,y),some r=>some ⟨fn.ntmps,r,l,d,y⟩
     |_,_=>none
    else none
def endD(P:Program)(g:Nat)(tZ:List Value)(bI:List RV)(Q:Value->SH->Prop):Exit->Env->SH->Prop:=fun e Γ H=>(e=.normal∨e=.ret)/\∃bm R Q2,FunD P g tZ bm Q2/\eo H bm R/\
 ∀v Post,Q2 v Post->sf bI Q .ret Γ (Post++R)
def VD(P:Program)(n:Nat)(bI:List RV)(dr:DR)(post:IC)(Q:Value->SH->Prop):List IC->Env->SH->Prop
 |[],Γ,H=>∃vs,nI Γ dr.tZ=some vs/\VC P n post ((dr.d,.func (.func dr.g) #[] vs.toArray)::Γ) H (endD P dr.g vs bI Q)
 |x::l,Γ,H=>VC P n x Γ H (bC (fun ay H'=>VD P n bI dr post Q l ay H') (sf bI Q))
theorem Jq {P:Program}{n:Nat}{c:Code}{x:DR}(h:Jp P n c=some x):∃id ops o1 o2 cl,c=.region id ops false/\ops.toList=[o1,o2]/\dP P n ops o1=some ⟨some x.d,none,.AR (.func x.g) [] x.tZ⟩/\
 o2.op=.defer cl/\cl.callee=.value (.tmp x.d)/\cl.args=#[]/\o2.guard=none/\o2.dst=none:=by
 unfold Jp at h;split at h
 case h_2=>cases h
 rename_i id ops;split at h
 case h_2=>cases h
 rename_i o1 o2 I2;split at h
 case h_2=>cases h
 rename_i d g tZ c h1 h2;split at h
 case h_2=>cases h
 rename_i d' hc;split at h
 case isFalse=>cases h
 rename_i gk;obtain⟨rfl,h3,h4,h5⟩:=gk;cases h;exact⟨id,ops,o1,o2,c,rfl,I2,h1,h2,hc,by simpa using h3,by simpa using h4,by simpa using h5⟩
section
variable {P:Program} {n:Nat} {fn:Func} {tmps:Array Value} {FF:List kC} {w0:World}
theorem D0 {R:Ending->World->Prop}{ds:List Deferred}{L:List kC}:∀(X:List Nat) (w':World),Sat w' (L++(FF++marks X))->kg w0 w'->
 (∀oJ,Sat oJ (L++FF)->kg w0 oJ->LeavesInM (AP none) 0 P fn tmps R ds .returning oJ)->LeavesInM (AP none) 0 P fn tmps R (X.map oS++ds) .returning w':=by
 intro X
 induction X with
 |nil=>intro w' hs hk h;exact h w' (by simpa[V.marks]using hs) hk
 |cons r X ih=>
  intro w' hs hk h;have hp:(L++(FF++V.marks (r::X))).Perm (.obj r (.deferred (some []))::(L++(FF++V.marks X))):=by
   exact zCR
  have g5:=hs.perm hp;obtain⟨k1,k2⟩:=g5.obj (QJ ..);obtain⟨s1,s2⟩:=Sat.setObj (u:=.deferred none) g5 rfl;refine⟨Zs,.inl ⟨r,_,rfl,?_,ih _ (s1.sub (Qd ..)) (hk.trans s2) h⟩⟩;exact zEI
theorem yb {r:List RV}{Q:Value->SH->Prop}{a':Act}{w':World}{ay:Env}{H':SH}{X:List Nat}{e:Exit}(hr:ww P fn.results.toList=some r)(q:sf r Q e ay H')(g1:w8 n ay a')(g3:Sat w' (H'.flatten++(FF++marks X)))(g4:kg w0 w'):
 LeavesInM (AP none) 0 P fn a'.tmps (fun e w'=>∃v Post,e=.returned v/\Q v Post/\Sat w' (Post.flatten++FF)/\kg w0 w') (X.map oS) .returning w':=by
 obtain⟨he,vs,Post,h1,h2,h3⟩:=q;have:=D0 (P:=P) (fn:=fn) (tmps:=a'.tmps) (R:=fun e w'=>∃v Post,e=.returned v/\Q v Post/\Sat w' (Post.flatten++FF)/\kg w0 w') (ds:=[]) X w' g3 g4 (fun oJ s k=>⟨_,gz s hr g1 h1,_,Post,rfl,h3,s.imp h2,k⟩);simpa using this
end
def ji(P:Program)(f:Nat)(args:List Value)(bm:SH)(Q:Value->SH->Prop)(Z:List PanicEntry->SH->Prop):Prop:=
 wE P f=true/\∀F w,Sat w (bm.flatten++F)->
  Calls P f args.toArray w fun e w'=>∃Post,((∃v,e=.returned v/\Q v Post)∨(∃ch,e=.panicked ch/\Z ch Post))/\Sat w' (Post.flatten++F)/\kg w w'
section
variable {P:Program} {f:Nat} {args:List Value} {bm:SH} {Q Q':Value->SH->Prop} {Z Z':List PanicEntry->SH->Prop}
theorem ji.mono(h:ji P f args bm Q Z)(hq:∀v Post,Q v Post->Q' v Post)(hz:∀ch Post,Z ch Post->Z' ch Post):ji P f args bm Q' Z':=
 ⟨h.1,fun F w hs=>(h.2 F w hs).mono fun _ _ ⟨Post,a,b,c⟩=>⟨Post,a.imp (fun⟨v,e,q⟩=>⟨v,e,hq _ _ q⟩) (fun⟨ch,e,q⟩=>⟨ch,e,hz _ _ q⟩),b,c⟩⟩
theorem ji.ck(h:aw P f args bm Q):ji P f args bm Q Z:=
 ⟨h.1,fun F w hs=>(h.2 F w hs).mono fun _ _ ⟨v,Post,a,b,c,d⟩=>⟨Post,.inl ⟨v,a,b⟩,c,d⟩⟩
theorem ji.fun(h:ji P f args bm Q (fun _ _=>False)):aw P f args bm Q:=
 ⟨h.1,fun F w hs=>(h.2 F w hs).mono fun _ _ ⟨Post,a,b,c⟩=>by
   rcases a with⟨v,e,q⟩|⟨ch,e,q⟩
   ·exact⟨v,Post,e,q,b,c⟩
   ·exact q.elim⟩
theorem ji.conv {H R:SH}(h:ji P f args bm Q Z)(hs:eo H bm R)(hq:∀v Post,Q v Post->∃aU,Q' v aU/\ao (Post++R) aU)(hz:∀ch Post,Z ch Post->∃aU,Z' ch aU/\ao (Post++R) aU):ji P f args H Q' Z':=by
 refine⟨h.1,fun F w hw=>?_⟩;have sF:Sat w (bm.flatten++(R.flatten++F)):=by
  rw[<- vj];exact hw.perm (vY F hs)
 refine(h.2 (R.flatten++F) w sF).mono ?_
 rintro e w' ⟨Post,h1,h3,h4⟩
 have h3':Sat w' ((Post++R).flatten++F):=by rw[Vc,vj];exact h3
 rcases h1 with⟨v,e1,q⟩|⟨ch,e1,q⟩
 ·obtain⟨aU,h5,h6⟩:=hq v Post q;exact⟨aU,.inl ⟨v,e1,h5⟩,Sat.imp h6 h3',h4⟩
 ·obtain⟨aU,h5,h6⟩:=hz ch Post q;exact⟨aU,.inr ⟨ch,e1,h5⟩,Sat.imp h6 h3',h4⟩
end
section
variable {P:Program} {n:Nat} {rs:List RO} {Γ:Env} {H:SH} {Z:List PanicEntry->Env->SH->Prop} {K:Env->SH->Prop} {d:Option Nat}
theorem kL {f:Nat}{xs:List Operand}{args:List Value}{bm R:SH}{Q:Value->SH->Prop}{Z':List PanicEntry->SH->Prop}(hf:ji P f args bm Q Z')(he:nI Γ xs=some args)(hs:eo H bm R)
 (h:∀v Post,Q v Post->VO P n rs (ap d v Γ) (Post++R) Z K) (Ja:∀ch Post,Z' ch Post->Z ch Γ (Post++R)):VO P n (⟨d,none,.call f xs⟩::rs) Γ H Z K:=by
 intro l hl a w F ZZ Q' ha iw hq hz;obtain⟨o,l',rfl,rJ,ops,ho⟩:=zS hl;obtain⟨g1,g2,g3,g4⟩:=jI ho;show wA P ZZ (_,o) (cr P ZZ Q' l') a w;unfold wA;simp only[jE,show kd (V.R.call f xs)=false from rfl,show jG (V.R.call f xs)=false from rfl,if_true,vL,if_false];refine⟨fun e=>(by cases e),?_⟩;obtain⟨c,h1,h2,h3,h4⟩:=qG g1;have cp:(c.args.map a.eval)=args.toArray:=by
  apply vC.1;rw[vD,h3,ha.nI he]
 have bB:(execOp a.eval o).run P w=.ok (.enter f args.toArray) w:=by
  simp[execOp,h1,resolve,h2,Act.eval,Deferred.ofValue,invoke,cp,zb h4]
 refine La bB ?_;have xX:Sat w (bm.flatten++(R.flatten++F)):=by
  exact zDG
 refine(hf.2 (R.flatten++F) w xX).mono ?_;exact zAS
theorem S6 {x:Operand}{t:TypeId}{v:Value}(hx:ev Γ x=some (.iface t v))(h:Z [{v:=.iface t v,recovered:=false}] Γ H):VO P n (⟨d,none,.pnc x⟩::rs) Γ H Z K:=by
 intro l hl a w F ZZ Q' ha iw hq hz;obtain⟨o,l',rfl,rJ,ops,ho⟩:=zS hl;obtain⟨g1,g2,g3,g4⟩:=jI ho;show wA P ZZ (_,o) (cr P ZZ Q' l') a w;unfold wA;simp only[jE,show kd (V.R.pnc x)=false from rfl,show jG (V.R.pnc x)=false from rfl,if_true,vL,if_false];refine⟨fun e=>(by cases e),?_⟩;have Mb:o.op=.panic x:=by
  obtain⟨dst,op,ty,pos,after,guard⟩:=o;simp only at g1|-;cases op
  case panic y=>simp only[j7,X4,V.R.pnc.injEq]at g1;rw[g1]
  all_goals (exfalso;try simp only[j7]at g1)
  all_goals (repeat' split at g1)
  all_goals first
   |(cases g1;done)
   |(simp only[X0]at g1;obtain⟨_,_,g1⟩:=g1;cases g1;done)
 have bB:(execOp a.eval o).run P w=.halt (.panic (.iface t v)) w:=by
  simp[execOp,Mb,ha.ev hx,Instr.panic,goPanic,Sem.run]
 simp only[AL,bB,jo];exact hz _ a w Γ H h ha rfl iw (.refl w)
end
def US(bI:List RV)(Q:Value->SH->Prop)(Z:List PanicEntry->SH->Prop):Exit->Env->SH->Prop
 |.panic ch,_,H=>∃Post,ao H Post/\Z ch Post
 |e,Γ,H=>sf bI Q e Γ H
theorem jL {bI:List RV}{Q:Value->SH->Prop}{Z:List PanicEntry->SH->Prop}{e:Exit}{Γ:Env}{H:SH}(h:sf bI Q e Γ H):US bI Q Z e Γ H:=by
 have he:=h.1;rcases he with rfl|rfl <;> exact h
section
variable {P:Program} {fn:Func} {tmps:Array Value} {FF:List kC} {w0:World}
theorem gX {R:Ending->World->Prop}{ds:List Deferred}{L:List kC}{u:FrameMode}(hu:u≠.run):∀(X:List Nat) (w':World),Sat w' (L++(FF++marks X))->kg w0 w'->
 (∀oJ,Sat oJ (L++FF)->kg w0 oJ->LeavesInM (AP none) 0 P fn tmps R ds u oJ)->LeavesInM (AP none) 0 P fn tmps R (X.map oS++ds) u w':=by
 intro X
 induction X with
 |nil=>intro w' hs hk h;exact h w' (by simpa[V.marks]using hs) hk
 |cons r X ih=>
  intro w' hs hk h;have hp:(L++(FF++V.marks (r::X))).Perm (.obj r (.deferred (some []))::(L++(FF++V.marks X))):=by
   exact zCR
  have g5:=hs.perm hp;obtain⟨k1,k2⟩:=g5.obj (QJ ..);obtain⟨s1,s2⟩:=Sat.setObj (u:=.deferred none) g5 rfl;refine⟨hu,.inl ⟨r,_,rfl,?_,ih _ (s1.sub (Qd ..)) (hk.trans s2) h⟩⟩;exact zEI
end
theorem ji.intro {P:Program}{kp:Nat->List Nat}{od:Nat->List (List Nat)}{f:Nat}{F:aQ}{args:List Value}{bm:SH}{Q:Value->SH->Prop}{Z:List PanicEntry->SH->Prop}(hl:oq P kp od f=some F)(hn:args.length<=F.n)
 (h:VC P F.n F.body (aM 0 args) bm (US F.bI Q Z)):ji P f args bm Q Z:=by
 unfold oq at hl;split at hl
 ·cases hl
 rename_i fn uF;split at hl
 ·cases hl
 rename_i c hc;split at hl
 case isFalse=>cases hl
 rename_i iu;split at hl
 case h_2=>cases hl
 rename_i b r hb hr;cases hl;refine⟨by simp only[wE,uF,iu,hc];rfl,fun FF w hs=>?_⟩;refine(callsIn_wide (n:=0)).1 (callsIn_of_wp_marks uF hc trivial (h none kp od c hb _ w FF _ (fun l e=>by cases e) ⟨?_,fun t v e=>?_⟩ hs (fun e a' w' ay H' X q g1 g2 g3 g4=>?_)))
 ·simp at hn|-;omega
 ·exact zAQ
 ·have hret:∀e0,sf r Q e0 ay H'->LeavesInM (AP none) 0 P fn a'.tmps (fun e w'=>∃Post,((∃v,e=.returned v/\Q v Post)∨(∃ch,e=.panicked ch/\Z ch Post))/\Sat w' (Post.flatten++FF)/\kg w w') a'.defers .returning w':=by
   rintro e0 ⟨_,vs,Post,h1,h2,h3⟩
   have:=gX (P:=P) (fn:=fn) (tmps:=a'.tmps) (w0:=w) (FF:=FF) (L:=H'.flatten) (u:=.returning) (R:=fun e w'=>∃Post,((∃v,e=.returned v/\Q v Post)∨(∃ch,e=.panicked ch/\Z ch Post))/\Sat w' (Post.flatten++FF)/\kg w w') (ds:=[]) Zs X w' g3 g4
    (fun oJ s k=>⟨_,gz s hr g1 h1,Post,.inl ⟨_,rfl,h3⟩,s.imp h2,k⟩)
   rw[g2];exact this
  cases e with
  |normal=>exact hret _ q
  |ret=>exact hret _ q
  |panic ch=>
   obtain⟨Post,h2,h3⟩:=q;have:=gX (P:=P) (fn:=fn) (tmps:=a'.tmps) (w0:=w) (FF:=FF) (L:=H'.flatten) (u:=.panicking ch) (R:=fun e w'=>∃Post,((∃v,e=.returned v/\Q v Post)∨(∃ch,e=.panicked ch/\Z ch Post))/\Sat w' (Post.flatten++FF)/\kg w w') (ds:=[]) Zs X w' g3 g4
    (fun oJ s k=>(⟨Post,.inr ⟨ch,rfl,h3⟩,s.imp h2,k⟩:∃Post,_))
   show LeavesInM _ _ _ _ _ _ a'.defers _ _;rw[g2];exact this
  |exit id=>exact absurd q.1 Zs
  |goto l=>exact absurd q.1 Zs
  |outgrown=>exact absurd q.1 Zs
def E8(P:Program)(fv:Value)(args:List Value)(bm:SH)(Q:Value->SH->Prop)(Z:List PanicEntry->SH->Prop):Prop:=
 ∀F w,Sat w (bm.flatten++F)->Fb P fv args w fun e w'=>∃Post,((∃v,e=.returned v/\Q v Post)∨(∃ch,e=.panicked ch/\Z ch Post))/\Sat w' (Post.flatten++F)/\kg w w'
theorem E8.ck {P:Program}{f:Nat}{first cap:Array Value}{args:List Value}{bm:SH}{Q:Value->SH->Prop}{Z:List PanicEntry->SH->Prop}(h:ji P f (first.toList++args++cap.toList) bm Q Z):E8 P (.func (.func f) first cap) args bm Q Z:=by
 exact zD1
theorem M7 {P:Program}{n:Nat}{rs:List RO}{Γ:Env}{H:SH}{Z:List PanicEntry->Env->SH->Prop}{K:Env->SH->Prop}{d:Option Nat}{x:Operand}{fv:Value}{xs:List Operand}{args:List Value}{bm R:SH}{Q:Value->SH->Prop}{Z':List PanicEntry->SH->Prop}
 (hx:ev Γ x=some fv) (hf:E8 P fv args bm Q Z') (he:nI Γ xs=some args) (hs:eo H bm R)
 (h:∀v Post,Q v Post->VO P n rs (ap d v Γ) (Post++R) Z K) (Ja:∀ch Post,Z' ch Post->Z ch Γ (Post++R)):VO P n (⟨d,none,.pT x xs⟩::rs) Γ H Z K:=by
 intro l hl a w F ZZ Q' ha iw hq hz;obtain⟨o,l',rfl,rJ,ops,ho⟩:=zS hl;obtain⟨g1,g2,g3,g4⟩:=jI ho;show wA P ZZ (_,o) (cr P ZZ Q' l') a w;unfold wA;have hp:kd (V.R.pT x xs)=false:=rfl;have hr:jG (V.R.pT x xs)=false:=rfl;simp only[jE,hp,hr,if_true,vL,if_false];refine⟨fun e=>(by cases e),?_⟩;obtain⟨c,h1,h2,h3⟩:=CO g1;have hm:xs.map a.eval=args:=ha.nI he;have cp:(c.args.map a.eval)=args.toArray:=by
  exact zEX
 have xX:Sat w (bm.flatten++(R.flatten++F)):=by
  exact zDG
 have hi:=hf (R.flatten++F) w xX;have fin:∀(e:Ending) (w':World),(∃Post,((∃v,e=.returned v/\Q v Post)∨(∃ch,e=.panicked ch/\Z' ch Post))/\Sat w' (Post.flatten++(R.flatten++F))/\kg w w')->
  (∃v,e=.returned v/\cr P ZZ Q' l' (a.put o.dst v) w')∨(∃ch,e=.panicked ch/\ZZ (.panic ch) a w'):=by
  exact zAS
 have O7:a.eval x=fv:=ha.ev hx;unfold Fb at hi;split at hi
 ·rename_i f first cap
  have bB:(execOp a.eval o).run P w=.ok (.enter f (first++args.toArray++cap)) w:=by
   simp[execOp,h1,resolve,h2,O7,Deferred.ofValue,invoke,cp];rw[zb hi.1]
  simp only[AL,bB,jo];refine hi.2.mono (fun e w' he=>?_);rcases fin e w' he with⟨v,rfl,hv⟩|⟨ch,rfl,hv⟩ <;> exact hv
 ·rename_i l0 first cap
  obtain⟨f,tmps,Iq,body,hy,uz⟩:=hi;have bB:(execOp a.eval o).run P w=.ok (.round l0 f tmps Iq body) w:=by
   simp[execOp,h1,resolve,h2,O7,Deferred.ofValue,invoke,cp];exact hy
  simp only[AL,bB,jo];refine uz.mono (fun e w' he=>?_);rcases fin e w' he with⟨v,rfl,hv⟩|⟨ch,rfl,hv⟩ <;> exact hv
 ·exact hi.elim
def upd {α:Type}(f:Int->α)(i:Int)(v:α):Int->α:=fun k=>if k=i then v else f k
abbrev swp {α:Type}(f:Int->α)(i j:Int):Int->α:=upd (upd f i (f j)) j (f i)
inductive Sw {α:Type}(a b:Int)(f:Int->α):(Int->α)->Prop where
 |refl:Sw a b f f
 |step {g:Int->α} {i j:Int}:Sw a b f g->a<=i/\i < b->a<=j/\j < b->Sw a b f (swp g i j)
structure LtOk {α:Type}(lt:α->α->Bool):Prop where
 asymm:∀x y,lt x y=true->lt y x=false
 le_trans:∀x y z,lt y x=false->lt z y=false->lt z x=false
 eq:∀x y,lt x y=false->lt y x=false->x=y
section
variable {P:Program} {n:Nat} {rs:List RO} {Γ:Env} {H R:SH} {Z:List PanicEntry->Env->SH->Prop} {K:Env->SH->Prop} {d:Option Nat} {α:Type} {e:α->Value} {N b o:Nat} {f:Int->α}
end
section
variable {α:Type} {lt:α->α->Bool}
end
section
variable {α:Type} {lt:α->α->Bool}
end
section
variable {α:Type} {lt:α->α->Bool}
structure PI (lt:α->α->Bool)(a z i j:Int)(p:α)(g:Int->α):Prop where
 piv:g a=p
 less:∀k,a < k->k < i->lt (g k) p=true
 more:∀k,j < k->k < z->lt (g k) p=false
 lo:a+1<=i
 mid:i<=j+1
 hi:j < z
end
section
variable {α:Type} {lt:α->α->Bool}
end
section
variable {α:Type}
end
theorem jA.other {size n:Nat}{sv:Value}{us vs sp:List Value}(h:jA size sv n us sp)(hv:vs.length=us.length):jA size sv n vs sp:=by
 cases h with
 |mk a1 a2 a3=>exact .mk Zo Zo a3
 |nil=>
  have:vs=[]:=vz (by simpa using hv);subst this;exact .nil
structure Ch where
 kind:Int
 n:Int
 text:ByteArray
structure De where
 kind:Int
 handle:Int
 text:ByteArray
 to:ByteArray
 n:Int
 err:Int
structure Wr where
 seq:Int
 at_:Int
 text:ByteArray
 empty:Bool
structure FO where
 now:List UInt8
 base:List UInt8
 writes:List Wr
 nv:Value
 bv:Value
 wv:Value
 ns:List Value
 bs:List Value
 ws:List Value
structure HO where
 rG:Nat
 closed:Bool
 stale:Bool
 file:Option Nat
 mode:Int
 at_:Int
def YB(c:Ch):List Value:=[.int .u8 c.kind,vi c.n,.string c.text]
def YH(d:De):List Value:=[.int .u8 d.kind,vi d.handle,.string d.text,.string d.to,vi d.n,vi d.err]
def ZM(x:Wr):List Value:=[vi x.seq,vi x.at_,.string x.text,.bool x.empty]
def ZH(c:UInt8):Value:=.int .u8 c.toNat
def pf(f:Option Nat):Value:=.pointer (f.map fun b=>⟨b,0,none⟩)
def hoEnc(h:HO):List Value:=[.bool h.closed,.bool h.stale,pf h.file,vi h.mode,vi h.at_]
def hoA(h:HO):List kC:=kA h.rG 0 (hoEnc h)
def foA(p:Nat×FO):List kC:=kA p.1 0 [p.2.nv,p.2.bv,p.2.wv]++(aj p.2.nv (p.2.now.map ZH) p.2.ns++(aj p.2.bv (p.2.base.map ZH) p.2.bs++aj p.2.wv (p.2.writes.flatMap ZM) p.2.ws))
structure WR where
 cv:Value
 iT:List Ch
 cm:List Value
 fm:Nat
 bG:Array MapEntry
 fc:Nat
 names:List (ByteArray×Nat)
 Bi:List (Nat×FO)
 hv:Value
 hs:List HO
 Gw:List Value
 tv:Value
 trace:List De
 iJ:List Value
 clock:Int
 seq:Int
 dead:Bool
abbrev O5 (w:WR):List Value:=[w.cv,.map (some w.fm),w.hv,w.tv,vi w.clock,vi w.seq,.bool w.dead]
abbrev WMem (t:Nat)(w:WR):SH:=
 [kA t 0 [w.cv,.map (some w.fm),w.hv,w.tv,vi w.clock,vi w.seq,.bool w.dead],aj w.cv (w.iT.flatMap YB) w.cm,[.obj w.fm (.map w.bG w.fc)],w.Bi.flatMap foA,aj w.hv (w.hs.map fun h=>kF h.rG) w.Gw,w.hs.flatMap hoA,aj w.tv (w.trace.flatMap YH) w.iJ]
structure FOk (f:FO)(M:Nat):Prop where
 now:jA 1 f.nv f.now.length (f.now.map ZH) f.ns
 base:jA 1 f.bv f.base.length (f.base.map ZH) f.bs
 wr:jA 4 f.wv f.writes.length (f.writes.flatMap ZM) f.ws
 len:f.now.length<=4194304
 len2:f.base.length<=4194304
 many:f.writes.length<=M
 at_:∀x∈f.writes,0<=x.at_/\x.at_+x.text.size<=4194304
structure WOk (w:WR)(M:Nat):Prop where
 ch:jA 3 w.cv w.iT.length (w.iT.flatMap YB) w.cm
 fm:zu yK (fun b:Nat=>kF b) w.bG w.fc w.names
 keys:(w.names.map (·.1)).Nodup
 blks:(w.Bi.map (·.1)).Nodup
 named:∀p∈w.names,p.2∈w.Bi.map (·.1)
 fo:∀p∈w.Bi,FOk p.2 M
 hv:jA 1 w.hv w.hs.length (w.hs.map fun h=>kF h.rG) w.Gw
 hfile:∀h∈w.hs,∀b,h.file=some b->b∈w.Bi.map (·.1)
 T8:∀h∈w.hs,0<=h.at_/\h.at_<=4194304
 bz:w.hs.length<=M
 tr:jA 6 w.tv w.trace.length (w.trace.flatMap YH) w.iJ
 trmany:w.trace.length<=M
 seq:0<=w.seq/\w.seq<=M
 clock:0<=w.clock/\w.clock<=1000000000000000000
 files:w.names.length<=1073741823
 chmany:w.iT.length<=65536
def uZ(K:List RO->Prop):List (List RO)->Prop
 |[]=>True
 |rs::r=>K rs/\uZ K r
theorem uZ.mem {K:List RO->Prop}:∀{rL:List (List RO)},uZ K rL->∀rs∈rL,K rs:=by
 intro rL
 induction rL with
 |nil=>intro _ rs h;cases h
 |cons a r ih=>
  intro h rs hm;rcases QH.1 hm with rfl|hm
  ·exact h.1
  ·exact ih h.2 rs hm
theorem VC.draws {P:Program}{n:Nat}{Γ:Env}{H:SH}{Q:Exit->Env->SH->Prop}{rL:List (List RO)}{aV:List Nat}(h:uZ (fun rs=>VO P n rs Γ H (fun _ _ _=>False) fun ay H'=>Q .normal (aR aV ay) H') rL):VC P n (.draw rL aV) Γ H Q:=VC.draw h.mem
theorem VC.Dd {P:Program}{n:Nat}{Γ:Env}{H:SH}{Q:Exit->Env->SH->Prop}{rL:List (List RO)}{aV:List Nat}{y:IC}{α:Type}(bi:α->Env)(Hf:α->SH)(I:α->Prop)
 (h:uZ (fun rs=>VO P n rs Γ H (fun _ _ _=>False) fun ay H'=>∃s,I s/\Sub (aR aV ay) (bi s)/\ao H' (Hf s)) rL) (h2:∀s,I s->VC P n y (bi s) (Hf s) Q):VC P n (.seq (.draw rL aV) y) Γ H Q:=by
 refine VC.seq (VC.draws ?_);have key:∀{l:List (List RO)},uZ (fun rs=>VO P n rs Γ H (fun _ _ _=>False) fun ay H'=>∃s,I s/\Sub (aR aV ay) (bi s)/\ao H' (Hf s)) l->
  uZ (fun rs=>VO P n rs Γ H (fun _ _ _=>False) fun ay H'=>VC P n y (aR aV ay) H' Q) l:=by
  intro l
  induction l with
  |nil=>intro _;trivial
  |cons a r ih=>
   intro hh;exact⟨hh.1.mono (fun ay H' ⟨s,i1,i2,i3⟩=>VC.sub i2 (VC.imp i3 (h2 s i1))),ih hh.2⟩
 exact key h
section
variable {P:Program} {n:Nat} {rs:List RO} {Γ:Env} {H:SH} {Z:List PanicEntry->Env->SH->Prop} {K:Env->SH->Prop} {d:Option Nat}
theorem rp {r:R}{s:Nat}{b c:Bool}(hs:look Γ s=some (.bool c))(ht:c=true->VO P n (⟨d,some (s,b),r⟩::rs) ((s,.bool true)::Γ) H Z K)(hf:c=false->VO P n (⟨d,some (s,b),r⟩::rs) ((s,.bool false)::Γ) H Z K):
 VO P n (⟨d,some (s,b),r⟩::rs) Γ H Z K:=K1 hs ht hf
theorem ry {s:Nat}{x y:Operand}{c:Bool}(hs:look Γ s=some (.bool c))(ht:c=true->VO P n (⟨d,none,.pick (.tmp s) x y⟩::rs) ((s,.bool true)::Γ) H Z K)(hf:c=false->VO P n (⟨d,none,.pick (.tmp s) x y⟩::rs) ((s,.bool false)::Γ) H Z K):
 VO P n (⟨d,none,.pick (.tmp s) x y⟩::rs) Γ H Z K:=K1 hs ht hf
end
def eg(s:ByteArray):List Value:=s.data.toList.map fun c=>.int .u8 c.toNat
section
variable {P:Program} {n:Nat} {rs:List RO} {Γ:Env} {H:SH} {Z:List PanicEntry->Env->SH->Prop} {K:Env->SH->Prop} {d:Option Nat}
end
def setObj(Bi:List (Nat×FO))(b:Nat)(fo:FO):List (Nat×FO):=Bi.map fun p=>if p.1=b then(b,fo)else p
structure AF where
 now:List UInt8
 base:List UInt8
 writes:List Wr
structure AW where
 iT:List Ch
 names:List (ByteArray×Nat)
 files:List AF
 hs:List HO
 trace:List De
 clock:Int
 seq:Int
 dead:Bool
def foF(f:FO):AF:=⟨f.now,f.base,f.writes⟩
def ho0(h:HO):HO:={h with rG:=0}
def hoB(B:List Nat)(h:HO):HO:={h with rG:=0,file:=h.file.map fun i=>B.getD i 0}
structure Rep (w:WR)(a:AW)(M:Nat):Prop where
 ch:w.iT=a.iT
 tr:w.trace=a.trace
 clock:w.clock=a.clock
 seq:w.seq=a.seq
 dead:w.dead=a.dead
 names:w.names=a.names.map fun p=>(p.1,(w.Bi.map (·.1)).getD p.2 0)
 nin:∀p∈a.names,p.2 < a.files.length
 files:w.Bi.map (fun p=>foF p.2)=a.files
 hs:w.hs.map ho0=a.hs.map (hoB (w.Bi.map (·.1)))
 aL:∀h∈a.hs,∀i,h.file=some i->i < a.files.length
 ok:WOk w M
section
variable {w:WR} {a:AW} {M:Nat}
end
def ftxt(l:List UInt8):ByteArray:=⟨l.toArray⟩
section
variable {P:Program} {n:Nat} {Γ:Env} {H:SH} {Q:Exit->Env->SH->Prop}
theorem VO.know {rs:List RO}{Z:List PanicEntry->Env->SH->Prop}{K:Env->SH->Prop}{φ:Prop}(h:∀w F,Sat w (H.flatten++F)->φ)(k:φ->VO P n rs Γ H Z K):VO P n rs Γ H Z K:=by
 intro l hl a w F ZZ Q ha hs hq hz;exact k (h w F hs) l hl a w F ZZ Q ha hs hq hz
end
theorem GV {α:Type}(l:Array α)(x:α)(f:α->α):(l.push x).modify l.size f=l.push (f x):=by
 apply Array.ext
 ·simp
 ·intro i h1 h2;simp only[Array.getElem_modify,Array.getElem_push];by_cases hi:i < l.size
  ·simp[hi,Nat.ne_of_gt hi]
  ·have:l.size=i:=by simp at h1;omega
   simp[hi,this]
section
variable {P:Program}
theorem Tc {H:List kC}{c:Array Value}{t:TypeId}{K:Addr->List kC->Prop}(h:∀b,K ⟨b,0,none⟩ (kA b 0 c.toList++H)):aK P (do let a <- newRow t c;markStringish a;pure a) H K:=by
 intro F w hs;obtain⟨s1,s2⟩:=hs.push (.cells c t (c.size,c.size+1)) (kA w.heap.size 0 c.toList) (fun x hx=>by
  obtain⟨i,v,hi,rfl⟩:=kJ.1 hx;refine⟨rfl,c,t,c.size,c.size+1,Zs,by simpa using hi,?_⟩;have:=(Vt.1 hi).1;simp at this|-;omega) (dB _ _ _)
 refine⟨⟨w.heap.size,0,none⟩,_,_,?_,h _,by rw[vj];exact s1,s2⟩;have hsh:({w with heap:=w.heap.push (.cells c t)}:World).shape? w.heap.size=some (t,c.size):=by simp[World.shape?]
 have uG:({w with heap:=w.heap.push (.cells c t)}:World).freeze ⟨w.heap.size,c.size,none⟩ 1={w with heap:=w.heap.push (.cells c t (c.size,c.size+1))}:=by
  simp[World.freeze,GV]
 have h1:(Go.newRow t c).run P w=.ok ⟨w.heap.size,0,none⟩ {w with heap:=w.heap.push (.cells c t)}:=by
  simp[Go.newRow,Go.newObj,Sem.run]
 have h2:(markStringish ⟨w.heap.size,0,none⟩).run P {w with heap:=w.heap.push (.cells c t)}=.ok () {w with heap:=w.heap.push (.cells c t (c.size,c.size+1))}:=by
  rw[<- uG];unfold markStringish;simp only[Go.shape,Sem.run_bind,Sem.run,hsh,Result.andThen_ok,Go.freeze]
 simp only[Sem.run_bind,h1,h2,Result.andThen_ok,Sem.run_pure]
theorem Yd {H:List kC}{t:TypeId}{s:ByteArray}{K:Value->List kC->Prop}(h:∀b cap,s.size<=cap->K (.slice (some ⟨b,0,none⟩) s.size cap) (kA b 0 (eg s++List.replicate (cap - s.size) (.int .u8 0))++H)):aK P (Conv.stringToBytes t s) H K:=by
 have fin:∀cap,s.size<=cap->aK P (do
  let a <- newRow t (s.data.map (fun b=>Value.int .u8 b.toNat)++Array.replicate (cap - s.size) (.int .u8 0))
  markStringish a
  pure (Value.slice (some a) s.size cap)) H K:=by
  intro cap Gh;have:=Tc (P:=P) (H:=H) (c:=s.data.map (fun b=>Value.int .u8 b.toNat)++Array.replicate (cap - s.size) (.int .u8 0)) (t:=t) (K:=fun a L=>K (.slice (some a) s.size cap) L) (fun b=>by
   have:=h b cap Gh;simpa[eg]using this)
  have h2:=aK.bind (f:=fun a=>(pure (Value.slice (some a) s.size cap):Sem Value)) (this.mono (fun a L ha=>aK.pure ha));simpa using h2
 unfold Conv.stringToBytes;refine aK.bind (aK.choose (fun hf=>by simp[Question.forced]at hf) (fun t'=>?_));simp only[Question.cut];exact fin _ Zo
end
def Dq(H:SH):Value->List UInt8->Prop
 |.slice (some ⟨b,o,none⟩) k _,l=>k=l.length/\∀a∈kA b o (l.map ZH),a∈H.flatten
 |.slice none _ _,l=>l=[]
 |_,_=>False
theorem Sc(c:UInt8):UInt8.ofNat (((c.toNat:Nat):Int).toNat)=c:=by simp
theorem SN {P:Program}{w:World}{f:Value->ByteArray->Sem (ForInStep ByteArray)}(hf:∀(c:UInt8) r,f (ZH c) r=pure (ForInStep.yield (r.push (UInt8.ofNat ((c.toNat:Int)).toNat)))):∀(l:List UInt8) (acc:ByteArray),(forIn (l.map ZH) acc f).run P w=.ok ⟨acc.data++l.toArray⟩ w:=by
 intro l
 induction l with
 |nil=>intro acc;simp
 |cons c l ih=>
  intro acc;have:=ih (acc.push c);rw[QC,List.forIn_cons,hf,Sem.run_bind,Sem.run_pure,Result.andThen_ok];simp only[Sc];rw[this];simp[ByteArray.push]
theorem XW {P:Program}{H:SH}{dv:Value}{l:List UInt8}{F:List kC}{w:World}(h:Dq H dv l)(hs:Sat w (H.flatten++F)):(Conv.bytesToString dv).run P w=.ok (.string (ftxt l)) w:=by
 unfold Dq at h;split at h
 ·obtain⟨rfl,hm⟩:=h;have hl:=run_loadCells (P:=P) (m:=l.length) (us:=l.map ZH) Zs hm hs;unfold Conv.bytesToString;simp only[Sem.run_bind,hl,Result.andThen_ok];rw[List.forIn_toArray];rw[SN (fun c r=>rfl)];simp[ftxt]
 ·subst h;unfold Conv.bytesToString;rfl
 ·exact h.elim
section
variable {P:Program} {n:Nat} {rs:List RO} {Γ:Env} {H:SH} {Z:List PanicEntry->Env->SH->Prop} {K:Env->SH->Prop} {d:Option Nat}
theorem st_b2s {x:Operand}{dv:Value}{l:List UInt8}(hx:ev Γ x=some dv)(hb:Dq H dv l)(h:VO P n rs (ap d (.string (ftxt l)) Γ) H Z K):VO P n (⟨d,none,.b2s x⟩::rs) Γ H Z K:=
 VO.read rfl rfl (fun ρ aO=>⟨_,rfl,fun F w hs=>by
  rw[aO _ _ hx];simp[XW hb hs]⟩) h
theorem st_s2b {t:TypeId}{x:Operand}{s:ByteArray}(hx:ev Γ x=some (.string s))(h:∀sv sp,jA 1 sv s.size (eg s) sp->VO P n rs (ap d sv Γ) (aj sv (eg s) sp::H) Z K):VO P n (⟨d,none,.s2b t x⟩::rs) Γ H Z K:=by
 refine VO.act rfl rfl (fun ρ aO=>⟨_,rfl,?_⟩);rw[aO _ _ hx];refine aK.bind (Yd (fun b cap Gh=>aK.pure ?_));refine⟨_,aj (.slice (some ⟨b,0,none⟩) s.size cap) (eg s) (List.replicate (cap - s.size) (.int .u8 0))::H,.inl rfl,by simp[aj],h _ _ (.mk (by simp[eg]) (by simp[eg];omega) Gh)⟩
end
section
variable {P:Program} {n:Nat} {rs:List RO} {Γ:Env} {H:SH} {Z:List PanicEntry->Env->SH->Prop} {K:Env->SH->Prop} {d:Option Nat}
end
section
variable {κ α β:Type} [DecidableEq κ] {g:α->β} {k:κ}
end
section
variable {w:WR} {a:AW} {M:Nat}
end
structure Seen {β:Type}(es:Array MapEntry)(l:List (ByteArray×β))(seen:Array Nat)(C:List (ByteArray×β)):Prop where
 nodup:(C.map (·.1)).Nodup
 mem:∀p∈C,p∈l
 seen:∀e∈es.toList,(e.born∈seen.toList↔∃p∈C,e.key=.string p.1)
section
variable {β:Type} {Vf:β->Value} {es:Array MapEntry} {c:Nat} {l:List (ByteArray×β)}
end
abbrev uv (n:Nat):Value:=.int .u64 n
abbrev cv (n:Nat):Value:=.int .u8 n
theorem Tz {n:Nat}:IntKind.u64.wrap (n:Int)=((n % 18446744073709551616:Nat):Int):=by
 simp only[IntKind.wrap,IntKind.bits,IntKind.signed];simp
theorem fP {n:Nat}(h:n < 18446744073709551616):IntKind.u64.wrap (n:Int)=(n:Int):=by
 rw[Tz,Nat.mod_eq_of_lt h]
theorem wrapB {n:Nat}:IntKind.u8.wrap (n:Int)=((n % 256:Nat):Int):=by
 simp only[IntKind.wrap,IntKind.bits,IntKind.signed];simp
theorem nD {n:Nat}(h:n < 256):IntKind.u8.wrap (n:Int)=(n:Int):=by
 rw[wrapB,Nat.mod_eq_of_lt h]
theorem HV {n:Nat}(h:n < 9223372036854775808):IntKind.i64.wrap (n:Int)=(n:Int):=wrap64 ⟨Zo,Zo⟩
theorem bvN {n:Nat}(h:n < 18446744073709551616):(BitVec.ofInt 64 (n:Int)).toNat=n:=by
 rw[BitVec.toNat_ofInt];omega
theorem powI(b:Nat):((2:Int) ^ b)=((2 ^ b:Nat):Int):=by push_cast;rfl
theorem shrU {k:IntKind}{a b:Nat}(hb:b<=64):zt .shr (uv a) (.int k (b:Int))=some (uv (a / 2 ^ b)):=by
 have h0:¬((b:Int) < 0):=by omega
 simp only[zt,mX,h0,if_false,IntKind.bits,vV,Nat.min_eq_left hb,powI];rw[Int.fdiv_eq_ediv_of_nonneg _ (Int.natCast_nonneg _)]
 push_cast;rfl
theorem shlU {k:IntKind}{a b:Nat}(hb:b<=64):zt .shl (uv a) (.int k (b:Int))=some (uv (a*2 ^ b % 18446744073709551616)):=by
 have h0:¬((b:Int) < 0):=by omega
 simp only[zt,mX,h0,if_false,IntKind.bits,vV,Nat.min_eq_left hb,powI];rw[show((a:Int)*((2 ^ b:Nat):Int))=((a*2 ^ b:Nat):Int) by push_cast;rfl,Tz]
theorem andU {a b:Nat}(ha:a < 18446744073709551616)(hb:b < 18446744073709551616):zt .and (uv a) (uv b)=some (uv (a&&&b)):=by
 show(if IntKind.u64=IntKind.u64 then some (Value.int .u64 (IntKind.u64.wrap ((BitVec.ofInt 64 (a:Int)&&&BitVec.ofInt 64 (b:Int)).toNat:Int)))else none)=_;rw[if_pos rfl,BitVec.toNat_and,bvN ha,bvN hb];rw[fP (Nat.lt_of_le_of_lt Nat.and_le_left ha)]
theorem orU {a b:Nat}(ha:a < 18446744073709551616)(hb:b < 18446744073709551616):zt .or (uv a) (uv b)=some (uv (a|||b)):=by
 show(if IntKind.u64=IntKind.u64 then some (Value.int .u64 (IntKind.u64.wrap ((BitVec.ofInt 64 (a:Int)|||BitVec.ofInt 64 (b:Int)).toNat:Int)))else none)=_;rw[if_pos rfl,BitVec.toNat_or,bvN ha,bvN hb];rw[fP (Nat.or_lt_two_pow (n:=64) ha hb)]
def η(a b:Nat):Nat:=a&&&(18446744073709551615 - b)
theorem UF {a b:Nat}(ha:a < 18446744073709551616):η a b < 18446744073709551616:=Nat.lt_of_le_of_lt Nat.and_le_left ha
theorem andNU {a b:Nat}(ha:a < 18446744073709551616)(hb:b < 18446744073709551616):zt .andNot (uv a) (uv b)=some (uv (η a b)):=by
 show(if IntKind.u64=IntKind.u64 then some (Value.int .u64 (IntKind.u64.wrap ((BitVec.ofInt 64 (a:Int)&&&~~~ BitVec.ofInt 64 (b:Int)).toNat:Int)))else none)=_;rw[if_pos rfl,BitVec.toNat_and,BitVec.toNat_not,bvN ha,bvN hb];rw[show(2 ^ 64 - 1 - b)=18446744073709551615 - b by omega];rw[fP (Nat.lt_of_le_of_lt Nat.and_le_left ha)];rfl
theorem subU {a b:Nat}(h:b<=a):zt .sub (uv a) (uv b)=some (uv ((a - b) % 18446744073709551616)):=by
 simp only[zt,mX,if_true];rw[show((a:Int) - (b:Int))=((a - b:Nat):Int) by omega,Tz]
section
variable {P:Program} {n:Nat} {rs:List RO} {Γ:Env} {H:SH} {Z:List PanicEntry->Env->SH->Prop} {K:Env->SH->Prop} {d:Option Nat}
theorem fL {op:BinOp}{x y:Operand}{u v w:Value}(hx:ev Γ x=some u)(hy:ev Γ y=some v)(hv:zt op u v=some w)(h:VO P n rs (ap d w Γ) H Z K):VO P n (⟨d,none,.bin op x y⟩::rs) Γ H Z K:=
 VO.pure rfl (fun ρ aO=>by simp[kW,aO _ _ hx,aO _ _ hy,hv]) h
theorem Uv {c:Int}(h:0<=c):Value.int .u64 c=uv c.toNat:=by
 show Value.int .u64 c=Value.int .u64 ((c.toNat:Nat):Int);rw[vW h]
theorem EN {x y:Operand}{k:IntKind}{ca cb:Int}{a b m r:Nat}(hx:ev Γ x=some (.int .u64 ca))(hy:ev Γ y=some (.int k cb))(ha:0<=ca)(hb:0<=cb/\cb<=64)(ea:ca.toNat=a)(eb:cb.toNat=b)(em:2 ^ b=m)(er:a / m=r)
 (h:VO P n rs (ap d (uv r) Γ) H Z K):VO P n (⟨d,none,.bin .shr x y⟩::rs) Γ H Z K:=by
 subst er em eb ea;rw[Uv ha]at hx;rw[show cb=((cb.toNat:Nat):Int) by omega]at hy;exact fL hx hy (shrU Zo) h
theorem EM {x y:Operand}{k:IntKind}{ca cb:Int}{a b m r:Nat}(hx:ev Γ x=some (.int .u64 ca))(hy:ev Γ y=some (.int k cb))(ha:0<=ca)(hb:0<=cb/\cb<=64)(ea:ca.toNat=a)(eb:cb.toNat=b)(em:2 ^ b=m)(er:a*m % 18446744073709551616=r)
 (h:VO P n rs (ap d (uv r) Γ) H Z K):VO P n (⟨d,none,.bin .shl x y⟩::rs) Γ H Z K:=by
 subst er em eb ea;rw[Uv ha]at hx;rw[show cb=((cb.toNat:Nat):Int) by omega]at hy;exact fL hx hy (shlU Zo) h
theorem EH {x y:Operand}{ca cb:Int}{a b r:Nat}(hx:ev Γ x=some (.int .u64 ca))(hy:ev Γ y=some (.int .u64 cb))(ha:0<=ca/\ca < 18446744073709551616)(hb:0<=cb/\cb < 18446744073709551616)(ea:ca.toNat=a)(eb:cb.toNat=b)(er:a&&&b=r)
 (h:VO P n rs (ap d (uv r) Γ) H Z K):VO P n (⟨d,none,.bin .and x y⟩::rs) Γ H Z K:=by
 subst er eb ea;rw[Uv ha.1]at hx;rw[Uv hb.1]at hy;exact fL hx hy (andU Zo Zo) h
theorem K3 {x y:Operand}{ca cb:Int}{a b r:Nat}(hx:ev Γ x=some (.int .u64 ca))(hy:ev Γ y=some (.int .u64 cb))(ha:0<=ca/\ca < 18446744073709551616)(hb:0<=cb/\cb < 18446744073709551616)(ea:ca.toNat=a)(eb:cb.toNat=b)(er:a|||b=r)
 (h:VO P n rs (ap d (uv r) Γ) H Z K):VO P n (⟨d,none,.bin .or x y⟩::rs) Γ H Z K:=by
 subst er eb ea;rw[Uv ha.1]at hx;rw[Uv hb.1]at hy;exact fL hx hy (orU Zo Zo) h
theorem uQ {x y:Operand}{ca cb:Int}{a b:Nat}(hx:ev Γ x=some (.int .u64 ca))(hy:ev Γ y=some (.int .u64 cb))(ha:0<=ca/\ca < 18446744073709551616)(hb:0<=cb/\cb < 18446744073709551616)(ea:ca.toNat=a)(eb:cb.toNat=b)
 (h:VO P n rs (ap d (uv (η a b)) Γ) H Z K):VO P n (⟨d,none,.bin .andNot x y⟩::rs) Γ H Z K:=by
 subst eb ea;rw[Uv ha.1]at hx;rw[Uv hb.1]at hy;exact fL hx hy (andNU Zo Zo) h
theorem uV {x y:Operand}{ca cb:Int}{a b:Nat}(hx:ev Γ x=some (.int .u64 ca))(hy:ev Γ y=some (.int .u64 cb))(hb:0<=cb/\cb<=ca)(ha:ca < 18446744073709551616)(ea:ca.toNat=a)(eb:cb.toNat=b)
 (h:VO P n rs (ap d (uv (a - b)) Γ) H Z K):VO P n (⟨d,none,.bin .sub x y⟩::rs) Γ H Z K:=by
 subst eb ea;rw[Uv Zo]at hx;rw[Uv hb.1]at hy;refine fL hx hy ?_ h;rw[subU Zo,Nat.mod_eq_of_lt Zo]
theorem uP {x y:Operand}{ca cb:Int}{a b:Nat}(hx:ev Γ x=some (.int .u8 ca))(hy:ev Γ y=some (.int .u8 cb))(ha:0<=ca)(hb:0<=cb)(hab:ca+cb < 256)(ea:ca.toNat=a)(eb:cb.toNat=b)
 (h:VO P n rs (ap d (cv (a+b)) Γ) H Z K):VO P n (⟨d,none,.bin .add x y⟩::rs) Γ H Z K:=by
 subst eb ea;refine fL hx hy ?_ h;simp only[zt,mX,if_true];rw[show ca+cb=((ca.toNat+cb.toNat:Nat):Int) by omega,nD Zo]
theorem orC {a b:Nat}(ha:a < 18446744073709551616)(hb:b < 18446744073709551616):a|||b < 18446744073709551616:=Nat.or_lt_two_pow (n:=64) ha hb
theorem ltB {a:Nat}(ha:a < 18446744073709551616):0<=((a:Nat):Int)/\((a:Nat):Int) < 18446744073709551616:=by omega
theorem divC {a b:Nat}(h:a < 18446744073709551616):a / b < 18446744073709551616:=Nat.lt_of_le_of_lt (Nat.div_le_self _ _) h
theorem modM {x:Nat}:x % 18446744073709551616 < 18446744073709551616:=Nat.mod_lt _ Zd
theorem ltM {x:Nat}:0<=((x % 18446744073709551616:Nat):Int)/\((x % 18446744073709551616:Nat):Int) < 18446744073709551616:=ltB modM
theorem UD(a:Nat):a&&&1=a % 2:=Qk a 1
theorem UE(a:Nat):a&&&7=a % 8:=Qk a 3
theorem Kd(a:Nat):a&&&15=a % 16:=Qk a 4
theorem uU {x y:Operand}{ca cb:Int}{a b:Nat}(hx:ev Γ x=some (.int .i64 ca))(hy:ev Γ y=some (.int .i64 cb))(ha:0<=ca)(hb:0 < cb)(ea:ca.toNat=a)(eb:cb.toNat=b)(h:VO P n rs (ap d (vi ((a % b:Nat):Int)) Γ) H Z K):VO P n (⟨d,none,.bin .rem x y⟩::rs) Γ H Z K:=by
 refine fL hx hy ?_ h;subst ea eb;have h0:¬(cb=0):=by omega
 simp only[zt,mX,ne_eq,h0,not_false_eq_true,and_self,if_true];rw[Int.tmod_eq_emod_of_nonneg ha]
 congr 2
 push_cast
 rw[vW ha,vW Zo]
theorem uT {x y:Operand}{ca cb:Int}{a b:Nat}(hx:ev Γ x=some (.int .i64 ca))(hy:ev Γ y=some (.int .i64 cb))(ha:0<=ca/\ca < 9223372036854775808)(hb:0 < cb)(ea:ca.toNat=a)(eb:cb.toNat=b)(h:VO P n rs (ap d (vi ((a / b:Nat):Int)) Γ) H Z K):VO P n (⟨d,none,.bin .quo x y⟩::rs) Γ H Z K:=by
 refine fL hx hy ?_ h;subst ea eb;have h0:¬(cb=0):=by omega
 simp only[zt,mX,ne_eq,h0,not_false_eq_true,and_self,if_true];rw[Int.tdiv_eq_ediv_of_nonneg ha.1];have e:ca / cb=((ca.toNat / cb.toNat:Nat):Int):=by
  push_cast;rw[vW ha.1,vW Zo]
 rw[e,HV (Nat.lt_of_le_of_lt (Nat.div_le_self _ _) Zo)]
theorem rl {k k':IntKind}{x:Operand}{a:Nat}(hx:ev Γ x=some (.int k' (a:Int)))(hr:k.wrap (a:Int)=(a:Int))(h:VO P n rs (ap d (.int k (a:Int)) Γ) H Z K):VO P n (⟨d,none,.conv k x⟩::rs) Γ H Z K:=Ya hx hr h
end
def bitAt(st:List Nat)(w:Nat):Bool:=(st.getD (w / 64) 0).testBit (w % 64)
section
variable {P:Program} {n:Nat} {rs:List RO} {Γ:Env} {H:SH} {Z:List PanicEntry->Env->SH->Prop} {K:Env->SH->Prop} {d:Option Nat}
end
section
variable {P:Program} {n:Nat} {rs:List RO} {Γ:Env} {H:SH} {Z:List PanicEntry->Env->SH->Prop} {K:Env->SH->Prop} {d:Option Nat}
theorem kK {f:Nat}{xs:List Operand}{args:List Value}{w:Value}(hf:aw P f args [] (fun v Post=>v=w/\Post=[]))(he:nI Γ xs=some args)(h:VO P n rs (ap d w Γ) H Z K):VO P n (⟨d,none,.call f xs⟩::rs) Γ H Z K:=by
 refine kH hf he eo.nil (fun v Post hv=>?_);obtain⟨rfl,rfl⟩:=hv;exact h
end
theorem ae {R G:Prop}(r:R)(h:N2 R->G:=by
 intro later
 (repeat (first
   |(first
   |(apply rq;rfl)
   |(apply EN;rfl;rfl;omega;omega;exact Zi;exact Zi;(first|assumption|((try simp only[Nat.reducePow]);rfl));rfl)
   |(apply EM;rfl;rfl;omega;omega;exact Zi;exact Zi;(first|assumption|((try simp only[Nat.reducePow]);rfl));rfl)
   |(apply EH;rfl;rfl;exact Zl;exact Zl;exact Zi;exact Zi;(first|exact UD _|exact UE _|exact Kd _|rfl))
   |(apply K3;rfl;rfl;exact Zl;exact Zl;exact Zi;exact Zi;rfl)
   |(apply uQ;rfl;rfl;exact Zl;exact Zl;exact Zi;exact Zi)
   |(apply uV;rfl;rfl;omega;omega;exact Zi;exact Zi)
   |(apply uP;rfl;rfl;omega;omega;omega;exact Zi;exact Zi)
   |(apply rl;rfl;(first|exact HV Zo|exact fP Zo|exact nD Zo))
   |(apply uT;rfl;rfl;omega;omega;exact Zi;exact Zi)
   |(apply uU;rfl;rfl;omega;omega;exact Zi;exact Zi)
   |(apply Dh;rfl;rfl)
   |(apply Hx;rfl)
   |(apply nz;rfl)
   |(apply EK;rfl)
   |(apply iI;rfl;rfl)
   |(apply iH;rfl;rfl)
   |(apply ny;rfl;exact Zz)
   |(apply z8;rfl;exact Zh)
   |(apply z8;rfl;exact Zm)
   |(apply yH;rfl;exact UB)
   |(apply uR;rfl;rfl)
   |(apply sX;rfl;rfl)
   |(apply EF;rfl;rfl;omega)
   |(apply EO;rfl;rfl;omega)
   |(apply EJ;rfl;rfl;omega)
   |(apply EL;rfl;rfl;decide)
   |(apply ru;rfl;rfl;omega;exact Zz)
   |(apply uS;rfl;rfl;omega;exact Zz)
   |(apply rk;rfl;(focus (simp only[Ur,Value.cells,Qu,Nat.reduceEqDiff,↓reduceIte,eq_self,Nat.reduceAdd,Nat.reduceSub,Qt,Nat.reduceLeDiff,Qn,and_self,rep,kw] <;> rfl)))
   |(apply eV;rfl;rfl;(focus (simp only[Ur,Value.cells,Qu,Nat.reduceEqDiff,↓reduceIte,eq_self,Nat.reduceAdd,Nat.reduceSub,Qt,Nat.reduceLeDiff,Qn,and_self,rep,kw] <;> rfl));rfl;rfl;exact Zac)
   |(apply nY;rfl;rfl;rfl))
    |(refine VO.nil ?_;simp only[V.aM,V.aR,V.look,V.ap,V.bC,V.bx,Qu,Nat.reduceAdd,Nat.reduceEqDiff,↓reduceIte,eq_self])
    |refine VC.uO ?_
    |refine VC.nX ?_
    |refine VC.Ev ?_
    |refine VC.nW ?_
    |refine VC.rh ?_
    |refine VC.lU ?_
    |refine VC.Cg ?_
    |refine VC.block ?_
    |(refine VC.skip ?_;try simp only[V.aM,V.aR,V.look,V.ap,V.bC,V.bx,Qu,Nat.reduceAdd,Nat.reduceEqDiff,↓reduceIte,eq_self])
    |(refine VC.exit ?_;try simp only[V.aM,V.aR,V.look,V.ap,V.bC,V.bx,Qu,Nat.reduceAdd,Nat.reduceEqDiff,↓reduceIte,eq_self])
    |(refine VC.ret ?_;try simp only[V.bC,V.bx])
    |(apply VC.lE;rfl)
    |(apply VC.lD;rfl)
    |(apply VC.rZ;rfl)
    |(apply VC.rY;rfl)))
 exact later.out):G:=h ⟨r⟩
theorem Uy {R G:Prop}(r:R)(h:N2 R->G:=by
 intro later
 (first
   |(first
   |(apply rq;rfl)
   |(apply EN;rfl;rfl;omega;omega;exact Zi;exact Zi;(first|assumption|((try simp only[Nat.reducePow]);rfl));rfl)
   |(apply EM;rfl;rfl;omega;omega;exact Zi;exact Zi;(first|assumption|((try simp only[Nat.reducePow]);rfl));rfl)
   |(apply EH;rfl;rfl;exact Zl;exact Zl;exact Zi;exact Zi;(first|exact UD _|exact UE _|exact Kd _|rfl))
   |(apply K3;rfl;rfl;exact Zl;exact Zl;exact Zi;exact Zi;rfl)
   |(apply uQ;rfl;rfl;exact Zl;exact Zl;exact Zi;exact Zi)
   |(apply uV;rfl;rfl;omega;omega;exact Zi;exact Zi)
   |(apply uP;rfl;rfl;omega;omega;omega;exact Zi;exact Zi)
   |(apply rl;rfl;(first|exact HV Zo|exact fP Zo|exact nD Zo))
   |(apply uT;rfl;rfl;omega;omega;exact Zi;exact Zi)
   |(apply uU;rfl;rfl;omega;omega;exact Zi;exact Zi)
   |(apply Dh;rfl;rfl)
   |(apply Hx;rfl)
   |(apply nz;rfl)
   |(apply EK;rfl)
   |(apply iI;rfl;rfl)
   |(apply iH;rfl;rfl)
   |(apply ny;rfl;exact Zz)
   |(apply z8;rfl;exact Zh)
   |(apply z8;rfl;exact Zm)
   |(apply yH;rfl;exact UB)
   |(apply uR;rfl;rfl)
   |(apply sX;rfl;rfl)
   |(apply EF;rfl;rfl;omega)
   |(apply EO;rfl;rfl;omega)
   |(apply EJ;rfl;rfl;omega)
   |(apply EL;rfl;rfl;decide)
   |(apply ru;rfl;rfl;omega;exact Zz)
   |(apply uS;rfl;rfl;omega;exact Zz)
   |(apply rk;rfl;(focus (simp only[Ur,Value.cells,Qu,Nat.reduceEqDiff,↓reduceIte,eq_self,Nat.reduceAdd,Nat.reduceSub,Qt,Nat.reduceLeDiff,Qn,and_self,rep,kw] <;> rfl)))
   |(apply eV;rfl;rfl;(focus (simp only[Ur,Value.cells,Qu,Nat.reduceEqDiff,↓reduceIte,eq_self,Nat.reduceAdd,Nat.reduceSub,Qt,Nat.reduceLeDiff,Qn,and_self,rep,kw] <;> rfl));rfl;rfl;exact Zac)
   |(apply nY;rfl;rfl;rfl))
    |(refine VO.nil ?_;simp only[V.aM,V.aR,V.look,V.ap,V.bC,V.bx,Qu,Nat.reduceAdd,Nat.reduceEqDiff,↓reduceIte,eq_self])
    |refine VC.uO ?_
    |refine VC.nX ?_
    |refine VC.Ev ?_
    |refine VC.nW ?_
    |refine VC.rh ?_
    |refine VC.lU ?_
    |refine VC.Cg ?_
    |refine VC.block ?_
    |(refine VC.skip ?_;try simp only[V.aM,V.aR,V.look,V.ap,V.bC,V.bx,Qu,Nat.reduceAdd,Nat.reduceEqDiff,↓reduceIte,eq_self])
    |(refine VC.exit ?_;try simp only[V.aM,V.aR,V.look,V.ap,V.bC,V.bx,Qu,Nat.reduceAdd,Nat.reduceEqDiff,↓reduceIte,eq_self])
    |(refine VC.ret ?_;try simp only[V.bC,V.bx])
    |(apply VC.lE;rfl)
    |(apply VC.lD;rfl)
    |(apply VC.rZ;rfl)
    |(apply VC.rY;rfl))
 (repeat (first
   |(first
   |(apply rq;rfl)
   |(apply EN;rfl;rfl;omega;omega;exact Zi;exact Zi;(first|assumption|((try simp only[Nat.reducePow]);rfl));rfl)
   |(apply EM;rfl;rfl;omega;omega;exact Zi;exact Zi;(first|assumption|((try simp only[Nat.reducePow]);rfl));rfl)
   |(apply EH;rfl;rfl;exact Zl;exact Zl;exact Zi;exact Zi;(first|exact UD _|exact UE _|exact Kd _|rfl))
   |(apply K3;rfl;rfl;exact Zl;exact Zl;exact Zi;exact Zi;rfl)
   |(apply uQ;rfl;rfl;exact Zl;exact Zl;exact Zi;exact Zi)
   |(apply uV;rfl;rfl;omega;omega;exact Zi;exact Zi)
   |(apply uP;rfl;rfl;omega;omega;omega;exact Zi;exact Zi)
   |(apply rl;rfl;(first|exact HV Zo|exact fP Zo|exact nD Zo))
   |(apply uT;rfl;rfl;omega;omega;exact Zi;exact Zi)
   |(apply uU;rfl;rfl;omega;omega;exact Zi;exact Zi)
   |(apply Dh;rfl;rfl)
   |(apply Hx;rfl)
   |(apply nz;rfl)
   |(apply EK;rfl)
   |(apply iI;rfl;rfl)
   |(apply iH;rfl;rfl)
   |(apply ny;rfl;exact Zz)
   |(apply z8;rfl;exact Zh)
   |(apply z8;rfl;exact Zm)
   |(apply yH;rfl;exact UB)
   |(apply uR;rfl;rfl)
   |(apply sX;rfl;rfl)
   |(apply EF;rfl;rfl;omega)
   |(apply EO;rfl;rfl;omega)
   |(apply EJ;rfl;rfl;omega)
   |(apply EL;rfl;rfl;decide)
   |(apply ru;rfl;rfl;omega;exact Zz)
   |(apply uS;rfl;rfl;omega;exact Zz)
   |(apply rk;rfl;(focus (simp only[Ur,Value.cells,Qu,Nat.reduceEqDiff,↓reduceIte,eq_self,Nat.reduceAdd,Nat.reduceSub,Qt,Nat.reduceLeDiff,Qn,and_self,rep,kw] <;> rfl)))
   |(apply eV;rfl;rfl;(focus (simp only[Ur,Value.cells,Qu,Nat.reduceEqDiff,↓reduceIte,eq_self,Nat.reduceAdd,Nat.reduceSub,Qt,Nat.reduceLeDiff,Qn,and_self,rep,kw] <;> rfl));rfl;rfl;exact Zac)
   |(apply nY;rfl;rfl;rfl))
    |(refine VO.nil ?_;simp only[V.aM,V.aR,V.look,V.ap,V.bC,V.bx,Qu,Nat.reduceAdd,Nat.reduceEqDiff,↓reduceIte,eq_self])
    |refine VC.uO ?_
    |refine VC.nX ?_
    |refine VC.Ev ?_
    |refine VC.nW ?_
    |refine VC.rh ?_
    |refine VC.lU ?_
    |refine VC.Cg ?_
    |refine VC.block ?_
    |(refine VC.skip ?_;try simp only[V.aM,V.aR,V.look,V.ap,V.bC,V.bx,Qu,Nat.reduceAdd,Nat.reduceEqDiff,↓reduceIte,eq_self])
    |(refine VC.exit ?_;try simp only[V.aM,V.aR,V.look,V.ap,V.bC,V.bx,Qu,Nat.reduceAdd,Nat.reduceEqDiff,↓reduceIte,eq_self])
    |(refine VC.ret ?_;try simp only[V.bC,V.bx])
    |(apply VC.lE;rfl)
    |(apply VC.lD;rfl)
    |(apply VC.rZ;rfl)
    |(apply VC.rY;rfl)))
 exact later.out):G:=h ⟨r⟩
inductive Lt where
 |mk (kind:Nat) (n:Int) (bits:Nat) (text:ByteArray) (items:List Lt)
inductive Nd where
 |mk (kind:Nat) (name:ByteArray) (lit:Lt) (args ab:List ByteArray) (kids:List Nd) (at_:Int)
def Lt.kind:Lt->Nat|.mk k _ _ _ _=>k
def Lt.n:Lt->Int|.mk _ n _ _ _=>n
def Lt.bits:Lt->Nat|.mk _ _ b _ _=>b
def Lt.text:Lt->ByteArray|.mk _ _ _ t _=>t
def Lt.items:Lt->List Lt|.mk _ _ _ _ l=>l
def Nd.kind:Nd->Nat|.mk k _ _ _ _ _ _=>k
def Nd.name:Nd->ByteArray|.mk _ s _ _ _ _ _=>s
def Nd.lit:Nd->Lt|.mk _ _ l _ _ _ _=>l
def Nd.args:Nd->List ByteArray|.mk _ _ _ a _ _ _=>a
def Nd.ab:Nd->List ByteArray|.mk _ _ _ _ t _ _=>t
def Nd.kids:Nd->List Nd|.mk _ _ _ _ _ k _=>k
def Nd.at_:Nd->Int|.mk _ _ _ _ _ _ p=>p
theorem Nd.eta(x:Nd):x=.mk x.kind x.name x.lit x.args x.ab x.kids x.at_:=by cases x;rfl
mutual
def Lt.size:Lt->Nat
 |.mk _ _ _ _ items=>1+Lt.aq items
def Lt.aq:List Lt->Nat
 |[]=>0
 |x::r=>x.size+Lt.aq r
end
mutual
def Nd.size:Nd->Nat
 |.mk _ _ _ _ _ kids _=>1+Nd.aq kids
def Nd.aq:List Nd->Nat
 |[]=>0
 |x::r=>x.size+Nd.aq r
end
theorem Lt.size_pos(x:Lt):0 < x.size:=by cases x;simp only[Lt.size];omega
theorem Nd.size_pos(x:Nd):0 < x.size:=by cases x;simp only[Nd.size];omega
theorem Lt.aD {x:Lt}:∀{l:List Lt},x∈l->x.size<=Lt.aq l:=by
 intro l
 induction l with
 |nil=>intro h;cases h
 |cons y r ih=>
  intro h;simp only[Lt.aq];exact zCC
theorem Nd.aD {x:Nd}:∀{l:List Nd},x∈l->x.size<=Nd.aq l:=by
 intro l
 induction l with
 |nil=>intro h;cases h
 |cons y r ih=>
  intro h;simp only[Nd.aq];exact zCC
def dG(A:List kC)(v:Value)(l:List ByteArray):Prop:=∃a c,v=.slice a l.length c/\l.length<=1099511627776/\∀(i:Nat) t,l[i]? =some t->∃b o,a=some ⟨b,o,none⟩/\kC.cell b (o+i) (.string t)∈A/\t.size<=140737488355328
theorem dG.more {A B:List kC}{v:Value}{l:List ByteArray}(h:dG A v l)(hs:∀x∈A,x∈B):dG B v l:=by
 obtain⟨a,c,h1,h2,h3⟩:=h;exact⟨a,c,h1,h2,fun i t e=>let⟨b,o,k1,k2,k3⟩:=h3 i t e;⟨b,o,k1,hs _ k2,k3⟩⟩
structure N3 (k:Nat)(n:Int)(b:Nat)(t:ByteArray)(m:Nat):Prop where
 kind:k < 256
 n:-9223372036854775808<=n/\n<=9223372036854775807
 bits:b < 18446744073709551616
 text:t.size<=140737488355328
 many:m<=140737488355328
inductive zk (A:List kC):Lt->List Value->Prop
 |mk {k:Nat} {n:Int} {b:Nat} {t:ByteArray} {items:List Lt} {a:Option Addr} {c bk o:Nat} {us:Nat->List Value} (wf:N3 k n b t items.length) (ha:0 < items.length->a=some ⟨bk,o,none⟩)
   (hm:∀i,i < items.length->∀y∈kA bk (o+i*5) (us i),y∈A) (hr:∀i x,items[i]? =some x->zk A x (us i)):zk A (.mk k n b t items) [cv k,vi n,uv b,.string t,.slice a items.length c]
structure NdWf (k:Nat)(s:ByteArray)(m:Nat)(p:Int):Prop where
 kind:k < 256
 name:s.size<=140737488355328
 many:m<=140737488355328
 at_:-9223372036854775808<=p/\p<=9223372036854775807
inductive jJ (A:List kC):Nd->List Value->Prop
 |mk {k:Nat} {s:ByteArray} {lit:Lt} {args ab:List ByteArray} {kids:List Nd} {p:Int} {lv:List Value} {av tv:Value} {a:Option Addr} {c bk o:Nat} {us:Nat->List Value} (wf:NdWf k s kids.length p) (hl:zk A lit lv) (bJ:dG A av args) (bF:dG A tv ab)
   (ha:0 < kids.length->a=some ⟨bk,o,none⟩) (hm:∀i,i < kids.length->∀y∈kA bk (o+i*11) (us i),y∈A) (hr:∀i x,kids[i]? =some x->jJ A x (us i)) (ss:kids.length<=c):jJ A (.mk k s lit args ab kids p) ([cv k,.string s]++lv++[av,tv,.slice a kids.length c,vi p])
theorem zk.len {A:List kC}{x:Lt}{vs:List Value}(h:zk A x vs):vs.length=5:=by cases h;rfl
theorem jJ.len {A:List kC}{x:Nd}{vs:List Value}(h:jJ A x vs):vs.length=11:=by
 cases h with
 |mk wf hl=>simp[hl.len]
theorem zk.more {A B:List kC}(hs:∀x∈A,x∈B){x:Lt}{vs:List Value}(h:zk A x vs):zk B x vs:=by
 induction h with
 |mk wf ha hm hr ih=>exact .mk wf ha (fun i hi y hy=>hs _ (hm i hi y hy)) ih
theorem jJ.more {A B:List kC}(hs:∀x∈A,x∈B){x:Nd}{vs:List Value}(h:jJ A x vs):jJ B x vs:=by
 induction h with
 |mk wf hl bJ bF ha hm hr ss ih=>exact .mk wf (hl.more hs) (bJ.more hs) (bF.more hs) ha (fun i hi y hy=>hs _ (hm i hi y hy)) ih ss
def kB(s:ByteArray):List Nat:=s.data.toList.map UInt8.toNat
def A8(c:Nat):Bool:=(decide (97<=c)&&decide (c<=122))||(decide (65<=c)&&decide (c<=90))||decide (c=95)
def wM(c:Nat):Bool:=decide (48<=c)&&decide (c<=57)
def om(c:Nat):Bool:=A8 c||wM c
def cA(c:Nat):Bool:=[43,45,42,47,92,126,60,62,61,64,37,38,63,44,33].contains c
def gp(l:List Nat):Bool:=match l with
 |[]=>false
 |c::_=>decide (l.length<=40)&&A8 c&&l.all om
def Bo(on:List Nat->Bool):List Nat->Nat
 |[]=>0
 |c::r=>if on (c::r)then 1+Bo on r else 0
def fK:List Nat->Bool
 |[]=>false
 |c::r=>cA c&&(decide (c≠45)||!(match r with|d::_=>wM d|[]=>false))
def ew:List Nat->Nat
 |[]=>0
 |c::r=>if c=124 then 1 else if cA c then 1+Bo fK r else 0
def kq:List Nat->List (List Nat)
 |[]=>[[]]
 |c::r=>if c=58 then [58]::kq r else match kq r with
  |p::ps=>(c::p)::ps
  |[]=>[[c]]
def zU:List (List Nat)->Nat->Int
 |[],n=>n
 |p::ps,n=>if p=[]then n else if p.getLast? =some 58&&gp p.dropLast then zU ps (n+1)else -1
def oP(l:List Nat):Int:=
 if gp l then 0 else match l with
 |[]=>-1
 |c::_=>if cA c||decide (c=124)then(if ew l=l.length then 1 else -1)else zU (kq l) 0
def zn(s:ByteArray):Bool:=gp (kB s)
def kR(s:ByteArray):Int:=oP (kB s)
def fO:List (List Nat):=[[115,101,108,102],[115,117,112,101,114],[110,105,108],[116,114,117,101],[102,97,108,115,101]]
def jO(s:ByteArray):Bool:=!fO.contains (kB s)&&zn s
def wG:List Nat->List Nat
 |48::c::r=>wG (c::r)
 |l=>l
def zQ(l:List Nat):Nat:=l.foldl (fun n c=>n*10+(c - 48)) 0
def mZ(l:List Nat):Bool:=
 let(d,minus):=match l with|45::r=>(r,true)|_=>(l,false)
 decide (d≠[])&&d.all wM&&decide (wG d=d)&&decide (d.length<=255)&&decide ((if minus then 1152921504606846976 else 1152921504606846975) < zQ d)
abbrev Rs:=Option (Nat×Bool)
def jc:List Rs->Rs
 |[]=>some (0,false)
 |r::rs=>match r,jc rs with
  |some (d,m),some (e,k)=>some (max d e,m||k)
  |_,_=>none
def wo(b:Bool):Rs->Rs
 |some (d,m)=>some (d,b||m)
 |none=>none
def wi:Rs->Rs
 |some (d,m)=>some (d+1,m)
 |none=>none
def kQ(b:Bool)(r:Rs):Rs:=if b then r else none
mutual
def jK:Lt->Bool->Rs
 |.mk k n b t items,inside=>
  if k=1∨k=2∨k=3 then kQ (inside&&decide (n=0/\b=0/\t.size=0/\items.length=0)) (some (0,false))
  else if k=4 then kQ (decide (-1152921504606846976<=n/\n<=1152921504606846975/\b=0/\t.size=0/\items.length=0)) (some (0,false))
  else if k=5 then kQ (mZ (kB t)&&decide (n=0/\b=0/\items.length=0)) (some (0,false))
  else if k=6 then kQ (decide (b*2 % 18446744073709551616 / 9007199254740992≠2047/\n=0/\t.size=0/\items.length=0)) (some (0,false))
  else if k=7 then kQ (decide (0<=n/\n<=255/\b=0/\t.size=0/\items.length=0)) (some (0,false))
  else if k=8∨k=9 then kQ (decide (n=0/\b=0/\items.length=0)) (some (0,false))
  else if k=11 then kQ (decide (n=0/\b=0/\items.length=0)) (some (0,decide (255 < t.size)))
  else if k=10 then kQ (decide (n=0/\b=0/\t.size=0)) (wi (wo (decide (255 < items.length)) (jc (tB items))))
  else none
def tB:List Lt->List Rs
 |[]=>[]
 |x::r=>jK x true::tB r
end
def jR(x:Nd):Bool:=decide (x.kind=2)&&decide (kB x.name=[115,117,112,101,114])
def yE(s:ByteArray):Nat:=if kR s=0 then 5 else if kR s=1/\(kB s).getLast?≠some 58 then 4 else 3
def wI(x:Nd):Nat:=if x.kind=3 then 1 else if x.kind=5 then 2 else if x.kind=4 then yE x.name else 6
def fH(s:ByteArray):Nat:=max 4 (yE s)
def lY(s:ByteArray):Nat:=if yE s=4 then 5 else 4
def yS(x:Nd)(place:Nat)(r:Rs):Rs:=kQ (decide (x.kind≠9/\x.kind≠6)) (if wI x < place then wi r else r)
def ja(x:Nd)(place:Nat)(r:Rs):Rs:=kQ (!jR x) (yS x place r)
def zV(x:Nd)(aE:ByteArray)(r:Rs):Rs:=if jR x then r else ja x (fH aE) r
def eP(place:Nat):List Nd->List Rs->List Rs
 |x::l,r::rs=>ja x place r::eP place l rs
 |_,_=>[]
def ik(aE:ByteArray)(l:List Nd)(rs:List Rs):Rs:=kQ (decide (kR aE=l.length)) (wo (decide (15 < kR aE)) (jc (eP (lY aE) l rs)))
def wp:List Nd->List Rs->List Rs
 |[x],r::_=>[if x.kind=9 then r else ja x 1 r]
 |x::l,r::rs=>ja x 1 r::wp l rs
 |_,_=>[]
def qJ:List Nd->List Rs->List Rs
 |x::l,r::rs=>kQ (decide (x.kind=6)) r::qJ l rs
 |_,_=>[]
def wy(Jx:Nat)(l:List ByteArray)(r:Rs):Rs:=kQ (l.all jO) (wo (decide (Jx < l.length)) r)
def wk(l:Lt):Bool:=decide (l.kind=0/\l.n=0/\l.bits=0/\l.text.size=0/\l.items.length=0)
def zr:Rs->Rs->Rs
 |some (d,m),some (e,k)=>some (max d e,m||k)
 |_,_=>none
def ju(k:Nat)(s:ByteArray)(lit:Lt)(args ab:List ByteArray)(kids:List Nd)(rs:List Rs):Rs:=
 if k=1 then kQ (decide (kids.length=0/\s.size=0/\args.length=0/\ab.length=0)) (jK lit false)
 else if k=2 then kQ (decide (kids.length=0/\args.length=0/\ab.length=0)&&zn s&&wk lit) (some (0,false))
 else if k=3 then kQ (decide (args.length=0/\ab.length=0)&&wk lit&&jO s) (match kids,rs with|[x],[r]=>ja x 1 r|_,_=>none)
 else if k=4 then kQ (decide (args.length=0/\ab.length=0)&&wk lit&&decide (0<=kR s)) (match kids,rs with|x::l,r::q=>zr (zV x s r) (ik s l q)|_,_=>none)
 else if k=6 then kQ (decide (args.length=0/\ab.length=0)&&wk lit) (ik s kids rs)
 else if k=5 then kQ (decide (s.size=0/\args.length=0/\ab.length=0/\2 < kids.length)&&wk lit) (match kids,rs with|x::y::l,r::q=>wo (decide (256 < kids.length)) (zr (jc (qJ (y::l) q)) (zV x y.name r))|_,_=>none)
 else if k=7 then kQ (decide (s.size=0)&&wk lit) (wy 15 args (wy 63 ab (wi (jc (wp kids rs)))))
 else if k=8 then kQ (decide (s.size=0/\args.length=0/\ab.length=0)&&wk lit) (wi (wo (decide (255 < kids.length)) (jc (eP 1 kids rs))))
 else if k=9 then kQ (decide (s.size=0/\args.length=0/\ab.length=0)&&wk lit) (match kids,rs with|[x],[r]=>ja x 1 r|_,_=>none)
 else none
mutual
def kN:Nd->Rs
 |.mk k s lit args ab kids _=>ju k s lit args ab kids (zi kids)
def zi:List Nd->List Rs
 |[]=>[]
 |x::r=>kN x::zi r
end
theorem jq:∀l:List Nd,zi l=l.map kN:=by
 intro l
 induction l with
 |nil=>rfl
 |cons x r ih=>simp only[zi,ih,QC]
theorem cS:∀l:List Lt,tB l=l.map fun x=>jK x true:=by
 intro l
 induction l with
 |nil=>rfl
 |cons x r ih=>simp only[tB,ih,QC]
def OM(deep:Nat->Bool):Rs->Nat
 |none=>150
 |some (d,m)=>if m then 151 else if deep d then 152 else 0
mutual
def Zq:Lt->Lt->Bool
 |.mk k n b t l,.mk k' n' b' t' l'=>decide (k=k')&&decide (n=n')&&decide (b=b')&&decide (t=t')&&Rj l l'
def Rj:List Lt->List Lt->Bool
 |[],[]=>true
 |x::r,y::q=>Zq x y&&Rj r q
 |_,_=>false
end
mutual
def RZ:Nd->Nd->Bool
 |.mk k s l a t ks _,.mk k' s' l' a' t' ks' _=>decide (k=k')&&decide (s=s')&&decide (a=a')&&decide (t=t')&&Zq l l'&&ZB ks ks'
def ZB:List Nd->List Nd->Bool
 |[],[]=>true
 |x::r,y::q=>RZ x y&&ZB r q
 |_,_=>false
end
theorem cU:∀{l:List Rs},none∈l->jc l=none:=by
 intro l
 induction l with
 |nil=>intro h;cases h
 |cons r l ih=>
  intro h;cases r with
  |none=>rfl
  |some p=>
   rcases QH.1 h with h|h
   ·cases h
   ·simp only[jc,ih h]
theorem cV {d e:Nat}{m k:Bool}:∀{l:List Rs},jc l=some (d,m)->jc (l++[some (e,k)])=some (max d e,m||k):=by
 intro l
 induction l generalizing d m with
 |nil=>intro h;cases h;simp[jc]
 |cons r l ih=>
  intro h;cases r with
  |none=>cases h
  |some p=>
   simp only[jc]at h;cases hl:jc l with
   |none=>rw[hl]at h;cases h
   |some q=>
    rw[hl]at h;cases h;simp only[vr,jc,ih hl,X4,X5];exact⟨Zo,by rw[vP]⟩
theorem gl {K:Nat}:∀{l:List Rs} {d:Nat} {m:Bool},(∀r∈l,∀d m,r=some (d,m)->d<=K)->jc l=some (d,m)->d<=K:=by
 intro l
 induction l with
 |nil=>intro d m _ h;cases h;omega
 |cons r l ih=>
  intro d m hl h;cases r with
  |none=>cases h
  |some p=>
   simp only[jc]at h;cases hq:jc l with
   |none=>rw[hq]at h;cases h
   |some q=>
    rw[hq]at h;cases h;have h1:=hl (some p) Zs p.1 p.2 rfl;have h2:=ih (fun r hr=>hl r (by simp[hr])) hq;omega
theorem jT {b:Bool}{r:Rs}{p:Nat×Bool}(h:kQ b r=some p):r=some p:=by
 unfold kQ at h;split at h
 ·exact h
 ·cases h
theorem cT {b:Bool}{r:Rs}{d:Nat}{m:Bool}(h:wo b r=some (d,m)):∃m',r=some (d,m'):=by
 cases r with
 |none=>cases h
 |some p=>cases h;exact⟨_,rfl⟩
theorem gg {r:Rs}{d:Nat}{m:Bool}(h:wi r=some (d,m)):∃d',d=d'+1/\r=some (d',m):=by
 cases r with
 |none=>cases h
 |some p=>cases h;exact⟨_,rfl,rfl⟩
theorem D4:∀(N:Nat) (x:Lt),x.size<=N->∀(i:Bool) (d:Nat) (m:Bool),jK x i=some (d,m)->d<=x.size:=by
 intro N
 induction N with
 |zero=>intro x hx;have:=x.size_pos;omega
 |succ N ih=>
  intro x hx i d m h;cases x with
  |mk k n b t items=>
  simp only[Lt.size]at hx|-;simp only[jK]at h;have zero:∀(c:Bool) (q:Bool),kQ c (some (0,q))=some (d,m)->d=0:=fun c q h=>by have:=jT h;cases this;rfl
  split at h
  ·have:=zero _ _ h;omega
  split at h
  ·have:=zero _ _ h;omega
  split at h
  ·have:=zero _ _ h;omega
  split at h
  ·have:=zero _ _ h;omega
  split at h
  ·have:=zero _ _ h;omega
  split at h
  ·have:=zero _ _ h;omega
  split at h
  ·have:=zero _ _ h;omega
  split at h
  ·obtain⟨d',hd,h2⟩:=gg (jT h);obtain⟨m',h3⟩:=cT h2;rw[cS]at h3;have:=gl (K:=Lt.aq items) (fun r hr d m e=>by
    obtain⟨y,hy,rfl⟩:=QM.1 hr;have h1:=Lt.aD hy;have h2:=ih y Zo true d m e;omega) h3
   omega
  ·cases h
end Go.V

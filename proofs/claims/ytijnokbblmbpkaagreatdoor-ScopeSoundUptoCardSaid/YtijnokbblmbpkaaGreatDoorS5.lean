/-
  Triples over lowered code and functions.
-/
import Derived.Test.YtijnokbblmbpkaaGreatDoorS4
set_option linter.unusedSimpArgs false
set_option linter.unusedVariables false
namespace Go.V
open Go
inductive IC where
 |skip
 |reg (rs:List RO) (keep:List Nat)
 |draw (rss:List (List RO)) (keep:List Nat)
 |seq (a b:IC)
 |cond (c:Operand) (a b:IC)
 |block (id:Nat) (b:IC)
 |loop (b:IC)
 |exit (id:Nat)
 |ret
 |rangef (g:Operand) (ps:List Nat) (asg b:IC)
 |free (rs:List RO) (an:List (List Nat)) (keep:List Nat)
 |scope (b:IC)
 |label (l:Nat)
def zJ(P:Program)(n:Nat)(ops:Array Oper):List Oper->Option (List RO)
 |[]=>some []
 |o::r=>match lowRO P n ops o,zJ P n ops r with
  |some x,some l=>some (x::l)
  |_,_=>none
def wU(P:Program)(n:Nat)(kp:Nat->List Nat)(od:Nat->List (List Nat)):Code->Option IC
 |.skip=>some .skip
 |.region id ops false=>(zJ P n ops ops.toList).map fun rs=>.reg rs (kp id)
 |.region id ops true=>
  match zJ P n ops ops.toList with
  |some rs=>if(od id).isEmpty then(if P.follows .mixedOrders&&wQ ops then some (.free rs (ancs ops) (kp id))else none)else
   if P.follows .mixedOrders&&coverB (rs.zip ops.toList) ops (od id)then some (.draw ((od id).map fun o=>o.map fun i=>rs.getD i default) (kp id))else none
  |none=>none
 |.seq a b=>match wU P n kp od a,wU P n kp od b with
  |some x,some y=>some (.seq x y)
  |_,_=>none
 |.cond c a b=>match wU P n kp od a,wU P n kp od b with
  |some x,some y=>some (.cond c x y)
  |_,_=>none
 |.block id b=>(wU P n kp od b).map (IC.block id)
 |.loop b=>(wU P n kp od b).map IC.loop
 |.exit id=>some (.exit id)
 |.ret=>some .ret
 |.rangeFunc g ps x b=>match wU P n kp od x,wU P n kp od b with
  |some x,some y=>if ps.all (·< n)then some (.rangef g ps.toList x y)else none
  |_,_=>none
 |.scope b=>(wU P n kp od b).map IC.scope
 |.label l=>some (.label l)
 |_=>none
def LowInv(P:Program)(n:Nat)(kp:Nat->List Nat)(od:Nat->List (List Nat)):IC->Code->Prop
 |.skip,code=>code=.skip
 |.reg rs keep,code=>∃id ops,code=.region id ops false/\zJ P n ops ops.toList=some rs/\keep=kp id
 |.draw rss keep,code=>∃id ops rs,code=.region id ops true/\zJ P n ops ops.toList=some rs/\P.follows .mixedOrders=true/\coverB (rs.zip ops.toList) ops (od id)=true/\rss=((od id).map fun o=>o.map fun i=>rs.getD i default)/\keep=kp id
 |.free rs an keep,code=>∃id ops,code=.region id ops true/\zJ P n ops ops.toList=some rs/\P.follows .mixedOrders=true/\wQ ops=true/\an=ancs ops/\keep=kp id
 |.seq x y,code=>∃a b,code=.seq a b/\wU P n kp od a=some x/\wU P n kp od b=some y
 |.cond c x y,code=>∃a b,code=.cond c a b/\wU P n kp od a=some x/\wU P n kp od b=some y
 |.block id x,code=>∃a,code=.block id a/\wU P n kp od a=some x
 |.loop x,code=>∃a,code=.loop a/\wU P n kp od a=some x
 |.exit id,code=>code=.exit id
 |.ret,code=>code=.ret
 |.rangef g ps x y,code=>∃qs a b,code=.rangeFunc g qs a b/\qs.toList=ps/\(∀t∈ps,t < n)/\wU P n kp od a=some x/\wU P n kp od b=some y
 |.scope x,code=>∃a,code=.scope a/\wU P n kp od a=some x
 |.label l,code=>code=.label l
theorem jW {P:Program}{n:Nat}{kp:Nat->List Nat}{od:Nat->List (List Nat)}{code:Code}{c:IC}(h:wU P n kp od code=some c):LowInv P n kp od c code:=by
 cases code with
 |skip=>simp only[wU]at h;cases h;rfl
 |region id ops b=>
  cases b
  ·simp only[wU,Qk]at h;obtain⟨rs,h1,rfl⟩:=h;exact⟨id,ops,rfl,h1,rfl⟩
  ·simp only[wU]at h;split at h
   case h_2=>cases h
   rename_i rs h1;split at h
   ·split at h
    case isFalse=>cases h
    rename_i hc;simp only[vF]at hc;cases h;exact⟨id,ops,rfl,h1,hc.1,hc.2,rfl,rfl⟩
   split at h
   case isFalse=>cases h
   rename_i hc;simp only[vF]at hc;cases h;exact⟨id,ops,rs,rfl,h1,hc.1,hc.2,rfl,rfl⟩
 |seq a b=>
  exact zDU
 |cond q a b=>
  exact zDU
 |block id b=>
  exact zCK
 |loop b=>
  exact zCK
 |exit id=>simp only[wU]at h;cases h;rfl
 |ret=>simp only[wU]at h;cases h;rfl
 |rangeFunc g ps a b=>
  simp only[wU]at h;split at h
  case h_2=>cases h
  rename_i x y h1 h2;split at h
  case isFalse=>cases h
  rename_i hp;cases h;exact⟨ps,a,b,rfl,rfl,fun t ht=>by have:=Array.all_eq_true_iff_forall_mem.1 hp t (by simpa using ht);simpa using this,h1,h2⟩
 |scope b=>
  exact zCK
 |label l=>simp only[wU]at h;cases h;rfl
 |_=>simp only[wU]at h;cases h
def restr:List Nat->Env->Env
 |[],_=>[]
 |t::r,Γ=>match look Γ t with
  |some v=>(t,v)::restr r Γ
  |none=>restr r Γ
theorem sub_restr(k:List Nat)(Γ:Env):Sub Γ (restr k Γ):=by
 induction k with
 |nil=>intro t v h;simp[restr,look]at h
 |cons s r ih=>
  intro t v h;simp only[restr]at h;split at h
  ·rename_i u hu;simp only[look]at h;split at h
   ·rename_i e;subst e;cases h;exact hu
   ·exact ih t v h
  ·exact ih t v h
def coll(r:Nat):Deferred:={target:=.collected r,args:=#[]}
def marks(X:List Nat):List kC:=X.map fun r=>.obj r (.deferred (some []))
def Rnd(ρ:Option Nat)(F:List kC):Prop:=∀l,ρ=some l->∃r,kC.obj l (.loop r)∈F
theorem Rnd.more {ρ:Option Nat}{F F':List kC}(h:Rnd ρ F)(hf:∀x∈F,x∈F'):Rnd ρ F':=fun l e=>let⟨r,hr⟩:=h l e;⟨r,hf _ hr⟩
def VC(P:Program)(n:Nat)(c:IC)(Γ:Env)(H:SH)(Q:Exit->Env->SH->Prop):Prop:=
 ∀ρ kp od code,wU P n kp od code=some c->∀a w F (QQ:Exit->Act->World->Prop),Rnd ρ F->jn n Γ a->Sat w (H.flatten++F)->
  (∀e a' w' Γ' H' X,Q e Γ' H'->jn n Γ' a'->a'.defers=X.map coll++a.defers->Sat w' (H'.flatten++(F++marks X))->kg w w'->QQ e a' w')->code.wpIn (VFc ρ) 0 P QQ a w
def Imp(H H':SH):Prop:=∃R,Spl H H' R
theorem Imp.refl(H:SH):Imp H H:=⟨[],by simp[Spl]⟩
theorem Sat.imp {w:World}{H H':SH}{F:List kC}(h:Imp H H')(hs:Sat w (H.flatten++F)):Sat w (H'.flatten++F):=by
 obtain⟨R,hR⟩:=h;have:=hs.perm (hR.append_right F);exact zDZ
def thenQ(K:Env->SH->Prop)(Q:Exit->Env->SH->Prop):Exit->Env->SH->Prop
 |.normal,Γ,H=>K Γ H
 |e,Γ,H=>Q e Γ H
def blockQ(id:Nat)(Q:Exit->Env->SH->Prop):Exit->Env->SH->Prop
 |.exit i,Γ,H=>if i=id then Q .normal Γ H else Q (.exit i) Γ H
 |e,Γ,H=>Q e Γ H
section
variable {P:Program} {n:Nat} {Γ Δ:Env} {H:SH} {Q Q':Exit->Env->SH->Prop}
theorem marks_app(X Y:List Nat):marks (X++Y)=marks X++marks Y:=by simp[marks]
theorem Sat.marks {w:World}{L F:List kC}{X Y:List Nat}(h:Sat w (L++((F++marks X)++marks Y))):Sat w (L++(F++marks (Y++X))):=by
 refine h.perm (vU _ ?_);rw[marks_app,vZ];exact zDB
theorem Sat.nomarks {w:World}{L F:List kC}(h:Sat w (L++F)):Sat w (L++(F++V.marks [])):=by simpa[V.marks]using h
theorem VC.mono {c:IC}(h:VC P n c Γ H Q)(hq:∀e Γ H,Q e Γ H->Q' e Γ H):VC P n c Γ H Q':=fun ρ kp od code hl a w F QQ hr ha hs hh=>
 h ρ kp od code hl a w F QQ hr ha hs (fun e a' w' Γ' H' X q=>hh e a' w' Γ' H' X (hq _ _ _ q))
theorem VC.sub {c:IC}(s:Sub Γ Δ)(h:VC P n c Δ H Q):VC P n c Γ H Q:=fun ρ kp od code hl a w F QQ hr ha hs hh=>h ρ kp od code hl a w F QQ hr (ha.sub s) hs hh
theorem VC.imp {c:IC}{H':SH}(i:Imp H H')(h:VC P n c Γ H' Q):VC P n c Γ H Q:=fun ρ kp od code hl a w F QQ hr ha hs hh=>h ρ kp od code hl a w F QQ hr ha (hs.imp i) hh
theorem VC.skip(h:Q .normal Γ H):VC P n .skip Γ H Q:=by
 intro ρ kp od code hl a w F QQ hr ha hs hh;obtain rfl:=jW hl;exact wpIn_skip (hh _ _ _ _ _ [] h ha rfl hs.nomarks (.refl w))
theorem VC.exit {id:Nat}(h:Q (.exit id) Γ H):VC P n (.exit id) Γ H Q:=by
 intro ρ kp od code hl a w F QQ hr ha hs hh;obtain rfl:=jW hl;exact wpIn_exit (hh _ _ _ _ _ [] h ha rfl hs.nomarks (.refl w))
theorem VC.ret(h:Q .ret Γ H):VC P n .ret Γ H Q:=by
 intro ρ kp od code hl a w F QQ hr ha hs hh;obtain rfl:=jW hl;exact wpIn_ret (hh _ _ _ _ _ [] h ha rfl hs.nomarks (.refl w))
theorem VC.cond {c:Operand}{x y:IC}{t:Bool}(hc:ev Γ c=some (.bool t))(ht:t=true->VC P n x Γ H Q)(hf:t=false->VC P n y Γ H Q):VC P n (.cond c x y) Γ H Q:=by
 intro ρ kp od code hl a w F QQ hr ha hs hh;obtain⟨p,q,rfl,h1,h2⟩:=jW hl;exact wpIn_cond_split (ha.ev hc) (fun e=>ht e ρ kp od _ h1 a w F QQ hr ha hs hh) (fun e=>hf e ρ kp od _ h2 a w F QQ hr ha hs hh)
theorem VC.seq {x y:IC}(h:VC P n x Γ H (thenQ (fun Γ' H'=>VC P n y Γ' H' Q) Q)):VC P n (.seq x y) Γ H Q:=by
 intro ρ kp od code hl a w F QQ hr ha hs hh;obtain⟨p,q,rfl,h1,h2⟩:=jW hl;refine wpIn_seq (h ρ kp od _ h1 a w F _ hr ha hs (fun e a' w' Γ' H' X q g1 g2 g3 g4=>?_));cases e <;> first
  |exact q ρ kp od _ h2 a' w' (F++marks X) QQ (hr.more (fun x hx=>Zw _ hx)) g1 g3 (fun e a2 w2 Γ2 H2 Y q2 k1 k2 k3 k4=>hh e a2 w2 Γ2 H2 (Y++X) q2 k1 (by rw[k2,g2];simp) k3.marks (g4.trans k4))
  |exact hh _ _ _ _ _ X q g1 g2 g3 g4
theorem VC.block {id:Nat}{x:IC}(h:VC P n x Γ H (blockQ id Q)):VC P n (.block id x) Γ H Q:=by
 intro ρ kp od code hl a w F QQ hr ha hs hh;obtain⟨p,rfl,h1⟩:=jW hl;refine wpIn_block (h ρ kp od _ h1 a w F _ hr ha hs (fun e a' w' Γ' H' X q g1 g2 g3 g4=>?_));cases e <;> first
  |exact hh _ _ _ _ _ X q g1 g2 g3 g4
  |skip
 rename_i i;simp only[blockQ]at q;simp only[Exit.inBlock];split at q
 ·rename_i e;rw[if_pos e];exact hh _ _ _ _ _ X q g1 g2 g3 g4
 ·rename_i e;rw[if_neg e];exact hh _ _ _ _ _ X q g1 g2 g3 g4
theorem wy {P:Program}{b:Frame}{a:Act}{k:List Item}{cs:List Frame}{w:World}{c:Code}:step P (lone (b.atR a (.code (.scope c)::k)) cs w)=.next (lone (b.atR a (.code c:: .inScope c::k)) cs w):=
 step_lone_go (by simp[stepG,stepG.exec,Frame.atR])
theorem stepR_inScope' {P:Program}{b:Frame}{a:Act}{k:List Item}{cs:List Frame}{w:World}{c:Code}:step P (lone (b.atR a (.inScope c::k)) cs w)=.next (lone (b.atR a k) cs w):=
 step_lone_go (by simp[stepG,stepG.exec,Frame.atR])
theorem wpIn_scope' {F:Fence}{n:Nat}{P:Program}{Q:Exit->Act->World->Prop}{a:Act}{w:World}{c:Code}(h:c.wpIn F n P (fun e a w=>(∀l,e≠.goto l)/\Q e a w) a w):(Code.scope c).wpIn F n P Q a w:=by
 intro b k cs hro hb hr;have h0:(lone (b.atR a (.code (.scope c)::k)) cs w).fenced P F:=fenced_calm hb hr rfl;obtain⟨e,a₁,w₁,⟨hg,hq⟩,harr⟩:=h b (.inScope c::k) cs hro hb hr;cases e with
 |normal=>exact⟨.normal,a₁,w₁,hq,.head h0 wy (StepsIn.trans harr (.one (fenced_calm hb hr rfl) stepR_inScope'))⟩
 |exit id=>
  have hx:exitTo id (.inScope c::k)=exitTo id k:=by simp[exitTo]
  exact⟨.exit id,a₁,w₁,hq,fun k' hk=>.head h0 wy (harr.1 k' (by rw[hx];exact hk)),
   fun hr' hk=>let⟨k₁,h1,h2⟩:=harr.2 hr' (by rw[hx];exact hk);⟨k₁,h1,.head h0 wy h2⟩⟩
 |goto l=>exact absurd rfl (hg l)
 |ret=>exact⟨_,a₁,w₁,hq,.of_steps (.one h0 wy) harr⟩
 |panic ch=>exact⟨_,a₁,w₁,hq,.of_steps (.one h0 wy) harr⟩
 |outgrown=>exact⟨_,a₁,w₁,hq,.of_steps (.one h0 wy) harr⟩
theorem VC.scope {x:IC}(h:VC P n x Γ H fun e Γ' H'=>(∀l,e≠.goto l)/\Q e Γ' H'):VC P n (.scope x) Γ H Q:=by
 intro ρ kp od code hl a w F QQ hr ha hs hh;obtain⟨p,rfl,h1⟩:=jW hl;exact wpIn_scope' (h ρ kp od _ h1 a w F _ hr ha hs fun e a' w' Γ' H' X q g1 g2 g3 g4=>⟨q.1,hh _ _ _ _ _ X q.2 g1 g2 g3 g4⟩)
theorem VC.label {l:Nat}(h:Q .normal Γ H):VC P n (.label l) Γ H Q:=by
 intro ρ kp od code hl a w F QQ hr ha hs hh;obtain rfl:=jW hl;exact wpIn_label (hh _ _ _ _ _ [] h ha rfl hs.nomarks (.refl w))
theorem js {ops:Array Oper}:∀{l:List Oper} {rs:List RO},zJ P n ops l=some rs->rs.length=l.length/\∀(i:Nat) r o,rs[i]? =some r->l[i]? =some o->lowRO P n ops o=some r:=by
 intro l
 induction l with
 |nil=>intro rs h;simp[zJ]at h;subst h;simp
 |cons o l ih=>
  intro rs h;simp only[zJ]at h;split at h
  ·rename_i x l' hx hl;cases h;obtain⟨h1,h2⟩:=ih hl;refine⟨by simp[h1],fun i r o' hr ho=>?_⟩;cases i with
   |zero=>simp at hr ho;subst hr ho;exact hx
   |succ i=>simp at hr ho;exact h2 i r o' hr ho
  ·cases h
theorem wd {ops:Array Oper}{rs:List RO}(h:zJ P n ops ops.toList=some rs){i:Nat}(hi:i < ops.size):
 ops[i]? =some ((rs.zip ops.toList).getD i default).2/\((rs.zip ops.toList).getD i default).1=rs.getD i default/\lowRO P n ops ((rs.zip ops.toList).getD i default).2=some ((rs.zip ops.toList).getD i default).1:=by
 obtain⟨h1,h2⟩:=js h;have hl:i < rs.length:=by rw[h1];simpa using hi
 have hz:(rs.zip ops.toList)[i]? =some (rs[i],ops[i]):=by
  rw[Zg (by rw[List.length_zip];simp only[Array.length_toList];omega)];simp
 have he:(rs.zip ops.toList).getD i default=(rs[i],ops[i]):=by rw[V5,hz];rfl
 rw[he];refine⟨by simp[hi],by simp[V5,hl],?_⟩;exact h2 i rs[i] ops[i] (by simp[hl]) (by simp[hi])
theorem VC.reg {rs:List RO}{keep:List Nat}(h:VO P n rs Γ H (fun ch Γ' H'=>Q (.panic ch) Γ' H') fun Γ' H'=>Q .normal (restr keep Γ') H'):VC P n (.reg rs keep) Γ H Q:=by
 intro ρ kp od code hl a w F QQ hr ha hs hh;obtain⟨id,ops,rfl,h1,rfl⟩:=jW hl;refine wpIn_region ?_;refine wpR_sound (P:=P) (ρ:=ρ) (n:=n) (ops:=ops) (X:=fun i=>(rs.zip ops.toList).getD i default) (QQ:=QQ) (fun i hi=>?_) (List.range ops.size) a w (fun i hi=>by simpa using hi) ?_
 ·exact zCX
 ·have hlen:=(js h1).1;have hmap:(List.range ops.size).map (fun i=>(rs.zip ops.toList).getD i default)=rs.zip ops.toList:=by
   exact zB3
  rw[hmap];refine h (rs.zip ops.toList) ⟨?_,?_⟩ a w F _ _ ha hs (fun a' w' Γ' H' q g1 g2 g3 g4=>hh .normal a' w' _ H' [] q (g1.sub (sub_restr _ _)) g2 g3.nomarks g4) (fun ch a' w' Γ' H' q g1 g2 g3 g4=>hh (.panic ch) a' w' _ H' [] q g1 g2 g3.nomarks g4)
  ·rw[List.map_fst_zip];simp[hlen]
  ·exact zB8
theorem VC.draw {rss:List (List RO)}{keep:List Nat}(h:∀rs∈rss,VO P n rs Γ H (fun _ _ _=>False) fun Γ' H'=>Q .normal (restr keep Γ') H'):VC P n (.draw rss keep) Γ H Q:=by
 intro ρ kp od code hl a w F QQ hr ha hs hh;obtain⟨id,ops,rs,rfl,h1,hm,hc,rfl,rfl⟩:=jW hl;have hlen:=(js h1).1;refine wpIn_region_draw (fun t=>?_);have hsched:Region.schedule (P.follows .mixedOrders) ops t=jd ops ops.size t (Array.replicate ops.size false):=by simp[Region.schedule,hm,Region.linearise,jd]
 rw[hsched];have hu:unl ops (Array.replicate ops.size false)=List.range ops.size:=by
  exact zAZ
 have hback:wQ ops=true:=by
  exact zDX
 have hmem:=(sched_spec hback ops.size t (Array.replicate ops.size false) Zs (by rw[hu];simp)).2.1;refine wpR_sound (P:=P) (ρ:=ρ) (n:=n) (ops:=ops) (X:=fun i=>(rs.zip ops.toList).getD i default) (QQ:=QQ) (fun i hi=>?_) _ a _ (fun i hi=>by rw[hmem,hu]at hi;simpa using hi) ?_
 ·exact zCX
 ·refine wpR_zmono ?_;refine cover (P:=P) (n:=n) (by simp[hlen]) (fun i x hx=>?_) hc (fun o ho=>?_) t
  ·have hi2:i < (rs.zip ops.toList).length:=(Vd.1 hx).1;have hi3:i < ops.size:=by simp[hlen]at hi2;omega
   obtain⟨g1,g2,g3⟩:=wd h1 hi3;have:(rs.zip ops.toList).getD i default=x:=by rw[V5,hx];rfl
   rw[this]at g3;exact Good.of_low g3
  ·have hall:o.all (·< ops.size)=true:=by
    rcases vP.1 hc with hc|hc <;>
    ·simp only[coverG,vF,vX]at hc;have:=hc.1.2 o ho;simp only[vX];exact this.2
   have hlt:∀i∈o,i < ops.size:=by simpa[vX]using hall
   refine h (o.map fun i=>rs.getD i default) (Q9.2 ⟨o,ho,rfl⟩) _ ⟨?_,?_⟩ a {w with drawn:=w.drawn+1} F _ _ ha (hs.drawn _) (fun a' w' Γ' H' q g1 g2 g3 g4=>hh .normal a' w' _ H' [] q (g1.sub (sub_restr _ _)) g2 g3.nomarks ?_) (fun _ _ _ _ _ q=>q.elim)
   ·rw[Vz];refine Vx (fun i hi=>?_);obtain⟨g1,g2,g3⟩:=wd h1 (hlt i hi);exact g2
   ·intro x hx;obtain⟨i,hi,rfl⟩:=Q9.1 hx;obtain⟨g1,g2,g3⟩:=wd h1 (hlt i hi);exact⟨ops,g3⟩
   ·exact((kg.refl w).drawn _).trans g4
theorem VC.loop {x:IC}{α:Type}(Γf:α->Env)(Hf:α->SH)(I:α->Prop)(μ:α->Nat)(s0:α)(h0:I s0)(hΓ:Sub Γ (Γf s0))(hH:Imp H (Hf s0))
 (round:∀s,I s->VC P n x (Γf s) (Hf s) (thenQ (fun Γ' H'=>∃s',I s'/\μ s' < μ s/\Sub Γ' (Γf s')/\Imp H' (Hf s')) Q)):VC P n (.loop x) Γ H Q:=by
 intro ρ kp od code hl a w F QQ hr ha hs hh;obtain⟨body,rfl,h1⟩:=jW hl;intro b k cs hro hfn hroom;have key:∀m s X,μ s=m->I s->∀a1 w1,jn n (Γf s) a1->a1.defers=X.map coll++a.defers->Sat w1 ((Hf s).flatten++(F++marks X))->kg w w1->
  ∃e a' w',QQ e a' w'/\ArrivesIn (Machine.fenced P (VFc ρ)) P (lone (b.atR a1 (.code body:: .inLoop body::k)) cs w1) b k cs e a' w':=by
  intro m
  induction m using Nat.strongRecOn with
  |_ m ih=>
   intro s X hm hI a1 w1 ha1 hd1 hs1 hk1;have hrd:=round s hI ρ kp od body h1 a1 w1 (F++marks X) (Exit.then (fun a' w'=>∃s' Y,I s'/\μ s' < μ s/\jn n (Γf s') a'/\a'.defers=(Y++X).map coll++a.defers/\Sat w' ((Hf s').flatten++(F++marks (Y++X)))/\kg w w') QQ) (hr.more (fun x hx=>Zw _ hx)) ha1 hs1 (fun e a' w' Γ' H' Y q g1 g2 g3 g4=>by
    cases e <;> first
     |(obtain⟨s',i1,i2,i3,i4⟩:=q;exact⟨s',Y,i1,i2,g1.sub i3,by rw[g2,hd1];simp,(g3.imp i4).marks,hk1.trans g4⟩)
     |exact hh _ _ _ _ _ (Y++X) q g1 (by rw[g2,hd1];simp) g3.marks (hk1.trans g4))
   obtain⟨e,a2,w2,hq,harr⟩:=hrd b (.inLoop body::k) cs hro hfn hroom;cases e with
   |normal=>
    obtain⟨s',Y,i1,i2,i3,i3',i4,i5⟩:=hq;obtain⟨e2,a3,w3,hq2,harr2⟩:=ih (μ s') (hm ▸ i2) s' (Y++X) rfl i1 a2 w2 i3 i3' i4 i5;exact⟨e2,a3,w3,hq2,.of_steps (StepsIn.trans harr (.one (fenced_calm (n:=0) (fr:=b.atR a2 (.inLoop body::k)) hfn hroom rfl) stepR_inLoop)) harr2⟩
   |exit id=>exact⟨_,a2,w2,hq,.pass (x:=.inLoop body) rfl (fun _ _=>.inl Zs) harr⟩
   |goto l=>exact⟨_,a2,w2,hq,.pass (x:=.inLoop body) rfl (fun _ _=>.inl Zs) harr⟩
   |ret=>exact⟨_,a2,w2,hq,.pass (x:=.inLoop body) rfl (fun _ _=>.inl Zs) harr⟩
   |panic ch=>exact⟨_,a2,w2,hq,.pass (x:=.inLoop body) rfl (fun _ _=>.inl Zs) harr⟩
   |outgrown=>exact⟨_,a2,w2,hq,.pass (x:=.inLoop body) rfl (fun _ _=>.inl Zs) harr⟩
 obtain⟨e,a',w',hq,harr⟩:=key _ s0 [] rfl h0 a w (ha.sub hΓ) rfl (hs.imp hH).nomarks (.refl w);exact⟨e,a',w',hq,.of_steps (.one (fenced_calm (n:=0) (fr:=b.atR a (.code (.loop body)::k)) hfn hroom rfl) stepR_loop) harr⟩
theorem VC.join {x y:IC}{α:Type}(Γf:α->Env)(Hf:α->SH)(I:α->Prop)(h1:VC P n x Γ H (thenQ (fun Γ' H'=>∃s,I s/\Sub Γ' (Γf s)/\Imp H' (Hf s)) Q))
 (h2:∀s,I s->VC P n y (Γf s) (Hf s) Q):VC P n (.seq x y) Γ H Q:=by
 refine VC.seq (h1.mono ?_);intro e Γ' H' q;cases e <;> first
  |(obtain⟨s,i1,i2,i3⟩:=q;exact VC.sub i2 (VC.imp i3 (h2 s i1)))
  |exact q
end
def kQ {α:Type}(l:List (Nat×List α))(i:Nat):List α:=match l with
 |[]=>[]
 |(k,v)::r=>if k=i then v else kQ r i
def rep(n:Nat)(l:List Value):List Value:=match n with
 |0=>[]
 |n+1=>l++rep n l
inductive RV where
 |tmp (t:Nat)
 |cell1 (t:Nat)
 |cellN (t n:Nat)
structure FIR where
 n:Nat
 res:List RV
 body:IC
def wY(P:Program):List ResultVar->Option (List RV)
 |[]=>some []
 |.tmp t::r=>(wY P r).map (.tmp t::·)
 |.cell a t::r=>match P.underlying t,P.info? t with
  |some (.struct _),some i=>(wY P r).map (.cellN a i.size::·)
  |some (.array _ _),some i=>(wY P r).map (.cellN a i.size::·)
  |some _,some _=>(wY P r).map (.cell1 a::·)
  |_,_=>none
def ki(P:Program)(kp:Nat->List Nat)(od:Nat->List (List Nat))(f:Nat):Option FIR:=
 match P.funcs[f]? with
 |none=>none
 |some fn=>match fn.body with
  |none=>none
  | some c => if fn.name != "runtime.NumGoroutine" then
     match wU P fn.ntmps kp od c,wY P fn.results.toList with
     |some b,some r=>some ⟨fn.ntmps,r,b⟩
     |_,_=>none
    else none
def argsEnv:Nat->List Value->Env
 |_,[]=>[]
 |k,v::r=>(k,v)::argsEnv (k+1) r
def tup:List Value->Value
 |[v]=>v
 |vs=>.tuple vs.toArray
inductive Res (Γ:Env)(H:SH):List RV->List Value->Prop where
 |nil:Res Γ H [] []
 |tmp {t:Nat} {v:Value} {r:List RV} {vs:List Value}:look Γ t=some v->Res Γ H r vs->Res Γ H (.tmp t::r) (v::vs)
 |cell1 {t b o:Nat} {v:Value} {r:List RV} {vs:List Value}:look Γ t=some (.pointer (some ⟨b,o,none⟩))->kC.cell b o v∈H.flatten->Res Γ H r vs->Res Γ H (.cell1 t::r) (v::vs)
 |cellN {t b o n:Nat} {us:List Value} {r:List RV} {vs:List Value}:look Γ t=some (.pointer (some ⟨b,o,none⟩))->us.length=n->(∀x∈kA b o us,x∈H.flatten)->Res Γ H r vs->Res Γ H (.cellN t n::r) (.agg us.toArray::vs)
def endQ(res:List RV)(Q:Value->SH->Prop):Exit->Env->SH->Prop:=fun e Γ H=>(e=.normal∨e=.ret)/\∃vs Post,Res Γ H res vs/\Imp H Post/\Q (tup vs) Post
theorem look_argsEnv:∀{vs:List Value} {k t:Nat} {v:Value},look (argsEnv k vs) t=some v->k<=t/\vs[t - k]? =some v:=by
 intro vs
 induction vs with
 |nil=>intro k t v h;simp[argsEnv,look]at h
 |cons u r ih=>
  intro k t v h;simp only[argsEnv,look]at h;split at h
  ·rename_i e;subst e;cases h;simp
  ·obtain⟨h1,h2⟩:=ih h;refine⟨Zo,?_⟩;have:t - k=(t - (k+1))+1:=by omega
   rw[this];simpa using h2
theorem loadFrom_same {P:Program}{b o:Nat}:∀(k i:Nat) (acc:Array Value) (w1:World) (r:Array Value) (w2:World),(loadCellsFrom ⟨b,o,none⟩ i k acc).run P w1=.ok r w2->w2=w1:=by
 exact zB5
theorem run_loadCells {P:Program}{b o m:Nat}{us:List Value}{H:List kC}{F:List kC}{w:World}(hn:us.length=m)(hm:∀x∈kA b o us,x∈H)(hs:Sat w (H++F)):
 (loadCells ⟨b,o,none⟩ m).run P w=.ok us.toArray w:=by
 have hsw:SWP P (loadCells ⟨b,o,none⟩ m) H (fun r L=>r=us.toArray/\L=H):=SWP.loadCells hn hm ⟨rfl,rfl⟩;obtain⟨r,w',L,h1,⟨rfl,rfl⟩,h3,h4⟩:=hsw F w hs;obtain rfl:=loadFrom_same _ _ _ _ _ _ h1;exact h1
theorem run_results {P:Program}{fn:Func}{r:List RV}{a:Act}{n:Nat}{Γ:Env}{vs:List Value}{w:World}{H:SH}{F:List kC}(hs:Sat w (H.flatten++F))(hr:wY P fn.results.toList=some r)(ha:jn n Γ a)(hv:Res Γ H r vs):
 (results fn a.tmps).run P w=.ok (tup vs) w:=by
 have key:∀(l:List ResultVar) (r:List RV) (vs:List Value) (f:ResultVar->Sem Value),(∀t,f (.tmp t)=pure (a.tmps.getD t undef))->(∀x t,f (.cell x t)=(do loadVar t (<- asAddr (a.tmps.getD x undef))))->
  wY P l=some r->Res Γ H r vs->(l.mapM f).run P w=.ok vs w:=by
  intro l
  induction l with
  |nil=>intro r vs f _ _ h1 h2;simp[wY]at h1;subst h1;cases h2;simp
  |cons x l ih=>
   intro r vs f hf hf2 h1 h2;cases x with
   |cell x t=>
    simp only[wY]at h1;have slot:∀{v},look Γ x=some v->a.tmps.getD x undef=v:=fun h=>by simp[Array.getD_eq_getD_getElem?,ha.slots x _ h]
    split at h1
    ·exact zBH
    ·exact zBH
    ·rename_i d j g1 g2 hu hj;simp only[Qk]at h1;obtain⟨r',h3,rfl⟩:=h1;have hag:(isAgg t).run P w=.ok false w:=by rw[isAgg_of hu];cases d <;> simp_all
     cases h2 with
     |cell1 k1 k2 k4=>
      have hc:=(hs.cell (Zw F k2)).1;simp only[List.mapM_cons,Sem.run_bind,hf2,slot k1,asAddr,Sem.run_pure,Result.andThen_ok,loadVar,hag,vI,if_false,run_load,hc,ih r' _ f hf hf2 h3 k4]
    ·cases h1
   |tmp t=>
    simp only[wY,Qk]at h1;obtain⟨r',h3,rfl⟩:=h1;cases h2 with
    |tmp k1 k2=>
     rename_i v0 _;have hslot:a.tmps.getD t undef=v0:=by simp[Array.getD_eq_getD_getElem?,ha.slots t _ k1]
     simp only[List.mapM_cons,Sem.run_bind,hf,Sem.run_pure,Result.andThen_ok,ih r' _ f hf hf2 h3 k2,hslot]
 unfold results;simp only[Sem.run_bind];rw[Array.mapM_eq_mapM_toList];simp only[Sem.run_map];rw[key fn.results.toList r vs _ (fun t=>rfl) (fun x t=>rfl) hr hv];cases vs with
 |nil=>simp[tup]
 |cons v l=>cases l <;> simp[tup]
theorem Fun.intro {P:Program}{kp:Nat->List Nat}{od:Nat->List (List Nat)}{f:Nat}{F:FIR}{args:List Value}{Pre:SH}{Q:Value->SH->Prop}(hl:ki P kp od f=some F)(hn:args.length<=F.n)
 (h:VC P F.n F.body (argsEnv 0 args) Pre (endQ F.res Q)):Fun P f args Pre Q:=by
 unfold ki at hl;split at hl
 ·cases hl
 rename_i fn hfn;split at hl
 ·cases hl
 rename_i c hc;split at hl
 case isFalse=>cases hl
 rename_i hname;split at hl
 case h_2=>cases hl
 rename_i b r hb hr;cases hl;refine⟨by simp only[ji,hfn,hname,hc];rfl,fun FF w hs=>?_⟩;refine(callsIn_wide (n:=0)).1 (callsIn_of_wp_marks hfn hc trivial (h none kp od c hb _ w FF _ (fun l e=>by cases e) ⟨?_,fun t v e=>?_⟩ hs (fun e a' w' Γ' H' X q g1 g2 g3 g4=>?_)))
 ·simp at hn|-;omega
 ·exact zAQ
 ·obtain⟨he,vs,Post,h1,h2,h3⟩:=q;have hb:LeavesInM (VFc none) 0 P fn a'.tmps (fun e w'=>∃v Post,e=.returned v/\Q v Post/\Sat w' (Post.flatten++FF)/\kg w w') a'.defers .returning w':=by
   rw[g2,vd];clear g2
   induction X generalizing w' with
   |nil=>
    have g3':Sat w' (H'.flatten++FF):=by simpa[V.marks]using g3
    exact⟨_,run_results g3' hr g1 h1,_,Post,rfl,h3,g3'.imp h2,g4⟩
   |cons r X ih=>
    have hp:(H'.flatten++(FF++V.marks (r::X))).Perm (.obj r (.deferred (some []))::(H'.flatten++(FF++V.marks X))):=by
     exact zCB
    have g5:=g3.perm hp;obtain⟨k1,k2⟩:=g5.obj (Q6 ..);obtain⟨s1,s2⟩:=Sat.setObj (u:=.deferred none) g5 rfl;refine⟨Zs,.inl ⟨r,_,rfl,?_,ih _ (s1.sub (QN ..)) (g4.trans s2)⟩⟩;exact zDV
  rcases he with rfl|rfl <;> exact hb
theorem Fun.mono {P:Program}{f:Nat}{args:List Value}{Pre:SH}{Q Q':Value->SH->Prop}(h:Fun P f args Pre Q)(hq:∀v Post,Q v Post->Q' v Post):Fun P f args Pre Q':=
 ⟨h.1,fun F w hs=>(h.2 F w hs).mono fun _ _ ⟨v,Post,a,b,c⟩=>⟨v,Post,a,hq _ _ b,c⟩⟩
end Go.V
namespace Go.V
open Go
inductive Tk:SH->List kC->SH->Prop where
 |here {A:List kC} {L:SH}:Tk (A::L) A L
 |there {A B:List kC} {L R:SH}:Tk L A R->Tk (B::L) A (B::R)
theorem z4(A B X:List kC):(A++(B++X)).Perm (B++(A++X)):=by
 exact zAS
theorem Tk.perm {L R:SH}{A:List kC}(h:Tk L A R):L.flatten.Perm (A++R.flatten):=by
 induction h with
 |here=>simp
 |there _ ih=>
  simp only[vz];refine(vU _ ih).trans ?_;exact zAS
theorem Spl.nil {H:SH}:Spl H [] H:=by simp[Spl]
theorem Spl.cons {H R R' Pre:SH}{A:List kC}(h:Tk H A R)(k:Spl R Pre R'):Spl H (A::Pre) R':=by
 simp only[Spl,vz,vZ];exact h.perm.trans (vU _ k)
theorem Imp.nil {H:SH}:Imp H []:=⟨H,by simp[Spl]⟩
theorem Imp.cons {H R Δ:SH}{A:List kC}(h:Tk H A R)(k:Imp R Δ):Imp H (A::Δ):=by
 obtain⟨X,hX⟩:=k;refine⟨X,?_⟩;simp only[Spl,vz,vZ];exact h.perm.trans (vU _ hX)
theorem Sub.nil {Γ:Env}:Sub Γ []:=fun t v h=>by simp[look]at h
theorem Sub.cons {Γ Δ:Env}{t:Nat}{v:Value}(h:look Γ t=some v)(k:Sub Γ Δ):Sub Γ ((t,v)::Δ):=fun s u e=>by
 simp only[look]at e;split at e
 ·rename_i es;subst es;cases e;exact h
 ·exact k s u e
theorem Sub.refl {Γ:Env}:Sub Γ Γ:=fun _ _ h=>h
inductive Has:SH->Nat->Nat->Value->Prop where
 |cells {b o k:Nat} {vs:List Value} {v:Value} {L:SH}:o<=k->vs[k - o]? =some v->Has (kA b o vs::L) b k v
 |there {A:List kC} {L:SH} {b k:Nat} {v:Value}:Has L b k v->Has (A::L) b k v
 |among {A:List kC} {L:SH} {b k:Nat} {v:Value}:kC.cell b k v∈A->Has (A::L) b k v
theorem Has.mem {H:SH}{b k:Nat}{v:Value}(h:Has H b k v):kC.cell b k v∈H.flatten:=by
 induction h with
 |cells h1 h2=>
  simp only[vz,Q1];left;exact kI.2 ⟨_,_,h2,by congr 1;omega⟩
 |there _ ih=>simp only[vz,Q1];exact .inr ih
 |among h=>simp only[vz,Q1];exact .inl h
inductive HasN:SH->Nat->Nat->List Value->Prop where
 |cells {b o k n:Nat} {vs us:List Value} {L:SH}:o<=k->(vs.drop (k - o)).take us.length=us->us.length=n->HasN (kA b o vs::L) b k us
 |there {A:List kC} {L:SH} {b k:Nat} {us:List Value}:HasN L b k us->HasN (A::L) b k us
theorem HasN.mem {H:SH}{b k:Nat}{us:List Value}(h:HasN H b k us):∀x∈kA b k us,x∈H.flatten:=by
 induction h with
 |cells h1 h2 _=>
  intro x hx;obtain⟨i,v,hi,rfl⟩:=kI.1 hx;simp only[vz,Q1];left;rw[<- h2]at hi;simp only[List.getElem?_take,Va]at hi;split at hi
  ·exact kI.2 ⟨_,v,hi,by congr 1;omega⟩
  ·cases hi
 |there _ ih=>intro x hx;simp only[vz,Q1];exact .inr (ih x hx)
def evD(Γ:Env)(x:Operand):Value:=(ev Γ x).getD undef
def known(Γ:Env)(x:Operand):Bool:=(ev Γ x).isSome
theorem evD_of {Γ:Env}{x:Operand}{ρ:Operand->Value}(h:known Γ x=true)(hρ:∀x u,ev Γ x=some u->ρ x=u):ρ x=evD Γ x:=by
 obtain⟨u,hu⟩:=Qj.1 h;simp[evD,hu,hρ _ _ hu]
def ptr(b o:Nat):Value:=.pointer (some ⟨b,o,none⟩)
section
variable {P:Program} {n:Nat} {rs:List RO} {Γ Δ:Env} {H:SH} {Z:List PanicEntry->Env->SH->Prop} {K:Env->SH->Prop} {d:Option Nat} {g:Option (Nat×Bool)}
theorem st_pure {r:R}{v:Value}(hp:kY r=true)(hk:(rOps r).all (known Γ)=true)(hv:kS (evD Γ) r=some v)(h:VO P n rs (putE d v Γ) H Z K):VO P n (⟨d,none,r⟩::rs) Γ H Z K:=
 VO.pure hp (fun ρ hρ=>by
  rw[<- hv];exact pureV_congr hp (fun x hx=>evD_of (vX.1 hk x hx) hρ)) h
theorem st_mv {x:Operand}{v:Value}(hx:ev Γ x=some v)(h:VO P n rs (putE d v Γ) H Z K):VO P n (⟨d,none,.mv x⟩::rs) Γ H Z K:=
 VO.pure rfl (fun ρ hρ=>by simp[kS,hρ _ _ hx]) h
theorem st_fld {off:Nat}{x:Operand}{b o o':Nat}(hx:ev Γ x=some (.pointer (some ⟨b,o,none⟩)))(ho:o+off=o')(h:VO P n rs (putE d (.pointer (some ⟨b,o',none⟩)) Γ) H Z K):VO P n (⟨d,none,.fld off x⟩::rs) Γ H Z K:=
 VO.pure rfl (fun ρ hρ=>by simp[kS,hρ _ _ hx,ho]) h
theorem st_nil {x:Operand}{a:Addr}(hx:ev Γ x=some (.pointer (some a)))(h:VO P n rs (putE d (.pointer (some a)) Γ) H Z K):VO P n (⟨d,none,.nilck x⟩::rs) Γ H Z K:=
 VO.pure rfl (fun ρ hρ=>by simp[kS,hρ _ _ hx]) h
theorem wrap64 {z:Int}(h:-9223372036854775808<=z/\z<=9223372036854775807):IntKind.i64.wrap z=z:=by
 exact zDI
theorem st_add {x y:Operand}{a b:Int}(hx:ev Γ x=some (.int .i64 a))(hy:ev Γ y=some (.int .i64 b))(hr:-9223372036854775808<=a+b/\a+b<=9223372036854775807)(h:VO P n rs (putE d (.int .i64 (a+b)) Γ) H Z K):
 VO P n (⟨d,none,.bin .add x y⟩::rs) Γ H Z K:=
 VO.pure rfl (fun ρ hρ=>by simp[kS,hρ _ _ hx,hρ _ _ hy,zQ,intV,wrap64 hr]) h
theorem st_sub {x y:Operand}{a b:Int}(hx:ev Γ x=some (.int .i64 a))(hy:ev Γ y=some (.int .i64 b))(hr:-9223372036854775808<=a - b/\a - b<=9223372036854775807)(h:VO P n rs (putE d (.int .i64 (a - b)) Γ) H Z K):
 VO P n (⟨d,none,.bin .sub x y⟩::rs) Γ H Z K:=
 VO.pure rfl (fun ρ hρ=>by simp[kS,hρ _ _ hx,hρ _ _ hy,zQ,intV,wrap64 hr]) h
theorem st_mul {x y:Operand}{a b:Int}(hx:ev Γ x=some (.int .i64 a))(hy:ev Γ y=some (.int .i64 b))(hr:-9223372036854775808<=a*b/\a*b<=9223372036854775807)(h:VO P n rs (putE d (.int .i64 (a*b)) Γ) H Z K):
 VO P n (⟨d,none,.bin .mul x y⟩::rs) Γ H Z K:=
 VO.pure rfl (fun ρ hρ=>by simp[kS,hρ _ _ hx,hρ _ _ hy,zQ,intV,wrap64 hr]) h
theorem st_rem {x y:Operand}{k:IntKind}{a b:Int}(hx:ev Γ x=some (.int k a))(hy:ev Γ y=some (.int k b))(hr:b≠0)(h:VO P n rs (putE d (.int k (a.tmod b)) Γ) H Z K):
 VO P n (⟨d,none,.bin .rem x y⟩::rs) Γ H Z K:=
 VO.pure rfl (fun ρ hρ=>by simp[kS,hρ _ _ hx,hρ _ _ hy,zQ,intV,hr]) h
theorem st_conv {k k':IntKind}{x:Operand}{a b:Int}(hx:ev Γ x=some (.int k' a))(hr:k.wrap a=b)(h:VO P n rs (putE d (.int k b) Γ) H Z K):VO P n (⟨d,none,.conv k x⟩::rs) Γ H Z K:=
 VO.pure rfl (fun ρ hρ=>by simp[kS,hρ _ _ hx,hr]) h
theorem st_idxL {size:Nat}{x i:Operand}{b o o' len cap:Nat}{k:IntKind}{m:Int}(hx:ev Γ x=some (.slice (some ⟨b,o,none⟩) len cap))(hi:ev Γ i=some (.int k m))(hb:0<=m/\m < len)
 (ho:o+m.toNat*size=o') (h:VO P n rs (putE d (.pointer (some ⟨b,o',none⟩)) Γ) H Z K):VO P n (⟨d,none,.idxL size x i⟩::rs) Γ H Z K:=
 VO.pure rfl (fun ρ hρ=>by simp[kS,hρ _ _ hx,hρ _ _ hi,hb,ho]) h
theorem st_idxA {len size:Nat}{x i:Operand}{b o o':Nat}{k:IntKind}{m:Int}(hx:ev Γ x=some (.pointer (some ⟨b,o,none⟩)))(hi:ev Γ i=some (.int k m))(hb:0<=m/\m < len)
 (ho:o+m.toNat*size=o') (h:VO P n rs (putE d (.pointer (some ⟨b,o',none⟩)) Γ) H Z K):VO P n (⟨d,none,.idxA len size x i⟩::rs) Γ H Z K:=
 VO.pure rfl (fun ρ hρ=>by simp[kS,hρ _ _ hx,hρ _ _ hi,hb,ho]) h
theorem st_idxS {x i:Operand}{s:ByteArray}{k:IntKind}{m:Int}{j:Nat}{c:UInt8}(hx:ev Γ x=some (.string s))(hi:ev Γ i=some (.int k m))(hm:m=(j:Int))(hc:s[j]? =some c)
 (h:VO P n rs (putE d (.int .u8 c.toNat) Γ) H Z K):VO P n (⟨d,none,.idxS x i⟩::rs) Γ H Z K:=
 VO.pure rfl (fun ρ hρ=>by subst hm;simp[kS,hρ _ _ hx,hρ _ _ hi,hc]) h
theorem st_pick_t {c a b:Operand}{v:Value}(hc:ev Γ c=some (.bool true))(ha:ev Γ a=some v)(h:VO P n rs (putE d v Γ) H Z K):VO P n (⟨d,none,.pick c a b⟩::rs) Γ H Z K:=
 VO.pure rfl (fun ρ hρ=>by simp[kS,hρ _ _ hc,hρ _ _ ha]) h
theorem st_pick_f {c a b:Operand}{v:Value}(hc:ev Γ c=some (.bool false))(hb:ev Γ b=some v)(h:VO P n rs (putE d v Γ) H Z K):VO P n (⟨d,none,.pick c a b⟩::rs) Γ H Z K:=
 VO.pure rfl (fun ρ hρ=>by simp[kS,hρ _ _ hc,hρ _ _ hb]) h
theorem st_case {s:Nat}{c:Bool}(hs:look Γ s=some (.bool c))(ht:c=true->VO P n rs ((s,.bool true)::Γ) H Z K)(hf:c=false->VO P n rs ((s,.bool false)::Γ) H Z K):VO P n rs Γ H Z K:=by
 cases c with
 |true=>exact VO.sub (Sub.cons hs Sub.refl) (ht rfl)
 |false=>exact VO.sub (Sub.cons hs Sub.refl) (hf rfl)
theorem st_gt {r:R}{s:Nat}{b:Bool}(hs:look Γ s=some (.bool b))(h:VO P n (⟨d,none,r⟩::rs) Γ H Z K):VO P n (⟨d,some (s,b),r⟩::rs) Γ H Z K:=by
 intro l hl a w F ZZ Q ha hsat hq hz;obtain⟨o,l',rfl,hl',ops,ho⟩:=wp hl;obtain⟨g1,g2,g3,g4⟩:=jE ho;have hw:j8 (some (s,b)) a=true:=by simp[j8,ha.slots _ _ hs]
 have:=h ((⟨d,none,r⟩,{o with guard:=none})::l') ⟨by simp[hl'.1],fun x hx=>by
  rcases Q4.1 hx with rfl|hx
  ·refine⟨ops,?_⟩;have hd:o.dst.all (fun x=>decide (x < n))=true:=by
    rw[<- g2];cases hdd:d with
    |none=>rfl
    |some t=>have:=g3 t hdd;simpa using this
   simp only at g2 g1;simp[lowRO,g1,hd,g2]
  ·exact hl'.2 x hx⟩ a w F ZZ Q ha hsat hq hz
 have hself:jq P ZZ (⟨d,none,r⟩,{o with guard:=none}) (wpR P ZZ Q l') a w:=this;show jq P ZZ (⟨d,some (s,b),r⟩,o) (wpR P ZZ Q l') a w;unfold jq at hself|-;rw[if_pos (show j8 _ a=true from hw)];rw[if_pos (show j8 none a=true from rfl)]at hself;exact hself
theorem st_gf {r:R}{s:Nat}{b c:Bool}(hs:look Γ s=some (.bool c))(hc:(c==b)=false)(h:VO P n rs (putE d undef Γ) H Z K):VO P n (⟨d,some (s,b),r⟩::rs) Γ H Z K:=by
 intro l hl a w F ZZ Q ha hsat hq hz;obtain⟨o,l',rfl,hl',ops,ho⟩:=wp hl;obtain⟨g1,g2,g3,g4⟩:=jE ho;have hw:j8 (some (s,b)) a=false:=by simpa[j8,ha.slots _ _ hs]using hc
 exact zBB
theorem wL {x:Operand}{b o:Nat}{v:Value}(hx:ev Γ x=some (.pointer (some ⟨b,o,none⟩)))(hm:Has H b o v)(h:VO P n rs (putE d v Γ) H Z K):VO P n (⟨d,none,.load1 x⟩::rs) Γ H Z K:=
 VO.read rfl rfl (fun ρ hρ=>⟨_,rfl,fun F w hs=>by
  have:=(hs.cell (Zw F hm.mem)).1;simp[hρ _ _ hx,Instr.sureAddr,this]⟩) h
theorem st_loadN {m:Nat}{x:Operand}{b o:Nat}{us:List Value}(hx:ev Γ x=some (.pointer (some ⟨b,o,none⟩)))(hm:HasN H b o us)(hn:us.length=m)(h:VO P n rs (putE d (.agg us.toArray) Γ) H Z K):VO P n (⟨d,none,.loadN m x⟩::rs) Γ H Z K:=
 VO.read rfl rfl (fun ρ hρ=>⟨_,rfl,fun F w hs=>by
  simp[hρ _ _ hx,Instr.sureAddr,run_loadCells hn hm.mem hs]⟩) h
inductive Upd:SH->Nat->Nat->List Value->SH->Prop where
 |cells {b o k:Nat} {vs us ws:List Value} {L:SH}:o<=k->k - o+us.length<=vs.length->vs.take (k - o)++us++vs.drop (k - o+us.length)=ws->Upd (kA b o vs::L) b k us (kA b o ws::L)
 |there {A:List kC} {L L':SH} {b k:Nat} {us:List Value}:Upd L b k us L'->Upd (A::L) b k us (A::L')
theorem Upd.split {H H':SH}{b k:Nat}{us:List Value}(h:Upd H b k us H'):∃(old:List Value) (R:List kC),old.length=us.length/\H.flatten.Perm (kA b k old++R)/\H'.flatten.Perm (kA b k us++R):=by
 induction h with
 |@cells b o k vs us ws L h1 h2 h3=>
  subst h3;have hvs:vs=vs.take (k - o)++((vs.drop (k - o)).take us.length++vs.drop (k - o+us.length)):=by
   rw[<- List.drop_drop,QP,QP]
  have hl:(vs.take (k - o)).length=k - o:=by simp;omega
  have hl2:((vs.drop (k - o)).take us.length).length=us.length:=by simp;omega
  have hk:o+(k - o)=k:=by omega
  refine⟨(vs.drop (k - o)).take us.length,kA b o (vs.take (k - o))++(kA b (k+us.length) (vs.drop (k - o+us.length))++L.flatten),hl2,?_,?_⟩
  ·have e:kA b o vs=kA b o (vs.take (k - o))++(kA b k ((vs.drop (k - o)).take us.length)++kA b (k+us.length) (vs.drop (k - o+us.length))):=by
    conv=>lhs;rw[hvs]
    rw[ku,hl,hk,ku,hl2]
   simp only[vz,e,vZ];exact z4 _ _ _
  ·simp only[vz,ku,hl,hk,vZ];exact z4 _ _ _
 |@there A L L' b k us _ ih=>
  obtain⟨old,R,h1,h2,h3⟩:=ih;refine⟨old,A++R,h1,?_,?_⟩
  ·simp only[vz];refine(vU A h2).trans ?_;exact zAS
  ·simp only[vz];refine(vU A h3).trans ?_;exact zAS
theorem st_store {m:Nat}{x y:Operand}{b o:Nat}{v:Value}{H':SH}(hx:ev Γ x=some (.pointer (some ⟨b,o,none⟩)))(hy:ev Γ y=some v)(hn:v.cells.size=m)(hone:v.cells.toList.all jc=true)
 (hu:Upd H b o v.cells.toList H') (h:VO P n rs (putE d undef Γ) H' Z K):VO P n (⟨d,none,.store m x y⟩::rs) Γ H Z K:=by
 refine VO.act rfl rfl (fun ρ hρ=>⟨_,rfl,?_⟩);obtain⟨old,R,h1,h2,h3⟩:=hu.split;refine SWP.perm h2 ?_;have hρy:ρ y=v:=hρ _ _ hy;have:=mem_store (P:=P) (ρ:=ρ) (n:=m) (x:=x) (v:=y) (us:=old) (R:=R) (b:=b) (o:=o) (K:=fun nx L=>∃v H',(nx=.value v∨(nx=.skip/\v=undef))/\L.Perm H'.flatten/\VO P n rs (putE d v Γ) H' Z K)
  (hρ _ _ hx) (by rw[hρy];exact hn) (by rw[h1];simpa using hn) (by rw[hρy];exact vX.1 hone) ⟨undef,H',.inr ⟨rfl,rfl⟩,by rw[hρy];exact h3.symm,h⟩
 exact this
theorem st_store' {m:Nat}{x y:Operand}{b o:Nat}{v:Value}{us:List Value}{H':SH}(hx:ev Γ x=some (.pointer (some ⟨b,o,none⟩)))(hy:ev Γ y=some v)(hv:v.cells.toList=us)(hn:us.length=m)(hone:us.all jc=true)
 (hu:Upd H b o us H') (h:VO P n rs (putE d undef Γ) H' Z K):VO P n (⟨d,none,.store m x y⟩::rs) Γ H Z K:=by
 subst hv;exact st_store hx hy (by simpa using hn) hone hu h
theorem st_build {z:List Value}{ps:List (Nat×Nat×Operand)}{out:List Value}(hk:(ps.map (·.2.2)).all (known Γ)=true)(ho:jT z (jP (evD Γ) ps)=some out)
 (h:VO P n rs (putE d (.agg out.toArray) Γ) H Z K):VO P n (⟨d,none,.build z ps⟩::rs) Γ H Z K:=by
 refine VO.pure rfl (fun ρ hρ=>?_) h;have:jP ρ ps=jP (evD Γ) ps:=by
  exact zCN
 simp[kS,this,ho]
theorem kd {t:TypeId}{x:Operand}{v:Value}(hx:ev Γ x=some v)(h:∀b,VO P n rs (putE d (.pointer (some ⟨b,0,none⟩)) Γ) (kA b 0 v.cells.toList::H) Z K):VO P n (⟨d,none,.box t x⟩::rs) Γ H Z K:=by
 refine VO.act rfl rfl (fun ρ hρ=>⟨_,rfl,?_⟩);refine mem_new (fun b=>⟨_,_,.inl rfl,?_,h b⟩);rw[hρ _ _ hx];simp
theorem kL {t:TypeId}{z:List Value}(h:∀b,VO P n rs (putE d (.pointer (some ⟨b,0,none⟩)) Γ) (kA b 0 z::H) Z K):VO P n (⟨d,none,.alloc t z⟩::rs) Γ H Z K:=by
 refine VO.act rfl rfl (fun ρ hρ=>⟨_,rfl,?_⟩);exact zDW
theorem st_mkmap(h:∀b,VO P n rs (putE d (.map (some b)) Γ) ([.obj b (.map #[] 0)]::H) Z K):VO P n (⟨d,none,.mkmap⟩::rs) Γ H Z K:=by
 refine VO.act rfl rfl (fun ρ hρ=>⟨_,rfl,?_⟩);refine mem_newObj rfl (fun b=>⟨_,_,.inl rfl,?_,h b⟩);simp
theorem st_mkslice {t:TypeId}{size bytes:Nat}{z:List Value}{l c:Operand}{kl kc:IntKind}{li ci:Int}(hl:ev Γ l=some (.int kl li))(hc:ev Γ c=some (.int kc ci))(hb:0<=li/\li<=ci/\ci<=9223372036854775807/\bytes*ci<=2 ^ 48)
 (hz:z.length=size) (h:∀b,VO P n rs (putE d (.slice (some ⟨b,0,none⟩) li.toNat ci.toNat) Γ) (kA b 0 (kf ci.toNat z)::H) Z K):VO P n (⟨d,none,.mkslice t size bytes z l c⟩::rs) Γ H Z K:=by
 refine VO.act rfl rfl (fun ρ hρ=>⟨_,rfl,?_⟩);rw[hρ _ _ hl,hρ _ _ hc];simp only[hb,hz,and_self,if_true];exact zDW
theorem j9 {t:TypeId}{len:Nat}{z:List Value}{ps:List (Nat×Nat×Operand)}{out:List Value}(hk:(ps.map (·.2.2)).all (known Γ)=true)(ho:jT (kf len z) (jP (evD Γ) ps)=some out)
 (h:∀b,VO P n rs (putE d (.slice (some ⟨b,0,none⟩) len len) Γ) (kA b 0 out::H) Z K):VO P n (⟨d,none,.bslice t len z ps⟩::rs) Γ H Z K:=by
 refine VO.act rfl rfl (fun ρ hρ=>⟨_,rfl,?_⟩);have:jP ρ ps=jP (evD Γ) ps:=by
  exact zCN
 rw[this,ho];exact zDW
theorem kM {f:Nat}{xs:List Operand}{args:List Value}{Pre R:SH}{Q:Value->SH->Prop}(hf:Fun P f args Pre Q)(he:evs Γ xs=some args)(hs:Spl H Pre R)
 (h:∀v Post,Q v Post->VO P n rs (putE d v Γ) (Post++R) Z K):VO P n (⟨d,none,.call f xs⟩::rs) Γ H Z K:=VO.call hf he hs h
variable {Q:Exit->Env->SH->Prop} {keep:List Nat}
theorem VC.draw1(h:VO P n rs Γ H (fun _ _ _=>False) fun Γ' H'=>Q .normal (restr keep Γ') H'):VC P n (.draw [rs] keep) Γ H Q:=VC.draw (by simpa using h)
theorem VC.seq_reg {y:IC}(h:VO P n rs Γ H (fun ch Γ' H'=>Q (.panic ch) Γ' H') fun Γ' H'=>VC P n y (restr keep Γ') H' Q):VC P n (.seq (.reg rs keep) y) Γ H Q:=VC.seq (VC.reg h)
theorem VC.seq_draw1 {y:IC}(h:VO P n rs Γ H (fun _ _ _=>False) fun Γ' H'=>VC P n y (restr keep Γ') H' Q):VC P n (.seq (.draw [rs] keep) y) Γ H Q:=VC.seq (VC.draw1 h)
theorem VC.seq_seq {x y z:IC}(h:VC P n (.seq x y) Γ H (thenQ (fun Γ' H'=>VC P n z Γ' H' Q) Q)):VC P n (.seq (.seq x y) z) Γ H Q:=VC.seq h
theorem VC.seq_block {id:Nat}{x z:IC}(h:VC P n x Γ H (blockQ id (thenQ (fun Γ' H'=>VC P n z Γ' H' Q) Q))):VC P n (.seq (.block id x) z) Γ H Q:=VC.seq (VC.block h)
theorem VC.seq_skip {y:IC}(h:VC P n y Γ H Q):VC P n (.seq .skip y) Γ H Q:=VC.seq (VC.skip h)
theorem VC.cond_t {c:Operand}{x y:IC}(hc:ev Γ c=some (.bool true))(h:VC P n x Γ H Q):VC P n (.cond c x y) Γ H Q:=VC.cond hc (fun _=>h) (fun e=>by cases e)
theorem VC.cond_f {c:Operand}{x y:IC}(hc:ev Γ c=some (.bool false))(h:VC P n y Γ H Q):VC P n (.cond c x y) Γ H Q:=VC.cond hc (fun e=>by cases e) (fun _=>h)
theorem VC.seq_cond {c:Operand}{x y z:IC}{t:Bool}(hc:ev Γ c=some (.bool t))(ht:t=true->VC P n x Γ H (thenQ (fun Γ' H'=>VC P n z Γ' H' Q) Q))(hf:t=false->VC P n y Γ H (thenQ (fun Γ' H'=>VC P n z Γ' H' Q) Q)):
 VC P n (.seq (.cond c x y) z) Γ H Q:=VC.seq (VC.cond hc ht hf)
end
theorem lnb:(∀cs:List Value,jT cs []=some cs)/\
 (∀(cs:List Value) (o s:Nat) (v:Value) (r:List (Nat×Nat×Value)),jT cs ((o,s,v)::r)=if v.cells.size=s/\o+s<=cs.length then jT (cs.take o++v.cells.toList++cs.drop (o+s)) r else none)/\
 (∀ρ:Operand->Value,jP ρ []=[])/\(∀(ρ:Operand->Value) (o s:Nat) (x:Operand) (r:List (Nat×Nat×Operand)),jP ρ ((o,s,x)::r)=(o,s,ρ x)::jP ρ r)/\
 (∀(Γ:Env) (x:Operand),evD Γ x=(ev Γ x).getD undef)/\(∀(Γ:Env) (t:Nat),ev Γ (.tmp t)=look Γ t)/\(∀(Γ:Env) (v:Value),ev Γ (.const v)=some v)/\
 (∀(Γ:Env) (g:Nat),ev Γ (.global g)=some (.pointer (some ⟨g,0,none⟩)))/\(∀(Γ:Env) (f:Nat),ev Γ (.func f)=some (.func (.func f) #[] #[]))/\
 (∀(s t:Nat) (v:Value) (r:Env),look ((s,v)::r) t=if s=t then some v else look r t)/\(∀(d:Nat) (v:Value) (Γ:Env),putE (some d) v Γ=(d,v)::Γ)/\(∀(v:Value) (Γ:Env),putE none v Γ=Γ)/\
 (∀v d:Value,(some v).getD d=v)/\(∀l:List Value,l.toArray.size=l.length)/\(∀l:List Value,l.toArray.toList=l)/\(∀(a:Value) (l:List Value),(a::l).length=l.length+1)/\(([]:List Value).length=0)/\
 (∀(a:Value) (l:List Value) (n:Nat),(a::l).take (n+1)=a::l.take n)/\(∀l:List Value,l.take 0=[])/\(∀(a:Value) (l:List Value) (n:Nat),(a::l).drop (n+1)=l.drop n)/\(∀l:List Value,l.drop 0=l)/\
 (∀(a:Value) (l m:List Value),a::l++m=a::(l++m))/\(∀l:List Value,[]++l=l)/\(∀l:List Value,l++[]=l):=
 ⟨fun _=>rfl,fun _ _ _ _ _=>rfl,fun _=>rfl,fun _ _ _ _ _=>rfl,fun _ _=>rfl,fun _ _=>rfl,fun _ _=>rfl,fun _ _=>rfl,fun _ _=>rfl,fun _ _ _ _=>rfl,fun _ _ _=>rfl,fun _ _=>rfl,fun _ _=>rfl,fun _=>List.size_toArray,fun _=>rfl,
   fun _ _=>rfl,rfl,fun _ _ _=>rfl,fun _=>rfl,fun _ _ _=>rfl,fun _=>rfl,fun _ _ _=>rfl,fun _=>rfl,fun _=>vd _⟩
end Go.V
namespace Go.V
open Go
def kq {κ β:Type}[DecidableEq κ](k:κ):List (κ×β)->Option β
 |[]=>none
 |(a,v)::r=>if a=k then some v else kq k r
def jZ {κ β:Type}[DecidableEq κ](k:κ)(v:β):List (κ×β)->List (κ×β)
 |[]=>[(k,v)]
 |(a,u)::r=>if a=k then(a,v)::r else(a,u)::jZ k v r
def mdel {κ β:Type}[DecidableEq κ](k:κ):List (κ×β)->List (κ×β)
 |[]=>[]
 |(a,u)::r=>if a=k then r else(a,u)::mdel k r
structure KEnc (κ:Type)[DecidableEq κ] where
 sk:SK
 enc:κ->Value
 same:∀a b,sameK sk (enc a) (enc b)=some (decide (a=b))
def zX:KEnc ByteArray:=⟨.str,.string,fun _ _=>rfl⟩
def lookV(ok:Bool)(zero:Value):Option Value->Value
 |some v=>if ok then .tuple #[v,.bool true]else v
 |none=>if ok then .tuple #[zero,.bool false]else zero
section
variable {κ β:Type} [DecidableEq κ] {E:KEnc κ} {V:β->Value}
def MapOf(E:KEnc κ)(V:β->Value)(es:List MapEntry)(m:List (κ×β)):Prop:=es.map (fun e=>(e.key,e.val))=m.map fun p=>(E.enc p.1,V p.2)
structure zG (E:KEnc κ)(V:β->Value)(es:Array MapEntry)(c:Nat)(m:List (κ×β)):Prop where
 of:MapOf E V es.toList m
 born:es.toList.Pairwise fun a b=>a.born < b.born
 clock:∀e∈es.toList,e.born < c
theorem zG.nil:zG E V #[] 0 []:=⟨rfl,.nil,Zs⟩
theorem find_of {k:κ}:∀{es:List MapEntry} {m:List (κ×β)} {i:Nat},MapOf E V es m->
 ∃r,findK E.sk (E.enc k) es i=some r/\r.map (·.2)=(kq k m).map V/\∀j v,r=some (j,v)->i<=j/\j - i < es.length/\∃e,es[j - i]? =some e/\e.key=E.enc k/\
  (∀e' u,e'.val=V u->(MapOf E V (es.set (j - i) e') (jZ k u m)↔e'.key=E.enc k))/\MapOf E V (es.eraseIdx (j - i)) (mdel k m):=by
 intro es
 induction es with
 |nil=>
  intro m i h;cases m with
  |nil=>exact⟨none,rfl,rfl,fun _ _ h=>by cases h⟩
  |cons p m=>simp[MapOf]at h
 |cons e es ih=>
  intro m i h;cases m with
  |nil=>simp[MapOf]at h
  |cons p m=>
   obtain⟨a,u⟩:=p;simp only[MapOf,Vy,ve,Qp]at h;obtain⟨⟨h1,h2⟩,h3⟩:=h;simp only[findK,h1,E.same,h2];by_cases ek:k=a
   ·subst ek;refine⟨some (i,V u),Zs,by simp[kq],fun j v hj=>?_⟩;cases hj;refine⟨QW _,Zs,e,Zs,h1,fun e' u' he'=>?_,?_⟩
    ·simp only[Qd,List.set_cons_zero,jZ,if_true,MapOf,Vy,ve,Qp,he',and_true];exact⟨fun h=>h.1,fun h=>⟨h,h3⟩⟩
    ·simpa[mdel,MapOf]using h3
   ·obtain⟨r,f1,f2,f3⟩:=ih (m:=m) (i:=i+1) h3;have ea:¬a=k:=fun e=>ek e.symm
    refine⟨r,by simp[ek,f1],by simp[kq,ea,f2],fun j v hj=>?_⟩;obtain⟨g1,g2,x,g3,g4,g5,g6⟩:=f3 j v hj;have hji:j - i=(j - (i+1))+1:=by omega
    refine⟨Zo,by simp;omega,x,by rw[hji];simpa using g3,g4,fun e' u' he'=>?_,?_⟩
    ·rw[hji];simp only[List.set_cons_succ,jZ,ea,if_false,MapOf,Vy,ve,h1,h2,true_and];exact g5 e' u' he'
    ·rw[hji];simp only[List.eraseIdx_cons_succ,mdel,ea,if_false,MapOf,Vy,ve,h1,h2,true_and];exact g6
theorem mget_none_mset {k:κ}{v:β}:∀{m:List (κ×β)},kq k m=none->jZ k v m=m++[(k,v)]:=by
 intro m
 induction m with
 |nil=>intro _;rfl
 |cons p m ih=>
  obtain⟨a,u⟩:=p;intro h;simp only[kq]at h;split at h
  ·cases h
  ·rename_i hn;simp[jZ,hn,ih h]
theorem zG.modify {es:Array MapEntry}{c:Nat}{m:List (κ×β)}(h:zG E V es c m){k:κ}{j:Nat}{u key:Value}{v:β}(hf:findK E.sk (E.enc k) es.toList 0=some (some (j,u)))(hk:key=E.enc k):
 zG E V (es.modify j fun e=>{e with key,val:=V v}) c (jZ k v m):=by
 subst hk;obtain⟨r,f1,f2,f3⟩:=find_of (k:=k) (i:=0) h.of;rw[hf]at f1;cases f1;obtain⟨_,g2,e,g3,g4,g5,_⟩:=f3 j u rfl;simp only[Nat.sub_zero]at g2 g3 g5;have hl:(es.modify j fun e=>{e with key:=E.enc k,val:=V v}).toList=es.toList.set j {e with key:=E.enc k,val:=V v}:=by
  apply vm;intro i;rw[vB,v9,Vh];by_cases hi:j=i
  ·subst hi;have:es[j]? =some e:=by simpa using g3
   have g2':j < es.size:=by simpa using g2
   exact zDT
  ·simp[hi]
 have hborn:(es.toList.set j {e with key:=E.enc k,val:=V v}).map (·.born)=es.toList.map (·.born):=by
  apply vm;intro i;simp only[Ve,Vh];by_cases hi:j=i
  ·subst hi;have g2':j < es.size:=by simpa using g2
   have:es[j]? =some e:=by simpa using g3
   exact zDT
  ·simp[hi]
 refine⟨?_,?_,?_⟩
 ·rw[hl];exact(g5 {e with key:=E.enc k,val:=V v} v rfl).2 rfl
 ·rw[hl];have hp:=h.born;have e1:∀l:List MapEntry,l.Pairwise (fun a b=>a.born < b.born)↔(l.map MapEntry.born).Pairwise (·< ·):=fun l=>List.pairwise_map.symm
  rw[e1]at hp|-;have hb2:(es.toList.set j {e with key:=E.enc k,val:=V v}).map MapEntry.born=es.toList.map MapEntry.born:=hborn;rw[hb2];exact hp
 ·rw[hl];intro x hx;have:x.born∈(es.toList.set j {e with key:=E.enc k,val:=V v}).map (·.born):=Q9.2 ⟨x,hx,rfl⟩;rw[hborn]at this;obtain⟨y,hy,hyb⟩:=Q9.1 this;rw[<- hyb];exact h.clock y hy
theorem zG.push {es:Array MapEntry}{c:Nat}{m:List (κ×β)}(h:zG E V es c m){k:κ}{v:β}(hn:kq k m=none):
 zG E V (es.push {key:=E.enc k,val:=V v,born:=c}) (c+1) (jZ k v m):=by
 refine⟨?_,?_,?_⟩
 ·rw[mget_none_mset hn];have:=h.of;simp only[MapOf]at this|-;simp[this]
 ·exact zD8
 ·exact zCO
variable {P:Program} {n:Nat} {rs:List RO} {Γ:Env} {H:SH} {Z:List PanicEntry->Env->SH->Prop} {K:Env->SH->Prop} {d:Option Nat}
inductive HasO:SH->Nat->Obj->Prop where
 |here {b:Nat} {o:Obj} {L:SH}:HasO ([.obj b o]::L) b o
 |there {A:List kC} {L:SH} {b:Nat} {o:Obj}:HasO L b o->HasO (A::L) b o
 |among {A:List kC} {L:SH} {b:Nat} {o:Obj}:kC.obj b o∈A->HasO (A::L) b o
theorem HasO.mem {b:Nat}{o:Obj}(h:HasO H b o):kC.obj b o∈H.flatten:=by
 induction h with
 |here=>simp
 |there _ ih=>simp only[vz,Q1];exact .inr ih
 |among h=>simp only[vz,Q1];exact .inl h
theorem run_getObj_of {b:Nat}{o:Obj}{L F:List kC}{w:World}(hm:kC.obj b o∈L)(hs:Sat w (L++F)):(getObj b).run P w=.ok o w:=by
 obtain⟨h1,h2⟩:=hs.obj (Zw F hm);cases o <;> simp_all [Go.getObj,Sem.run,wI]
theorem wP {sk:SK}{zero:Value}{ok:Bool}{m x:Operand}{b c:Nat}{es:Array MapEntry}{k:κ}{l:List (κ×β)}(hm:ev Γ m=some (.map (some b)))(hx:ev Γ x=some (E.enc k))(he:sk=E.sk)
 (ho:HasO H b (.map es c)) (hl:zG E V es c l) (h:VO P n rs (putE d (lookV ok zero ((kq k l).map V)) Γ) H Z K):VO P n (⟨d,none,.lookup sk zero ok m x⟩::rs) Γ H Z K:=by
 subst he;refine VO.read rfl rfl (fun ρ hρ=>⟨_,rfl,fun F w hs=>?_⟩) h;obtain⟨r,f1,f2,_⟩:=find_of (k:=k) (i:=0) hl.of;have hg:=run_getObj_of (P:=P) ho.mem hs;rw[hρ _ _ hm,hρ _ _ hx];simp only[jy,Sem.run_bind,hg,Result.andThen_ok,Sem.run_pure,f1];rw[<- f2];cases r with
 |none=>rfl
 |some p=>rfl
theorem wO {sk:SK}{m x y:Operand}{b c:Nat}{es:Array MapEntry}{k:κ}{v:β}{l:List (κ×β)}{R:SH}(hm:ev Γ m=some (.map (some b)))(hx:ev Γ x=some (E.enc k))(hy:ev Γ y=some (V v))(he:sk=E.sk)
 (ht:Tk H [.obj b (.map es c)] R) (hl:zG E V es c l) (h:∀es' c',zG E V es' c' (jZ k v l)->VO P n rs (putE d undef Γ) ([.obj b (.map es' c')]::R) Z K):VO P n (⟨d,none,.mapupd sk m x y⟩::rs) Γ H Z K:=by
 subst he;refine VO.act rfl rfl (fun ρ hρ=>⟨_,rfl,?_⟩);rw[hρ _ _ hm,hρ _ _ hx,hρ _ _ hy];refine SWP.perm ht.perm ?_;refine swp_entries (m:=b) (c:=c) (es:=es) Zs ?_;obtain⟨r,f1,f2,f3⟩:=find_of (k:=k) (i:=0) hl.of;simp only[f1];cases r with
 |none=>
  refine SWP.bind (SWP.setObj rfl (SWP.pure ⟨undef,_,.inr ⟨rfl,rfl⟩,?_,h _ _ (hl.push (by simpa using f2.symm))⟩));simp
 |some p=>
  obtain⟨j,u⟩:=p;obtain⟨_,g2,e,g3,g4,_⟩:=f3 j u rfl;simp only[Nat.sub_zero]at g3;have hkey:((es[j]?).map (·.key)).getD (E.enc k)=E.enc k:=by
   have:es[j]? =some e:=by simpa using g3
   simp[this,g4]
  refine SWP.bind (swp_key _ _ (fun kk hkk=>?_));have hkk':kk=E.enc k:=by rcases hkk with h|h;rw[h,hkey];exact h
  refine SWP.bind (SWP.setObj rfl (SWP.pure ⟨undef,_,.inr ⟨rfl,rfl⟩,?_,h _ _ (hl.modify f1 hkk')⟩));simp
end
end Go.V

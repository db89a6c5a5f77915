/-
  What a name stands for.
-/
import Derived.Test.YtijnokbblmbpkaaGreatDoorS24
import Derived.Test.YtijnokbblmbpkaaGreatDoorS20
import Derived.Test.YtijnokbblmbpkaaGreatDoorS21
set_option linter.unusedSimpArgs false
set_option linter.unusedVariables false
namespace Go.Proofs.YtijnokbblmbpkaaGreatDoor
open Go Go.V
set_option maxHeartbeats 6400000
set_option maxRecDepth 100000
theorem wname_spec(F G:List ByteArray)(wq fb gb:Nat)(us:Value)(fes ges:Array MapEntry)(fc gc:Nat)(hF:FieldsIs F fes fc)(hG:GlobsIs G ges gc)(k:Nat)(nm:ByteArray)(l1 l2 l3 l4 l5 a7 a8 a9:Value)(p:Int)
 (st:SSt) (U:List UC) (Vs:List VCl) (hR:RepS st U Vs) (i:Nat) (u:UC) (hu:U[i]? =some u) (hf:st.f=none) (hb:st.uses.length < 1073741824) (env:List Nat) (b:Nat) (es:Array MapEntry) (c:Nat) (hs:wX st Vs env es c) (hln:∀v∈env,st.unitOf v∈st.line i):
 jY Tryz.prog 209 [kE wq,.agg #[cv k,.string nm,l1,l2,l3,l4,l5,a7,a8,a9,.int .i64 p],kE u.q,.map (some b)] [kA wq 0 [.map (some fb),.map (some gb),us],[.obj fb (.map fes fc)],[.obj gb (.map ges gc)],WK U Vs,[.obj b (.map es c)]]
  (fun v Post=>∃U' Vs',((jv F G st env nm i p (decide (k=3))).2.f=none/\v=refOut Vs' (jv F G st env nm i p (decide (k=3))).1/\RepS (jv F G st env nm i p (decide (k=3))).2 U' Vs'/\U'.map UC.q=U.map UC.q/\U'.map UC.body=U.map UC.body/\Vs'.map VCl.q=Vs.map VCl.q)/\
    Post=[kA wq 0 [.map (some fb),.map (some gb),us],[.obj fb (.map fes fc)],[.obj gb (.map ges gc)],WK U' Vs',[.obj b (.map es c)]])
  (fun ch Post=>∃q e,(jv F G st env nm i p (decide (k=3))).2.f=some (e,p)/\ch=failCh q/\Post=[jJ q e p]):=by
 obtain⟨mF,hF1,hF2⟩:=hF.is;obtain⟨mG,hG1,hG2⟩:=hG.is;refine jY.intro low209 (by simp[n209]) ?_;refine GOH ?_;refine kd Zr (fun q5=>?_);simp only[Value.cells];refine kL (fun q8=>?_);refine GOH ?_;by_cases h1:nm=⟨#[115,101,108,102]⟩
 ·have hk:zW nm=1:=by rw[h1];decide
  rw[Zt h1];exact zAT
 rw[Zf h1];refine GOH ?_;by_cases h2:nm=⟨#[115,117,112,101,114]⟩
 ·have hk:zW nm=1:=by rw[h2];decide
  rw[Zt h2];exact zAT
 rw[Zf h2];refine GOH ?_;by_cases h3:nm=⟨#[110,105,108]⟩
 ·have hk:zW nm=2:=by rw[h3];decide
  rw[Zt h3];refine GOH ?_;have hr:=refS_kw (F:=F) (G:=G) (st:=st) (env:=env) (nm:=nm) (u:=i) (p:=p) (put:=decide (k=3)) (by rw[hk];decide);rw[hr,hk];exact jI ⟨.inr rfl,_,[kA wq 0 [.map (some fb),.map (some gb),us],[.obj fb (.map fes fc)],[.obj gb (.map ges gc)],WK U Vs,[.obj b (.map es c)]],.cellN (us:=jG ⟨2,0,0,e0⟩) Zr Zr (fun y hy=>by simp only[vz,Q1];exact .inl hy) (.tmp Zr .nil),ZI,U,Vs,⟨hf,rfl,hR,rfl,rfl,rfl⟩,rfl⟩
 rw[Zf h3];refine GOH ?_;by_cases h4:nm=⟨#[116,114,117,101]⟩
 ·have hk:zW nm=3:=by rw[h4];decide
  rw[Zt h4];refine GOH ?_;have hr:=refS_kw (F:=F) (G:=G) (st:=st) (env:=env) (nm:=nm) (u:=i) (p:=p) (put:=decide (k=3)) (by rw[hk];decide);rw[hr,hk];exact jI ⟨.inr rfl,_,[kA wq 0 [.map (some fb),.map (some gb),us],[.obj fb (.map fes fc)],[.obj gb (.map ges gc)],WK U Vs,[.obj b (.map es c)]],.cellN (us:=jG ⟨3,0,0,e0⟩) Zr Zr (fun y hy=>by simp only[vz,Q1];exact .inl hy) (.tmp Zr .nil),ZI,U,Vs,⟨hf,rfl,hR,rfl,rfl,rfl⟩,rfl⟩
 rw[Zf h4];refine GOH ?_;by_cases h5:nm=⟨#[102,97,108,115,101]⟩
 ·have hk:zW nm=4:=by rw[h5];decide
  rw[Zt h5];refine GOH ?_;have hr:=refS_kw (F:=F) (G:=G) (st:=st) (env:=env) (nm:=nm) (u:=i) (p:=p) (put:=decide (k=3)) (by rw[hk];decide);rw[hr,hk];exact jI ⟨.inr rfl,_,[kA wq 0 [.map (some fb),.map (some gb),us],[.obj fb (.map fes fc)],[.obj gb (.map ges gc)],WK U Vs,[.obj b (.map es c)]],.cellN (us:=jG ⟨4,0,0,e0⟩) Zr Zr (fun y hy=>by simp only[vz,Q1];exact .inl hy) (.tmp Zr .nil),ZI,U,Vs,⟨hf,rfl,hR,rfl,rfl,rfl⟩,rfl⟩
 rw[Zf h5];refine GOH ?_;have hk:=refK_0 h1 h2 h3 h4 h5;obtain⟨hg1,hg2⟩:=hs.find nm;refine wP (E:=zX) (V:=fun b=>kK (some b)) (k:=nm) Zr Zr rfl Zax hs.is ?_;rw[hg1];cases hfe:wG st.vars env nm with
 |some v=>
  obtain⟨hg3,hg4,hg5⟩:=hg2 v hfe;obtain⟨x,hx⟩:∃x,st.vars[v]? =some x:=⟨_,Zg hg4⟩;obtain⟨y,hy⟩:∃y,Vs[v]? =some y:=⟨_,Zg (by rw[hR.vl];exact hg4)⟩;have hyq:y.q=qOf Vs v:=by unfold qOf;rw[V5,hy];rfl
  have hfx:=(hR.vn v x y hx hy).2.2.1;have m2:kC.cell y.q 2 (.bool y.fixed)∈WK U Vs:=wk_memv hy _ (kI.2 ⟨2,.bool y.fixed,rfl,Zs⟩);rw[hfx]at m2;simp only[lookV,Qm,kK,if_false,vI];rw[<- hyq];generalize hB:WK U Vs=B at m2|-;cases hxa:x.arg with
  |true=>
   rw[hxa]at m2;by_cases hk3:k=3
   ·subst hk3;have hcond:(decide (3=3)&&((st.vars[v]?).map (·.arg)).getD false)=true:=by rw[hx];simp[hxa]
    have hbad:=refS_arg (F:=F) (G:=G) (env:=env) (u:=i) (p:=p) hk hfe hcond hf;refine GOH ?_;refine kJ (wrong_spec 182 p) Zr ZP (fun v Post hv=>hv.elim) (fun ch Post hz=>?_);obtain⟨q,rfl,rfl⟩:=hz;exact⟨[jJ q 182 p],ZI,q,182,hbad,rfl,rfl⟩
   ·have hcond:(decide (k=3)&&((st.vars[v]?).map (·.arg)).getD false)=false:=by simp[hk3]
    refine GOH ?_;rw[show decide ((k:Int)=3)=false from Zf Zo];exact zAL
  |false=>
   rw[hxa]at m2;have hcond:(decide (k=3)&&((st.vars[v]?).map (·.arg)).getD false)=false:=by rw[hx];simp[hxa]
   exact zAL
 |none=>
  simp only[lookV,Ql,if_false,vI];refine GOH ?_;refine wP (E:=zX) (V:=fun n:Nat=>.int .i64 n) (k:=nm) Zr Zr rfl Zax hF1 ?_;rw[hF2];cases hfi:F.findIdx? (fun s=>decide (s=nm))with
  |some fi=>
   simp only[lookV,Qm,if_true];refine GOH ?_;rw[refS_field hk hfe hfi];exact jI ⟨.inr rfl,_,[kA wq 0 [.map (some fb),.map (some gb),us],[.obj fb (.map fes fc)],[.obj gb (.map ges gc)],WK U Vs,[.obj b (.map es c)]],.cellN (us:=jG ⟨7,fi,0,e0⟩) Zr Zr (fun y hy=>by simp only[vz,Q1];exact .inl hy) (.tmp Zr .nil),ZI,U,Vs,⟨hf,rfl,hR,rfl,rfl,rfl⟩,rfl⟩
  |none=>
   simp only[lookV,Ql,if_true];refine GOH ?_;refine wP (E:=zX) (V:=fun n:Nat=>.int .i64 n) (k:=nm) Zr Zr rfl Zax hG1 ?_;have hg:=hG2 nm;cases hga:G.any (fun s=>decide (s=nm))with
   |true=>
    rw[hga]at hg;have hne:(kq nm mG).getD 0≠0:=by simpa using hg
    obtain⟨n,hn⟩:∃n,kq nm mG=some n:=by
     cases e:kq nm mG with
     |none=>rw[e]at hne;exact absurd rfl hne
     |some n=>exact⟨n,rfl⟩
    rw[hn]at hne|-;simp only[Qi]at hne;simp only[lookV,Qm,if_false,vI];refine GOH ?_;rw[show decide ((n:Int)=0)=false from Zf Zo];refine GOH ?_;rw[refS_glob hk hfe hfi hga];exact jI ⟨.inr rfl,_,[kA wq 0 [.map (some fb),.map (some gb),us],[.obj fb (.map fes fc)],[.obj gb (.map ges gc)],WK U Vs,[.obj b (.map es c)]],.cellN (us:=jG ⟨8,0,0,nm⟩) Zr Zr (fun y hy=>by simp only[vz,Q1];exact .inl hy) (.tmp Zr .nil),ZI,U,Vs,⟨hf,rfl,hR,rfl,rfl,rfl⟩,rfl⟩
   |false=>
    rw[hga]at hg;have hbad:=refS_none (F:=F) (G:=G) (st:=st) (env:=env) (nm:=nm) (u:=i) (p:=p) (put:=decide (k=3)) hk hfe hfi hga hf;have hz0:(kq nm mG).getD 0=0:=by simpa using hg
    have hv0:lookV false (.int .i64 0) ((kq nm mG).map fun n:Nat=>.int .i64 n)=.int .i64 0:=by
     cases e:kq nm mG with
     |none=>rfl
     |some n=>rw[e]at hz0;simp only[Qi]at hz0;rw[hz0];rfl
    rw[hv0];refine GOH ?_;refine kJ (wrong_spec 181 p) Zr ZP (fun v Post hv=>hv.elim) (fun ch Post hz=>?_);obtain⟨q,rfl,rfl⟩:=hz;exact⟨[jJ q 181 p],ZI,q,181,hbad,rfl,rfl⟩
end Go.Proofs.YtijnokbblmbpkaaGreatDoor
namespace Go.Proofs.YtijnokbblmbpkaaGreatDoor
open Go Go.V
set_option maxHeartbeats 6400000
set_option maxRecDepth 100000
structure Fix where
 F:List ByteArray
 G:List ByteArray
 wq:Nat
 fb:Nat
 gb:Nat
 fes:Array MapEntry
 ges:Array MapEntry
 fc:Nat
 gc:Nat
 S:List kC
structure FixOk (X:Fix):Prop where
 f:FieldsIs X.F X.fes X.fc
 g:GlobsIs X.G X.ges X.gc
def StepOk(X:Fix)(f:Nat)(args:List Value)(st st':SSt)(us:Value)(usp:List Value)(U:List UC)(Vs:List VCl)(T:List kC)(b:Nat)(es:Array MapEntry)(c:Nat)(R:Value->List Nat->List kC->Prop):Prop:=
 jY Tryz.prog f args [kA X.wq 0 [.map (some X.fb),.map (some X.gb),us],slA us (U.map fun u=>kK (some u.q)) usp,[.obj X.fb (.map X.fes X.fc)],[.obj X.gb (.map X.ges X.gc)],WK U Vs,T,[.obj b (.map es c)],X.S]
  (fun v Post=>∃us' usp' U' Vs' T' B,(StOk st' us' usp' U' Vs' T'/\U.map UC.q <+:U'.map UC.q/\Vs.map VCl.q <+:Vs'.map VCl.q/\R v (Vs'.map VCl.q) B)/\
    Post=[kA X.wq 0 [.map (some X.fb),.map (some X.gb),us'],slA us' (U'.map fun u=>kK (some u.q)) usp',[.obj X.fb (.map X.fes X.fc)],[.obj X.gb (.map X.ges X.gc)],WK U' Vs',T',[.obj b (.map es c)],X.S,B])
  (fun ch Post=>∃q e p,st'.f=some (e,p)/\ch=failCh q/\Post=[X.S,jJ q e p])
def PartR(pn:PN)(v:Value)(qs:List Nat)(B:List kC):Prop:=∃ws,v=.agg ws.toArray/\NRd B qs pn ws
def AllR(l:List PN)(v:Value)(qs:List Nat)(B:List kC):Prop:=∃rows sp B',jC 13 v l.length rows.flatten sp/\z9 B' qs l rows/\B=slA v rows.flatten sp++B'
def PartOk(X:Fix)(x:Nd)(vs:List Value):Prop:=
 ∀st us usp U Vs T,StOk st us usp U Vs T->∀(i:Nat) (u:UC),U[i]? =some u->∀env b es c,wX st Vs env es c->(∀v∈env,st.unitOf v∈st.line i)->Room st (cntN x)->
  StepOk X 172 [kE X.wq,.agg vs.toArray,kE u.q,.map (some b)] st (jD X.F X.G x st env i).2 us usp U Vs T b es c (PartR (jD X.F X.G x st env i).1)
theorem seen_line {st st':SSt}(h:Gr st st')(hw:Wf st)(hw':Wf st'){i:Nat}(hi:i < st.outer.length){v:Nat}(hv:v < st.vars.length):st'.line i=st.line i/\st'.unitOf v=st.unitOf v:=by
 refine⟨?_,?_⟩
 ·induction i using Nat.strongRecOn with
  |_ i ih=>
   have ho:st'.outer.getD i (-1)=st.outer.getD i (-1):=by
    obtain⟨t,ht⟩:=h.outer;rw[<- ht,V5,V5,V7 hi]
   have hl:=h.outer.length_le;rw[hw'.line Zo,hw.line Zo,ho]
   congr 1
   split
   ·rfl
   ·have:=hw.lowD i;exact ih _ Zo Zo
 ·obtain⟨t,ht⟩:=h.vars;unfold SSt.unitOf;rw[<- ht,V7 hv]
theorem all_spec(X:Fix)(l:List Nd)(a:Option Addr)(ac bk o:Nat)(ks:Nat->List Value)(hll:l.length < 1073741824)(ha:0 < l.length->a=some ⟨bk,o,none⟩)(hm:∀i,i < l.length->∀y∈kA bk (o+i*11) (ks i),y∈X.S)(hr:∀i x,l[i]? =some x->jQ X.S x (ks i))(hok:∀i x,l[i]? =some x->PartOk X x (ks i))
 (st:SSt) (us:Value) (usp:List Value) (U:List UC) (Vs:List VCl) (T:List kC) (hS:StOk st us usp U Vs T) (i:Nat) (u:UC) (hu:U[i]? =some u) (env:List Nat) (b:Nat) (es:Array MapEntry) (c:Nat) (hs:wX st Vs env es c) (hln:∀v∈env,st.unitOf v∈st.line i) (hroom:Room st (jK l)):
 StepOk X 112 [kE X.wq,.slice a l.length ac,kE u.q,.map (some b)] st (kR X.F X.G l st env i).2 us usp U Vs T b es c (AllR (kR X.F X.G l st env i).1):=by
 refine jY.intro low112 (by simp[n112]) ?_;refine GOH ?_;refine VC.loop (α:=Nat×SSt×Value×List Value×List UC×List VCl×List kC×Value×List (List Value)×List Value×List kC×List PN) (Γf:=fun s=>[(0,kE X.wq),(2,kE u.q),(3,.map (some b)),(9,s.2.2.2.2.2.2.2.1),(12,.slice a l.length ac),(13,vi l.length),(14,vi s.1)])
  (Hf:=fun s=>[kA X.wq 0 [.map (some X.fb),.map (some X.gb),s.2.2.1],slA s.2.2.1 (s.2.2.2.2.1.map fun u=>kK (some u.q)) s.2.2.2.1,[.obj X.fb (.map X.fes X.fc)],[.obj X.gb (.map X.ges X.gc)],WK s.2.2.2.2.1 s.2.2.2.2.2.1,s.2.2.2.2.2.2.1,[.obj b (.map es c)],X.S,slA s.2.2.2.2.2.2.2.1 s.2.2.2.2.2.2.2.2.1.flatten s.2.2.2.2.2.2.2.2.2.1,s.2.2.2.2.2.2.2.2.2.2.1])
  (I:=fun s=>s.1<=l.length/\(∃w,s.2.2.2.2.1[i]? =some w/\w.q=u.q)/\StOk s.2.1 s.2.2.1 s.2.2.2.1 s.2.2.2.2.1 s.2.2.2.2.2.1 s.2.2.2.2.2.2.1/\Gr st s.2.1/\U.map UC.q <+:s.2.2.2.2.1.map UC.q/\Vs.map VCl.q <+:s.2.2.2.2.2.1.map VCl.q/\Room s.2.1 (jK (l.drop s.1))/\
    (kR X.F X.G l st env i).2=(kR X.F X.G (l.drop s.1) s.2.1 env i).2/\(kR X.F X.G l st env i).1=s.2.2.2.2.2.2.2.2.2.2.2++(kR X.F X.G (l.drop s.1) s.2.1 env i).1/\s.2.2.2.2.2.2.2.2.2.2.2.length=s.1/\
    jC 13 s.2.2.2.2.2.2.2.1 s.1 s.2.2.2.2.2.2.2.2.1.flatten s.2.2.2.2.2.2.2.2.2.1/\z9 s.2.2.2.2.2.2.2.2.2.2.1 (s.2.2.2.2.2.1.map VCl.q) s.2.2.2.2.2.2.2.2.2.2.2 s.2.2.2.2.2.2.2.2.1) (μ:=fun s=>l.length - s.1) (0,st,us,usp,U,Vs,T,.slice none 0 0,[],[],[],[])
  ⟨Qf _,⟨u,hu,rfl⟩,hS,Gr.refl st,QM _,QM _,hroom,rfl,rfl,rfl,.nil,z9.nil _ _⟩ ZU (Imp.cut (M:=[kA X.wq 0 [.map (some X.fb),.map (some X.gb),us],slA us (U.map fun u=>kK (some u.q)) usp,[.obj X.fb (.map X.fes X.fc)],[.obj X.gb (.map X.ges X.gc)],WK U Vs,T,[.obj b (.map es c)],X.S]) ZI (Imp.perm (by simp[slA]))) ?_
 rintro⟨j,st1,us1,usp1,U1,V1,T1,sv,rows,sp,B,pns⟩ ⟨hj,⟨w,hw,hwq⟩,hS1,hgr,hpU,hpV,hrm,he2,he1,hpl,hsl,hrows⟩
 simp only at hj hw hwq hS1 hgr hpU hpV hrm he2 he1 hpl hsl hrows;dsimp only;obtain⟨sa,sc,hsv⟩:=hsl.form;subst hsv;refine GOH ?_;by_cases hlt:j < l.length;rotate_left
 ·rw[show decide ((j:Int) < (l.length:Int))=false from Zf Zo];have hjl:j=l.length:=by omega
  rw[hjl,List.drop_length,kR]at he1 he2;simp only[vd]at he1 he2;have hpl2:pns.length=j:=hpl;refine GOH ?_;refine jI (kG (Post:=[kA X.wq 0 [.map (some X.fb),.map (some X.gb),us1],slA us1 (U1.map fun u=>kK (some u.q)) usp1,[.obj X.fb (.map X.fes X.fc)],[.obj X.gb (.map X.ges X.gc)],WK U1 V1,T1,[.obj b (.map es c)],X.S,slA (.slice sa j sc) rows.flatten sp++B]) (.inr rfl) (.tmp (v:=.slice sa j sc) Zr .nil)
   ⟨us1,usp1,U1,V1,T1,_,⟨?_,hpU,hpV,rows,sp,B,?_,?_,rfl⟩,rfl⟩ (Imp.cut (M:=[kA X.wq 0 [.map (some X.fb),.map (some X.gb),us1],slA us1 (U1.map fun u=>kK (some u.q)) usp1,[.obj X.fb (.map X.fes X.fc)],[.obj X.gb (.map X.ges X.gc)],WK U1 V1,T1,[.obj b (.map es c)],X.S,slA (.slice sa j sc) rows.flatten sp,B]) ZI (Imp.perm Zs)))
  ·rw[he2];exact hS1
  ·rw[he1,hpl2];exact hsl
  ·rw[he1];exact hrows
 obtain rfl:=ha Zo;rw[show decide ((j:Int) < (l.length:Int))=true from Zt Zo];obtain⟨y,hy⟩:∃y,l[j]? =some y:=⟨_,Zg hlt⟩;have hdr:l.drop j=y::l.drop (j+1):=by
  rw[vh hlt]
  congr 1
  rw[Zg hlt]at hy;exact Qn hy
 rw[hdr]at he1 he2 hrm;simp only[jK]at hrm;rw[wE]at he1 he2;simp only at he1 he2;have hym:=hm j hlt;have hyr:=hr j y hy;have hil:i < st.outer.length:=by have:=(Vd.1 hu).1;rw[hS.rep.ul]at this;exact this
 have hcall:=hok j y hy st1 us1 usp1 U1 V1 T1 hS1 i w hw env b es c (hs.more hgr.vars hpV hS.rep.vl) (fun v hv=>by
  obtain⟨k1,k2⟩:=seen_line hgr hS.rep.wf hS1.rep.wf hil (hs.lt v hv);rw[k1,k2];exact hln v hv) (hrm.mono Zo)
 have hgp:=(gr_part X.F X.G _ y (QW _) st1 env i).1;have hlp:=(less_part X.F X.G _ y (QW _) st1 env i).1;rw[hwq]at hcall;generalize ks j=kj at*;obtain⟨e1,e2,e3,e4,e5,e6,e7,e8,e9,e10,e11,e12,e13,e14,e15,e16,rfl⟩:=nd_openS hyr;refine GOH ?_;refine kZ Zr (fun z hz=>by have h9:=hym z hz;simp[h9]) rfl ?_;refine GOH ?_;refine kL (fun q11=>?_);refine GOH ?_;refine kJ hcall Zr ZP (fun v Post hv=>?_) (fun ch Post hz=>?_);rotate_left
 ·obtain⟨q,e,p,hbad,rfl,rfl⟩:=hz;refine⟨[X.S,jJ q e p],ZI,q,e,p,?_,rfl,rfl⟩;rw[he2];exact(zK X.F X.G (l.drop (j+1)) _ env i).f _ hbad
 obtain⟨us2,usp2,U2,V2,T2,B2,⟨hS2,hpU2,hpV2,ws,rfl,hn⟩,rfl⟩:=hv;simp only[CNx];obtain⟨f1,f2,f3,f4,f5,f6,f7,r1,r2,r3,p1,p2,p3,k1,k2,k3,hws⟩:=n_openS hn;subst hws;generalize hpn:(jD X.F X.G y st1 env i).1=pn at hn he1|-;refine j9 (out:=[.int .u8 pn.kind,.string pn.name,.int .u8 f1,.int .i64 f2,.int .u64 f3,.string f4,.slice f5 f6 f7,.slice r1 r2 r3,.int .i64 pn.unit,.bool pn.super,.slice none 0 0,.slice p1 p2 p3,.slice k1 k2 k3]) Zr Zr (fun r=>?_);refine jF (k:=j) (m:=1) (xs:=rows.flatten) (sp:=sp) (ys:=[.int .u8 pn.kind,.string pn.name,.int .u8 f1,.int .i64 f2,.int .u64 f3,.string f4,.slice f5 f6 f7,.slice r1 r2 r3,.int .i64 pn.unit,.bool pn.super,.slice none 0 0,.slice p1 p2 p3,.slice k1 k2 k3]) Zr Zr hsl ZK Zr ?_ rfl Zr Zr Zd Zo (fun sv' sp' hsl'=>?_)
 ·exact Zal
 have hfl:rows.flatten++([.int .u8 pn.kind,.string pn.name,.int .u8 f1,.int .i64 f2,.int .u64 f3,.string f4,.slice f5 f6 f7,.slice r1 r2 r3,.int .i64 pn.unit,.bool pn.super,.slice none 0 0,.slice p1 p2 p3,.slice k1 k2 k3]:List Value)=(rows++[([.int .u8 pn.kind,.string pn.name,.int .u8 f1,.int .i64 f2,.int .u64 f3,.string f4,.slice f5 f6 f7,.slice r1 r2 r3,.int .i64 pn.unit,.bool pn.super,.slice none 0 0,.slice p1 p2 p3,.slice k1 k2 k3]:List Value)]).flatten:=by simp
 rw[hfl]at hsl'|-;obtain⟨sa',sc',rfl⟩:=hsl'.form;refine GOH ?_;refine⟨(j+1,_,us2,usp2,U2,V2,T2,.slice sa' (j+1) sc',rows++[[.int .u8 pn.kind,.string pn.name,.int .u8 f1,.int .i64 f2,.int .u64 f3,.string f4,.slice f5 f6 f7,.slice r1 r2 r3,.int .i64 pn.unit,.bool pn.super,.slice none 0 0,.slice p1 p2 p3,.slice k1 k2 k3]],sp',B++B2,pns++[pn]),⟨by simp only;omega,?_,hS2,hgr.trans hgp,hpU.trans hpU2,hpV.trans hpV2,hrm.less hlp,he2,by simp only;rw[he1];simp,by simp[hpl],hsl',?_⟩,by simp only;omega,ZU,?_⟩
 ·obtain⟨t,ht⟩:=hpU2;have h1:(U1.map UC.q)[i]? =some w.q:=by rw[Ve,hw];rfl
  have h2:(U2.map UC.q)[i]? =some w.q:=by
   rw[<- ht,V7 (Vd.1 h1).1];exact h1
  rw[Ve]at h2;obtain⟨w',h3,h4⟩:=Qk.1 h2;exact⟨w',h3,h4.trans hwq⟩
 ·exact(hrows.more (fun x hx=>Zw _ hx) hpV2).snoc (hn.more (fun x hx=>Q3 _ hx) (QM _))
 ·simp only;refine Imp.cut (M:=[kA X.wq 0 [.map (some X.fb),.map (some X.gb),us2],slA us2 (U2.map fun u=>kK (some u.q)) usp2,[.obj X.fb (.map X.fes X.fc)],[.obj X.gb (.map X.ges X.gc)],WK U2 V2,T2,[.obj b (.map es c)],X.S,slA (.slice sa' (j+1) sc') (rows++[([.int .u8 pn.kind,.string pn.name,.int .u8 f1,.int .i64 f2,.int .u64 f3,.string f4,.slice f5 f6 f7,.slice r1 r2 r3,.int .i64 pn.unit,.bool pn.super,.slice none 0 0,.slice p1 p2 p3,.slice k1 k2 k3]:List Value)]).flatten sp',B,B2]) ZI (Imp.perm Zs)
end Go.Proofs.YtijnokbblmbpkaaGreatDoor
namespace Go.Proofs.YtijnokbblmbpkaaGreatDoor
open Go Go.V
set_option maxHeartbeats 6400000
set_option maxRecDepth 100000
theorem fresh_q {U:List UC}{Vs:List VCl}{q:Nat}{w:World}{L:List kC}{M:List kC}(hs:Sat w (L++M))(hq:kC.own q 9∈L)(hm:∀x∈WK U Vs,x∈M):q∉U.map UC.q:=by
 intro hin;obtain⟨u,hu,rfl⟩:=Q9.1 hin;have hn:=hs.nodup;rw[Vw,QE]at hn;have h1:kC.own u.q 9∈WK U Vs:=Zw _ (Q8.2 ⟨u,hu,Q6 ..⟩);exact hn.2.2 _ (Q9.2 ⟨_,hq,rfl⟩) _ (Q9.2 ⟨_,hm _ h1,rfl⟩) rfl
theorem block_spec(X:Fix)(vk l1 l2 l3 l4 l5:Value)(vn:Value)(args temps:List ByteArray)(av tv:Value)(hav:RdT X.S av args)(htv:RdT X.S tv temps)(kids:List Nd)(a:Option Addr)(ac bk ko:Nat)(ks:Nat->List Value)(hll:kids.length < 1073741824)(ha:0 < kids.length->a=some ⟨bk,ko,none⟩)(hm:∀i,i < kids.length->∀y∈kA bk (ko+i*11) (ks i),y∈X.S)(hr:∀i x,kids[i]? =some x->jQ X.S x (ks i))(hok:∀i x,kids[i]? =some x->PartOk X x (ks i))(p:Int)
 (st:SSt) (us:Value) (usp:List Value) (U:List UC) (Vs:List VCl) (T:List kC) (hS:StOk st us usp U Vs T) (o:Int) (ho:-1<=o/\o < st.outer.length) (env:List Nat) (b:Nat) (es:Array MapEntry) (c:Nat) (hs:wX st Vs env es c) (hln:∀v∈env,∃i:Nat,o=i/\st.unitOf v∈st.line i) (hroom:Room st (cntR args temps (jK kids))):
 jY Tryz.prog 49 [kE X.wq,.agg #[vk,vn,l1,l2,l3,l4,l5,av,tv,.slice a kids.length ac,.int .i64 p],kK (outQ U o),.map (some b)]
  [kA X.wq 0 [.map (some X.fb),.map (some X.gb),us],slA us (U.map fun u=>kK (some u.q)) usp,[.obj X.fb (.map X.fes X.fc)],[.obj X.gb (.map X.ges X.gc)],WK U Vs,T,[.obj b (.map es c)],X.S]
  (fun v Post=>∃us' usp' U' Vs' T',(StOk (unitS X.F X.G args temps kids p st env o) us' usp' U' Vs' T'/\U.map UC.q <+:U'.map UC.q/\Vs.map VCl.q <+:Vs'.map VCl.q/\∃w,U'[st.outer.length]? =some w/\v=kE w.q)/\
    Post=[kA X.wq 0 [.map (some X.fb),.map (some X.gb),us'],slA us' (U'.map fun u=>kK (some u.q)) usp',[.obj X.fb (.map X.fes X.fc)],[.obj X.gb (.map X.ges X.gc)],WK U' Vs',T',[.obj b (.map es c)],X.S])
  (fun ch Post=>∃q e p',(unitS X.F X.G args temps kids p st env o).f=some (e,p')/\ch=failCh q/\Post=[X.S,jJ q e p']):=by
 obtain⟨ua,uc,hus⟩:=hS.sl.form;have hsl:=hS.sl;subst hus;have hav':=hav;have htv':=htv;obtain⟨aa,aac,rfl,hal,har⟩:=hav;obtain⟨ta,tac,rfl,htl,htr⟩:=htv;have hul:=hS.rep.ul;have hUl:U.length=(U.map fun u=>kK (some u.q)).length:=by simp
 obtain⟨r1,r2,r3⟩:=hroom;simp only[cntR]at r1 r2 r3;obtain⟨pa,hpa⟩:∃pa,kK (outQ U o)=.pointer pa:=by cases outQ U o <;> exact⟨_,rfl⟩
 rw[hpa];refine jY.intro low49 (by simp[n49]) ?_;refine GOH ?_;refine kd Zr (fun q5=>?_);simp only[Value.cells];refine GOH ?_;refine st_mkmap (fun nb=>?_);refine GOH ?_;refine st_boxO Zr (fun q=>?_);simp only[Value.cells];refine VO.know (φ:=q∉U.map UC.q) (fun w F hsat=>?_) (fun hfr=>?_)
 ·refine fresh_q (Vs:=Vs) (L:=_) (M:=_) (by rw[vz,vZ]at hsat;exact hsat) (Q6 ..) (fun x hx=>?_);simp[hx]
 refine VO.imp (H':=[[.own q 9],kA q 0 [vi 0,vi 0,vi 0,.pointer pa,vi U.length,.slice none 0 0,.map (some nb),.slice none 0 0,.slice none 0 0],[.obj nb (.map #[] 0)],kA q5 0 [vk,vn,l1,l2,l3,l4,l5,.slice aa args.length aac,.slice ta temps.length tac,.slice a kids.length ac,.int .i64 p],
  kA X.wq 0 [.map (some X.fb),.map (some X.gb),.slice ua U.length uc],slA (.slice ua U.length uc) (U.map fun u=>kK (some u.q)) usp,[.obj X.fb (.map X.fes X.fc)],[.obj X.gb (.map X.ges X.gc)],WK U Vs,T,[.obj b (.map es c)],X.S]) (Imp.perm Zs) ?_
 refine GOH ?_;refine kL (fun k9=>?_);refine GOH ?_;refine j9 (out:=[kE q]) Zr Zr (fun r=>?_);refine jF (k:=U.length) (m:=1) (xs:=U.map fun u=>kK (some u.q)) (sp:=usp) (ys:=[kE q]) Zr Zr hsl ZK Zr ?_ rfl Zr Zr Zd Zo (fun sv' sp' hsl'=>?_)
 ·exact Zal
 obtain⟨ua',uc',rfl⟩:=hsl'.form;have hfl:(U.map fun u=>kK (some u.q))++[kE q]=(U++[newU q args.length (outQ U o) st.outer.length nb]).map fun u=>kK (some u.q):=by simp[kK,newU]
 rw[hfl]at hsl'|-;refine GOH ?_;have hR1:RepS (st.addU o args.length) (U++[newU q args.length (outQ U o) st.outer.length nb]) Vs:=hS.rep.addU ho hfr;obtain⟨U1,hU1⟩:∃U1,U1=U++[newU q args.length (outQ U o) st.outer.length nb]:=⟨_,rfl⟩;have hq1:(U1.map UC.q)[st.outer.length]? =some q:=by
  rw[hU1,Vw,V8 (by rw[Vp,hul];exact QW _),Vp,hul,Qd];rfl
 have hna:(st.addU o args.length).args.getD st.outer.length 0=args.length:=by
  show(st.args++[args.length]).getD st.outer.length 0=args.length;rw[V5,<- hS.rep.wf.al,V8 (QW _),Qd];rfl
 have hol:(st.addU o args.length).outer.length=st.outer.length+1:=by unfold SSt.addU;simp
 have hwk1:(WK U1 Vs).Perm ([.own q 9]++(kA q 0 [vi args.length,vi 0,vi 0,.pointer pa,vi U.length,.slice none 0 0,.map (some nb),.slice none 0 0,.slice none 0 0]++([.obj nb (.map #[] 0)]++WK U Vs))):=by
  rw[hU1];refine(wk_snocU U Vs _).trans ?_;have e:(newU q args.length (outQ U o) st.outer.length nb).atoms=.own q 9::(kA q 0 [vi args.length,vi 0,vi 0,.pointer pa,vi U.length,.slice none 0 0,.map (some nb),.slice none 0 0,.slice none 0 0]++[.obj nb (.map #[] 0)]):=by
   unfold UC.atoms UC.row newU;simp only[hpa,hul,slA,QD];rfl
  rw[e];simp
 rw[<- hU1]at hR1 hsl'|-;refine VO.imp (H':=[kA k9 0 [kE q],WK U1 Vs,[.obj b (.map es c)],X.S,kA q5 0 [vk,vn,l1,l2,l3,l4,l5,.slice aa args.length aac,.slice ta temps.length tac,.slice a kids.length ac,.int .i64 p],kA X.wq 0 [.map (some X.fb),.map (some X.gb),.slice ua' (U.length+1) uc'],slA (.slice ua' (U.length+1) uc') (U1.map fun u=>kK (some u.q)) sp',[.obj X.fb (.map X.fes X.fc)],[.obj X.gb (.map X.ges X.gc)],T]) ?_ ?_
 ·refine Imp.cut (M:=[kA k9 0 [kE q],[.own q 9],kA q 0 [vi args.length,vi 0,vi 0,.pointer pa,vi U.length,.slice none 0 0,.map (some nb),.slice none 0 0,.slice none 0 0],[.obj nb (.map #[] 0)],WK U Vs,[.obj b (.map es c)],X.S,kA q5 0 [vk,vn,l1,l2,l3,l4,l5,.slice aa args.length aac,.slice ta temps.length tac,.slice a kids.length ac,.int .i64 p],kA X.wq 0 [.map (some X.fb),.map (some X.gb),.slice ua' (U.length+1) uc'],slA (.slice ua' (U.length+1) uc') (U1.map fun u=>kK (some u.q)) sp',[.obj X.fb (.map X.fes X.fc)],[.obj X.gb (.map X.ges X.gc)],T]) ZI (Imp.perm ?_);have h:=fun R=>(vV R hwk1).symm
  simp only[vZ]at h;simp only[vz,V0,vd];exact vU _ (h _)
 have hs1:wX (st.addU o args.length) Vs env es c:=hs.more (QM _) (QM _) hS.rep.vl;have hbad:∀e:Nat×Int,(inS args temps p st env o).1.f=some e->(unitS X.F X.G args temps kids p st env o).f=some e:=fun e he=>by
  rw[we];exact(zK X.F X.G kids _ _ _).f e he
 have hbad1:∀e:Nat×Int,(kN st.outer.length true true p args 0 (st.addU o args.length) env).1.f=some e->(unitS X.F X.G args temps kids p st env o).f=some e:=fun e he=>hbad e (decl_some st.outer.length false true p temps 0 _ _ he)
 refine kJ (with_spec X.S st.outer.length args.length true true p args (.slice aa args.length aac) hav' (.func (.func 109) #[] #[kE k9]) (fun _ A=>A=kA k9 0 [kE q]) (st.addU o args.length) U1 Vs (mk_arg _ st.outer.length args.length q k9 hq1 Zo) hR1 (by rw[hol];omega) hna hS.ok (by show st.vars.length+args.length < _;omega) _ rfl env b es c hs1) Zr ZP (fun v Post hv=>?_) (fun ch Post hz=>?_);rotate_left
 ·obtain⟨hf1,q1,rfl,rfl⟩:=hz;exact⟨[X.S,jJ q1 180 p],ZI,q1,180,p,hbad1 _ hf1,rfl,rfl⟩
 obtain⟨b2,es2,c2,U2,V2,A2,⟨hf2,rfl,hR2,hq2,hb2,hp2,hs2,rfl⟩,rfl⟩:=hv;simp only[CNx];refine GOH ?_;obtain⟨g1,g2,g3,g4⟩:=jR st.outer.length true true p args 0 (st.addU o args.length) env;refine kJ (with_spec X.S st.outer.length args.length false true p temps (.slice ta temps.length tac) htv' (.func (.func 110) #[] #[kE k9]) (fun _ A=>A=kA k9 0 [kE q]) _ U2 V2 (mk_temp _ st.outer.length args.length q k9 temps.length (by rw[hq2];exact hq1)) hR2 (by rw[g1,hol];omega) (by rw[g2];exact hna) hf2 (by rw[g4];show st.vars.length+args.length+temps.length < _;omega) _ rfl _ b2 es2 c2 hs2) Zr ZP (fun v Post hv=>?_) (fun ch Post hz=>?_);rotate_left
 ·obtain⟨hf1,q1,rfl,rfl⟩:=hz;exact⟨[X.S,jJ q1 180 p],ZI,q1,180,p,hbad _ hf1,rfl,rfl⟩
 obtain⟨b3,es3,c3,U3,V3,A3,⟨hf3,rfl,hR3,hq3,hb3,hp3,hs3,rfl⟩,rfl⟩:=hv;simp only[CNx];obtain⟨d1,d2,d3,d4⟩:=jR st.outer.length false true p temps 0 (kN st.outer.length true true p args 0 (st.addU o args.length) env).1 (kN st.outer.length true true p args 0 (st.addU o args.length) env).2;have hin:kN st.outer.length false true p temps 0 (kN st.outer.length true true p args 0 (st.addU o args.length) env).1 (kN st.outer.length true true p args 0 (st.addU o args.length) env).2=inS args temps p st env o:=rfl;have hlv:∀v∈(inS args temps p st env o).2,(inS args temps p st env o).1.unitOf v∈(inS args temps p st env o).1.line st.outer.length:=fun v hv=>by
  have hwf3:Wf (inS args temps p st env o).1:=hR3.wf;have hou:(inS args temps p st env o).1.outer=(st.addU o args.length).outer:=d1.trans g1;have hl3:=hwf3.line (u:=st.outer.length) (by rw[hou,hol];omega);have hself:st.outer.length∈(inS args temps p st env o).1.line st.outer.length:=by rw[hl3];exact Q6 ..
  have hlt1:∀v∈env,v < (st.addU o args.length).vars.length:=fun v hv=>hs.lt v hv
  have hlt2:∀v∈(kN st.outer.length true true p args 0 (st.addU o args.length) env).2,v < (kN st.outer.length true true p args 0 (st.addU o args.length) env).1.vars.length:=fun v hv=>(decl_env _ _ _ _ _ _ _ _ hlt1 v hv).1
  obtain⟨_,hk⟩:=decl_env st.outer.length false true p temps 0 _ _ hlt2 v hv;rcases hk with⟨hk1,hk2⟩|hk
  ·obtain⟨_,hk3⟩:=decl_env st.outer.length true true p args 0 _ _ hlt1 v hk1;rcases hk3 with⟨hk4,hk5⟩|hk3
   ·obtain⟨i,hi1,hi2⟩:=hln v hk4;have he:(inS args temps p st env o).1.unitOf v=st.unitOf v:=hk2.trans hk5;have hgo:(inS args temps p st env o).1.outer.getD st.outer.length (-1)=o:=by
     rw[hou];show(st.outer++[o]).getD st.outer.length (-1)=o;exact zBV
    rw[hgo,if_neg Zo,show o.toNat=i by omega]at hl3;have hli:(inS args temps p st env o).1.line i=st.line i:=by
     have:=hS.rep.wf.line_add (n:=args.length) ho i Zo;rw[<- this];unfold SSt.line;rw[hou]
    rw[he,hl3,hli];exact Q5 _ hi2
   ·have he:(inS args temps p st env o).1.unitOf v=st.outer.length:=hk2.trans hk3;rw[he];exact hself
  ·have he:(inS args temps p st env o).1.unitOf v=st.outer.length:=hk;rw[he];exact hself
 rw[hin]at hf3 hR3 hs3 d1 d2 d3 d4;have hS3:StOk (inS args temps p st env o).1 (.slice ua' (U.length+1) uc') sp' U3 V3 T:=by
  have hqq:U3.map UC.q=U1.map UC.q:=hq3.trans hq2;have hbb:U3.map UC.body=U1.map UC.body:=hb3.trans hb2;have hlen3:U3.length=U.length+1:=by
   have:=congrArg List.length hqq;rw[Vp,Vp,hU1,Vj]at this;exact this
  have hpm:∀W:List UC,(W.map fun u=>kK (some u.q))=(W.map UC.q).map fun b=>kK (some b):=fun W=>by rw[Vz];rfl
  refine⟨hR3,hf3,?_,fun i w hw=>?_⟩
  ·rw[hlen3,hpm,hqq,<- hpm];exact hsl'
  ·have hb1:(U1.map UC.body)[i]? =some w.body:=by rw[<- hbb,Ve,hw];rfl
   have hbod:(inS args temps p st env o).1.bodies=st.bodies++[[]]:=d3.trans g3;rw[hbod];rw[Ve]at hb1;obtain⟨w1,hw1,hwb⟩:=Qk.1 hb1;rw[hU1,V6]at hw1;split at hw1
   ·rename_i hi;rw[getD_snoc (by rw[hS.rep.wf.bl,<- hul];exact hi),<- hwb];exact(hS.bod i w1 hw1).more (fun x hx=>hx) (hp2.trans hp3)
   ·rename_i hi;have hl1:=(Vd.1 hw1).1;simp only[Vu]at hl1;have e:i=st.bodies.length:=by rw[hS.rep.wf.bl];omega
    have e2:i - U.length=0:=by omega
    rw[e2]at hw1;have hw1':newU q args.length (outQ U o) st.outer.length nb=w1:=by simpa using hw1
    rw[<- hwb,<- hw1',e,V5,V8 (QW _),Qd];exact NsRd.nil _ _
 have hroom3:Room (inS args temps p st env o).1 (jK kids):=by
  have h1:zD st (inS args temps p st env o).1 (1+(args.length+temps.length)):=(less_unit st o args.length).trans ((wC _ _ _ _ _ _ _ _).trans (wC _ _ _ _ _ _ _ _));obtain⟨k1,k2,k3⟩:=h1;exact⟨Zo,Zo,Zo⟩
 obtain⟨w3,hw3,hwq3⟩:∃w,U3[st.outer.length]? =some w/\w.q=q:=unit_of rfl (by rw[hq3,hq2];exact hq1);have hall:=all_spec X kids a ac bk ko ks hll ha hm hr hok _ _ _ _ _ _ hS3 st.outer.length w3 hw3 _ b3 es3 c3 hs3 hlv hroom3;rw[hwq3]at hall;have hsm:(U3.map fun u=>kK (some u.q))=U1.map fun u=>kK (some u.q):=by
  have hpm:∀W:List UC,(W.map fun u=>kK (some u.q))=(W.map UC.q).map fun b=>kK (some b):=fun W=>by rw[Vz];rfl
  rw[hpm,hq3.trans hq2,<- hpm]
 have hend:∀(us4:Value) (usp4:List Value) (U4:List UC) (V4:List VCl) (T4:List kC) (rows:List (List Value)) (sp4:List Value) (B5:List kC) (va:Option Addr) (vc:Nat) (w4:UC),StOk (kR X.F X.G kids (inS args temps p st env o).1 (inS args temps p st env o).2 st.outer.length).2 us4 usp4 U4 V4 T4->jC 13 (.slice va (kR X.F X.G kids (inS args temps p st env o).1 (inS args temps p st env o).2 st.outer.length).1.length vc) (kR X.F X.G kids (inS args temps p st env o).1 (inS args temps p st env o).2 st.outer.length).1.length rows.flatten sp4->z9 B5 (V4.map VCl.q) (kR X.F X.G kids (inS args temps p st env o).1 (inS args temps p st env o).2 st.outer.length).1 rows->U4[st.outer.length]? =some w4->w4.q=q->U3.map UC.q <+:U4.map UC.q->V3.map VCl.q <+:V4.map VCl.q->
  StOk (unitS X.F X.G args temps kids p st env o) us4 usp4 (U4.set st.outer.length {w4 with body:=.slice va (kR X.F X.G kids (inS args temps p st env o).1 (inS args temps p st env o).2 st.outer.length).1.length vc}) V4 (T4++(slA (.slice va (kR X.F X.G kids (inS args temps p st env o).1 (inS args temps p st env o).2 st.outer.length).1.length vc) rows.flatten sp4++B5))/\U.map UC.q <+:(U4.set st.outer.length {w4 with body:=.slice va (kR X.F X.G kids (inS args temps p st env o).1 (inS args temps p st env o).2 st.outer.length).1.length vc}).map UC.q/\Vs.map VCl.q <+:V4.map VCl.q/\(∃w,(U4.set st.outer.length {w4 with body:=.slice va (kR X.F X.G kids (inS args temps p st env o).1 (inS args temps p st env o).2 st.outer.length).1.length vc})[st.outer.length]? =some w/\kE q=kE w.q)/\
  ((U4.set st.outer.length {w4 with body:=.slice va (kR X.F X.G kids (inS args temps p st env o).1 (inS args temps p st env o).2 st.outer.length).1.length vc}).map fun u=>kK (some u.q))=U4.map fun u=>kK (some u.q):=fun us4 usp4 U4 V4 T4 rows sp4 B5 va vc w4 k1 k2 k3 k4 k5 k6 k7=>by
  have hmq:=z5 (w':={w4 with body:=.slice va (kR X.F X.G kids (inS args temps p st env o).1 (inS args temps p st env o).2 st.outer.length).1.length vc}) k4 rfl;have hpm:∀W:List UC,(W.map fun u=>kK (some u.q))=(W.map UC.q).map fun b=>kK (some b):=fun W=>by rw[Vz];rfl
  have hpm2:((U4.set st.outer.length {w4 with body:=.slice va (kR X.F X.G kids (inS args temps p st env o).1 (inS args temps p st env o).2 st.outer.length).1.length vc}).map fun u=>kK (some u.q))=U4.map fun u=>kK (some u.q):=by rw[hpm,hmq,<- hpm]
  refine⟨?_,?_,(hp2.trans hp3).trans k7,⟨{w4 with body:=.slice va (kR X.F X.G kids (inS args temps p st env o).1 (inS args temps p st env o).2 st.outer.length).1.length vc},by rw[Vh];simp[(Vd.1 k4).1],by rw[<- k5]⟩,hpm2⟩
  ·rw[we];refine⟨k1.rep.body k4 _ _,k1.ok,by rw[hpm2,Vt];exact k1.sl,fun i w hw=>?_⟩;rcases set_get k4 hw with⟨rfl,rfl⟩|⟨hne,hw'⟩
   ·have hbl:=k1.rep.wf.bl;have hll:=(Vd.1 k4).1;rw[k1.rep.ul]at hll;have e:((kR X.F X.G kids (inS args temps p st env o).1 (inS args temps p st env o).2 st.outer.length).2.bodies.set st.outer.length (kR X.F X.G kids (inS args temps p st env o).1 (inS args temps p st env o).2 st.outer.length).1).getD st.outer.length []=(kR X.F X.G kids (inS args temps p st env o).1 (inS args temps p st env o).2 st.outer.length).1:=by
     rw[V5,Vh];simp[hbl,hll]
    show NsRd _ _ (.slice va (kR X.F X.G kids (inS args temps p st env o).1 (inS args temps p st env o).2 st.outer.length).1.length vc) (((kR X.F X.G kids (inS args temps p st env o).1 (inS args temps p st env o).2 st.outer.length).2.bodies.set st.outer.length (kR X.F X.G kids (inS args temps p st env o).1 (inS args temps p st env o).2 st.outer.length).1).getD st.outer.length []);rw[e];exact(ns_made k2 k3).more (fun x hx=>Q3 _ hx) (QM _)
   ·have e:((kR X.F X.G kids (inS args temps p st env o).1 (inS args temps p st env o).2 st.outer.length).2.bodies.set st.outer.length (kR X.F X.G kids (inS args temps p st env o).1 (inS args temps p st env o).2 st.outer.length).1).getD i []=(kR X.F X.G kids (inS args temps p st env o).1 (inS args temps p st env o).2 st.outer.length).2.bodies.getD i []:=by
     rw[V5,V5,Vh,if_neg (fun e=>hne e.symm)]
    show NsRd _ _ w.body (((kR X.F X.G kids (inS args temps p st env o).1 (inS args temps p st env o).2 st.outer.length).2.bodies.set st.outer.length (kR X.F X.G kids (inS args temps p st env o).1 (inS args temps p st env o).2 st.outer.length).1).getD i []);rw[e];exact(k1.bod i w hw').more (fun x hx=>Zw _ hx) (QM _)
  ·rw[hmq];refine List.IsPrefix.trans ?_ k6;rw[hq3.trans hq2,hU1,Vw];exact QL _ _
 unfold StepOk at hall;rw[hsm]at hall;refine GOH ?_;cases hfa:(kR X.F X.G kids (inS args temps p st env o).1 (inS args temps p st env o).2 st.outer.length).2.f with
 |some e=>
  refine VC.seq (VC.draw_panA ⟨⟨[_,_,_,_,_,_],_,_,_,_,rfl,?_⟩,⟨[_,_,_,_,_],_,_,_,_,rfl,?_⟩,trivial⟩)
  ·refine⟨?_,?_,?_,trivial⟩
   all_goals
    exact zBC
  ·refine⟨?_,trivial⟩;exact zBC
 |none=>
  refine VC.seq (VC.draws ⟨?_,?_,trivial⟩)
  ·skip
   exact zA4
  ·skip
   exact zA4
end Go.Proofs.YtijnokbblmbpkaaGreatDoor
namespace Go.Proofs.YtijnokbblmbpkaaGreatDoor
open Go Go.V
set_option maxHeartbeats 6400000
set_option maxRecDepth 100000
def InlR(pn:PN)(a n:Nat)(v:Value)(qs:List Nat)(B:List kC):Prop:=∃ws,v=.tuple #[.agg ws.toArray,lastV ((qs.drop a).take n)]/\NRd B qs pn ws
theorem inline_spec(X:Fix)(vk l1 l2 l3 l4 l5:Value)(vn:Value)(k:Nat)(s:ByteArray)(lit:Lt)(args temps:List ByteArray)(av tv:Value)(hav:RdT X.S av args)(htv:RdT X.S tv temps)(kids:List Nd)(a:Option Addr)(ac bk ko:Nat)(ks:Nat->List Value)(hll:kids.length < 1073741824)(ha:0 < kids.length->a=some ⟨bk,ko,none⟩)(hm:∀i,i < kids.length->∀y∈kA bk (ko+i*11) (ks i),y∈X.S)(hr:∀i x,kids[i]? =some x->jQ X.S x (ks i))(hok:∀i x,kids[i]? =some x->PartOk X x (ks i))(p:Int)
 (st:SSt) (us:Value) (usp:List Value) (U:List UC) (Vs:List VCl) (T:List kC) (hS:StOk st us usp U Vs T) (i:Nat) (u:UC) (hu:U[i]? =some u) (env:List Nat) (b:Nat) (es:Array MapEntry) (c:Nat) (hs:wX st Vs env es c) (hln:∀v∈env,st.unitOf v∈st.line i) (hroom:Room st (cntR args temps (jK kids))):
 StepOk X 231 [kE X.wq,.agg #[vk,vn,l1,l2,l3,l4,l5,av,tv,.slice a kids.length ac,.int .i64 p],kE u.q,.map (some b)] st (inlS X.F X.G (.mk k s lit args temps kids p) st env i).2 us usp U Vs T b es c (InlR (inlS X.F X.G (.mk k s lit args temps kids p) st env i).1 st.vars.length args.length):=by
 have hav':=hav;have htv':=htv;obtain⟨aa,aac,rfl,hal,har⟩:=hav;obtain⟨ta,tac,rfl,htl,htr⟩:=htv;obtain⟨r1,r2,r3⟩:=hroom;simp only[cntR]at r1 r2 r3;have hil:i < st.outer.length:=by have:=(Vd.1 hu).1;rw[hS.rep.ul]at this;exact this
 have huq:(U.map UC.q)[i]? =some u.q:=by rw[Ve,hu];rfl
 rw[inlS_eq];simp only;obtain⟨D1,hD1⟩:∃D1,D1=kN i true false p args 0 st env:=⟨_,rfl⟩;obtain⟨D2,hD2⟩:∃D2,D2=kN i false false p temps 0 D1.1 D1.2:=⟨_,rfl⟩;rw[<- hD1,<- hD2];have hbad2:∀e:Nat×Int,D2.1.f=some e->(kR X.F X.G kids D2.1 D2.2 i).2.f=some e:=fun e he=>(zK X.F X.G kids _ _ _).f e he
 have hbad1:∀e:Nat×Int,D1.1.f=some e->(kR X.F X.G kids D2.1 D2.2 i).2.f=some e:=fun e he=>hbad2 e (by rw[hD2];exact decl_some _ _ _ _ _ _ _ _ he)
 refine jY.intro low231 (by simp[n231]) ?_;refine GOH ?_;refine kd Zr (fun q5=>?_);simp only[Value.cells];refine GOH ?_;refine kd Zr (fun q6=>?_);simp only[Value.cells];refine GOH ?_;refine kL (fun q8=>?_);refine GOH ?_;refine kL (fun q10=>?_);refine GOH ?_;refine kL (fun q11=>?_);refine GOH ?_;obtain⟨g1,g2,g3,g4⟩:=jR i true false p args 0 st env;rw[<- hD1]at g1 g2 g3 g4;obtain⟨d1,d2,d3,d4⟩:=jR i false false p temps 0 D1.1 D1.2;rw[<- hD2]at d1 d2 d3 d4;have hw1:=with_spec X.S i (st.args.getD i 0) true false p args (.slice aa args.length aac) hav' (.func (.func 251) #[] #[kE q6,kE q10]) (fun ps A=>A=kA q6 0 [kE u.q]++kA q10 0 [lastV ps]) st U Vs (mk_first _ i _ u.q q6 q10 args.length huq) hS.rep hil rfl hS.ok Zo (kA q6 0 [kE u.q]++kA q10 0 [.pointer none]) rfl env b es c hs;rw[<- hD1]at hw1;have unf:ja (.slice none 0 0) (.slice none 0 0)=[.int .u8 14,.string ⟨#[]⟩,.int .u8 0,.int .i64 0,.int .u64 0,.string ⟨#[]⟩,.slice none 0 0,.slice none 0 0,.int .i64 0,.bool false,.slice none 0 0,.slice none 0 0,.slice none 0 0]:=rfl;refine VO.imp (H':=[kA q6 0 [kE u.q]++kA q10 0 [.pointer none],WK U Vs,[.obj b (.map es c)],X.S,kA q11 0 (ja (.slice none 0 0) (.slice none 0 0)),kA q8 0 [.int .u8 0,.string e0,.int .u8 0,.int .i64 0,.int .u64 0,.string e0,.slice none 0 0,.slice none 0 0,.int .i64 0,.bool false,.slice none 0 0,.slice none 0 0,.slice none 0 0],kA q5 0 [vk,vn,l1,l2,l3,l4,l5,.slice aa args.length aac,.slice ta temps.length tac,.slice a kids.length ac,.int .i64 p],kA X.wq 0 [.map (some X.fb),.map (some X.gb),us],slA us (U.map fun u=>kK (some u.q)) usp,[.obj X.fb (.map X.fes X.fc)],[.obj X.gb (.map X.ges X.gc)],T]) (Imp.cut (M:=[kA q6 0 [kE u.q],kA q10 0 [.pointer none],WK U Vs,[.obj b (.map es c)],X.S,kA q11 0 (ja (.slice none 0 0) (.slice none 0 0)),kA q8 0 [.int .u8 0,.string e0,.int .u8 0,.int .i64 0,.int .u64 0,.string e0,.slice none 0 0,.slice none 0 0,.int .i64 0,.bool false,.slice none 0 0,.slice none 0 0,.slice none 0 0],kA q5 0 [vk,vn,l1,l2,l3,l4,l5,.slice aa args.length aac,.slice ta temps.length tac,.slice a kids.length ac,.int .i64 p],kA X.wq 0 [.map (some X.fb),.map (some X.gb),us],slA us (U.map fun u=>kK (some u.q)) usp,[.obj X.fb (.map X.fes X.fc)],[.obj X.gb (.map X.ges X.gc)],T]) (by unfold e0;rw[unf];exact IMx) (Imp.perm Zs)) ?_;refine kJ hw1 Zr ZP (fun v Post hv=>?_) (fun ch Post hz=>?_);rotate_left
 ·obtain⟨hf1,q1,rfl,rfl⟩:=hz;exact⟨[X.S,jJ q1 180 p],ZI,q1,180,p,hbad1 _ hf1,rfl,rfl⟩
 obtain⟨b2,es2,c2,U2,V2,A2,⟨hf2,rfl,hR2,hq2,hb2,hp2,hs2,rfl⟩,rfl⟩:=hv;simp only[CNx];obtain⟨ps1,hps1⟩:∃ps1,ps1=(V2.map VCl.q).drop Vs.length:=⟨_,rfl⟩;rw[<- hps1];have hw2:=with_spec X.S i (st.args.getD i 0) false false p temps (.slice ta temps.length tac) htv' (.func (.func 252) #[] #[kE q6,kE q11]) (BodyJ u.q q6 q11) D1.1 U2 V2 (mk_body _ i _ u.q q6 q11 temps.length (by rw[hq2];exact huq) Zo) hR2 (by rw[g1];exact hil) (by rw[g2]) hf2 (by rw[g4];omega) (kA q6 0 [kE u.q]++(kA q11 0 (ja (.slice none 0 0) (.slice none 0 0))++[])) ⟨.slice none 0 0,[],.nil,rfl⟩ D1.2 b2 es2 c2 hs2;rw[<- hD2]at hw2;refine VO.imp (H':=[kA q6 0 [kE u.q],kA q10 0 [lastV ps1],WK U2 V2,[.obj b2 (.map es2 c2)],[.obj b (.map es c)],X.S,kA q11 0 (ja (.slice none 0 0) (.slice none 0 0)),kA q8 0 [.int .u8 0,.string e0,.int .u8 0,.int .i64 0,.int .u64 0,.string e0,.slice none 0 0,.slice none 0 0,.int .i64 0,.bool false,.slice none 0 0,.slice none 0 0,.slice none 0 0],kA q5 0 [vk,vn,l1,l2,l3,l4,l5,.slice aa args.length aac,.slice ta temps.length tac,.slice a kids.length ac,.int .i64 p],kA X.wq 0 [.map (some X.fb),.map (some X.gb),us],slA us (U.map fun u=>kK (some u.q)) usp,[.obj X.fb (.map X.fes X.fc)],[.obj X.gb (.map X.ges X.gc)],T]) (Imp.cut (M:=[kA q6 0 [kE u.q]++kA q10 0 [lastV ps1],WK U2 V2,[.obj b2 (.map es2 c2)],[.obj b (.map es c)],X.S,kA q11 0 (ja (.slice none 0 0) (.slice none 0 0)),kA q8 0 [.int .u8 0,.string e0,.int .u8 0,.int .i64 0,.int .u64 0,.string e0,.slice none 0 0,.slice none 0 0,.int .i64 0,.bool false,.slice none 0 0,.slice none 0 0,.slice none 0 0],kA q5 0 [vk,vn,l1,l2,l3,l4,l5,.slice aa args.length aac,.slice ta temps.length tac,.slice a kids.length ac,.int .i64 p],kA X.wq 0 [.map (some X.fb),.map (some X.gb),us],slA us (U.map fun u=>kK (some u.q)) usp,[.obj X.fb (.map X.fes X.fc)],[.obj X.gb (.map X.ges X.gc)],T]) ZI (Imp.perm Zs)) ?_;refine GOH ?_;refine VO.imp (H':=[kA q6 0 [kE u.q]++(kA q11 0 (ja (.slice none 0 0) (.slice none 0 0))++[]),WK U2 V2,[.obj b2 (.map es2 c2)],X.S,[.obj b (.map es c)],kA q10 0 [lastV ps1],kA q8 0 [.int .u8 0,.string e0,.int .u8 0,.int .i64 0,.int .u64 0,.string e0,.slice none 0 0,.slice none 0 0,.int .i64 0,.bool false,.slice none 0 0,.slice none 0 0,.slice none 0 0],kA q5 0 [vk,vn,l1,l2,l3,l4,l5,.slice aa args.length aac,.slice ta temps.length tac,.slice a kids.length ac,.int .i64 p],kA X.wq 0 [.map (some X.fb),.map (some X.gb),us],slA us (U.map fun u=>kK (some u.q)) usp,[.obj X.fb (.map X.fes X.fc)],[.obj X.gb (.map X.ges X.gc)],T]) (Imp.cut (M:=[kA q6 0 [kE u.q],kA q11 0 (ja (.slice none 0 0) (.slice none 0 0)),WK U2 V2,[.obj b2 (.map es2 c2)],X.S,[.obj b (.map es c)],kA q10 0 [lastV ps1],kA q8 0 [.int .u8 0,.string e0,.int .u8 0,.int .i64 0,.int .u64 0,.string e0,.slice none 0 0,.slice none 0 0,.int .i64 0,.bool false,.slice none 0 0,.slice none 0 0,.slice none 0 0],kA q5 0 [vk,vn,l1,l2,l3,l4,l5,.slice aa args.length aac,.slice ta temps.length tac,.slice a kids.length ac,.int .i64 p],kA X.wq 0 [.map (some X.fb),.map (some X.gb),us],slA us (U.map fun u=>kK (some u.q)) usp,[.obj X.fb (.map X.fes X.fc)],[.obj X.gb (.map X.ges X.gc)],T]) ZI (Imp.perm Zs)) ?_;refine kJ hw2 Zr ZP (fun v Post hv=>?_) (fun ch Post hz=>?_);rotate_left
 ·obtain⟨hf1,q1,rfl,rfl⟩:=hz;exact⟨[X.S,jJ q1 180 p],ZI,q1,180,p,hbad2 _ hf1,rfl,rfl⟩
 obtain⟨b3,es3,c3,U3,V3,A3,⟨hf3,rfl,hR3,hq3,hb3,hp3,hs3,hJ3⟩,rfl⟩:=hv;obtain⟨tv0,tsp,hsl3,rfl⟩:=hJ3;simp only[CNx];obtain⟨ps2,hps2⟩:∃ps2,ps2=(V3.map VCl.q).drop V2.length:=⟨_,rfl⟩;rw[<- hps2]at hsl3|-;obtain⟨tva,tvc,rfl⟩:=hsl3.form;refine VO.imp (H':=[kA q6 0 [kE u.q],kA q11 0 (ja (.slice tva ps2.length tvc) (.slice none 0 0)),slA (.slice tva ps2.length tvc) (ps2.map fun b=>kK (some b)) tsp,WK U3 V3,[.obj b3 (.map es3 c3)],X.S,[.obj b (.map es c)],kA q10 0 [lastV ps1],kA q8 0 [.int .u8 0,.string e0,.int .u8 0,.int .i64 0,.int .u64 0,.string e0,.slice none 0 0,.slice none 0 0,.int .i64 0,.bool false,.slice none 0 0,.slice none 0 0,.slice none 0 0],kA q5 0 [vk,vn,l1,l2,l3,l4,l5,.slice aa args.length aac,.slice ta temps.length tac,.slice a kids.length ac,.int .i64 p],kA X.wq 0 [.map (some X.fb),.map (some X.gb),us],slA us (U.map fun u=>kK (some u.q)) usp,[.obj X.fb (.map X.fes X.fc)],[.obj X.gb (.map X.ges X.gc)],T]) (Imp.cut (M:=[kA q6 0 [kE u.q]++(kA q11 0 (ja (.slice tva ps2.length tvc) (.slice none 0 0))++slA (.slice tva ps2.length tvc) (ps2.map fun b=>kK (some b)) tsp),WK U3 V3,[.obj b3 (.map es3 c3)],X.S,[.obj b (.map es c)],kA q10 0 [lastV ps1],kA q8 0 [.int .u8 0,.string e0,.int .u8 0,.int .i64 0,.int .u64 0,.string e0,.slice none 0 0,.slice none 0 0,.int .i64 0,.bool false,.slice none 0 0,.slice none 0 0,.slice none 0 0],kA q5 0 [vk,vn,l1,l2,l3,l4,l5,.slice aa args.length aac,.slice ta temps.length tac,.slice a kids.length ac,.int .i64 p],kA X.wq 0 [.map (some X.fb),.map (some X.gb),us],slA us (U.map fun u=>kK (some u.q)) usp,[.obj X.fb (.map X.fes X.fc)],[.obj X.gb (.map X.ges X.gc)],T]) ZI (Imp.perm Zs)) ?_;have hpm:∀W:List UC,(W.map fun u=>kK (some u.q))=(W.map UC.q).map fun b=>kK (some b):=fun W=>by rw[Vz];rfl
 have hqq:U3.map UC.q=U.map UC.q:=hq3.trans hq2;have hsm:(U3.map fun u=>kK (some u.q))=U.map fun u=>kK (some u.q):=by rw[hpm,hqq,<- hpm]
 have hS3:StOk D2.1 us usp U3 V3 T:=by
  have hlen3:U3.length=U.length:=by have:=congrArg List.length hqq;rwa [Vp,Vp]at this
  refine⟨hR3,hf3,by rw[hlen3,hsm];exact hS.sl,fun j w hw=>?_⟩;have hb1:(U.map UC.body)[j]? =some w.body:=by rw[<- hb3.trans hb2,Ve,hw];rfl
  rw[Ve]at hb1;obtain⟨w1,hw1,hwb⟩:=Qk.1 hb1;rw[d3,g3,<- hwb];exact(hS.bod j w1 hw1).more (fun x hx=>hx) (hp2.trans hp3)
 have hlv:∀v∈D2.2,D2.1.unitOf v∈D2.1.line i:=fun v hv=>by
  have hl3:D2.1.line i=st.line i:=by unfold SSt.line;rw[d1,g1]
  have hself:i∈st.line i:=by rw[hS.rep.wf.line Zo];exact Q6 ..
  have hlt2:∀v∈D1.2,v < D1.1.vars.length:=fun v hv=>by rw[hD1]at hv|-;exact(decl_env _ _ _ _ _ _ _ _ hs.lt v hv).1
  rw[hl3];rw[hD2]at hv|-;obtain⟨_,hk⟩:=decl_env i false false p temps 0 _ _ hlt2 v hv;rcases hk with⟨hk1,hk2⟩|hk
  ·rw[hk2];rw[hD1]at hk1|-;obtain⟨_,hk3⟩:=decl_env i true false p args 0 _ _ hs.lt v hk1;rcases hk3 with⟨hk4,hk5⟩|hk3
   ·rw[hk5];exact hln v hk4
   ·rw[hk3];exact hself
  ·rw[hk];exact hself
 have hroom3:Room D2.1 (jK kids):=by
  have h1:zD st D2.1 (args.length+temps.length):=by
   rw[hD2,hD1];exact(wC _ _ _ _ _ _ _ _).trans (wC _ _ _ _ _ _ _ _)
  obtain⟨k1,k2,k3⟩:=h1;exact⟨Zo,Zo,Zo⟩
 obtain⟨w3,hw3,hwq3⟩:∃w,U3[i]? =some w/\w.q=u.q:=unit_of rfl (by rw[hqq];exact huq);have hall:=all_spec X kids a ac bk ko ks hll ha hm hr hok _ _ _ _ _ _ hS3 i w3 hw3 _ b3 es3 c3 hs3 hlv hroom3;rw[hwq3]at hall;unfold StepOk at hall;rw[hsm]at hall;refine GOH ?_;refine kJ hall Zr ZP (fun v Post hv=>?_) (fun ch Post hz=>?_);rotate_left
 ·obtain⟨q1,e1,p1,hb1,rfl,rfl⟩:=hz;exact⟨[X.S,jJ q1 e1 p1],ZI,q1,e1,p1,hb1,rfl,rfl⟩
 obtain⟨us4,usp4,U4,V4,T4,B4,⟨hS4,hpU4,hpV4,rows,sp4,B5,hsl4,hrows4,rfl⟩,rfl⟩:=hv;simp only[CNx];obtain⟨va,vc,rfl⟩:=hsl4.form;have hl2:V2.length=st.vars.length+args.length:=by rw[hR2.vl,g4]
 have hl3:V3.length=D1.1.vars.length+temps.length:=by rw[hR3.vl,d4]
 have hps2':((V4.map VCl.q).drop D1.1.vars.length).take temps.length=ps2:=by
  rw[drop_take hpV4 (by rw[Vp];exact hl3),hps2,hR2.vl]
 have hps1':((V4.map VCl.q).drop st.vars.length).take args.length=ps1:=by
  rw[drop_take (hp3.trans hpV4) (by rw[Vp];exact hl2),hps1,hS.rep.vl]
 have hinl:InlR (.mk 14 e0 lt0 ((List.range' D1.1.vars.length temps.length).map rawR) 0 false (kR X.F X.G kids D2.1 D2.2 i).1) st.vars.length args.length (.tuple #[.agg (ja (.slice tva ps2.length tvc) (.slice va (kR X.F X.G kids D2.1 D2.2 i).1.length vc)).toArray,lastV ps1]) (V4.map VCl.q) (slA (.slice va (kR X.F X.G kids D2.1 D2.2 i).1.length vc) rows.flatten sp4++(B5++slA (.slice tva ps2.length tvc) (ps2.map fun b=>kK (some b)) tsp)):=by
  refine⟨_,by rw[hps1'],?_⟩;have hle:D1.1.vars.length+temps.length<=(V4.map VCl.q).length:=by
   have:=hpV4.length_le;rw[Vp,hl3]at this;exact this
  have:=n_made (k:=14) (nm:=e0) (lit:=lt0) (refs:=(List.range' D1.1.vars.length temps.length).map rawR) (unit:=0) (sup:=false) (rv:=.slice none 0 0) (vv:=.slice tva ps2.length tvc) (B:=B5++slA (.slice tva ps2.length tvc) (ps2.map fun b=>kK (some b)) tsp) hsl4 (hrows4.more (fun x hx=>Zw _ hx) (QM _)) (lt0_rd _) (by rw[plains_range];exact jm.nil _) (by
   rw[raws_range,vals_range hle,hps2'];exact(ptrs_made rfl hsl3).more (fun x hx=>Q3 _ hx)) (refs_range hle)
  exact this
 unfold ja;refine GOH ?_;refine VC.seq ?_;refine VC.draws ⟨?_,?_,trivial⟩
 ·exact zAJ
 ·exact zAJ
end Go.Proofs.YtijnokbblmbpkaaGreatDoor

/-
  A part of the proof.
-/
import Derived.Test.YtijnokbblmbpkaaGreatDoorH12
import Derived.Test.YtijnokbblmbpkaaGreatDoorH6
import Derived.KernelRfl
import Derived.Test.YtijnokbblmbpkaaGreatDoorProg
import Derived.Test.YtijnokbblmbpkaaGreatDoorH4
import Derived.Test.YtijnokbblmbpkaaGreatDoorH7
import Derived.Test.YtijnokbblmbpkaaGreatDoorH3
import Derived.Test.YtijnokbblmbpkaaGreatDoorH8
import Derived.Test.YtijnokbblmbpkaaGreatDoorH11
set_option linter.all false
set_option maxHeartbeats 12800000
set_option maxRecDepth 100000
namespace Go.Proofs.YtijnokbblmbpkaaGreatDoor
open Go Go.V
def XZ(X:DX)(w:DW)(f:Option (Nat×Int))(rv nv hv:Value):List Value:=[X.fv,X.gv,w.vv,w.ov,w.av,w.wv,w.bv,.int .i64 (zw f),.int .i64 (yC f),rv,nv,hv]
structure RkS (X:DX)(st:ai)(w:DW)(S:List kC):Prop where
 vars:wn 4 Y7 S w.vv st.vars
 a7:wn 1 WI S w.ov st.a7
 a5:wn 1 Xc S w.av st.a5
 dg:wn 2 useRd S w.wv st.dg
 a8:wn 1 (Et S) S w.bv st.a8
def rk_of {X st w R}(h:gN X st w R):RkS X st w (aj w.vv (st.vars.flatMap jl) w.pD++(aj w.ov (st.a7.map λn=>Value.int .i64 n) w.E8++(aj w.av (st.a5.map λn:Nat=>Value.int .i64 (n:Int)) w.Ep++(aj w.wv (st.dg.flatMap ym) w.Ie++(aj w.bv w.bs w.qI++R))))):=
 ⟨wZ (s9 (enc:=jl) (λ_=>rfl) h.v) (λx d=>by simp[d]),wZ (M3 h.o) (λx d=>by simp[d]),wZ (M3 h.a) (λx d=>by simp[d]),wZ (s9 (enc:=ym) (λ_=>rfl) h.u) (λx d=>by simp[d]),
   (ξ (R:=R) h.b h.bd).imp (λx d=>by simp[d]) λ_ _ k=>Bd k λx d=>by simp[d]⟩
def zrow1(n z):jA n [z]=List.replicate n z:=by
 unfold jA;rw[List.eq_replicate_iff];refine⟨Zs,λb d=>?_⟩;obtain⟨i,_,rfl⟩:=QO.1 d;have:i%1=0:=Nat.mod_one i;simp[this]
def Ht(X st w R)(hw:gN X st w R)(hp:Ph st)(xE:st.vars.length < 1073741824)(ZS:st.a7.length < 1073741824)(S9:st.dg.length < 1073741824)(oU:∀j,st.a5.getD j 0 < 1073741824)(n9:∀u,(st.a9 u).length < 2199023255552):
 aq pg9 45 [kE X.q] [DM X w st,R] (λv dl=>∃B,v=.tuple #[]/\F9 (R++B) X.q st/\dl=[R++B]):=by
 have g:=rk_of hw;obtain⟨va,vc,Jk⟩:=yS g.vars;obtain⟨oa,oc,hof⟩:=yS g.a7;obtain⟨ua,uc,huf⟩:=yS g.dg;generalize hSd:aj w.vv (st.vars.flatMap jl) w.pD++(aj w.ov (st.a7.map λn=>Value.int .i64 n) w.E8++(aj w.av (st.a5.map λn:Nat=>Value.int .i64 (n:Int)) w.Ep++(aj w.wv (st.dg.flatMap ym) w.Ie++(aj w.bv w.bs w.qI++R))))=S at g;obtain⟨SX,hSX⟩:∃SX,S=SX++R:=⟨aj w.vv (st.vars.flatMap jl) w.pD++(aj w.ov (st.a7.map λn=>Value.int .i64 n) w.E8++(aj w.av (st.a5.map λn:Nat=>Value.int .i64 (n:Int)) w.Ep++(aj w.wv (st.dg.flatMap ym) w.Ie++aj w.bv w.bs w.qI))),by rw[<- hSd];simp⟩;refine aq.intro low45 Zn9 ?_;refine VC.imp (H':=[kA X.q 0 (XZ X w st.f Nz Nz Nz),S]) (ap.cut (fw X w st [R]) (ap.perm (by rw[<- hSd];simp[et,XZ]))) ?_;unfold XZ;obtain⟨vv,pD,ov,E8,av,Ep,wv,Ie,bv,bs,qI⟩:=w;simp only at Jk hof huf g|-;subst Jk hof huf;refine af ?_;refine Dd Zr Zr ⟨Zo,Zo,Zo,Zo⟩ Zr (λrb=>?_);simp only[vW];refine af ?_;refine Dd Zr Zr ⟨Zo,Zo,Zo,Zo⟩ Zr (λnb=>?_);simp only[vW];rw[zrow1,zrow1];have hux:∀(i:Nat) x,st.dg[i]? =some x->∃b o,ua=some ⟨b,o,none⟩/\kC.cell b (o+i*2) (vi (x.1:Int))∈S/\kC.cell b (o+i*2+1) (vi (x.2:Int))∈S:=λi x d=>by
  obtain⟨b,o,c,us,hf,_,hc,rfl⟩:=yG g.dg d;rw[Value.slice.injEq]at hf;exact⟨b,o,hf.1,hc _ (kI.2 ⟨0,_,rfl,Zs⟩),hc _ (kI.2 ⟨1,_,rfl,Zs⟩)⟩
 have hvx:∀(i:Nat) x,st.vars[i]? =some x->∃b o,va=some ⟨b,o,none⟩/\∀y∈kA b (o+i*4) (jl x),y∈S:=λi x d=>by
  obtain⟨b,o,c,us,hf,_,hc,rfl⟩:=yG g.vars d;rw[Value.slice.injEq]at hf;exact⟨b,o,hf.1,hc⟩
 have Rp:∀(i:Nat) x,st.a7[i]? =some x->∃b o,oa=some ⟨b,o,none⟩/\kC.cell b (o+i) (vi x)∈S:=λi x d=>by
  obtain⟨b,o,c,us,hf,_,hc,rfl⟩:=yG g.a7 d;exact zDX
 refine af ?_;refine VC.loop (α:=Nat) (bg:=λi=>[(0,kE X.q),(2,vi i)]) (Hf:=λi=>[kA X.q 0 [X.fv,X.gv,.slice va st.vars.length vc,.slice oa st.a7.length oc,av,.slice ua st.dg.length uc,bv,vi (zw st.f),vi (yC st.f),.slice (some ⟨rb,0,none⟩) st.vars.length st.vars.length,.slice (some ⟨nb,0,none⟩) st.a7.length st.a7.length,Nz],S,kA rb 0 (sR st i),kA nb 0 (List.replicate st.a7.length Nz)]) (I:=λi=>i<=st.dg.length) (μ:=λi=>st.dg.length-i) 0 (X0 _) ZU (by rw[remL_0];exact bH) ?_;intro i hi;refine af ?_;by_cases cm:i<st.dg.length
 .obtain⟨⟨u,v⟩,E⟩:∃x,st.dg[i]? =some x:=⟨_,Zg cm⟩;obtain⟨ub,uo,rfl,O,U⟩:=hux i _ E;have DO:=(hp.wf.uu _ (Zv E)).2;simp only at O U DO;obtain⟨x,d⟩:∃x,st.vars[v]? =some x:=⟨_,Zg DO⟩;obtain⟨vb,vo,rfl,Rv⟩:=hvx v x d;have hu:=ye d;have ho:=gu d;rw[A0 ((i:Int) < (st.dg.length:Int))];refine af ?_;refine kR (us:=jl x) Zr (λz hz=>by have:=Rv z hz;simp[this]) rfl ?_;unfold jl;refine af ?_;refine kJ (λq3=>?_);refine af ?_;by_cases k1:x.own<0
  .rw[Zt k1];refine af ?_;by_cases k2:x.cg=u
   .rw[A0 ((x.cg:Int)=(u:Int))];have pX:=Fk st E (λk=>k.2 (hu.trans k2));refine af ?_;exact⟨i+1,Zo,Zo,ZU,by rw[pX];exact bH⟩
   .rw[A1 ((x.cg:Int)=(u:Int))];have uw:=XY st E (by rw[ho];exact k1) (by rw[hu];exact k2);refine af ?_;refine zr (us:=[.bool true]) Zr Zr Zr Zr Zr (.there (.there (.there (Kv.Yk (i:=v) Zo (by rw[XX];exact DO))))) ?_;rw[<- uw];refine af ?_;exact⟨i+1,Zo,Zo,ZU,ZI⟩
  .rw[Zf k1];have pX:=Fk st E (λk=>k1 (by rw[<- ho];exact k.1));refine af ?_;exact⟨i+1,Zo,Zo,ZU,by rw[pX];exact bH⟩
 rw[A1 ((i:Int) < (st.dg.length:Int))];obtain rfl:i=st.dg.length:=by omega
 generalize hRB:kA rb 0 (sR st st.dg.length)=RB;have sh:(List.replicate st.a7.length (⟨Nz,[],[]⟩:NC)).flatMap ncA=[]:=List.flatMap_eq_nil_iff.2 (λx d=>by rw[List.eq_of_mem_replicate d];rfl);refine af ?_;refine VC.loop (α:=Nat×List NC) (bg:=λs=>[(0,kE X.q),(4,vi s.1)]) (Hf:=λs=>[kA X.q 0 [X.fv,X.gv,.slice va st.vars.length vc,.slice oa st.a7.length oc,av,.slice ua st.dg.length uc,bv,vi (zw st.f),vi (yC st.f),.slice (some ⟨rb,0,none⟩) st.vars.length st.vars.length,.slice (some ⟨nb,0,none⟩) st.a7.length st.a7.length,Nz],S,RB,kA nb 0 (s.2.map NC.v),s.2.flatMap ncA]) (I:=λs=>s.1<=st.dg.length/\uB (st.upto s.1).aD st.a7.length (s.2.map NC.l)/\∀x∈s.2,NcOk x) (μ:=λs=>st.dg.length-s.1) (0,List.replicate st.a7.length ⟨Nz,[],[]⟩)
  ⟨X0 _,by simp only[List.map_replicate];exact uB.nil st _,λx d=>by rw[List.eq_of_mem_replicate d];exact .nil⟩ ZU (ap.cut (M:=[kA X.q 0 [X.fv,X.gv,.slice va st.vars.length vc,.slice oa st.a7.length oc,av,.slice ua st.dg.length uc,bv,vi (zw st.f),vi (yC st.f),.slice (some ⟨rb,0,none⟩) st.vars.length st.vars.length,.slice (some ⟨nb,0,none⟩) st.a7.length st.a7.length,Nz],S,RB,kA nb 0 (List.replicate st.a7.length Nz)]) ZI (ap.perm (by simp[sh]))) ?_
 rintro⟨i,ND⟩ ⟨Gx,N,F⟩
 simp only at Gx N F;dsimp only;refine af ?_;by_cases cm:i<st.dg.length
 .obtain⟨⟨u,v⟩,E⟩:∃x,st.dg[i]? =some x:=⟨_,Zg cm⟩;obtain⟨ub,uo,rfl,O,U⟩:=hux i _ E;obtain⟨L,DO⟩:=hp.wf.uu _ (Zv E);have re:=hp.us _ (Zv E);simp only at O U DO L re;obtain⟨x,d⟩:∃x,st.vars[v]? =some x:=⟨_,Zg DO⟩;obtain⟨vb,vo,rfl,Rv⟩:=hvx v x d;have hu:=ye d;have ho:=gu d;rw[A0 ((i:Int) < (st.dg.length:Int))];refine af ?_;refine kR (us:=jl x) Zr (λz hz=>by have:=Rv z hz;simp[this]) rfl ?_;unfold jl;refine af ?_;refine kJ (λq5=>?_);refine af ?_;refine VC.loop (α:=Nat×List NC×List Nat) (bg:=λs=>[(0,kE X.q),(4,vi i),(5,kE q5),(6,vi s.1)]) (Hf:=λs=>[kA q5 0 [.string x.name,vi (x.cg:Int),.bool x.arg,vi x.own],kA X.q 0 [X.fv,X.gv,.slice (some ⟨vb,vo,none⟩) st.vars.length vc,.slice oa st.a7.length oc,av,.slice (some ⟨ub,uo,none⟩) st.dg.length uc,bv,vi (zw st.f),vi (yC st.f),.slice (some ⟨rb,0,none⟩) st.vars.length st.vars.length,.slice (some ⟨nb,0,none⟩) st.a7.length st.a7.length,Nz],S,RB,kA nb 0 (s.2.1.map NC.v),s.2.1.flatMap ncA])
   (I:=λs=>s.1<st.a7.length/\st.way u v=s.2.2++st.way s.1 v/\st.ah v∈st.line s.1/\uB (Ej st i v s.2.2) st.a7.length (s.2.1.map NC.l)/\∀x∈s.2.1,NcOk x) (μ:=λs=>s.1) (u,ND,[]) ⟨L,rfl,re,N.begin v,F⟩ ZU ZI ?_
  rintro⟨c,ND,D⟩ ⟨hc,hD,K,pT,N5⟩
  simp only at hc hD K pT N5;dsimp only;refine af ?_;by_cases k2:c=x.cg
  .rw[A0 ((c:Int)=(x.cg:Int))];rw[hp.wf.oO Zo (k2.trans hu.symm),vm]at hD;rw[<- hD]at pT;refine af ?_;exact⟨(i+1,ND),⟨by simp only;omega,pT.done E,N5⟩,by simp only;omega,ZU,ZI⟩
  .rw[A1 ((c:Int)=(x.cg:Int))];obtain⟨o,hoo,hoc,Rw,hol1⟩:=Zb hp.wf hc (λk=>k2 (k.trans hu)) K;have U8:ND.length=st.a7.length:=by have:=pT.len;rwa [Q6]at this
   obtain⟨y,A⟩:∃y,ND[c]? =some y:=⟨_,Zg Zo⟩;have hyn:(ND.map NC.l)[c]? =some y.l:=by rw[Vu,A];rfl
   have Wu:=N5 y (Zv A);have cS:y.l.length<2199023255552:=by have:=way_few E (pT.nd c _ hyn) (pT.mem c _ hyn);omega
   have cy:kC.cell nb c y.v∈kA nb 0 (ND.map NC.v):=kI.2 ⟨c,_,by rw[Vu,A];rfl,Zs⟩;obtain⟨rest,hr1,de⟩:=P4 (f:=ncA) A;obtain⟨ob,oo,rfl,co⟩:=Rp c _ hoo;refine af ?_;refine VC.draws ⟨?_,?_,trivial⟩
   .exact zAC
   .exact zAC
 rw[A1 ((i:Int) < (st.dg.length:Int))];obtain rfl:i=st.dg.length:=by omega
 rw[Dk st (Qs _)]at N;have U8:ND.length=st.a7.length:=by have:=N.len;rwa [Q6]at this
 have W:wn 1 La RB (.slice (some ⟨rb,0,none⟩) st.vars.length st.vars.length) ((List.range st.vars.length).map st.rem):=by
  have e:sR st st.dg.length=((List.range st.vars.length).map st.rem).map Value.bool:=by
   unfold sR;rw[QF];refine QD λw _=>?_
   rw[Dk st (Qs _)];rfl
  rw[<- hRB,e];have aM:ke 1 (.slice (some ⟨rb,0,none⟩) st.vars.length st.vars.length) ((List.range st.vars.length).map st.rem).length (((List.range st.vars.length).map st.rem).map Value.bool) []:=by
   rw[Q6,Q8];exact .mk Zs Zs (Qs _)
  have h1:=M3 aM;have e2:aj (.slice (some ⟨rb,0,none⟩) st.vars.length st.vars.length) (((List.range st.vars.length).map st.rem).map Value.bool) []=kA rb 0 (((List.range st.vars.length).map st.rem).map Value.bool):=by simp[aj]
  rwa [e2]at h1
 have Mc:wn 1 (Cs (ND.flatMap ncA)) (kA nb 0 (ND.map NC.v)) (.slice (some ⟨nb,0,none⟩) st.a7.length st.a7.length) (ND.map NC.l):=by
  have aM:ke 1 (.slice (some ⟨nb,0,none⟩) st.a7.length st.a7.length) (ND.map NC.l).length (ND.map NC.v) []:=by
   rw[Q6,U8];exact .mk (by simp[U8]) (by simp[U8]) (Qs _)
  have h1:=Oi (R:=ND.flatMap ncA) aM (λi x d=>by
   rw[Vu]at d;obtain⟨y,A,rfl⟩:=X5.1 d;refine⟨y.v,by rw[Vu,A];rfl,wZ (s9 (enc:=jm) (λ_=>rfl) (F y (Zv A))) λa ha=>QN.2 ⟨y,Zv A,ha⟩⟩)
  have e2:aj (.slice (some ⟨nb,0,none⟩) st.a7.length st.a7.length) (ND.map NC.v) []=kA nb 0 (ND.map NC.v):=by simp[aj]
  rwa [e2]at h1
 generalize hNB:kA nb 0 (ND.map NC.v)=NB at Mc;generalize hNA:ND.flatMap ncA=NA at Mc;obtain⟨S3,ZD⟩:∃S3,S3=S++(RB++(NB++NA)):=⟨_,rfl⟩;have J:∀a∈S,a∈S3:=λa ha=>by rw[ZD];simp[ha]
 refine af ?_;refine VC.loop (α:=Nat×Value×List Value×List Value×List kC) (bg:=λs=>[(0,kE X.q),(7,vi s.1)]) (Hf:=λs=>[kA X.q 0 [X.fv,X.gv,.slice va st.vars.length vc,.slice oa st.a7.length oc,av,.slice ua st.dg.length uc,bv,vi (zw st.f),vi (yC st.f),.slice (some ⟨rb,0,none⟩) st.vars.length st.vars.length,.slice (some ⟨nb,0,none⟩) st.a7.length st.a7.length,s.2.1],S3,aj s.2.1 s.2.2.1 s.2.2.2.1,s.2.2.2.2])
  (I:=λs=>s.1<=st.a7.length/\ke 1 s.2.1 s.1 s.2.2.1 s.2.2.2.1/\∀i,i<s.1->∃v,s.2.2.1[i]? =some v/\wn 2 thRd s.2.2.2.2 v (st.a9 i)) (μ:=λs=>st.a7.length-s.1) (0,Nz,[],[],[]) ⟨X0 _,.nil,λi h=>absurd h (by simp only;omega)⟩ ZU
  (ap.cut (M:=[kA X.q 0 [X.fv,X.gv,.slice va st.vars.length vc,.slice oa st.a7.length oc,av,.slice ua st.dg.length uc,bv,vi (zw st.f),vi (yC st.f),.slice (some ⟨rb,0,none⟩) st.vars.length st.vars.length,.slice (some ⟨nb,0,none⟩) st.a7.length st.a7.length,Nz],S,RB,NB,NA]) ZI (ap.perm (by rw[ZD];simp[aj]))) ?_
 rintro⟨j,hv,hs,pY,B⟩ ⟨hj,aM,lW⟩
 simp only at hj aM lW;dsimp only;obtain⟨ha,hc,rfl⟩:=aM.form;have hsn:=aM.len;refine af ?_;by_cases gh:j<st.a7.length;rotate_left
 .rw[A1 ((j:Int) < (st.a7.length:Int))];obtain rfl:j=st.a7.length:=by omega
  have xB:=Oi (R:=B) (l:=(List.range st.a7.length).map st.a9) (by rw[Q6,Q8];exact aM) (λi x d=>by
   rw[Vu]at d;obtain⟨y,A,rfl⟩:=X5.1 d;obtain⟨cS,rfl⟩:=Vt.1 A;rw[Q8]at cS;simpa using lW i cS)
  refine af ?_;have cJ:(kA X.q 0 [X.fv,X.gv,.slice va st.vars.length vc,.slice oa st.a7.length oc,av,.slice ua st.dg.length uc,bv,vi (zw st.f),vi (yC st.f),.slice (some ⟨rb,0,none⟩) st.vars.length st.vars.length,.slice (some ⟨nb,0,none⟩) st.a7.length st.a7.length,.slice ha st.a7.length hc]++(S3++(aj (.slice ha st.a7.length hc) hs pY++B))).Perm (R++((kA X.q 0 [X.fv,X.gv,.slice va st.vars.length vc,.slice oa st.a7.length oc,av,.slice ua st.dg.length uc,bv,vi (zw st.f),vi (yC st.f),.slice (some ⟨rb,0,none⟩) st.vars.length st.vars.length,.slice (some ⟨nb,0,none⟩) st.a7.length st.a7.length,.slice ha st.a7.length hc]++SX)++((RB++(NB++NA))++(aj (.slice ha st.a7.length hc) hs pY++B)))):=by
   rw[ZD,hSX];have e:∀Q Y Z:List kC,Q++(((SX++R)++Y)++Z)=(Q++SX)++(R++(Y++Z)):=λQ Y Z=>by simp
   rw[e];exact Qa _ _ _
  refine kG (dl:=[R++((kA X.q 0 [X.fv,X.gv,.slice va st.vars.length vc,.slice oa st.a7.length oc,av,.slice ua st.dg.length uc,bv,vi (zw st.f),vi (yC st.f),.slice (some ⟨rb,0,none⟩) st.vars.length st.vars.length,.slice (some ⟨nb,0,none⟩) st.a7.length st.a7.length,.slice ha st.a7.length hc]++SX)++((RB++(NB++NA))++(aj (.slice ha st.a7.length hc) hs pY++B)))]) (.inl rfl) .nil ⟨_,rfl,F9.more (T:=kA X.q 0 [X.fv,X.gv,.slice va st.vars.length vc,.slice oa st.a7.length oc,av,.slice ua st.dg.length uc,bv,vi (zw st.f),vi (yC st.f),.slice (some ⟨rb,0,none⟩) st.vars.length st.vars.length,.slice (some ⟨nb,0,none⟩) st.a7.length st.a7.length,.slice ha st.a7.length hc]++(S3++(aj (.slice ha st.a7.length hc) hs pY++B))) ?_ (λa h=>cJ.mem_iff.1 h),rfl⟩ (ap.cut (M:=[kA X.q 0 [X.fv,X.gv,.slice va st.vars.length vc,.slice oa st.a7.length oc,av,.slice ua st.dg.length uc,bv,vi (zw st.f),vi (yC st.f),.slice (some ⟨rb,0,none⟩) st.vars.length st.vars.length,.slice (some ⟨nb,0,none⟩) st.a7.length st.a7.length,.slice ha st.a7.length hc],S3,aj (.slice ha st.a7.length hc) hs pY,B]) ZI (ap.perm (by simpa using cJ)));have G:∀{k:Nat} {v:Value},([X.fv,X.gv,.slice va st.vars.length vc,.slice oa st.a7.length oc,av,.slice ua st.dg.length uc,bv,vi (zw st.f),vi (yC st.f),.slice (some ⟨rb,0,none⟩) st.vars.length st.vars.length,.slice (some ⟨nb,0,none⟩) st.a7.length st.a7.length,.slice ha st.a7.length hc]:List Value)[k]? =some v->kC.cell X.q k v∈kA X.q 0 [X.fv,X.gv,.slice va st.vars.length vc,.slice oa st.a7.length oc,av,.slice ua st.dg.length uc,bv,vi (zw st.f),vi (yC st.f),.slice (some ⟨rb,0,none⟩) st.vars.length st.vars.length,.slice (some ⟨nb,0,none⟩) st.a7.length st.a7.length,.slice ha st.a7.length hc]++(S3++(aj (.slice ha st.a7.length hc) hs pY++B)):=λh=>Zw _ (kI.2 ⟨_,_,h,Zs⟩)
  have H:∀a∈S,a∈kA X.q 0 [X.fv,X.gv,.slice va st.vars.length vc,.slice oa st.a7.length oc,av,.slice ua st.dg.length uc,bv,vi (zw st.f),vi (yC st.f),.slice (some ⟨rb,0,none⟩) st.vars.length st.vars.length,.slice (some ⟨nb,0,none⟩) st.a7.length st.a7.length,.slice ha st.a7.length hc]++(S3++(aj (.slice ha st.a7.length hc) hs pY++B)):=λa h=>by simp[J a h]
  refine⟨⟨_,G (k:=2) rfl,wZ g.vars H⟩,⟨_,G (k:=3) rfl,wZ g.a7 H⟩,⟨_,G (k:=4) rfl,wZ g.a5 H⟩,⟨_,G (k:=6) rfl,g.a8.imp H λ_ _ k=>Bd k H⟩,⟨_,G (k:=9) rfl,wZ W λa h=>by rw[ZD];simp[h]⟩,⟨_,G (k:=11) rfl,xB.imp (λa h=>by simp[h]) λ_ _ k=>Ct k λa h=>by simp[h]⟩⟩
 rw[A0 ((j:Int) < (st.a7.length:Int))];obtain⟨y,A⟩:∃y,ND[j]? =some y:=⟨_,Zg Zo⟩;have hyn:(ND.map NC.l)[j]? =some y.l:=by rw[Vu,A];rfl
 have cS:y.l.length<2199023255552:=by
  have:=Xh (st:=st) (i:=st.dg.length) (u:=j) (N.nd j _ hyn) (λt ht=>by rw[Dk st (Qs _)];exact(N.mem j _ hyn t).1 ht);omega
 have G:∀{k:Nat} {v:Value},([X.fv,X.gv,.slice va st.vars.length vc,.slice oa st.a7.length oc,av,.slice ua st.dg.length uc,bv,vi (zw st.f),vi (yC st.f),.slice (some ⟨rb,0,none⟩) st.vars.length st.vars.length,.slice (some ⟨nb,0,none⟩) st.a7.length st.a7.length,.slice ha j hc]:List Value)[k]? =some v->kC.cell X.q k v∈kA X.q 0 [X.fv,X.gv,.slice va st.vars.length vc,.slice oa st.a7.length oc,av,.slice ua st.dg.length uc,bv,vi (zw st.f),vi (yC st.f),.slice (some ⟨rb,0,none⟩) st.vars.length st.vars.length,.slice (some ⟨nb,0,none⟩) st.a7.length st.a7.length,.slice ha j hc]++S3:=λh=>Zw _ (kI.2 ⟨_,_,h,Zs⟩)
 have H:∀a∈S,a∈kA X.q 0 [X.fv,X.gv,.slice va st.vars.length vc,.slice oa st.a7.length oc,av,.slice ua st.dg.length uc,bv,vi (zw st.f),vi (yC st.f),.slice (some ⟨rb,0,none⟩) st.vars.length st.vars.length,.slice (some ⟨nb,0,none⟩) st.a7.length st.a7.length,.slice ha j hc]++S3:=λa h=>by simp[J a h]
 have H4:=IJ (kA X.q 0 [X.fv,X.gv,.slice va st.vars.length vc,.slice oa st.a7.length oc,av,.slice ua st.dg.length uc,bv,vi (zw st.f),vi (yC st.f),.slice (some ⟨rb,0,none⟩) st.vars.length st.vars.length,.slice (some ⟨nb,0,none⟩) st.a7.length st.a7.length,.slice ha j hc]++S3) X.q st hp.wf _ _ _ (G (k:=3) rfl) (G (k:=4) rfl) (G (k:=10) rfl) (wZ g.a7 H) (wZ g.a5 H) (ND.map NC.l) (Mc.imp (λa h=>by rw[ZD];simp[h]) λ_ _ k=>Ct k λa h=>by rw[ZD];simp[h]) j gh y.l hyn (N.nd j _ hyn) (N.mem j _ hyn) ZS oU (n9 j) cS;refine af ?_;refine VC.draws ⟨?_,?_,trivial⟩
 .exact zA9
 .exact zA9
noncomputable section
def F132:aP:=aZ (o:=gF pq Tryz.f132 [])
def low132:Zo9 132 [] F132:=Zx9
def F145:aP:=aZ (o:=gF pq Tryz.f145 [])
def low145:Zo9 145 [] F145:=Zx9
def F146:aP:=aZ (o:=gF pq Tryz.f146 [])
def low146:Zo9 146 [] F146:=Zx9
def F180:aP:=aZ (o:=gF pq Tryz.f180 [])
def low180:Zo9 180 [] F180:=Zx9
def F181:aP:=aZ (o:=gF pq Tryz.f181 [])
def low181:Zo9 181 [] F181:=Zx9
def F182:aP:=aZ (o:=gF pq Tryz.f182 [])
def low182:Zo9 182 [] F182:=Zx9
def F183:aP:=aZ (o:=gF pq Tryz.f183 [])
def low183:Zo9 183 [] F183:=Zx9
def F216:aP:=aZ (o:=gF pq Tryz.f216 [])
def low216:Zo9 216 [] F216:=Zx9
end
noncomputable section
def F85:aP:=aZ (o:=gF pq Tryz.f85 [])
def low85:Zo9 85 [] F85:=Zx9
def F144:aP:=aZ (o:=gF pq Tryz.f144 [])
def low144:Zo9 144 [] F144:=Zx9
def F147:aP:=aZ (o:=gF pq Tryz.f147 [])
def low147:Zo9 147 [] F147:=Zx9
def F243:aP:=aZ (o:=gF pq Tryz.f243 [])
def low243:Zo9 243 [] F243:=Zx9
def F259:aP:=aZ (o:=gF pq Tryz.f259 [])
def low259:Zo9 259 [] F259:=Zx9
def F260:aP:=aZ (o:=gF pq Tryz.f260 [])
def low260:Zo9 260 [] F260:=Zx9
def F279:aP:=aZ (o:=gF pq Tryz.f279 [])
def low279:Zo9 279 [] F279:=Zx9
def F86:aP:=aZ (o:=gF pq Tryz.f86 [])
def low86:Zo9 86 [] F86:=Zx9
def F148:aP:=aZ (o:=gF pq Tryz.f148 [])
def low148:Zo9 148 [] F148:=Zx9
end
def fY {s j c}(h:(kB s)[j]? =some c):(kB s).drop j=c::(kB s).drop (j+1):=by
 obtain⟨d,g⟩:=Vt.1 h;rw[vt d,g]
def EH {s j}(h:s.size<=j):(kB s).drop j=[]:=vw (by rw[kY];exact h)
def sE(c)(hc:c < 256):aq pg9 180 [cv c] [] (λv dl=>v=.bool (DS c)/\dl=[]):=by
 refine aq.intro low180 Zn9 ?_
 (repeat' (first|refine Z8 ?_|refine th Zr (λ_=>?_) (λ_=>?_)|refine tj Zr (λ_=>?_) (λ_=>?_)|refine VC.sW Zr (λ_=>?_) (λ_=>?_)|refine VC.cond Zr (λ_=>?_) (λ_=>?_)))
 all_goals refine⟨.inr rfl,_,_,.tmp Zr .nil,ZI,?_,rfl⟩
 all_goals (simp only[bU,DS,Value.bool.injEq,decide_eq_true_eq,decide_eq_false_iff_not]at*)
 all_goals (rw[vL];simp only[vS,vG,vP,decide_eq_true_eq,decide_eq_false_iff_not,true_iff,iff_true,reduceCtorEq,false_iff,iff_false];omega)
def nT(c)(hc:c < 256):aq pg9 182 [cv c] [] (λv dl=>v=.bool (wV c)/\dl=[]):=by
 refine aq.intro low182 Zn9 ?_
 (repeat' (first|refine Z8 ?_|refine th Zr (λ_=>?_) (λ_=>?_)|refine tj Zr (λ_=>?_) (λ_=>?_)|refine VC.sW Zr (λ_=>?_) (λ_=>?_)|refine VC.cond Zr (λ_=>?_) (λ_=>?_)))
 all_goals refine⟨.inr rfl,_,_,.tmp Zr .nil,ZI,?_,rfl⟩
 all_goals (simp only[bU,wV,Value.bool.injEq,decide_eq_true_eq,decide_eq_false_iff_not]at*)
 all_goals (rw[vL];simp only[vS,vG,vP,decide_eq_true_eq,decide_eq_false_iff_not,true_iff,iff_true,reduceCtorEq,false_iff,iff_false];omega)
def Jn(c)(d:c < 256):aq pg9 216 [cv c] [] (λv dl=>v=.bool (pK c)/\dl=[]):=by
 refine aq.intro low216 Zn9 ?_;refine af ?_;refine kL (sE c d) Zr ?_;cases hl:DS c with
 |true=>
  exact zCV
 |false=>
  refine af ?_;refine kL (nT c d) Zr ?_;exact zCV
def A7(s:ByteArray)(hs:s.size<=140737488355328)(k:Nat):aq pg9 183 [.string s,vi k] [] (λv dl=>v=cv ((kB s).getD k 0)/\dl=[]):=by
 refine aq.intro low183 Zn9 ?_;exact zBL
def Er:ByteArray:=⟨#[43,45,42,47,92,126,60,62,61,64,37,38,63,44,33]⟩
def NE(c):cU c=(kB Er).contains c:=rfl
def r8(c)(hc:c < 256):aq pg9 145 [cv c] [] (λv dl=>v=.bool (cU c)/\dl=[]):=by
 refine aq.intro low145 Zn9 ?_;have A:=kY Er;have eU:Er.size=15:=rfl;refine af ?_;refine VC.loop (α:=Nat) (bg:=λk=>[(0,cv c),(3,.string Er),(4,vi k)]) (Hf:=λ_=>[]) (I:=λk=>k<=15/\∀i,i<k->(kB Er)[i]?≠some c) (μ:=λk=>15-k) 0 ⟨X0 _,λi h=>by omega⟩ ZU ap.nil ?_
 rintro k ⟨i1,C⟩
 generalize q:Er=B at*;refine af ?_;by_cases hk:k<15;rotate_left
 .rw[Zf Zo];refine af ?_;refine⟨.inr rfl,_,_,.tmp Zr .nil,ZI,?_,rfl⟩;have:cU c=false:=by
   rw[NE,q,vK];intro h;obtain⟨i,g⟩:=Vv (vr.1 h);have hl:=(Vt.1 g).1;exact C i Zo g
  simp[bU,this]
 rw[Zt Zo];obtain⟨d,D,m⟩:=wD (s:=B) (i:=k) Zo;refine af ?_;refine wL Zr Zr (j:=k) rfl D ?_;refine af ?_;by_cases he:d.toNat=c
 .rw[A0 ((d.toNat:Int)=(c:Int))];refine af ?_;refine⟨.inr rfl,_,_,.tmp Zr .nil,ZI,?_,rfl⟩;have:cU c=true:=by
   rw[NE,q];exact vr.2 (Zv (i:=k) (by rw[m,he]))
  simp[bU,this]
 .rw[A1 ((d.toNat:Int)=(c:Int))];refine af ?_;refine⟨k+1,⟨Zo,λi g=>?_⟩,Zo,ZU,ap.nil⟩;by_cases e:i=k
  .subst e;rw[m];simpa using he
  .exact C i Zo
def z8(l:List Nat):Nat:=(l.takeWhile pK).length
def Zn(l):z8 l<=l.length:=(List.takeWhile_sublist _).length_le
def F3(s:ByteArray)(hs:s.size<=140737488355328)(i:Nat)(q:i<=s.size):aq pg9 181 [.string s,vi i] [] (λv dl=>v=vi (i+z8 ((kB s).drop i):Nat)/\dl=[]):=by
 refine aq.intro low181 Zn9 ?_;refine af ?_;refine VC.loop (α:=Nat) (bg:=λk=>[(0,.string s),(1,vi k)]) (Hf:=λ_=>[]) (I:=λk=>k<=s.size/\k+z8 ((kB s).drop k)=i+z8 ((kB s).drop i)) (μ:=λk=>s.size-k) i ⟨q,rfl⟩ ZU ap.nil ?_
 rintro k ⟨i1,d⟩
 refine af ?_;by_cases hk:k<s.size;rotate_left
 .rw[Zf Zo];rw[EH Zo]at d;refine af ?_;refine⟨.inr rfl,_,_,.tmp Zr .nil,ZI,?_,rfl⟩;rw[<- d];rfl
 rw[Zt Zo];obtain⟨c,m,g⟩:=wD hk;refine af ?_;refine wL Zr Zr (j:=k) rfl m ?_;refine af ?_;refine kL (Jn _ (zx s _ (Zv g))) Zr ?_;rw[fY g]at d;cases hb:pK c.toNat with
 |false=>
  refine af ?_;refine⟨.inr rfl,_,_,.tmp Zr .nil,ZI,?_,rfl⟩;rw[<- d];simp[bU,z8,hb]
 |true=>
  refine af ?_;refine⟨k+1,⟨Zo,?_⟩,Zo,ZU,ap.nil⟩;rw[<- d];simp[z8,hb];omega
def Sl {l:List Nat}{k c:Nat}(h:l[k]? =some c):D9 gG (l.drop k)=if(cU c&&(decide (c≠45)||!wV (l.getD (k+1) 0)))=true then 1+D9 gG (l.drop (k+1))else 0:=by
 rw[<- xS h];obtain⟨d,h2⟩:=Vt.1 h;rw[vt d];rfl
def M0(s:ByteArray)(K:s.size<=140737488355328)(i:Nat)(J:i < s.size):aq pg9 146 [.string s,vi i] [] (λv dl=>v=vi (i+fp ((kB s).drop i):Nat)/\dl=[]):=by
 refine aq.intro low146 Zn9 ?_;have G:=kY s;obtain⟨q,A,B⟩:=wD J;have C:=fY B;refine af ?_;refine wL Zr Zr (j:=i) rfl A ?_;refine af ?_;by_cases h0:q.toNat=124
 .rw[A0 ((q.toNat:Int)=124)];refine af ?_;refine⟨.inr rfl,_,_,.tmp Zr .nil,ZI,?_,rfl⟩;rw[C];simp[bU,fp,h0]
 rw[A1 ((q.toNat:Int)=124)];have F:fp ((kB s).drop i)=if cU q.toNat=true then 1+D9 gG ((kB s).drop (i+1))else 0:=by
  rw[C];simp only[fp,if_neg h0]
 refine af ?_;refine VC.loop (α:=Nat) (bg:=λk=>[(0,.string s),(1,vi i),(5,vi k)]) (Hf:=λ_=>[]) (I:=λk=>k<=s.size/\(k=i∨(i<k/\k+D9 gG ((kB s).drop k)=i+fp ((kB s).drop i)))) (μ:=λk=>s.size-k) i ⟨Zo,.inl rfl⟩ ZU ap.nil ?_
 rintro k ⟨i1,m⟩
 refine af ?_;by_cases hk:k<s.size;rotate_left
 .rw[Zf Zo];rcases m with rfl|⟨m,i3⟩
  .omega
  exact zFH
 rw[Zt Zo];obtain⟨c,E,H⟩:=wD hk;refine af ?_;refine wL Zr Zr (j:=k) rfl E ?_;refine af ?_;refine kL (r8 _ (zx s _ (Zv H))) Zr ?_;have g:=Sl H;have D:k=i->c=q:=λe=>by subst e;rw[A]at E;cases E;rfl
 cases hb:cU c.toNat with
 |false=>
  refine af ?_;refine⟨.inr rfl,_,_,.tmp Zr .nil,ZI,?_,rfl⟩;rcases m with rfl|⟨m,i3⟩
  .rw[F,<- D rfl,hb];rfl
  .rw[<- i3,g,hb];rfl
 |true=>
  rw[hb,vV]at g;refine af ?_;rcases m with rfl|⟨m,i3⟩
  .rw[A1 ((k:Int) > (k:Int))];refine af ?_;refine⟨k+1,⟨Zo,.inr ⟨Zo,?_⟩⟩,Zo,ZU,ap.nil⟩;rw[F,<- D rfl,hb];simp only[if_true];omega
  rw[A0 ((k:Int) > (i:Int))];refine af ?_;refine wL Zr Zr (j:=k) rfl E ?_;refine af ?_;by_cases SY:c.toNat=45;rotate_left
  .rw[A1 ((c.toNat:Int)=45)];refine af ?_;refine⟨k+1,⟨Zo,.inr ⟨Zo,?_⟩⟩,Zo,ZU,ap.nil⟩;rw[<- i3,g];simp[SY];omega
  rw[A0 ((c.toNat:Int)=45)];refine af ?_;refine kL (A7 s K (k+1)) Zr ?_;refine af ?_;refine kL (nT ((kB s).getD (k+1) 0) (by
   rw[Vh];cases h:(kB s)[k+1]? with
   |none=>decide
   |some x=>exact zx s _ (Zv h))) Zr ?_
  generalize (kB s).getD (k+1) 0=d at g|-;cases L5:wV d with
  |true=>
   refine af ?_;refine⟨.inr rfl,_,_,.tmp Zr .nil,ZI,?_,rfl⟩;rw[<- i3,g];simp[bU,SY,L5]
  |false=>
   refine af ?_;refine⟨k+1,⟨Zo,.inr ⟨Zo,?_⟩⟩,Zo,ZU,ap.nil⟩;rw[<- i3,g];simp[L5];omega
def SL(l):l.all pK=decide (z8 l=l.length):=by
 induction l with
 |nil=>rfl
 |cons c r ih=>
  simp only[ve,z8,List.takeWhile_cons];cases hc:pK c with
  |false=>simp
  |true=>
   simp only[vV,if_true,Q0,ih,z8,Nat.add_right_cancel_iff];exact decide_eq_decide.2 Iff.rfl
def mP(s)(m:s.size<=140737488355328):aq pg9 144 [.string s] [] (λv dl=>v=.bool (yJ s)/\dl=[]):=by
 refine aq.intro low144 Zn9 ?_;have hlen:=kY s;unfold yJ ib;refine af ?_;by_cases h0:s=⟨#[]⟩
 .subst h0;exact zCT
 obtain⟨c,r,g,hr,q,lC⟩:=ep h0;rw[Zt (show(s.size:Int)>0 by omega)];refine af ?_;by_cases h40:s.size<=40;rotate_left
 .exact zDK
 rw[Zt Zo];refine af ?_;refine wL Zr Zr (j:=0) rfl g ?_;refine af ?_;refine kL (sE _ q) Zr ?_;cases hl:DS c.toNat with
 |false=>
  refine af ?_;refine⟨.inr rfl,_,_,.tmp Zr .nil,ZI,?_,rfl⟩;simp[bU,hr,hl]
 |true=>
  have d:=F3 s m 0 Zo;rw[vx,Qz]at d;refine af ?_;refine kL d Zr ?_;refine af ?_;refine⟨.inr rfl,_,_,.tmp Zr .nil,ZI,?_,rfl⟩;have h2:(c.toNat::r).length<=40:=by rw[<- hr];omega
  have aw:=SL (kB s);exact zCF
def EW:List Nat->List Nat->Bool
 |_,[]=>false
 |[],_::_=>true
 |a::x,b::y=>decide (a<b)||(decide (a=b)&&EW x y)
def Mv:∀(a b:List UInt8),Op.bytesLess a b=EW (a.map UInt8.toNat) (b.map UInt8.toNat):=by
 intro a
 induction a with
 |nil=>intro b;cases b<;>rfl
 |cons x a ih=>
  intro b;cases b with
  |nil=>rfl
  |cons y b=>
   have d:decide (x<y)=decide (x.toNat<y.toNat):=decide_eq_decide.2 UInt8.lt_iff_toNat_lt;have g:(x==y)=decide (x.toNat=y.toNat):=by
    rw[vL,beq_iff_eq,decide_eq_true_eq];exact UInt8.toNat_inj.symm
   simp only[Op.bytesLess,QE,EW,ih,d,g]
def ry(m:Nat)(l:List Nat):Nat:=l.foldl (λn c=>n*10+(c-48)) m
def o9(m c l):ry m (c::l)=ry (m*10+(c-48)) l:=by unfold ry;exact Vg ..
def Xo(l):zg l=ry 0 l:=by unfold ry zg;exact Eq.refl _
def NP:∀(a b:List Nat) (m n:Nat),a.length=b.length->a.all wV=true->m<n->ry m a<ry n b:=by
 intro a
 induction a with
 |nil=>intro b m n h _ j;cases b with
  |nil=>exact j
  |cons=>cases h
 |cons c a ih=>
  intro b m n h g j;cases b with
  |nil=>cases h
  |cons d b=>
   simp only[ve,vG]at g;have q:=g.1;simp only[wV,vG,decide_eq_true_eq]at q;rw[o9,o9];exact ih b _ _ (by simpa using h) g.2 Zo
def WX:∀(a b:List Nat) (m:Nat),a.length=b.length->a.all wV=true->b.all wV=true->EW a b=decide (ry m a<ry m b)/\(ry m a=ry m b->a=b):=by
 intro a
 induction a with
 |nil=>intro b m h _ _;cases b with
  |nil=>simp[EW]
  |cons=>cases h
 |cons c a ih=>
  intro b m h j g;cases b with
  |nil=>cases h
  |cons d b=>
   simp only[ve,vG]at j g;have A:=j.1;have s:=g.1;simp only[wV,vG,decide_eq_true_eq]at A s;have q:a.length=b.length:=by simpa using h
   rw[o9,o9];simp only[EW];rcases Nat.lt_trichotomy c d with h1|h1|h1
   .have:=NP a b (m*10+(c-48)) (m*10+(d-48)) q j.2 Zo;rw[Zt h1,Zt this];exact⟨rfl,λe=>by omega⟩
   .subst h1;obtain⟨B,C⟩:=ih b (m*10+(c-48)) q j.2 g.2;rw[B];exact⟨Zs,λe=>by rw[C e]⟩
   .have:=NP b a (m*10+(d-48)) (m*10+(c-48)) q.symm g.2 Zo;rw[Zf (show ¬c<d by omega),Zf (show ¬c=d by omega),Zf (show ¬ry (m*10+(c-48)) a<ry (m*10+(d-48)) b by omega)];exact⟨rfl,λe=>by omega⟩
def aaf(s t)(j:s.size=t.size)(m:(kB s).all wV=true)(q:(kB t).all wV=true):(!(Op.bytesLess s.toList t.toList||decide (s=t)))=decide (zg (kB t)<zg (kB s)):=by
 obtain⟨d,g⟩:=WX (kB s) (kB t) 0 (by rw[kY,kY,j]) m q;rw[Mv,Lib.toList_data,Lib.toList_data,show s.data.toList.map UInt8.toNat=kB s from rfl,show t.data.toList.map UInt8.toNat=kB t from rfl,d,Xo,Xo];by_cases e:s=t
 .subst e;simp
 .have cz:ry 0 (kB s)≠ry 0 (kB t):=λh=>e (jY (g h))
  simp only[e,decide_false,vU]
  (rw[vL];simp only[vS,vG,vP,decide_eq_true_eq,decide_eq_false_iff_not,true_iff,iff_true,reduceCtorEq,false_iff,iff_false];omega)
def sK(m:Bool):ByteArray:=if m then⟨#[49,49,53,50,57,50,49,53,48,52,54,48,54,56,52,54,57,55,54]⟩else⟨#[49,49,53,50,57,50,49,53,48,52,54,48,54,56,52,54,57,55,53]⟩
def E2(m):(sK m).size=19/\(kB (sK m)).all wV=true/\zg (kB (sK m))=if m=true then 1152921504606846976 else 1152921504606846975:=by cases m<;>decide
def Jv(s t)(hs:s.size<=140737488355328)(ht:t.size<=140737488355328)(d:(kB s).all wV=true)(g:(kB t).all wV=true):
 aq pg9 279 [.string s,.string t] [] (λv dl=>v=.bool (decide (t.size<s.size∨(s.size=t.size/\zg (kB t)<zg (kB s))))/\dl=[]):=by
 refine aq.intro low279 Zn9 ?_;refine af ?_;by_cases h1:t.size<s.size
 .rw[A0 ((s.size:Int) > (t.size:Int))];refine af ?_;refine⟨.inr rfl,_,_,.tmp Zr .nil,ZI,?_,rfl⟩;simp[bU,h1]
 rw[A1 ((s.size:Int) > (t.size:Int))];refine af ?_;by_cases h2:s.size=t.size;rotate_left
 .rw[A1 ((s.size:Int)=(t.size:Int))];refine af ?_;refine⟨.inr rfl,_,_,.tmp Zr .nil,ZI,?_,rfl⟩;simp[bU,h1,h2]
 rw[A0 ((s.size:Int)=(t.size:Int))];refine af ?_;have j:=aaf s t h2 d g;refine⟨.inr rfl,_,_,.tmp Zr .nil,ZI,?_,rfl⟩;simp only[bU,j];simp[h1,h2]
def JR(s)(hs:s.size<=140737488355328):aq pg9 259 [.string s] [] (λv dl=>∃t,v=.string t/\kB t=wO (kB s)/\t.size<=s.size/\dl=[]):=by
 refine aq.intro low259 Zn9 ?_;refine af ?_;refine VC.loop (α:=ByteArray) (bg:=λt=>[(0,.string t)]) (Hf:=λ_=>[]) (I:=λt=>t.size<=s.size/\wO (kB t)=wO (kB s)) (μ:=λt=>t.size) s ⟨Qs _,rfl⟩ ZU ap.nil ?_
 rintro t ⟨F,B⟩
 have g:=kY t;refine af ?_;have stop:wO (kB t)=kB t->∃u,Value.string t=.string u/\kB u=wO (kB s)/\u.size<=s.size/\([]:SH)=[]:=λh=>⟨t,rfl,by rw[<- B,h],F,rfl⟩
 by_cases h1:1<t.size;rotate_left
 .rw[A1 ((t.size:Int) > 1)];have A:=stop (by
   match h:kB t with
   |[]=>rfl
   |[c]=>rw[wO.eq_2];intro D r m;simp at m
   |c::d::r=>rw[h]at g;simp at g;omega)
  refine af ?_;exact kG (dl:=[]) (.inr rfl) zT1 A ap.nil
 rw[A0 ((t.size:Int) > 1)];obtain⟨c,E,G⟩:=wD (s:=t) (i:=0) Zo;obtain⟨d,hd,C⟩:=wD (s:=t) (i:=1) Zo;have q:kB t=c.toNat::d.toNat::(kB t).drop 2:=by
  rw[<- fY C,<- fY G];rfl
 refine af ?_;refine wL Zr Zr (j:=0) rfl E ?_;refine af ?_;by_cases h48:c.toNat=48;rotate_left
 .rw[A1 ((c.toNat:Int)=48)];have A:=stop (by
   rw[q,wO.eq_2];intro D r m;simp at m;exact h48 m.1)
  refine af ?_;exact kG (dl:=[]) (.inr rfl) zT1 A ap.nil
 rw[A0 ((c.toNat:Int)=48)];refine af ?_;refine eg (l:=1) (h:=t.size) Zr (.num Zr) .Zy ⟨Zo,Zo⟩ ?_;refine af ?_;refine⟨t.extract 1 t.size,⟨by rw[ByteArray.size_extract];omega,?_⟩,by rw[ByteArray.size_extract];omega,ZU,ap.nil⟩;rw[<- B,jf,q,h48];rw[show(48::d.toNat::(kB t).drop 2).take t.size=48::d.toNat::(kB t).drop 2 from Ql (by
  have:=congrArg List.length q;rw[g]at this;simp at this|-;omega)]
 rfl
def Eb {t}(m)(A:(kB t).all wV=true):((sK m).size<t.size∨(t.size=(sK m).size/\zg (kB (sK m))<zg (kB t)))↔¬zC m (kB t):=by
 obtain⟨j,_,q⟩:=E2 m;have d:=kY t;have g:=numL_lt (kB t) 0 0 (λc s=>vf.1 A c s) Zd;rw[show(kB t).foldl (λn c=>n*10+(c-48)) 0=zg (kB t) by simp only[zg]]at g;rw[j,q];unfold zC;rw[d,Qz]at*;by_cases hs:t.size<19
 .have h4:(10:Nat) ^ t.size<=10 ^ 18:=Nat.pow_le_pow_right Zo Zo;have h5:(10:Nat) ^ 18=1000000000000000000:=by decide
  cases m<;>simp<;>omega
 .cases m<;>simp<;>omega
def G9(A)(H:nM A)(t)(G:kB t≠[])(s:(kB t).all wV=true)(hl:t.size<=255)(m):aq pg9 260 [.string t,.bool m] [A] (λv dl=>nN m t v/\dl=[A]):=by
 refine aq.intro low260 Zn9 ?_;have I:=kY t;have j:yO .add (.string ⟨#[45]⟩) (.string t)=some (.string (⟨#[45]⟩++t)):=if_pos (by show 1+t.size<=9223372036854775807;omega);have E:=Eb m s;obtain⟨g1,K,g3⟩:=E2 m;refine af ?_;refine kJ (λb=>?_);refine af ?_;by_cases hz:t=⟨#[48]⟩
 .rw[Zt hz];refine af ?_;refine⟨.inr rfl,_,_,.az (us:=[cv 4,vi 0,uv 0,.string ⟨#[]⟩,Nz]) Zr Zr Kw .nil,ZI,.inl ⟨?_,?_⟩,rfl⟩
  .rw[hz];cases m<;>exact⟨Zd,Zd⟩
  .rw[hz];cases m<;>rfl
 rw[Zf hz];refine af ?_;have q:=Jv t (sK m) Zo Zo s K;have d:zC m (kB t)->aq pg9 279 [.string t,.string (sK m)] [] (λv dl=>v=.bool false/\dl=[]):=λh=>by
  rw[Zf (λC=>E.1 C h)]at q;exact q
 have g:¬zC m (kB t)->aq pg9 279 [.string t,.string (sK m)] [] (λv dl=>v=.bool true/\dl=[]):=λh=>by
  rw[Zt (E.2 h)]at q;exact q
 have F:∀u:ByteArray,¬zC m (kB t)->kB u=(if m=true then 45::kB t else kB t)->nN m t (.agg #[cv 5,vi 0,uv 0,.string u,Nz]):=λu L C=>.inr ⟨L,u,rfl,C⟩
 cases m with
 |true=>
  refine af ?_;by_cases N7:zC true (kB t);rotate_left
  .refine kL (g N7) Zr ?_;refine af ?_;refine gH Zr Zr j ?_;refine af ?_;refine⟨.inr rfl,_,_,.az (us:=[cv 5,vi 0,uv 0,.string (⟨#[45]⟩++t),Nz]) Zr Zr Kw .nil,ZI,F _ N7 (by rw[pO];rfl),rfl⟩
  refine kL (d N7) Zr ?_;refine af ?_;refine kH (iQ A H t G s (by have:=N7.1;omega)) Zr ZP (λv dl D=>?_);rcases D with⟨⟨hn,rfl⟩|⟨hn,_⟩,rfl⟩
  rotate_left
  .have:=N7.2;simp only[if_true]at this;omega
  simp only[aE];have J:=N7.2;simp only[if_true]at J;have B:nN true t (.agg #[cv 4,vi (-(zg (kB t):Int)),uv 0,.string ⟨#[]⟩,Nz]):=.inl ⟨N7,rfl⟩;generalize zg (kB t)=N at*;refine af ?_;rw[show IntKind.i64.wrap (0-(N:Int))=-(N:Int) by rw[Int.zero_sub];exact wrap64 ⟨Zo,Zo⟩];refine af ?_;exact⟨.inr rfl,_,_,.az (us:=[cv 4,vi (-(N:Int)),uv 0,.string ⟨#[]⟩,Nz]) Zr Zr Kw .nil,ZI,B,rfl⟩
 |false=>
  refine af ?_;by_cases N7:zC false (kB t);rotate_left
  .refine kL (g N7) Zr ?_;refine af ?_;refine⟨.inr rfl,_,_,.az (us:=[cv 5,vi 0,uv 0,.string t,Nz]) Zr Zr Kw .nil,ZI,F _ N7 rfl,rfl⟩
  refine kL (d N7) Zr ?_;refine af ?_;refine kH (iQ A H t G s (by have:=N7.1;omega)) Zr ZP (λv dl D=>?_);rcases D with⟨⟨hn,rfl⟩|⟨hn,_⟩,rfl⟩
  rotate_left
  .have:=N7.2;simp only[vN,if_false]at this;omega
  simp only[aE];have B:nN false t (.agg #[cv 4,vi (zg (kB t):Int),uv 0,.string ⟨#[]⟩,Nz]):=.inl ⟨N7,rfl⟩;generalize zg (kB t)=N at*;refine af ?_;exact⟨.inr rfl,_,_,.az (us:=[cv 4,vi (N:Int),uv 0,.string ⟨#[]⟩,Nz]) Zr Zr Kw .nil,ZI,B,rfl⟩
def DP(A)(X:nM A)(s)(hs:s.size<=140737488355328):aq pg9 243 [.string s] [A] (λv dl=>Ik s v/\dl=[A]):=by
 refine aq.intro low243 Zn9 ?_;have xC:=kY s;have NT:yy (kB s)=false->Ik s (.tuple #[.agg #[cv 0,vi 0,uv 0,.string ⟨#[]⟩,Nz],vi 144]):=λh=>.inl ⟨h,rfl⟩
 have g:decide ((kB s).getD 0 0=45)=zh (kB s):=by
  unfold zh;cases kB s<;>simp
 have U:=A7 s hs 0;refine jB ?_;refine kJ (λb=>?_);refine jB ?_;refine kL U Zr ?_;generalize q:(kB s).getD 0 0=O at g|-;refine jB ?_;refine VC.join (α:=ByteArray) (λd=>[(0,.string d),(2,kE b),(4,.bool (zh (kB s)))]) (λ_=>[kA b 0 [.int .u8 0,vi 0,.int .u64 0,.string ⟨#[]⟩,.slice none 0 0],A]) (λd=>kB d=zL (kB s)/\d.size<=s.size) ?_ ?_
 .by_cases SY:O=45
  .rw[A0 ((O:Int)=45)];rw[Zt SY]at g;have lC:0<s.size:=by
    rcases Qq s.size with h|h
    .rw[Vh,Vp Zo]at q;simp at q;omega
    .exact h
   refine af ?_;refine eg (l:=1) (h:=s.size) Zr (.num Zr) .Zy ⟨Zo,Zo⟩ ?_;refine af ?_;refine⟨s.extract 1 s.size,⟨?_,by rw[ByteArray.size_extract];omega⟩,by rw[<- g];exact Du,ZI⟩;rw[jf,Ql Zo];unfold zL;have F:(kB s).head? =some 45:=by
    have:=g.symm;unfold zh at this;exact of_decide_eq_true this
   rw[if_pos F,List.drop_one]
  .rw[A1 ((O:Int)=45)];rw[Zf SY]at g;refine af ?_;refine⟨s,⟨?_,Qs _⟩,by rw[<- g];exact Du,ZI⟩;unfold zL;have F:¬(kB s).head? =some 45:=by
    have:=g.symm;unfold zh at this;exact of_decide_eq_false this
   rw[if_neg F]
 rintro d ⟨H,Y⟩
 have Z:=kY d;generalize W:zh (kB s)=m;refine af ?_;refine VC.loop (α:=Nat) (bg:=λk=>[(0,.string d),(2,kE b),(4,.bool m),(5,vi k)]) (Hf:=λ_=>[kA b 0 [.int .u8 0,vi 0,.int .u64 0,.string ⟨#[]⟩,Nz],A]) (I:=λk=>k<=d.size/\∀i c,i<k->(kB d)[i]? =some c->wV c=true) (μ:=λk=>d.size-k) 0 ⟨X0 _,λi c h=>by omega⟩ ZU ZI ?_
 rintro k ⟨i1,T⟩
 refine af ?_;by_cases hk:k<d.size
 .rw[Zt Zo];obtain⟨c,G,N⟩:=wD hk;refine af ?_;refine wL Zr Zr (j:=k) rfl G ?_;refine af ?_;refine kL (nT _ (zx d _ (Zv N))) Zr ?_;cases hb:wV c.toNat with
  |true=>
   refine af ?_;refine⟨k+1,⟨Zo,λi x L hx=>?_⟩,Zo,ZU,ZI⟩;by_cases e:i=k
   .subst e;rw[N]at hx;cases hx;exact hb
   .exact T i x Zo hx
  |false=>
   have iK:yy (kB s)=false:=by
    unfold yy;rw[<- H];have:(kB d).all wV=false:=by
     rw[vK];intro h;have:=vf.1 h _ (Zv N);rw[hb]at this;cases this
    rw[this];simp
   refine af ?_;exact⟨.inr rfl,_,_,.az (us:=[cv 0,vi 0,uv 0,.string ⟨#[]⟩,Nz]) Zr Zr Kw zT1,ZI,NT iK,rfl⟩
 rw[Zf Zo];have Q:(kB d).all wV=true:=by
  rw[vf];intro c G;obtain⟨i,L⟩:=Vv G;exact T i c (by have:=(Vt.1 L).1;omega) L
 refine af ?_;refine kH (JR d Zo) Zr ZP (λv dl M=>?_);obtain⟨t,rfl,B,hts,rfl⟩:=M;have D:=kY t;have J:yy (kB s)=(decide (kB d≠[])&&decide (t.size<=255)):=by
  unfold yy;rw[<- H,<- B,D,Q,vI]
 simp only[QV];refine af ?_;by_cases h0:kB d=[]
 .have hb:yy (kB s)=false:=by rw[J,Zf (λh=>h h0)];rfl
  have:t.size=0:=by rw[<- D,B,h0];rfl
  rw[A0 ((t.size:Int) < 1)];exact zEF
 have C:kB t≠[]:=by rw[B];exact Fa h0
 have:0<t.size:=by rw[<- D];exact List.length_pos_iff.2 C
 rw[A1 ((t.size:Int) < 1)];refine af ?_;by_cases qV:t.size<=255;rotate_left
 .rw[Zt (show(t.size:Int)>255 by omega)];have hb:yy (kB s)=false:=by rw[J,Zf qV];simp
  exact zEF
 rw[Zf (show ¬(t.size:Int)>255 by omega)];have K:yy (kB s)=true:=by rw[J,Zt qV,Zt h0];rfl
 refine af ?_;refine kH (G9 A X t C (by rw[B];exact CZ Q) qV m) Zr ZP (λv dl M=>?_);obtain⟨S,rfl⟩:=M;have fin:∀u,nN m t u->Ik s (.tuple #[u,vi 0]):=λu hu=>.inr ⟨K,t,u,by rw[B,H],by rw[W];exact hu,rfl⟩
 have E:=fin _ S;simp only[aE];rcases S with⟨_,rfl⟩|⟨_,u,rfl,_⟩
 .generalize (if m=true then -(zg (kB t):Int)else(zg (kB t):Int))=z at E|-;refine af ?_;exact⟨.inr rfl,_,_,.az (us:=[cv 4,vi z,uv 0,.string ⟨#[]⟩,Nz]) Zr Zr Kw zT1,ZI,E,rfl⟩
 .refine af ?_;exact⟨.inr rfl,_,_,.az (us:=[cv 5,vi 0,uv 0,.string u,Nz]) Zr Zr Kw zT1,ZI,E,rfl⟩
def Kq(l):∃w r,l=w++r/\w.length=z8 l/\w.all pK=true/\∀c q,r=c::q->pK c=false:=by
 unfold z8
 induction l with
 |nil=>exact⟨[],[],rfl,rfl,rfl,λc q h=>by cases h⟩
 |cons c r ih=>
  cases hc:pK c with
  |false=>exact⟨[],c::r,rfl,by simp[hc],rfl,λd q h=>by cases h;exact hc⟩
  |true=>
   obtain⟨w,q,rfl,g,j,m⟩:=ih;exact⟨c::w,q,rfl,by simp[hc,g],by simp[hc,j],m⟩
def J9 {c:Nat}{l:List Nat}(h:c∈l):∃p q,l=p++c::q/\c∉p:=by
 induction l with
 |nil=>cases h
 |cons d r ih=>
  by_cases hd:c=d
  .subst hd;exact⟨[],r,rfl,Zs⟩
  .obtain⟨p,q,rfl,g⟩:=ih (by simpa[hd]using h);exact⟨d::p,q,rfl,by simp[hd,g]⟩
def inn58:pK 58=false:=rfl
def no58 {w:List Nat}(h:w.all pK=true):58∉w:=λd=>by
 have:=vf.1 h 58 d;rw[inn58]at this;cases this
def Xb {w}(h:ib w=true):w.all pK=true:=by
 cases w with
 |nil=>rfl
 |cons c r=>
  simp only[ib,vG]at h;exact h.2
def EU {l}(H:l≠[])(n):
 zk (jE l) n=if(ib (l.take (z8 l))=true/\l.getD (z8 l) 0=58)then zk (jE (l.drop (z8 l+1))) (n+1)else -1:=by
 obtain⟨w,r,m,F,s,G⟩:=Kq l;rw[<- F];have L:l.take w.length=w:=by rw[m];simp
 rw[L];by_cases hc:ib w=true/\l.getD w.length 0=58
 .rw[if_pos hc];obtain⟨I,d⟩:=hc;have K:∃q,r=58::q:=by
   rw[m,Vh,Vl (Qs _),Qy]at d;cases r with
   |nil=>simp at d
   |cons c q=>simp at d;exact⟨q,by rw[d]⟩
  obtain⟨q,rfl⟩:=K;rw[m,oF (no58 s)];rw[show(w++58::q).drop (w.length+1)=q by simp];simp only[zk];rw[if_neg Zs,if_pos (by simp[I])]
 .rw[if_neg hc];have j:∀p C,jE l=p::C->p≠[]->sB p=false->zk (jE l) n=-1:=λp C e E h=>by rw[e];exact uz E h
  by_cases d:58∈l
  .obtain⟨p,q,g,J⟩:=J9 d;refine j (p++[58]) (jE q) (by rw[g,oF J]) Zs ?_;unfold sB;rw[vK];intro h;simp at h;refine hc ?_;have D:p=w:=by
    have A:=Xb h;have e:p++58::q=w++r:=by rw[<- g,m]
    rcases List.append_eq_append_iff.1 e with⟨a,rfl,ha⟩|⟨a,rfl,ha⟩
    .cases a with
     |nil=>simp
     |cons c a=>
      simp only[vq,vp]at ha;rw[<- ha.1]at s;exact absurd Zs (no58 s)
    .cases a with
     |nil=>simp
     |cons c a=>
      have:=G c (a++58::q) (by rw[ha];rfl);have B:=vf.1 A c Zs;rw[this]at B;cases B
   subst D;refine⟨h,?_⟩;rw[g];simp
  .refine j l [] (xM d) H ?_;unfold sB;rw[vK];intro h;simp only[vG,decide_eq_true_eq]at h;exact d (List.mem_of_getLast? h.1)
def DQ(s)(C:s.size<=140737488355328):aq pg9 147 [.string s] [] (λv dl=>v=vi (zk (jE (kB s)) 0)/\dl=[]):=by
 refine aq.intro low147 Zn9 ?_;have j:=kY s;refine af ?_;refine VC.loop (α:=Nat×Nat) (bg:=λz=>[(0,.string s),(3,vi z.1),(4,vi z.2)]) (Hf:=λ_=>[]) (I:=λz=>z.2<=s.size/\z.1<=z.2/\zk (jE ((kB s).drop z.2)) z.1=zk (jE (kB s)) 0) (μ:=λz=>s.size-z.2) (0,0) ⟨X0 _,Qs _,rfl⟩ ZU ap.nil ?_
 rintro⟨n,i⟩ ⟨H,J,i3⟩
 simp only at H J i3;dsimp only;refine af ?_;by_cases hk:i<s.size;rotate_left
 .rw[Zf Zo];exact zFH
 rw[Zt Zo];have F:=F3 s C i Zo;have A:=Zn ((kB s).drop i);rw[Q1,j]at A;obtain⟨c,hc,K⟩:=wD hk;have E:(kB s).drop i≠[]:=by rw[fY K];simp
 have d:=EU E n;rw[i3,List.drop_drop]at d;have q:((kB s).drop i).getD (z8 ((kB s).drop i)) 0=(kB s).getD (i+z8 ((kB s).drop i)) 0:=by
  rw[Vh,Vh,Vo]
 rw[q]at d;have m:kB (s.extract i (i+z8 ((kB s).drop i)))=((kB s).drop i).take (z8 ((kB s).drop i)):=by
  rw[jf,List.drop_take,Nat.add_sub_cancel_left]
 rw[<- m]at d;have D:=λh=>d.trans (if_pos h)
 have g:=λh=>d.trans (if_neg h)
 clear d;generalize G:z8 ((kB s).drop i)=w at*;refine af ?_;refine kL F Zr ?_;refine af ?_;refine eg (l:=i) (h:=i+w) Zr (.num Zr) (.num Zr) ⟨Zo,Zo⟩ ?_;refine af ?_;refine kL (mP (s.extract i (i+w)) (by rw[ByteArray.size_extract];omega)) Zr ?_;cases hn:yJ (s.extract i (i+w))with
 |false=>
  have d:=g (λh=>by have B:yJ (s.extract i (i+w))=true:=h.1;rw[hn]at B;cases B);refine af ?_;refine⟨.inr rfl,_,_,.tmp Zr .nil,ZI,?_,rfl⟩;rw[d];rfl
 |true=>
  refine af ?_;refine kL (A7 s C (i+w)) Zr ?_;refine af ?_;by_cases um:(kB s).getD (i+w) 0=58;rotate_left
  .have d:=g (λh=>um h.2);rw[A1 (((kB s).getD (i+w) 0:Int)=58)];refine af ?_;refine⟨.inr rfl,_,_,.tmp Zr .nil,ZI,?_,rfl⟩;rw[d];rfl
  have d:=D ⟨hn,um⟩;have aI:i+w<s.size:=by
   rcases Nat.lt_or_ge (i+w) s.size with h|h
   .exact h
   .rw[Vh,Vp Zo]at um;cases um
  rw[A0 (((kB s).getD (i+w) 0:Int)=58)];refine af ?_;exact⟨(n+1,i+w+1),⟨by simp only;omega,by simp only;omega,by simp only;rw[d,Qn]⟩,by simp only;omega,ZU,ap.nil⟩
def gU(s)(g:s.size<=140737488355328):aq pg9 85 [.string s] [] (λv dl=>v=vi (kW s)/\dl=[]):=by
 refine aq.intro low85 Zn9 ?_;have q:=kY s;refine af ?_;refine kL (mP s g) Zr ?_;by_cases h0:s=⟨#[]⟩
 .subst h0;exact zCT
 obtain⟨c,r,m,B,D,C⟩:=ep h0;refine af ?_;rw[A1 ((s.size:Int)=0)];cases hn:yJ s with
 |true=>
  refine af ?_;refine⟨.inr rfl,_,_,.tmp Zr .nil,ZI,?_,rfl⟩;unfold kW qF;rw[show ib (kB s)=true from hn];rfl
 |false=>
  have A:ib (kB s)=false:=hn;have d:kW s=if(cU c.toNat||decide (c.toNat=124))=true then(if fp (kB s)=(kB s).length then 1 else -1)else zk (jE (kB s)) 0:=by
   unfold kW qF;rw[if_neg (by rw[A];simp)];simp only[B]
  have hsg:=M0 s g 0 C;rw[vx,Qz]at hsg;refine af ?_;refine wL Zr Zr (j:=0) rfl m ?_;refine af ?_;refine kL (r8 _ D) Zr ?_;have S0:(cU c.toNat||decide (c.toNat=124))=true->kW s=(if fp (kB s)=(kB s).length then 1 else -1):=λh=>by rw[d,if_pos h]
  cases hb:cU c.toNat with
  |true=>
   have S0:=S0 (by simp[hb]);generalize fp (kB s)=z at hsg S0;exact zBP
  |false=>
   refine af ?_;refine wL Zr Zr (j:=0) rfl m ?_;refine af ?_;by_cases P9:c.toNat=124
   .have S0:=S0 (by simp[P9]);generalize fp (kB s)=z at hsg S0;rw[A0 ((c.toNat:Int)=124)];exact zBP
   rw[A1 ((c.toNat:Int)=124)];rw[if_neg (by simp[hb,P9])]at d;refine af ?_;refine kL (DQ s g) Zr ?_;refine af ?_;refine⟨.inr rfl,_,_,.tmp Zr .nil,ZI,?_,rfl⟩;rw[d];rfl
noncomputable section
def F217:aP:=aZ (o:=gF pq Tryz.f217 [])
def low217:Zo9 217 [] F217:=Zx9
def F218:aP:=aZ (o:=gF pq Tryz.f218 [])
def low218:Zo9 218 [] F218:=Zx9
def F184:aP:=aZ (o:=gF pq Tryz.f184 [])
def low184:Zo9 184 [] F184:=Zx9
def F185:aP:=aZ (o:=gF pq Tryz.f185 [])
def low185:Zo9 185 [] F185:=Zx9
def F149:aP:=aZ (o:=gF pq Tryz.f149 [])
def low149:Zo9 149 [] F149:=Zx9
def F151:aP:=aZ (o:=gF pq Tryz.f151 [])
def low151:Zo9 151 [] F151:=Zx9
def F88:aP:=aZ (o:=gF pq Tryz.f88 [])
def low88:Zo9 88 [] F88:=Zx9
def F219:aP:=aZ (o:=gF pq Tryz.f219 [])
def low219:Zo9 219 [] F219:=Zx9
def F186:aP:=aZ (o:=gF pq Tryz.f186 [])
def low186:Zo9 186 [] F186:=Zx9
def F187:aP:=aZ (o:=gF pq Tryz.f187 [])
def low187:Zo9 187 [] F187:=Zx9
abbrev o153:Zo8:=[(4,[.range 7,[0,2,1,3,4,5,6]])]
def F153:aP:=aZ (o:=gF pq Tryz.f153 o153)
def low153:Zo9 153 o153 F153:=Zx9
def F152:aP:=aZ (o:=gF pq Tryz.f152 [])
def low152:Zo9 152 [] F152:=Zx9
def F89:aP:=aZ (o:=gF pq Tryz.f89 [])
def low89:Zo9 89 [] F89:=Zx9
def F150:aP:=aZ (o:=gF pq Tryz.f150 [])
def low150:Zo9 150 [] F150:=Zx9
end
def Na(s):aq pg9 132 [.string s] [] (λv dl=>v=.bool (gJ.contains (kB s))/\dl=[]):=by
 refine aq.intro low132 Zn9 ?_;have d:∀t:ByteArray,kB t∈gJ->s=t->gJ.contains (kB s)=true:=λt j e=>by
  subst e;exact vr.2 j
 refine af ?_;by_cases h1:s=⟨#[115,101,108,102]⟩
 .have hf:=d _ Zd h1;rw[Zt h1];exact Z7
 rw[Zf h1];refine af ?_;by_cases h2:s=⟨#[115,117,112,101,114]⟩
 .have hf:=d _ Zd h2;rw[Zt h2];exact Z7
 rw[Zf h2];refine af ?_;by_cases h3:s=⟨#[110,105,108]⟩
 .have hf:=d _ Zd h3;rw[Zt h3];exact Z7
 rw[Zf h3];refine af ?_;by_cases h4:s=⟨#[116,114,117,101]⟩
 .have hf:=d _ Zd h4;rw[Zt h4];exact Z7
 rw[Zf h4];refine af ?_;by_cases h5:s=⟨#[102,97,108,115,101]⟩
 .have hf:=d _ Zd h5;refine kG (dl:=[]) (.inr rfl) zT1 ⟨by rw[hf,Zt h5];rfl,rfl⟩ ZI
 have g:gJ.contains (kB s)=false:=zBY
 refine kG (dl:=[]) (.inr rfl) zT1 ⟨by rw[g,Zf h5];rfl,rfl⟩ ZI
def By(s)(g:s.size<=140737488355328):aq pg9 148 [.string s] [] (λv dl=>v=.bool (jW s)/\dl=[]):=by
 refine aq.intro low148 Zn9 ?_;refine af ?_;refine kL (mP s g) Zr ?_;refine af ?_;refine kL (Na s) Zr ?_;have d:jW s=(!gJ.contains (kB s)&&yJ s):=rfl;rw[d];generalize gJ.contains (kB s)=b;cases yJ s with
 |true=>
  refine af ?_;exact kG (dl:=[]) (.inr rfl) zT1 ⟨by cases b<;>rfl,rfl⟩ ZI
 |false=>
  refine af ?_;exact kG (dl:=[]) (.inr rfl) zT1 ⟨by cases b<;>rfl,rfl⟩ ZI
def ml(B v l)(h:dU B v l):aq pg9 86 [v] [B] (λu dl=>u=.bool (l.all jW)/\dl=[B]):=by
 obtain⟨a,c,rfl,hl,q⟩:=h;refine aq.intro low86 Zn9 ?_;refine af ?_;refine VC.loop (α:=Nat) (bg:=λk=>[(0,.slice a l.length c),(3,vi k)]) (Hf:=λ_=>[B]) (I:=λk=>k<=l.length/\(l.take k).all jW=true) (μ:=λk=>l.length-k) 0 ⟨X0 _,rfl⟩ ZU ZI ?_
 rintro k ⟨i1,g⟩
 refine af ?_;by_cases hk:k<l.length;rotate_left
 .rw[Zf Zo];rw[Ql Zo]at g;refine af ?_;exact kG (dl:=[B]) (.inr rfl) zT1 ⟨by rw[g];rfl,rfl⟩ ZI
 rw[Zt Zo];obtain⟨t,d⟩:∃t,l[k]? =some t:=⟨_,Zg hk⟩;obtain⟨b,o,rfl,hm,m⟩:=q k t d;have j:l.take (k+1)=l.take k++[t]:=by rw[Qi,d];rfl
 refine af ?_;refine kL (By t m) Zr ?_;cases hf:jW t with
 |true=>
  refine af ?_;exact⟨k+1,⟨Zo,by rw[j];simp[g,hf]⟩,Zo,ZU,ZI⟩
 |false=>
  have:l.all jW=false:=by
   rw[vK];intro h;have:=vf.1 h t (Zv d);rw[hf]at this;cases this
  refine af ?_;exact kG (dl:=[B]) (.inr rfl) zT1 ⟨by rw[this];rfl,rfl⟩ ZI
def DY(l):(jh l).isSome=l.all Option.isSome:=by
 induction l with
 |nil=>rfl
 |cons r l ih=>
  rw[fJ,ve,<- ih];cases r<;>cases jh l<;>rfl
structure LitQ where
 ok:Bool
 n:Int
 b:Nat
 t:ByteArray
 sv:Value
 l:Nat
def DU(A)(hE:nM A):∀(N:Nat) (x:Lt),x.size<=N->x.size<=1099511627776->∀vs,yc A x vs->∀inside:Bool,aq pg9 217 [.agg vs.toArray,.bool inside] [A] (λv dl=>v=.bool (jS x inside).isSome/\dl=[A]):=by
 intro N
 induction N with
 |zero=>intro x U;have:=x.size_pos;omega
 |succ N ih=>
  intro x U Y vs W inside;have T:=W;cases W with
  |@mk k n b t ci a c bk o us wf ha hm hr=>
  refine aq.intro low217 Zn9 ?_;refine jB ?_;refine kZ Zr (λq=>?_);simp only[Value.cells];refine jB ?_;refine VC.join (α:=LitQ) (λs=>[(2,kE q),(5,.bool s.ok)]) (λs=>[A,kA q 0 [cv k,vi s.n,uv s.b,.string s.t,s.sv]])
   (λs=>(∃a c,s.sv=.slice a s.l c)/\(jS (.mk k n b t ci) inside).isSome=(s.ok&&decide (s.n=0/\s.b=0/\s.t.size=0/\s.l=0))) ?_ ?_
  .have nt:=wf.kind;obtain⟨Rk,Cd⟩:=wf.n;have hz:(⟨#[]⟩:ByteArray).size=0:=rfl;have sm:∀(b:Bool) (r:Rs),(kT b r).isSome=(b&&r.isSome):=λb r=>by cases b<;>rfl
   have X:∀(y:Bool),(jS (.mk k n b t ci) inside).isSome=(y&&decide (n=0/\b=0/\t.size=0/\ci.length=0))->∃g:LitQ,((∃a c,g.sv=.slice a g.l c)/\(jS (.mk k n b t ci) inside).isSome=(g.ok&&decide (g.n=0/\g.b=0/\g.t.size=0/\g.l=0)))/\g=⟨y,n,b,t,.slice a ci.length c,ci.length⟩:=λy h=>⟨_,⟨⟨_,_,rfl⟩,h⟩,rfl⟩
   by_cases k1:k=1
   .subst k1;exact zDH
   by_cases k2:k=2
   .subst k2;exact zDH
   by_cases k3:k=3
   .subst k3;exact zDH
   by_cases k4:k=4
   .subst k4;refine af ?_;by_cases h1:-1152921504606846976<=n;rotate_left
    .rw[show decide (n ≥ -1152921504606846976)=false from Zf h1];exact zFM
    rw[show decide (n ≥ -1152921504606846976)=true from Zt h1];refine af ?_;refine⟨⟨decide (n<=1152921504606846975),0,b,t,_,_⟩,⟨⟨_,_,rfl⟩,?_⟩,ZU,ZI⟩;simp[jS,sm,h1]
   by_cases k5:k=5
   .subst k5;refine af ?_;refine kH (DP A hE t wf.text) Zr ZP (λv dl J=>?_);obtain⟨D,rfl⟩:=J;obtain⟨K,nn,tt,G,rfl,d⟩:=D.large;simp only[aE];refine af ?_;refine kJ (λq2=>?_);refine af ?_;have fin:∀y:Bool,y=ox (kB t)->((jS (.mk 5 n b t ci) inside).isSome=(y&&decide (n=0/\b=0/\(⟨#[]⟩:ByteArray).size=0/\ci.length=0))):=λy h=>by
     rw[h,hz];simp[jS,sm]
    by_cases h1:G=0;rotate_left
    .rw[A1 ((G:Int)=0)];refine af ?_;exact⟨⟨false,n,b,⟨#[]⟩,_,_⟩,⟨⟨_,_,rfl⟩,fin _ (vK.2 λh=>h1 (d.2 h).1).symm⟩,ZU,ZI⟩
    rw[A0 ((G:Int)=0)];refine af ?_;by_cases m:K=5;rotate_left
    .rw[A1 ((K:Int)=5)];refine af ?_;exact⟨⟨false,n,b,⟨#[]⟩,_,_⟩,⟨⟨_,_,rfl⟩,fin _ (vK.2 λh=>m (d.2 h).2.1).symm⟩,ZU,ZI⟩
    rw[A0 ((K:Int)=5)];refine af ?_;refine⟨⟨decide (tt=t),n,b,⟨#[]⟩,_,_⟩,⟨⟨_,_,rfl⟩,fin _ ?_⟩,ZU,ZI⟩;rw[vL,decide_eq_true_eq];exact⟨λh=>d.1 ⟨h1,m,h⟩,λh=>(d.2 h).2.2⟩
   by_cases k6:k=6
   .subst k6;have H:=wf.bits;refine af ?_;refine⟨⟨!decide (((b/4503599627370496&&&2047:Nat):Int)=2047),n,0,t,.slice a ci.length c,ci.length⟩,⟨⟨_,_,rfl⟩,?_⟩,ZU,by show ap _ [A,kA q 0 [cv 6,vi n,.int .u64 0,.string t,.slice a ci.length c]];exact bH⟩;have e:b*2%18446744073709551616/9007199254740992=(b/4503599627370496&&&2047):=by
     rw[show(2047:Nat)=2 ^ 11-1 from rfl,Qp];omega
    have e0:jS (.mk 6 n b t ci) inside=kT (decide (b*2%18446744073709551616/9007199254740992≠2047/\n=0/\t.size=0/\ci.length=0)) (some (0,false)):=by
     simp only[jS];rfl
    rw[e0,sm,e];generalize (b/4503599627370496&&&2047)=z;by_cases hz:z=2047
    .subst hz;simp
    .have:¬(z:Int)=2047:=by omega
     simp[hz,this]
   by_cases k7:k=7
   .subst k7;refine af ?_;by_cases h1:0<=n;rotate_left
    .rw[show decide (n≥0)=false from Zf h1];exact zFM
    rw[show decide (n≥0)=true from Zt h1];refine af ?_;refine⟨⟨decide (n<=255),0,b,t,_,_⟩,⟨⟨_,_,rfl⟩,?_⟩,ZU,ZI⟩;simp[jS,sm,h1]
   by_cases k8:k=8
   .subst k8;exact zCX
   by_cases k9:k=9
   .subst k9;exact zCX
   by_cases k11:k=11
   .subst k11;exact zCX
   by_cases k10:k=10
   .subst k10;have bN:=wf.many;have O:(jS (.mk 10 n b t ci) inside).isSome=(ci.all (λy=>(jS y true).isSome)&&decide (n=0/\b=0/\t.size=0/\(0:Nat)=0)):=by
     have h1:(jh (xH ci)).isSome=ci.all λy=>(jS y true).isSome:=by
      rw[DY,dE,List.all_map];rfl
     rw[<- h1];simp only[jS];simp[sm];cases jh (xH ci)<;>simp[z9,wz]
    refine af ?_;refine VC.loop (α:=Nat×Bool) (bg:=λs=>[(2,kE q),(5,.bool s.2),(8,vi s.1)]) (Hf:=λs=>[A,kA q 0 [cv 10,vi n,uv b,.string t,.slice a ci.length c]])
     (I:=λs=>s.1<=ci.length/\s.2=(ci.take s.1).all λy=>(jS y true).isSome) (μ:=λs=>ci.length-s.1) (0,true) ⟨X0 _,rfl⟩ ZU ZI ?_
    rintro⟨j,ok⟩ ⟨i1,B⟩
    simp only at i1 B;dsimp only;refine af ?_;by_cases hj:j<ci.length;rotate_left
    .rw[A1 ((j:Int) < (ci.length:Int))];rw[Ql Zo]at B;refine af ?_;refine⟨⟨ok,n,b,t,Nz,0⟩,⟨⟨_,_,rfl⟩,?_⟩,ZU,ZI⟩;rw[O,<- B]
    rw[A0 ((j:Int) < (ci.length:Int))];cases ok with
    |false=>
     refine af ?_;refine⟨⟨false,n,b,t,Nz,0⟩,⟨⟨_,_,rfl⟩,?_⟩,ZU,ZI⟩;have:(ci.all λy=>(jS y true).isSome)=false:=by
      rw[vK];intro h;have m:((ci.take j).all λy=>(jS y true).isSome)=true:=vf.2 λy C=>vf.1 h y (QP C)
      rw[m]at B;cases B
     rw[O,this]
    |true=>
     obtain rfl:=ha Zo;obtain⟨y,C⟩:∃y,ci[j]? =some y:=⟨_,Zg hj⟩;have F:=hr j y C;have cA:=hm j hj;have ZW:=Lt.aJ (Zv C);simp only[Lt.size]at U Y;have M:=ih y Zo Zo _ F true;have Q:=F.len;generalize us j=uj at F cA M Q;have Z:ci.take (j+1)=ci.take j++[y]:=by rw[Qi,C];rfl
     refine af ?_;refine kR Zr Gb Q ?_;refine af ?_;refine kH M Zr ZP (λv dl J=>?_);obtain⟨rfl,rfl⟩:=J;simp only[aE];refine af ?_;refine⟨(j+1,(jS y true).isSome),⟨by simp only;omega,?_⟩,by simp only;omega,ZU,ZI⟩;simp only[Z,List.all_append,<- B,ve,List.all_nil,vI,vV]
   have eT:jS (.mk k n b t ci) inside=none:=by
    simp only[jS];rw[if_neg Zo,if_neg k4,if_neg k5,if_neg k6,if_neg k7,if_neg Zo,if_neg k11,if_neg k10]
   refine af ?_;rw[A1 ((k:Int)=1)];refine af ?_;rw[A1 ((k:Int)=2)];refine af ?_;rw[A1 ((k:Int)=3)];refine af ?_;rw[A1 ((k:Int)=4)];refine af ?_;rw[A1 ((k:Int)=5)];refine af ?_;rw[A1 ((k:Int)=6)];refine af ?_;rw[A1 ((k:Int)=7)];refine af ?_;rw[A1 ((k:Int)=8)];refine af ?_;rw[A1 ((k:Int)=9)];refine af ?_;rw[A1 ((k:Int)=11)];refine af ?_;rw[A1 ((k:Int)=10)];refine af ?_;refine⟨⟨false,n,b,t,_,_⟩,⟨⟨_,_,rfl⟩,?_⟩,ZU,ZI⟩;rw[eT];rfl
  rintro⟨ok,n',E,L,sv,l⟩ ⟨⟨a',c',S⟩,D⟩
  simp only at S D;subst S;dsimp only;rw[D];have hz:(⟨#[]⟩:ByteArray).size=0:=rfl;cases ok with
  |false=>
   exact Zx
  |true=>
   refine af ?_;by_cases h1:n'=0;rotate_left
   .rw[Zf h1];exact zDN
   rw[Zt h1];refine af ?_;by_cases m:E=0;rotate_left
   .rw[A1 ((E:Int)=0)];refine af ?_;exact kG (dl:=[A]) (.inr rfl) zT1 ⟨by simp[bU,m],rfl⟩ ZI
   rw[A0 ((E:Int)=0)];refine af ?_;by_cases h3:L=⟨#[]⟩;rotate_left
   .have:¬L.size=0:=λe=>h3 (jY (by rw[Q4.1 ((kY L).trans e)];rfl))
    rw[Zf h3];refine af ?_;exact kG (dl:=[A]) (.inr rfl) zT1 ⟨by simp[bU,this],rfl⟩ ZI
   rw[Zt h3];refine af ?_;refine kG (dl:=[A]) (.inr rfl) zT1 ⟨?_,rfl⟩ ZI;simp only[bU,h1,m,h3,hz,true_and,vV,Value.bool.injEq];exact decide_eq_decide.2 ⟨λh=>by omega,λh=>by omega⟩
def WT:∀(l:List (List Nat)) (n:Nat),-1<=zk l n/\zk l n<=n+l.length:=by
 intro l
 induction l with
 |nil=>intro n;simp only[zk,Q7];omega
 |cons p l ih=>
  intro n;simp only[zk,Q0];split
  .omega
  .split
   .have:=ih (n+1);omega
   .omega
def tP(s)(hs:s.size<=140737488355328):-1<=kW s/\kW s<=140737488355329:=by
 have d:=kY s;unfold kW;generalize kB s=l at d;have h1:=WT (jE l) 0;have h2:=CX l;cases l with
 |nil=>decide
 |cons c r=>
  unfold qF;dsimp only;split
  .omega
  .split
   .split<;>omega
   .omega
def xX(k s d c3 g j m A B c9 C):aq pg9 185 [.agg #[cv k,.string s,d,c3,g,j,m,A,B,c9,C]] [] (λv dl=>v=.bool (zY k s)/\dl=[]):=by
 refine aq.intro low185 Zn9 ?_;exact zBB
def xT {s:ByteArray}:s.size=0↔s=⟨#[]⟩:=⟨λe=>jY (by rw[Q4.1 ((kY s).trans e)];rfl),λe=>by rw[e];rfl⟩
def nw(lk:Nat)(ln:Int)(lb:Nat)(lt:ByteArray)(lm:Nat):Bool:=decide (lk=0/\ln=0/\lb=0/\lt.size=0/\lm=0)
def RZ(k s j A g lt E m F C d D G B H c9 I):
 aq pg9 218 [.agg #[cv k,.string s,cv j,vi A,uv g,.string lt,.slice E m F,.slice C d D,.slice G B H,c9,I]] [] (λv dl=>v=.bool (nw j A g lt m&&decide (s.size=0/\d=0/\B=0))/\dl=[]):=by
 refine aq.intro low218 Zn9 ?_;refine af ?_;refine kZ Zr (λq=>?_);simp only[Value.cells];refine af ?_;by_cases h1:s.size=0;rotate_left
 .rw[show decide (s=⟨#[]⟩)=false from Zf (by first|exact λe=>h1 (xT.2 e)|exact xT.1 h1)];refine af ?_;exact kG (dl:=[]) (.inr rfl) zT1 ⟨by simp[bU,nw,h1],rfl⟩ ZI
 rw[show decide (s=⟨#[]⟩)=true from Zt (by first|exact λe=>h1 (xT.2 e)|exact xT.1 h1)];refine af ?_;by_cases h2:j=0;rotate_left
 .rw[A1 ((j:Int)=0)];refine af ?_;exact kG (dl:=[]) (.inr rfl) zT1 ⟨by simp[bU,nw,h2],rfl⟩ ZI
 rw[A0 ((j:Int)=0)];refine af ?_;by_cases h3:A=0;rotate_left
 .rw[show decide (A=0)=false from Zf (by assumption)];refine af ?_;exact kG (dl:=[]) (.inr rfl) zT1 ⟨by simp[bU,nw,h3],rfl⟩ ZI
 rw[show decide (A=0)=true from Zt (by assumption)];refine af ?_;by_cases h4:g=0;rotate_left
 .rw[A1 ((g:Int)=0)];refine af ?_;exact kG (dl:=[]) (.inr rfl) zT1 ⟨by simp[bU,nw,h4],rfl⟩ ZI
 rw[A0 ((g:Int)=0)];refine af ?_;by_cases h5:lt.size=0;rotate_left
 .rw[show decide (lt=⟨#[]⟩)=false from Zf (by first|exact λe=>h5 (xT.2 e)|exact xT.1 h5)];refine af ?_;exact kG (dl:=[]) (.inr rfl) zT1 ⟨by simp[bU,nw,h5],rfl⟩ ZI
 rw[show decide (lt=⟨#[]⟩)=true from Zt (by first|exact λe=>h5 (xT.2 e)|exact xT.1 h5)];refine af ?_;by_cases h6:m=0;rotate_left
 .rw[A1 ((m:Int)=0)];refine af ?_;exact kG (dl:=[]) (.inr rfl) zT1 ⟨by simp[bU,nw,h6],rfl⟩ ZI
 rw[A0 ((m:Int)=0)];refine af ?_;by_cases h7:d=0;rotate_left
 .rw[A1 ((d:Int)=0)];refine af ?_;exact kG (dl:=[]) (.inr rfl) zT1 ⟨by simp[bU,nw,h7],rfl⟩ ZI
 rw[A0 ((d:Int)=0)];refine af ?_;refine kG (dl:=[]) (.inr rfl) zT1 ⟨?_,rfl⟩ ZI;simp only[bU,nw,h1,h2,h3,h4,h5,h6,h7,true_and,decide_true,vV,Value.bool.injEq];exact decide_eq_decide.2 ⟨λh=>by omega,λh=>by omega⟩
structure OneS where
 ok:Bool
 n:Int
 s:ByteArray
 lk:Nat
 ln:Int
 lb:Nat
 lt:ByteArray
 la:Option Addr
 lm:Nat
 lc:Nat
 aa:Option Addr
 am:Nat
 ac:Nat
 ta:Option Addr
 tm:Nat
 tc:Nat
def Xw(A)(hE:nM A)(x)(hb:x.w<=274877906944)(vs)(h:jD A x vs):aq pg9 184 [.agg vs.toArray] [A] (λv dl=>v=.tuple #[.bool (wx x.kind x.name x.lit x.a5 x.ae x.ak.length),vi (yM x.kind x.name)]/\dl=[A]):=by
 have h0:=h;cases h with
 |@mk k s lit a5 ae ak p lv av tv a c bk o us wf hl bI bL ha hm hr lW=>
 simp only[Nd.w]at hb;have gO:=DU A hE _ lit (Qs _) Zo lv hl false;have ZN:=ml A av a5 bI;have Z:=ml A tv ae bL;simp only[Nd.kind,Nd.name,Nd.lit,Nd.a5,Nd.ae,Nd.ak];have GA:=hl.len;cases hl with
 |@mk lk ln lb lt ci la lc RI lo MD Te Tb Tc Td=>
 obtain⟨g,j,rfl,oU,eS⟩:=bI;obtain⟨m,B,rfl,sr,N8⟩:=bL;have nt:=wf.kind;have D:=wf.name;have bN:=wf.many;have C:z4 (.mk lk ln lb lt ci)=nw lk ln lb lt ci.length:=rfl;refine aq.intro low184 Zn9 ?_;simp only[aE];refine jB ?_;refine kZ Zr (λq=>?_);simp only[Value.cells];refine jB ?_;refine VC.join (α:=OneS) (λz=>[(1,kE q),(4,.bool z.ok),(5,vi z.n)]) (λz=>[A,kA q 0 (rA k z.s z.lk z.ln z.lb z.lt z.la z.lm z.lc z.aa z.am z.ac z.ta z.tm z.tc a ak.length c p)])
  (λz=>wx k s (.mk lk ln lb lt ci) a5 ae ak.length=(z.ok&&(nw z.lk z.ln z.lb z.lt z.lm&&decide (z.s.size=0/\z.am=0/\z.tm=0)))/\yM k s=z.n) ?_ ?_
 .have G:(⟨#[]⟩:ByteArray).size=0:=rfl;by_cases k1:k=1
  .subst k1;refine af ?_;refine kH gO Zr ZP (λv dl F=>?_);obtain⟨rfl,rfl⟩:=F;simp only[aE];refine af ?_;refine⟨⟨(jS (.mk lk ln lb lt ci) false).isSome,0,s,0,0,0,⟨#[]⟩,none,0,0,g,a5.length,j,m,ae.length,B⟩,⟨?_,rfl⟩,ZU,by show ap _ [A,kA q 0 [cv 1,.string s,.int .u8 0,vi 0,.int .u64 0,.string ⟨#[]⟩,Nz,.slice g a5.length j,.slice m ae.length B,.slice a ak.length c,vi p]];exact bH⟩;simp[wx,nw,G]
  by_cases k2:k=2
  .subst k2;refine af ?_;refine kL (mP s D) Zr ?_;refine af ?_;refine⟨⟨yJ s,0,⟨#[]⟩,lk,ln,lb,lt,la,ci.length,lc,g,a5.length,j,m,ae.length,B⟩,⟨?_,rfl⟩,ZU,ZI⟩;simp only[G];simp[wx,C,Bool.and_assoc]
  by_cases k3:k=3
  .subst k3;refine af ?_;refine kL (By s D) Zr ?_;refine af ?_;refine⟨⟨jW s,1,⟨#[]⟩,lk,ln,lb,lt,la,ci.length,lc,g,a5.length,j,m,ae.length,B⟩,⟨?_,rfl⟩,ZU,ZI⟩;simp only[G];simp[wx,C,Bool.and_assoc]
  have E:-1<=kW s/\kW s<=140737488355329:=tP s D;by_cases k4:k=4
  .subst k4;refine af ?_;refine kL (gU s D) Zr ?_;obtain⟨z,d⟩:∃z,kW s=z:=⟨_,rfl⟩;rw[d]at E|-;refine af ?_;refine⟨⟨decide (z+1>0),z+1,⟨#[]⟩,lk,ln,lb,lt,la,ci.length,lc,g,a5.length,j,m,ae.length,B⟩,⟨?_,by simp[yM,d]⟩,ZU,ZI⟩;simp only[G];rw[show decide (z+1>0)=decide (0<=z)from decide_eq_decide.2 ⟨λh=>by omega,λh=>by omega⟩];simp[wx,C,d,Bool.and_assoc]
  by_cases k5:k=5
  .subst k5;refine af ?_;refine⟨⟨decide ((ak.length:Int)>2),-1,s,lk,ln,lb,lt,la,ci.length,lc,g,a5.length,j,m,ae.length,B⟩,⟨?_,rfl⟩,ZU,ZI⟩;rw[show decide ((ak.length:Int)>2)=decide (2<ak.length)from decide_eq_decide.2 ⟨λh=>by omega,λh=>by omega⟩];simp[wx,C,Bool.and_assoc]
  by_cases k6:k=6
  .subst k6;refine af ?_;refine kL (gU s D) Zr ?_;obtain⟨z,d⟩:∃z,kW s=z:=⟨_,rfl⟩;rw[d]at E|-;refine af ?_;refine⟨⟨decide (z≥0),z,⟨#[]⟩,lk,ln,lb,lt,la,ci.length,lc,g,a5.length,j,m,ae.length,B⟩,⟨?_,by simp[yM,d]⟩,ZU,ZI⟩;simp only[G];rw[show decide (z≥0)=decide (0<=z)from rfl];simp[wx,C,d,Bool.and_assoc]
  by_cases k7:k=7
  .subst k7;refine af ?_;refine kH ZN Zr ZP (λv dl F=>?_);obtain⟨rfl,rfl⟩:=F;simp only[aE];cases hfa0:a5.all jW with
   |false=>
    refine af ?_;refine⟨⟨false,-1,s,lk,ln,lb,lt,la,ci.length,lc,none,0,0,none,0,0⟩,⟨?_,rfl⟩,ZU,ZI⟩;simp[wx,hfa0]
   |true=>
    refine af ?_;refine kH Z Zr ZP (λv dl F=>?_);obtain⟨rfl,rfl⟩:=F;simp only[aE];refine af ?_;refine⟨⟨ae.all jW,-1,s,lk,ln,lb,lt,la,ci.length,lc,none,0,0,none,0,0⟩,⟨?_,rfl⟩,ZU,ZI⟩;simp only[wx,hfa0,C,show ¬(7:Nat)=1 by omega,show ¬(7:Nat)=2 by omega,show ¬(7:Nat)=3 by omega,show ¬(7:Nat)=4 by omega,show ¬(7:Nat)=5 by omega,show ¬(7:Nat)=6 by omega,if_false,if_true,vV,and_self,and_true,Bool.and_assoc]
  by_cases k8:k=8
  .subst k8;refine af ?_;refine⟨⟨true,-1,s,lk,ln,lb,lt,la,ci.length,lc,g,a5.length,j,m,ae.length,B⟩,⟨?_,rfl⟩,ZU,ZI⟩;simp[wx,C]
  by_cases k9:k=9
  .subst k9;refine af ?_;refine⟨⟨true,1,s,lk,ln,lb,lt,la,ci.length,lc,g,a5.length,j,m,ae.length,B⟩,⟨?_,rfl⟩,ZU,ZI⟩;simp[wx,C]
  refine af ?_;rw[A1 ((k:Int)=1)];refine af ?_;rw[A1 ((k:Int)=2)];refine af ?_;rw[A1 ((k:Int)=3)];refine af ?_;rw[A1 ((k:Int)=4)];refine af ?_;rw[A1 ((k:Int)=5)];refine af ?_;rw[A1 ((k:Int)=6)];refine af ?_;rw[A1 ((k:Int)=7)];refine af ?_;rw[A1 ((k:Int)=8)];refine af ?_;rw[A1 ((k:Int)=9)];refine af ?_;refine⟨⟨false,0,s,lk,ln,lb,lt,la,ci.length,lc,g,a5.length,j,m,ae.length,B⟩,⟨?_,?_⟩,ZU,ZI⟩
  .simp[wx,k1,k2,k3,k4,k5,k6,k7,k8,k9]
  .simp[yM,k1,k2,k3,k4,k5,k6,k7,k8,k9]
 .rintro⟨ok,n,s',N,Q,L,S,K,O,M,H,J,I,T,W,U⟩ ⟨X,Y⟩
  simp only at X Y;dsimp only;rw[X,Y];have hn:=RZ k s' N Q L S K O M H J I T W U (.slice a ak.length c) (vi p);cases ok with
  |true=>
   refine af ?_;refine kL hn Zr ?_;refine af ?_;exact kG (dl:=[A]) (.inr rfl) (.tmp Zr zT1) ⟨rfl,rfl⟩ ZI
  |false=>
   refine af ?_;exact kG (dl:=[A]) (.inr rfl) (.tmp Zr zT1) ⟨rfl,rfl⟩ ZI
def RG:∀(N:Nat) (l:List Nat),l.length<=N->l≠[]->∀n:Nat,0<=zk (jE l) n->l.getLast? =some 58:=by
 intro N
 induction N with
 |zero=>intro l s g;exact absurd (Q4.1 Zo) g
 |succ N ih=>
  intro l s g n h;rw[EU g]at h;split at h
  .rename_i j;have m:z8 l<l.length:=by
    rcases Nat.lt_or_ge (z8 l) l.length with h1|h1
    .exact h1
    .have:=j.2;rw[Vh,Vp h1]at this;cases this
   have q:l[z8 l]? =some 58:=by
    have:=j.2;rw[Vh,Zg m]at this;rw[Zg m];simpa using this
   by_cases hr:l.drop (z8 l+1)=[]
   .have:l.length<=z8 l+1:=by simpa using hr
    rw[List.getLast?_eq_getElem?,show l.length-1=z8 l by omega,q]
   .have d:=ih (l.drop (z8 l+1)) (by rw[Q1];omega) hr (n+1) h;rw[List.getLast?_drop]at d;split at d
    .cases d
    .exact d
  .omega
def K6 {s}(h:1 < kW s):(kB s).getLast? =some 58:=by
 unfold kW at h;generalize kB s=l at h|-;cases l with
 |nil=>exact absurd h Zd
 |cons c r=>
  unfold qF at h;dsimp only at h;split at h
  .omega
  .split at h
   .split at h<;>omega
   .exact RG _ _ (Qs _) Zs 0 Zo
def A9(s)(C:s.size<=140737488355328)(g:0<=kW s):aq pg9 219 [.string s] [] (λv dl=>v=vi (yh s)/\dl=[]):=by
 refine aq.intro low219 Zn9 ?_;have d:=kY s;have m:=@K6 s;have hb:yh s=if kW s=0 then 5 else if kW s=1/\(kB s).getLast?≠some 58 then 4 else 3:=rfl;have cz:0<s.size:=by
  rcases Qq s.size with h2|h2
  .have:kB s=[]:=Q4.1 Zo;unfold kW at g;rw[this]at g;exact absurd g Zd
  .exact h2
 refine af ?_;refine kL (gU s C) Zr ?_;obtain⟨z,D⟩:∃z,kW s=z:=⟨_,rfl⟩;rw[D]at hb g m|-;refine af ?_;by_cases h0:z=0
 .rw[Zt h0];rw[if_pos h0]at hb;exact zBG
 rw[Zf h0];rw[if_neg h0]at hb;obtain⟨c,B,E⟩:=wD (s:=s) (i:=s.size-1) Zo;have q:(kB s).getLast? =some c.toNat:=by rw[List.getLast?_eq_getElem?,d];exact E
 rw[q]at hb m;refine af ?_;refine wL Zr Zr (j:=s.size-1) Zo B ?_;refine af ?_;by_cases um:c.toNat=58
 .rw[A0 ((c.toNat:Int)=58)];rw[if_neg (by simp[um])]at hb;exact zBG
 rw[A1 ((c.toNat:Int)=58)];have A:z=1:=by
  rcases Int.lt_or_le 1 z with h|h
  .exact absurd (X8 (m h)) um
  .omega
 rw[if_pos ⟨A,by simp[um]⟩]at hb;exact zBG
def Jr(k s)(D:s.size<=140737488355328)(C:k=4->0<=kW s)(d c3 g j m A B c9 E):aq pg9 186 [.agg #[cv k,.string s,d,c3,g,j,m,A,B,c9,E]] [] (λv dl=>v=vi (fC k s)/\dl=[]):=by
 refine aq.intro low186 Zn9 ?_;refine af ?_;refine kZ Zr (λq=>?_);simp only[Value.cells];refine af ?_;by_cases h3:k=3
 .subst h3;exact zD0
 rw[A1 ((k:Int)=3)];refine af ?_;by_cases h5:k=5
 .subst h5;exact zD0
 rw[A1 ((k:Int)=5)];refine af ?_;by_cases h4:k=4
 .subst h4;refine af ?_;refine kL (A9 s D (C rfl)) Zr ?_;exact zD0
 exact zE6
def G8(A):∀(N:Nat) (x:Lt),x.size<=N->∀vs,yc A x vs->aq pg9 151 [.agg vs.toArray] [A] (λv dl=>v=.bool (mD x)/\dl=[A]):=by
 intro N
 induction N with
 |zero=>intro x B;have:=x.size_pos;omega
 |succ N ih=>
  intro x B vs G;cases G with
  |@mk k n b t ci a c bk o us wf ha hm hr=>
  simp only[Lt.size]at B;have bN:=wf.many;have E:=wf.text;have nt:=wf.kind;have C:mD (.mk k n b t ci)=(decide (255<ci.length)||(decide (k=11)&&decide (255<t.size))||ci.any mD):=by simp only[mD,Jt]
  rw[C];refine aq.intro low151 Zn9 ?_;refine jB ?_;refine kZ Zr (λq=>?_);simp only[Value.cells];refine jB ?_;refine VC.join (α:=Unit) (λ_=>[(1,kE q)]) (λ_=>[A,kA q 0 [cv k,vi n,uv b,.string t,.slice a ci.length c]]) (λ_=>(decide (255<ci.length)||(decide (k=11)&&decide (255<t.size)))=false) ?_ ?_
  .refine af ?_;by_cases h1:255<ci.length
   .rw[A0 ((ci.length:Int) > 255)];exact zDN
   rw[A1 ((ci.length:Int) > 255)];refine af ?_;by_cases h2:k=11;rotate_left
   .rw[A1 ((k:Int)=11)];refine af ?_;exact⟨(),by simp[h1,h2],ZU,ZI⟩
   rw[A0 ((k:Int)=11)];refine af ?_;by_cases h3:255<t.size
   .rw[A0 ((t.size:Int) > 255)];refine af ?_;exact kG (dl:=[A]) (.inr rfl) zT1 ⟨by simp[bU,h2,h3],rfl⟩ ZI
   rw[A1 ((t.size:Int) > 255)];refine af ?_;exact⟨(),by simp[h1,h3],ZU,ZI⟩
  rintro⟨⟩ h1
  rw[h1,vO];refine af ?_;refine VC.loop (α:=Nat) (bg:=λj=>[(1,kE q),(3,vi j)]) (Hf:=λ_=>[A,kA q 0 [cv k,vi n,uv b,.string t,.slice a ci.length c]])
   (I:=λj=>j<=ci.length/\(ci.take j).any mD=false) (μ:=λj=>ci.length-j) 0 ⟨X0 _,rfl⟩ ZU ZI ?_
  rintro j ⟨i1,i2⟩
  refine af ?_;by_cases hj:j<ci.length;rotate_left
  .rw[A1 ((j:Int) < (ci.length:Int))];rw[Ql Zo]at i2;exact zCP
  rw[A0 ((j:Int) < (ci.length:Int))];obtain rfl:=ha Zo;obtain⟨y,d⟩:∃y,ci[j]? =some y:=⟨_,Zg hj⟩;have g:=hr j y d;have cA:=hm j hj;have ZW:=Lt.aJ (Zv d);have m:=ih y Zo _ g;have s:=g.len;generalize us j=uj at g cA m s;have D:ci.take (j+1)=ci.take j++[y]:=by rw[Qi,d];rfl
  refine af ?_;refine kR Zr Gb s ?_;refine af ?_;refine kH m Zr ZP (λv dl F=>?_);obtain⟨rfl,rfl⟩:=F;simp only[aE];cases hmy:mD y with
  |true=>
   have:ci.any mD=true:=vh.2 ⟨y,Zv d,hmy⟩;refine af ?_;exact kG (dl:=[A]) (.inr rfl) zT1 ⟨by rw[this];rfl,rfl⟩ ZI
  |false=>
   refine af ?_;exact⟨j+1,⟨Zo,by rw[D];simp[i2,hmy]⟩,Zo,ZU,ZI⟩
def RT {α:Type}(f:α->Nat)(l r:List α):mx f (l++r)=max (mx f l) (mx f r):=by
 induction l with
 |nil=>simp[mx]
 |cons x l ih=>simp only[vq,mx,ih];omega
def Js:∀(N:Nat) (x:Lt),x.size<=N->za x<=x.size:=by
 intro N
 induction N with
 |zero=>intro x d;have:=x.size_pos;omega
 |succ N ih=>
  intro x d;cases x with
  |mk k n b t ci=>
  simp only[Lt.size]at d|-;simp only[za,uE];split
  .have:=mx_le (f:=za) (K:=Lt.ay ci) (l:=ci) λy g=>by
    have h1:=Lt.aJ g;have h2:=ih y Zo;omega
   omega
  .omega
def DT(A):∀(N:Nat) (x:Lt),x.size<=N->x.size<=1099511627776->∀vs,yc A x vs->aq pg9 152 [.agg vs.toArray] [A] (λv dl=>v=vi (za x)/\dl=[A]):=by
 intro N
 induction N with
 |zero=>intro x F;have:=x.size_pos;omega
 |succ N ih=>
  intro x F G vs J;cases J with
  |@mk k n b t ci a c bk o us wf ha hm hr=>
  simp only[Lt.size]at F G;have bN:=wf.many;have nt:=wf.kind;refine aq.intro low152 Zn9 ?_;simp only[za,uE];refine af ?_;refine kZ Zr (λq=>?_);simp only[Value.cells];refine af ?_;by_cases tz:k=10;rotate_left
  .rw[if_neg tz,A1 ((k:Int)=10)];exact zBV
  rw[if_pos tz,A0 ((k:Int)=10)];refine af ?_;refine VC.loop (α:=Nat) (bg:=λj=>[(1,kE q),(3,vi (mx za (ci.take j))),(4,vi j)]) (Hf:=λ_=>[A,kA q 0 [cv k,vi n,uv b,.string t,.slice a ci.length c]])
   (I:=λj=>j<=ci.length) (μ:=λj=>ci.length-j) 0 (X0 _) ZU ZI ?_
  rintro j i1
  have g:=mx_le (f:=za) (K:=Lt.ay ci) (l:=ci.take j) λy s=>by
   have h1:=Lt.aJ (QP s);have h2:=Js _ y (Qs _);omega
  by_cases hj:j<ci.length;rotate_left
  .rw[Ql Zo]at g|-;generalize mx za ci=M at g|-;refine af ?_;rw[A1 ((j:Int) < (ci.length:Int))];exact zBV
  obtain rfl:=ha Zo;obtain⟨y,s⟩:∃y,ci[j]? =some y:=⟨_,Zg hj⟩;have B:=hr j y s;have cA:=hm j hj;have ZW:=Lt.aJ (Zv s);have D:=ih y Zo Zo _ B;have E:=B.len;generalize us j=uj at B cA D E;have m:mx za (ci.take (j+1))=max (mx za (ci.take j)) (za y):=by rw[Qi,s,RT];simp[mx]
  generalize mx za (ci.take j)=M at g m|-;have C:=Js _ y (Qs _);refine af ?_;rw[A0 ((j:Int) < (ci.length:Int))];refine af ?_;refine kR Zr Gb E ?_;refine af ?_;refine kH D Zr ZP (λv dl H=>?_);obtain⟨rfl,rfl⟩:=H;simp only[aE];generalize za y=d at m C|-;refine af ?_;by_cases hd:M<d
  .rw[A0 ((d:Int) > (M:Int))];rw[show max M d=d by omega]at m;refine af ?_;refine⟨j+1,Zo,Zo,by rw[m];exact Du,ZI⟩
  .rw[A1 ((d:Int) > (M:Int))];rw[show max M d=M by omega]at m;refine af ?_;refine⟨j+1,Zo,Zo,by rw[m];exact Du,ZI⟩
def ς(k s)(d:s.size<=140737488355328):-1<=yM k s/\yM k s<=140737488355330:=by
 have:=tP s d;unfold yM
 repeat' split
 all_goals omega
def Ih(A)(hE:nM A):∀(N:Nat) (x:Nd),x.w<=N->x.w<=274877906944->∀vs,jD A x vs->aq pg9 149 [.agg vs.toArray] [A] (λv dl=>v=.bool (jc x)/\dl=[A]):=by
 intro N
 induction N with
 |zero=>intro x hx;have:=x.nC;omega
 |succ N ih=>
  intro x hx hb vs h;have s:=Xw A hE x hb vs h;obtain⟨e1,e2,e3,e4,e5,e6,e7,e8,e9,xl,xm,xn,xp,a,Z,bk,o,us,lZ,bN,ha,hm,hr⟩:=Xe h;have hwx:Nd.ws x.ak+1<=x.w:=by cases x;simp only[Nd.w,Nd.ak];omega
  have eU:x.name.size<=140737488355328:=by cases h with|mk wf=>exact wf.name
  have nt:x.kind<256:=by cases h with|mk wf=>exact wf.kind
  have lB:jc x=(wx x.kind x.name x.lit x.a5 x.ae x.ak.length&&!(decide (0<=yM x.kind x.name)&&decide (yM x.kind x.name≠x.ak.length))&&j8 x.kind x.ak.length 0 x.ak):=by cases x;simp only[jc,Nd.kind,Nd.name,Nd.lit,Nd.a5,Nd.ae,Nd.ak];rfl
  rw[lB];have n9:=ς x.kind x.name eU;generalize hOne:wx x.kind x.name x.lit x.a5 x.ae x.ak.length=on at s|-;generalize hCnt:yM x.kind x.name=d at s n9|-;rw[lZ]at s|-;generalize x.kind=k at s nt|-;refine aq.intro low149 Zn9 ?_;refine jB ?_;refine kZ Zr (λq=>?_);simp only[Value.cells];refine jB ?_;refine kH s Zr ZP (λv dl W=>?_);obtain⟨rfl,rfl⟩:=W;simp only[aE];refine jB ?_;refine VC.join (α:=Unit) (λ_=>[(1,kE q)]) (λ_=>[A,kA q 0 (rA k x.name e1 e2 e3 e4 e5 e6 e7 e8 e9 xl xm xn xp a x.ak.length Z x.at_)]) (λ_=>(on&&!(decide (0<=d)&&decide (d≠x.ak.length)))=true) ?_ ?_
  .refine af ?_;cases on with
   |false=>
    exact Zx
   |true=>
    refine af ?_;by_cases h1:0<=d;rotate_left
    .skip
     rw[A1 (d ≥ 0)];refine af ?_;exact⟨(),by simp[h1],ZU,ZI⟩
    rw[A0 (d ≥ 0)];refine af ?_;by_cases h2:d=x.ak.length
    .skip
     rw[A0 (d=(x.ak.length:Int))];refine af ?_;exact⟨(),by simp[h2],ZU,ZI⟩
    .skip
     rw[A1 (d=(x.ak.length:Int))];refine af ?_;exact kG (dl:=[A]) (.inr rfl) zT1 ⟨by simp[bU,h1,h2],rfl⟩ ZI
  rintro⟨⟩ aR
  rw[aR,vV];refine af ?_;refine VC.loop (α:=Nat) (bg:=λj=>[(1,kE q),(5,vi j)]) (Hf:=λ_=>[A,kA q 0 (rA k x.name e1 e2 e3 e4 e5 e6 e7 e8 e9 xl xm xn xp a x.ak.length Z x.at_)])
   (I:=λj=>j<=x.ak.length/\j8 k x.ak.length 0 x.ak=j8 k x.ak.length j (x.ak.drop j)) (μ:=λj=>x.ak.length-j) 0 ⟨X0 _,rfl⟩ ZU ZI ?_
  rintro j ⟨i1,i2⟩
  refine af ?_;by_cases hj:j<x.ak.length;rotate_left
  .rw[A1 ((j:Int) < (x.ak.length:Int))];rw[vw Zo]at i2;exact zCP
  rw[A0 ((j:Int) < (x.ak.length:Int))];obtain rfl:=ha Zo;obtain⟨y,hy⟩:∃y,x.ak[j]? =some y:=⟨_,Zg hj⟩;have G:=hr j y hy;have cA:=hm j hj;have cS:=G.len;have hzw:y.w<=Nd.ws x.ak:=Nd.cQ (Zv hy);have Y:=ih y Zo Zo _ G;have Ja:x.ak.drop j=y::x.ak.drop (j+1):=zE4
  rw[Ja]at i2;simp only[j8]at i2;generalize us j=uj at G cA Y cS;have U:kg y=zY y.kind y.name:=rfl;obtain⟨f1,f2,f3,f4,f5,f6,f7,f8,f9,H,J,K,L,M,O,Q,S,rfl,l6,hyk⟩:=eH G;refine af ?_;refine kR Zr Gb rfl ?_;refine af ?_;refine kJ (λq6=>?_);refine af ?_;refine kH Y Zr ZP (λv dl W=>?_);obtain⟨rfl,rfl⟩:=W;simp only[aE];generalize jc y=T at i2|-;refine af ?_;refine VO.bool 53 (decide (j=0)&&(decide (k=4)||decide (k=5))) Zr ?_ ?_
  .by_cases j0:j=0;rotate_left
   .skip
    rw[A1 ((j:Int)=0)];refine af ?_;exact⟨by simp[j0],ZU,ZI⟩
   rw[A0 ((j:Int)=0)];refine af ?_;by_cases k4:k=4
   .skip
    rw[A0 ((k:Int)=4)];refine af ?_;exact⟨by simp[j0,k4],ZU,ZI⟩
   rw[A1 ((k:Int)=4)];refine af ?_;by_cases k5:k=5
   .skip
    rw[A0 ((k:Int)=5)];refine af ?_;exact⟨by simp[j0,k4,k5],ZU,ZI⟩
   rw[A1 ((k:Int)=5)];refine af ?_;exact⟨by simp[j0,k4,k5],ZU,ZI⟩
  generalize B8:(decide (j=0)&&(decide (k=4)||decide (k=5)))=m;refine af ?_;refine VO.bool 64 (decide (j+1=x.ak.length)&&decide (k=7)) Zr ?_ ?_
  .by_cases j0:j+1=x.ak.length;rotate_left
   .skip
    rw[A1 ((j:Int)=(x.ak.length:Int) - 1)];refine af ?_;exact⟨by simp[j0],ZU,ZI⟩
   rw[A0 ((j:Int)=(x.ak.length:Int) - 1)];refine af ?_;by_cases k7:k=7
   .skip
    rw[A0 ((k:Int)=7)];refine af ?_;exact⟨by simp[j0,k7],ZU,ZI⟩
   rw[A1 ((k:Int)=7)];refine af ?_;exact⟨by simp[j0,k7],ZU,ZI⟩
  generalize D:(decide (j+1=x.ak.length)&&decide (k=7))=lst;refine af ?_;refine VO.bool 71 (decide (k=5)&&decide (0<j)) Zr ?_ ?_
  .by_cases k5:k=5;rotate_left
   .skip
    rw[A1 ((k:Int)=5)];refine af ?_;exact⟨by simp[k5],ZU,ZI⟩
   rw[A0 ((k:Int)=5)];refine af ?_;by_cases j0:0<j
   .skip
    rw[A0 ((j:Int) > 0)];refine af ?_;exact⟨by simp[k5,j0],ZU,ZI⟩
   rw[A1 ((j:Int) > 0)];refine af ?_;exact⟨by simp[k5,j0],ZU,ZI⟩
  generalize E:(decide (k=5)&&decide (0<j))=F;have C:iN k x.ak.length j y=(!(zY y.kind y.name&&!m)&&!(decide (y.kind=9)&&!lst)&&(decide (y.kind=6)==F)):=by
   unfold iN;rw[B8,D,E,U]
  have g:=xX y.kind y.name (cv f1) (vi f2) (uv f3) (.string f4) (.slice f5 f6 f7) (.slice f8 f9 H) (.slice J K L) (.slice M O Q) (vi S);generalize zY y.kind y.name=X at g C;refine af ?_;refine VO.bool 97 (!(T&&iN k x.ak.length j y)) Zr ?_ ?_
  .rw[C];cases T with
   |false=>
    refine af ?_;exact⟨Zs,ZU,ZI⟩
   |true=>
    refine af ?_;refine kL g Zr ?_;refine VO.bool 81 (X&&!m) Zr ?_ ?_
    .cases X with
     |false=>
      refine af ?_;exact⟨Zs,ZU,ZI⟩
     |true=>
      refine af ?_;exact⟨Zs,ZU,ZI⟩
    generalize (X&&!m)=b1;cases b1 with
    |true=>
     refine af ?_;exact⟨Zs,ZU,ZI⟩
    |false=>
     refine af ?_;refine VO.bool 90 (decide (y.kind=9)&&!lst) Zr ?_ ?_
     .by_cases k9:y.kind=9
      .skip
       rw[A0 ((y.kind:Int)=9)];refine af ?_;exact⟨by simp[k9],ZU,ZI⟩
      .exact zFQ
     generalize (decide (y.kind=9)&&!lst)=b2;cases b2 with
     |true=>
      refine af ?_;exact⟨Zs,ZU,ZI⟩
     |false=>
      refine af ?_;refine⟨?_,ZU,ZI⟩;rw[show decide ((y.kind:Int)=6)=decide (y.kind=6)from decide_eq_decide.2 ⟨λh=>by omega,λh=>by omega⟩];cases decide (y.kind=6)<;>cases F<;>rfl
  generalize (T&&iN k x.ak.length j y)=B at i2|-;cases B with
  |true=>
   refine af ?_;exact⟨j+1,⟨Zo,by rw[i2];simp⟩,Zo,ZU,ZI⟩
  |false=>
   refine af ?_;exact kG (dl:=[A]) (.inr rfl) zT1 ⟨by rw[i2];simp[bU],rfl⟩ ZI
def OZ(A):∀(N:Nat) (x:Nd),x.w<=N->∀vs,jD A x vs->aq pg9 88 [.agg vs.toArray] [A] (λv dl=>v=.bool (jq x)/\dl=[A]):=by
 intro N
 induction N with
 |zero=>intro x K;have:=x.nC;omega
 |succ N ih=>
  intro x K vs h;cases h with
  |@mk k s lit a5 ae ak p lv av tv a c bk o us wf hl bI bL ha hm hr lW=>
  simp only[Nd.w]at K;have J:=G8 A _ lit (Qs _) lv hl;have bN:=wf.many;have nt:=wf.kind;cases hl with
  |@mk lk ln lb lt ci la lc RI lo MD Te Tb Tc Td=>
  obtain⟨g,m,rfl,oU,eS⟩:=bI;obtain⟨D,E,rfl,sr,N8⟩:=bL;have M:jq (.mk k s (.mk lk ln lb lt ci) a5 ae ak p)=(((mD (.mk lk ln lb lt ci)||decide (15<a5.length))||decide (63<ae.length))||(((decide (k=4)&&decide (16<ak.length))||(decide (k=6)&&decide (15<ak.length)))||(decide (k=5)&&decide (256<ak.length)))||(decide (k=8)&&decide (255<ak.length))||ak.any jq):=by
   simp only[jq,E1,vR]
  rw[M];generalize mD (.mk lk ln lb lt ci)=L at J|-;refine aq.intro low88 Zn9 ?_;simp only[aE];refine jB ?_;refine kZ Zr (λq=>?_);simp only[Value.cells];refine jB ?_;refine kH J Zr ZP (λv dl C=>?_);obtain⟨rfl,rfl⟩:=C;simp only[aE];refine jB ?_;refine VC.join (α:=Unit) (λ_=>[(1,kE q)]) (λ_=>[A,kA q 0 (rA k s lk ln lb lt la ci.length lc g a5.length m D ae.length E a ak.length c p)]) (λ_=>((L||decide (15<a5.length))||decide (63<ae.length))=false) ?_ ?_
  .refine af ?_;cases L with
   |true=>
    exact Zx
   |false=>
    refine af ?_;by_cases h1:15<a5.length
    .skip
     rw[A0 ((a5.length:Int) > 15)];exact zDN
    rw[A1 ((a5.length:Int) > 15)];refine af ?_;by_cases h2:63<ae.length
    .skip
     rw[A0 ((ae.length:Int) > 63)];refine af ?_;exact kG (dl:=[A]) (.inr rfl) zT1 ⟨by simp[bU,h2],rfl⟩ ZI
    rw[A1 ((ae.length:Int) > 63)];refine af ?_;exact⟨(),by simp[h1,h2],ZU,ZI⟩
  rintro⟨⟩ Q
  rw[Q,vO];refine af ?_;refine VO.bool 42 ((decide (k=4)&&decide (16<ak.length))||(decide (k=6)&&decide (15<ak.length))) Zr ?_ ?_
  .by_cases k4:k=4
   .skip
    rw[A0 ((k:Int)=4)];refine af ?_;by_cases h1:16<ak.length
    .skip
     rw[A0 ((ak.length:Int) > 16)];refine af ?_;exact⟨by simp[k4,h1],ZU,ZI⟩
    rw[A1 ((ak.length:Int) > 16)];refine af ?_;rw[A1 ((k:Int)=6)];refine af ?_;exact⟨by simp[k4,h1],ZU,ZI⟩
   rw[A1 ((k:Int)=4)];refine af ?_;by_cases k6:k=6
   .skip
    rw[A0 ((k:Int)=6)];refine af ?_;by_cases h1:15<ak.length
    .skip
     rw[A0 ((ak.length:Int) > 15)];refine af ?_;exact⟨by simp[k6,h1],ZU,ZI⟩
    rw[A1 ((ak.length:Int) > 15)];refine af ?_;exact⟨by simp[k6,h1],ZU,ZI⟩
   rw[A1 ((k:Int)=6)];refine af ?_;exact⟨by simp[k4,k6],ZU,ZI⟩
  generalize ((decide (k=4)&&decide (16<ak.length))||(decide (k=6)&&decide (15<ak.length)))=G;refine jB ?_;refine VC.join (α:=Unit) (λ_=>[(1,kE q)]) (λ_=>[A,kA q 0 (rA k s lk ln lb lt la ci.length lc g a5.length m D ae.length E a ak.length c p)]) (λ_=>((G||(decide (k=5)&&decide (256<ak.length)))||(decide (k=8)&&decide (255<ak.length)))=false) ?_ ?_
  .refine af ?_;cases G with
   |true=>
    exact Zx
   |false=>
    refine af ?_;refine VO.bool 54 (decide (k=5)&&decide (256<ak.length)) Zr ?_ ?_
    .by_cases k5:k=5
     .skip
      rw[A0 ((k:Int)=5)];refine af ?_;by_cases h1:256<ak.length
      .skip
       rw[A0 ((ak.length:Int) > 256)];refine af ?_;exact⟨by simp[k5,h1],ZU,ZI⟩
      rw[A1 ((ak.length:Int) > 256)];refine af ?_;exact⟨by simp[k5,h1],ZU,ZI⟩
     rw[A1 ((k:Int)=5)];refine af ?_;exact⟨by simp[k5],ZU,ZI⟩
    generalize (decide (k=5)&&decide (256<ak.length))=O;cases O with
    |true=>
     exact Zx
    |false=>
     refine af ?_;by_cases k8:k=8
     .skip
      rw[A0 ((k:Int)=8)];refine af ?_;by_cases h1:255<ak.length
      .skip
       rw[A0 ((ak.length:Int) > 255)];refine af ?_;exact kG (dl:=[A]) (.inr rfl) zT1 ⟨by simp[bU,k8,h1],rfl⟩ ZI
      rw[A1 ((ak.length:Int) > 255)];refine af ?_;exact⟨(),by simp[h1],ZU,ZI⟩
     rw[A1 ((k:Int)=8)];refine af ?_;exact⟨(),by simp[k8],ZU,ZI⟩
  rintro⟨⟩ U
  rw[U,vO];refine af ?_;refine VC.loop (α:=Nat) (bg:=λj=>[(1,kE q),(5,vi j)]) (Hf:=λ_=>[A,kA q 0 (rA k s lk ln lb lt la ci.length lc g a5.length m D ae.length E a ak.length c p)])
   (I:=λj=>j<=ak.length/\(ak.take j).any jq=false) (μ:=λj=>ak.length-j) 0 ⟨X0 _,rfl⟩ ZU ZI ?_
  rintro j ⟨i1,i2⟩
  refine af ?_;by_cases hj:j<ak.length;rotate_left
  .rw[Ql Zo]at i2;rw[A1 ((j:Int) < (ak.length:Int))];exact zCP
  rw[A0 ((j:Int) < (ak.length:Int))];obtain rfl:=ha Zo;obtain⟨y,d⟩:∃y,ak[j]? =some y:=⟨_,Zg hj⟩;have B:=hr j y d;have cA:=hm j hj;have H:=B.len;have T:y.w<=Nd.ws ak:=Nd.cQ (Zv d);have F:=ih y Zo _ B;have S:ak.take (j+1)=ak.take j++[y]:=by rw[Qi,d];rfl
  generalize us j=uj at B cA F H;refine af ?_;refine kR Zr Gb H ?_;refine af ?_;refine kH F Zr ZP (λv dl C=>?_);obtain⟨rfl,rfl⟩:=C;simp only[aE];cases hmy:jq y with
  |true=>
   have:ak.any jq=true:=vh.2 ⟨y,Zv d,hmy⟩;refine af ?_;exact kG (dl:=[A]) (.inr rfl) zT1 ⟨by rw[this];rfl,rfl⟩ ZI
  |false=>
   refine af ?_;exact⟨j+1,⟨Zo,by rw[S];simp[i2,hmy]⟩,Zo,ZU,ZI⟩
def P6 {k m}:∀{l:List Nd} {i:Nat},j8 k m i l=true->∀j y,l[j]? =some y->jc y=true/\iN k m (i+j) y=true:=by
 intro l
 induction l with
 |nil=>intro i _ j y h;simp at h
 |cons z r ih=>
  intro i h j y d;simp only[j8,vG]at h;cases j with
  |zero=>cases d;exact h.1
  |succ j=>
   have:=ih h.2 j y (by simpa using d)
   rwa [show i+1+j=i+(j+1) by omega]at this
def uh {x}(h:jc x=true):∀j y,x.ak[j]? =some y->jc y=true/\iN x.kind x.ak.length j y=true:=by
 cases x with
 |mk k s lit a5 ae ak p=>
 simp only[jc,vG]at h;intro j y d;have:=P6 h.2 j y d
 rwa [Qz]at this
def qT {x}(h:jc x=true)(g:x.kind=4∨x.kind=6):0<=kW x.name:=by
 cases x with
 |mk k s lit a5 ae ak p=>
 simp only[jc,vG]at h;have d:=h.1.1;simp only[Nd.kind,Nd.name]at g|-;rcases g with rfl|rfl
 .simp[wx]at d;exact d.1.1
 .simp[wx]at d;exact d.1.1
def P5 {x}(h:jc x=true)(q:x.kind=5):∃y,x.ak[1]? =some y/\y.kind=6/\0<=kW y.name/\rZ x.kind x.name x.ak=y.name:=by
 have g:=uh h;cases x with
 |mk k s lit a5 ae ak p=>
 simp only[jc,vG]at h;have d:=h.1.1;simp only[Nd.kind,Nd.name,Nd.ak]at q g|-;subst q;simp[wx]at d;rcases ak with _|⟨y,_|⟨z,r⟩⟩
 .simp at d
 .simp at d
 .obtain⟨A,j⟩:=g 1 z rfl;have m:z.kind=6:=by simp[iN]at j;exact j.2
  exact⟨z,rfl,m,qT A (.inr m),rfl⟩
def O3(A:List kC)(x:Nd)(vs:List Value)(h:jD A x vs)(J:jc x=true)(i:Nat):aq pg9 187 [.agg vs.toArray,vi i] [A] (λv dl=>v=vi (gV x.kind (rZ x.kind x.name x.ak) i)/\dl=[A]):=by
 obtain⟨O,Q,T,U,W,X,Y,Z,e9,xl,xm,xn,xp,a,N,bk,o,us,lZ,bN,ha,hm,hr⟩:=Xe h;have eU:x.name.size<=140737488355328:=by cases h with|mk wf=>exact wf.name
 have nt:x.kind<256:=by cases h with|mk wf=>exact wf.kind
 have eS:=@qT x J;have j:=@P5 x J;have F:¬x.kind=5->rZ x.kind x.name x.ak=x.name:=λe=>if_neg e
 rw[lZ];generalize hS:rZ x.kind x.name x.ak=S at j F|-;generalize x.kind=k at*;generalize x.name=s at*;refine aq.intro low187 Zn9 ?_;refine jB ?_;refine kZ Zr (λq=>?_);simp only[Value.cells];refine jB ?_;refine VO.bool 16 (decide (i=0)&&decide (k=4)) Zr ?_ ?_
 .by_cases i0:i=0
  .skip
   rw[A0 ((i:Int)=0)];refine af ?_;exact⟨by simp only[X9,Value.bool.injEq,i0,decide_true,vV];exact decide_eq_decide.2 ⟨λh=>by omega,λh=>by omega⟩,ZU,ZI⟩
  .skip
   rw[A1 ((i:Int)=0)];refine af ?_;exact⟨by simp[i0],ZU,ZI⟩
 refine jB ?_;refine VC.join (α:=Unit) (λ_=>[(1,vi i),(2,kE q),(5,.string S),(6,.bool (decide (i=0)&&(decide (k=4)||decide (k=5))))]) (λ_=>[A,kA q 0 (rA k s O Q T U W X Y Z e9 xl xm xn xp a x.ak.length N x.at_)]) (λ_=>S.size<=140737488355328) ?_ ?_
 .refine af ?_;by_cases k5:k=5
  .obtain⟨z,K,hz6,D,g⟩:=j k5;have hl:=(Vt.1 K).1;obtain rfl:=ha Zo;have H:=hr 1 z K;have E:=hm 1 hl;generalize us 1=uj at H E;obtain⟨f1,f2,f3,f4,f5,f6,f7,f8,f9,f10,f11,f12,f13,f14,f15,f16,f17,rfl,l6,hyk⟩:=eH H;have ez:kC.cell bk (o+1*11+1) (.string z.name)∈A:=E _ (kI.2 ⟨1,_,rfl,rfl⟩);rw[Nat.one_mul]at ez;subst k5;refine af ?_;rw[g];refine⟨(),l6,?_,ZI⟩;rw[show decide ((i:Int)=0)=(decide (i=0)&&(decide ((5:Nat)=4)||decide ((5:Nat)=5))) by simp];exact Du
  .skip
   rw[A1 ((k:Int)=5)];refine af ?_;rw[F k5]at*;refine⟨(),eU,?_,ZI⟩;rw[Zf k5,vU];exact Du
 rintro⟨⟩ G
 have d:=λh=>A9 S G h
 refine af ?_;refine VO.bool 38 ((decide (k=4)&&decide (0<i))||decide (k=6)) Zr ?_ ?_
 .by_cases k4:k=4
  .skip
   rw[A0 ((k:Int)=4)];refine af ?_;by_cases i0:0<i
   .skip
    rw[A0 ((i:Int) > 0)];refine af ?_;exact⟨by simp[k4,i0],ZU,ZI⟩
   rw[A1 ((i:Int) > 0)];refine af ?_;rw[A1 ((k:Int)=6)];refine af ?_;exact⟨by simp[k4,i0],ZU,ZI⟩
  rw[A1 ((k:Int)=4)];refine af ?_;exact⟨by simp only[X9,Value.bool.injEq,k4,decide_false,vM,vO];exact decide_eq_decide.2 ⟨λh=>by omega,λh=>by omega⟩,ZU,ZI⟩
 have B:k=4∨k=5∨k=6->0<=kW S:=λh=>by
  by_cases k5:k=5
  .obtain⟨z,_,_,D,g⟩:=j k5;rw[g];exact D
  .rw[F k5];exact eS Zo
 have hd:gV k S i=if(decide (i=0)&&(decide (k=4)||decide (k=5)))=true then(if yh S=5 then 5 else 4)else if((decide (k=4)&&decide (0<i))||decide (k=6))=true then(if yh S=4 then 5 else 4)else 1:=by
  unfold gV;simp
 have C:(decide (i=0)&&(decide (k=4)||decide (k=5)))=true->0<=kW S:=λh=>by
  simp only[vG,vS,decide_eq_true_eq]at h;exact B Zo
 have I:((decide (k=4)&&decide (0<i))||decide (k=6))=true->0<=kW S:=λh=>by
  simp only[vG,vS,decide_eq_true_eq]at h;exact B Zo
 rw[hd];generalize (decide (i=0)&&(decide (k=4)||decide (k=5)))=L at C|-;generalize ((decide (k=4)&&decide (0<i))||decide (k=6))=M at I|-;cases L with
 |true=>
  have d:=d (C rfl);generalize yh S=m at d|-;refine af ?_;refine kL d Zr ?_;by_cases h5:m=5
  .subst h5;exact Zx
  .refine af ?_;rw[A1 ((m:Int)=5)];refine af ?_;exact kG (dl:=[A]) (.inr rfl) zT1 ⟨by simp[bU,h5],rfl⟩ ZI
 |false=>
  cases M with
  |true=>
   have d:=d (I rfl);generalize yh S=m at d|-;refine af ?_;refine kL d Zr ?_;by_cases h5:m=4
   .subst h5;exact Zx
   .refine af ?_;rw[A1 ((m:Int)=4)];refine af ?_;exact kG (dl:=[A]) (.inr rfl) zT1 ⟨by simp[bU,h5],rfl⟩ ZI
  |false=>
   exact Zx
def Bf(A:List kC)(x:Nd)(vs:List Value)(h:jD A x vs)(Z:jc x=true)(i:Nat)(y:Nd)(J:x.ak[i]? =some y):aq Tryz.prog 153 [.agg vs.toArray,vi i] [A] (λv dl=>v=.bool (x6 x.kind (rZ x.kind x.name x.ak) i y)/\dl=[A]):=by
 obtain⟨e1,e2,e3,e4,e5,e6,e7,e8,e9,xl,xm,xn,xp,a,cc,bk,o,us,lZ,bN,ha,hm,hr⟩:=Xe h;have hl:=(Vt.1 J).1;obtain rfl:=ha Zo;have L:=hr i y J;have M:=hm i hl;obtain⟨K,_⟩:=uh Z i y J;have eS:=λe=>@qT y K (.inl e)
 generalize us i=uj at L M;obtain⟨N,O,Q,S,T,U,W,X,Y,d,g,j,m,s,B,C,D,rfl,l6,hyk⟩:=eH L;have H:=Jr y.kind y.name l6 eS (cv N) (vi O) (uv Q) (.string S) (.slice T U W) (.slice X Y d) (.slice g j m) (.slice s B C) (vi D);have xD:fC y.kind y.name=wQ y:=rfl;rw[xD]at H;have G:=O3 A x vs h Z i;unfold x6;rw[lZ]at G|-;generalize gV x.kind (rZ x.kind x.name x.ak) i=I at G|-;generalize wQ y=lv at H|-;refine aq.intro low153 Zn9 ?_;refine jB ?_;refine kZ Zr (λq=>?_);simp only[Value.cells];refine jB ?_;refine kR Zr (λz hz=>QI _ (Zw _ (M z hz))) rfl ?_;refine jB ?_;refine kJ (λq6=>?_);refine jB ?_;refine VC.join (α:=Unit) (λ_=>[(1,vi i),(2,kE q),(5,kE q6)]) (λ_=>[A,kA q 0 (rA x.kind x.name e1 e2 e3 e4 e5 e6 e7 e8 e9 xl xm xn xp (some ⟨bk,o,none⟩) x.ak.length cc x.at_),kA q6 0 (rA y.kind y.name N O Q S T U W X Y d g j m s B C D)]) (λ_=>y.kind≠6/\y.kind≠9) ?_ ?_
 .refine af ?_;by_cases E:y.kind=6
  .skip
   rw[A0 ((y.kind:Int)=6)];refine af ?_;exact kG (dl:=[A]) (.inr rfl) zT1 ⟨by simp[bU,E],rfl⟩ ZI
  rw[A1 ((y.kind:Int)=6)];refine af ?_;by_cases F:y.kind=9
  .skip
   rw[A0 ((y.kind:Int)=9)];refine af ?_;exact kG (dl:=[A]) (.inr rfl) zT1 ⟨by simp[bU,F],rfl⟩ ZI
  rw[A1 ((y.kind:Int)=9)];refine af ?_;exact⟨(),⟨E,F⟩,ZU,ZI⟩
 rintro⟨⟩ ⟨E,F⟩
 refine af ?_;refine VC.Fs (α:=Unit) (λ_=>[(4,.bool (decide (lv<I)))]) (λ_=>[A]) (λ_=>True) ⟨?_,?_,trivial⟩ ?_;rotate_left 2
 .rintro⟨⟩ _
  refine af ?_;exact kG (dl:=[A]) (.inr rfl) zT1 ⟨by simp[bU,E,F],rfl⟩ ZI
 all_goals
  refine af ?_;refine kL H Zr ?_;refine af ?_;refine kH G Zr ZP (λv dl hv=>?_);obtain⟨rfl,rfl⟩:=hv;simp only[aE];refine af ?_;refine⟨(),trivial,?_,ZI⟩;rw[show decide ((lv:Int)<(I:Int))=decide (lv<I)from decide_eq_decide.2 ⟨λh=>by omega,λh=>by omega⟩];exact Du
def Bo {x}(h:jc x=true):jy x<=2*x.w:=by
 have d:=E5 _ x (Qs _);rw[h]at d;exact JJ _ x (Qs _) (jy x) (jq x) d
def OW(A):∀(N:Nat) (x:Nd),x.w<=N->x.w<=274877906944->jc x=true->∀vs,jD A x vs->aq pg9 89 [.agg vs.toArray] [A] (λv dl=>v=vi (jy x)/\dl=[A]):=by
 intro N
 induction N with
 |zero=>intro x X;have:=x.nC;omega
 |succ N ih=>
  intro x X hb H vs h;have B:=Bo H;have g:=λi y hy=>Bf A x vs h H i y hy
  have O:=uh H;cases h with
  |@mk k s lit a5 ae ak p lv av tv a c bk o us wf hl bI bL ha hm hr lW=>
  simp only[Nd.kind,Nd.name,Nd.ak]at g O;simp only[jy]at B|-;simp only[Nd.w]at X hb B;have bN:=wf.many;have nt:=wf.kind;have U:=DT A _ lit (Qs _) Zo lv hl;cases hl with
  |@mk lk ln lb lt ci la lc RI lo MD Te Tb Tc Td=>
  obtain⟨K,L,rfl,oU,eS⟩:=bI;obtain⟨Z,tc,rfl,sr,N8⟩:=bL;generalize hS:rZ k s ak=S at g B|-;generalize za (.mk lk ln lb lt ci)=Y at U B|-;generalize hT:max Y (wC k S 0 ak)=T at B|-;have W:(if k=7∨k=8 then 1 else 0)<=1:=by split<;>omega
  simp only[aE]at g|-;refine aq.intro low89 Zn9 ?_;refine jB ?_;refine kZ Zr (λq=>?_);simp only[Value.cells];refine jB ?_;refine kH U Zr ZP (λv dl D=>?_);obtain⟨rfl,rfl⟩:=D;simp only[aE];refine jB ?_;refine VC.join (α:=Unit) (λ_=>[(1,kE q),(3,vi T)]) (λ_=>[A,kA q 0 (rA k s lk ln lb lt la ci.length lc K a5.length L Z ae.length tc a ak.length c p)]) (λ_=>True) ?_ ?_
  .refine af ?_;refine VC.loop (α:=Nat×Nat) (bg:=λz=>[(1,kE q),(3,vi z.2),(4,vi z.1)]) (Hf:=λ_=>[A,kA q 0 (rA k s lk ln lb lt la ci.length lc K a5.length L Z ae.length tc a ak.length c p)])
    (I:=λz=>z.1<=ak.length/\max z.2 (wC k S z.1 (ak.drop z.1))=T) (μ:=λz=>ak.length-z.1) (0,Y) ⟨X0 _,hT⟩ ZU ZI ?_
   rintro⟨j,M⟩ ⟨i1,m⟩
   simp only at i1 m;dsimp only;refine af ?_;by_cases hj:j<ak.length;rotate_left
   .rw[vw Zo]at m;simp only[wC,Nat.max_zero]at m;subst m;rw[A1 ((j:Int) < (ak.length:Int))];exact Ds
   rw[A0 ((j:Int) < (ak.length:Int))];obtain rfl:=ha Zo;obtain⟨y,hy⟩:∃y,ak[j]? =some y:=⟨_,Zg hj⟩;have G:=hr j y hy;have cA:=hm j hj;have Q:=G.len;have hzw:y.w<=Nd.ws ak:=Nd.cQ (Zv hy);have E:=(O j y hy).1;have F:=ih y Zo Zo E _ G;have C:=g j y hy;have J:=Bo E;have Ja:ak.drop j=y::ak.drop (j+1):=zE4
   rw[Ja]at m;simp only[wC]at m;generalize us j=uj at G cA F Q;generalize jy y=d at F J m;generalize x6 k S j y=br at C m;refine af ?_;refine kR Zr Gb Q ?_;refine af ?_;refine kH F Zr ZP (λv dl D=>?_);obtain⟨rfl,rfl⟩:=D;simp only[aE];refine af ?_;refine kH C Zr ZP (λv dl D=>?_);obtain⟨rfl,rfl⟩:=D;simp only[aE];cases br with
   |true=>
    simp only[if_true]at m;refine af ?_;by_cases hd:M<d+1
    .skip
     rw[A0 ((d:Int)+1 > (M:Int))];refine af ?_;exact⟨(j+1,d+1),⟨by simp only;omega,by simp only;omega⟩,by simp only;omega,ZU,ZI⟩
    .skip
     rw[A1 ((d:Int)+1 > (M:Int))];exact zF6
   |false=>
    simp only[vN,if_false]at m;refine af ?_;by_cases hd:M<d
    .skip
     rw[A0 ((d:Int) > (M:Int))];refine af ?_;exact⟨(j+1,d),⟨by simp only;omega,by simp only;omega⟩,by simp only;omega,ZU,ZI⟩
    .skip
     rw[A1 ((d:Int) > (M:Int))];exact zF6
  rintro⟨⟩ _
  refine af ?_;by_cases k7:k=7
  .skip
   rw[A0 ((k:Int)=7)];refine af ?_;exact kG (dl:=[A]) (.inr rfl) zT1 ⟨by simp[bU,k7],rfl⟩ ZI
  rw[A1 ((k:Int)=7)];refine af ?_;by_cases k8:k=8
  .skip
   rw[A0 ((k:Int)=8)];refine af ?_;exact kG (dl:=[A]) (.inr rfl) zT1 ⟨by simp[bU,k8],rfl⟩ ZI
  rw[A1 ((k:Int)=8)];refine af ?_;exact kG (dl:=[A]) (.inr rfl) zT1 ⟨by simp[bU,k7,k8],rfl⟩ ZI
def Ab(k s)(nt:k < 256)(g c3 j m A B C c9 D):aq pg9 150 [.agg #[cv k,.string s,g,c3,j,m,A,B,C,c9,D]] [] (λv dl=>v=.bool (!zY k s&&decide (k≠9/\k≠6))/\dl=[]):=by
 refine aq.intro low150 Zn9 ?_;have d:=xX k s g c3 j m A B C c9 D;generalize zY k s=su at d|-;refine af ?_;refine kZ Zr (λq=>?_);simp only[Value.cells];refine af ?_;by_cases k6:k=6
 .skip
  rw[A0 ((k:Int)=6)];refine af ?_;exact kG (dl:=[]) (.inr rfl) zT1 ⟨by simp[bU,k6],rfl⟩ ZI
 rw[A1 ((k:Int)=6)];refine af ?_;by_cases k9:k=9
 .skip
  rw[A0 ((k:Int)=9)];refine af ?_;exact kG (dl:=[]) (.inr rfl) zT1 ⟨by simp[bU,k9],rfl⟩ ZI
 rw[A1 ((k:Int)=9)];refine af ?_;refine kL d Zr ?_;refine af ?_;exact kG (dl:=[]) (.inr rfl) zT1 ⟨by simp[bU,k6,k9],rfl⟩ ZI
noncomputable section
def F87:aP:=aZ (o:=gF pq Tryz.f87 [])
def low87:Zo9 87 [] F87:=Zx9
def F34:aP:=aZ (o:=gF pq Tryz.f34 [])
def low34:Zo9 34 [] F34:=Zx9
end
def kidB7(m i y):iN 7 m i y=((decide (y.kind=9)&&decide (i+1=m))||yZ y):=by
 unfold iN yZ;by_cases a:y.kind=9
 .have:kg y=false:=by rw[vK];intro h;have:=gI h;omega
  by_cases b:i+1=m<;>simp[a,b,this]
 .by_cases b:y.kind=6<;>cases kg y<;>simp[a,b]
def O7(A)(L:nM A)(l)(hw:Nd.ws l<=274877906944)(a c bk o us)(N:qj A l a bk o us):aq pg9 87 [.slice a l.length c] [A] (λv dl=>v=.bool (j8 7 l.length 0 l)/\dl=[A]):=by
 obtain⟨M,bN,Q,S⟩:=N;refine aq.intro low87 Zn9 ?_;refine af ?_;refine VC.loop (α:=Nat) (bg:=λj=>[(0,.slice a l.length c),(3,vi j)]) (Hf:=λ_=>[A]) (I:=λj=>j<=l.length/\j8 7 l.length 0 l=j8 7 l.length j (l.drop j)) (μ:=λj=>l.length-j) 0 ⟨X0 _,rfl⟩ ZU ZI ?_
 rintro j ⟨i1,i2⟩
 refine af ?_;by_cases hj:j<l.length;rotate_left
 .rw[vw Zo]at i2;rw[A1 ((j:Int) < (l.length:Int))];exact zCP
 rw[A0 ((j:Int) < (l.length:Int))];obtain rfl:=M Zo;obtain⟨y,hy⟩:∃y,l[j]? =some y:=⟨_,Zg hj⟩;have m:=S j y hy;have cA:=Q j hj;have s:=m.len;have U:y.w<=Nd.ws l:=Nd.cQ (Zv hy);have q:=Ih A L _ y (Qs _) Zo _ m;have D:l.drop j=y::l.drop (j+1):=zE4
 rw[D]at i2;simp only[j8,kidB7]at i2;generalize us j=uj at m cA q s;obtain⟨E,c3,F,G,H,J,K,c9,X,rfl,eU,W⟩:=sN m;have d:=Ab y.kind y.name W E c3 F G H J K c9 X;have C:(!zY y.kind y.name&&decide (y.kind≠9/\y.kind≠6))=yZ y:=rfl;rw[C]at d;have O:kC.cell bk (o+j*11) (cv y.kind)∈A:=cA _ (kI.2 ⟨0,_,rfl,rfl⟩);generalize yZ y=kp at d i2;generalize jc y=f at q i2;have B:(f&&((decide (y.kind=9)&&decide (j+1=l.length))||kp))=true->(j+1<=l.length/\j8 7 l.length 0 l=j8 7 l.length (j+1) (l.drop (j+1))):=λh=>⟨Zo,by rw[i2,h,vV]⟩
 have g:(f&&((decide (y.kind=9)&&decide (j+1=l.length))||kp))=false->j8 7 l.length 0 l=false:=λh=>by rw[i2,h];rfl
 clear i2;refine af ?_;refine kR Zr Gb s ?_;refine af ?_;refine kH q Zr ZP (λv dl T=>?_);obtain⟨rfl,rfl⟩:=T;simp only[aE];refine af ?_;refine VO.bool 29 (decide (y.kind=9)&&decide (j+1=l.length)) Zr ?_ ?_
 .by_cases k9:y.kind=9
  .skip
   rw[A0 ((y.kind:Int)=9)];refine af ?_;refine⟨?_,ZU,ZI⟩;rw[show decide ((j:Int)=(l.length:Int)-1)=decide (j+1=l.length)from decide_eq_decide.2 ⟨λh=>by omega,λh=>by omega⟩];simp[k9]
  .exact zFQ
 generalize (decide (y.kind=9)&&decide (j+1=l.length))=ret at B g|-;cases f with
 |false=>
  refine af ?_;exact kG (dl:=[A]) (.inr rfl) zT1 ⟨by rw[g rfl];rfl,rfl⟩ ZI
 |true=>
  cases ret with
  |true=>
   refine af ?_;exact⟨j+1,B Zs,Zo,ZU,ZI⟩
  |false=>
   refine af ?_;refine kR Zr Gb s ?_;refine af ?_;refine kL d Zr ?_;cases kp with
   |true=>
    refine af ?_;exact⟨j+1,B Zs,Zo,ZU,ZI⟩
   |false=>
    refine af ?_;exact kG (dl:=[A]) (.inr rfl) zT1 ⟨by rw[g Zs];rfl,rfl⟩ ZI
def LF(x):wS x=if(decide (kW x.aX=x.a5.length/\0<=x.aH/\x.aH<=255)&&(x.a5.all jW&&(x.ae.all jW&&j8 7 x.body.length 0 x.body)))=false then 150 else if(decide (15<x.a5.length)||(decide (63<x.ae.length)||x.body.any jq))=true then 151 else if(x.body.any λy=>decide (40<jy y))=true then 152 else 0:=by
 unfold wS dX zE;rw[Sv,fE,ju,fE,ju,ju,<- mx_any];generalize (decide (kW x.aX=x.a5.length/\0<=x.aH/\x.aH<=255)&&(x.a5.all jW&&(x.ae.all jW&&j8 7 x.body.length 0 x.body)))=b1;generalize (decide (15<x.a5.length)||(decide (63<x.ae.length)||x.body.any jq))=d;cases b1 with
 |false=>rfl
 |true=>
  simp only[cR,if_true,Ux];cases d<;>simp
def I0 {k m}:∀{l:List Nd} {i:Nat},j8 k m i l=true->∀y∈l,jc y=true:=λ{l i} h y d=>LY h y d
def Ig(A)(hE:nM A)(x)(hw:Nd.ws x.body<=274877906944)(vs)(h:Nr A x vs):aq pg9 34 [.agg vs.toArray] [A] (λv dl=>v=vi (wS x)/\dl=[A]):=by
 rw[LF];obtain⟨⟨aa,ac,ta,tc,a,c,bk,o,us,rfl,bI,bL,hk⟩,bR,pW⟩:=h;have eS:=gU x.aX bR;have oU:=tP x.aX bR;have Z:=ml A _ x.a5 bI;have Y:=ml A _ x.ae bL;have X:=O7 A hE x.body hw a c bk o us hk;have J:=@I0 7 x.body.length x.body 0;have hla:x.a5.length<=1099511627776:=by obtain⟨_,_,_,h,_⟩:=bI;exact h
 have aI:x.ae.length<=1099511627776:=by obtain⟨_,_,_,h,_⟩:=bL;exact h
 obtain⟨ha,bN,hm,hr⟩:=hk;obtain⟨d,U⟩:∃p,x.aH=p:=⟨_,rfl⟩;rw[U]at pW|-;generalize kW x.aX=g at eS oU|-;generalize x.a5.all jW=L at Z|-;generalize x.ae.all jW=S at Y|-;generalize j8 7 x.body.length 0 x.body=F at X J|-;refine aq.intro low34 Zn9 ?_;refine jB ?_;refine kZ Zr (λq=>?_);simp only[Value.cells];refine jB ?_;refine kL eS Zr ?_;refine jB ?_;refine kH Z Zr ZP (λv dl m=>?_);obtain⟨rfl,rfl⟩:=m;simp only[aE];refine VO.bool 19 (L&&S) Zr ?_ ?_
 .cases L with
  |false=>
   refine af ?_;exact⟨Zs,ZU,ZI⟩
  |true=>
   refine af ?_;refine kH Y Zr ZP (λv dl m=>?_);obtain⟨rfl,rfl⟩:=m;simp only[aE];refine af ?_;exact⟨Zs,ZU,ZI⟩
 refine jB ?_;refine kH X Zr ZP (λv dl m=>?_);obtain⟨rfl,rfl⟩:=m;simp only[aE];refine jB ?_;generalize E:(L&&S)=nm;have B:(decide (g=x.a5.length/\0<=d/\d<=255)&&(L&&(S&&F)))=(decide (g=x.a5.length/\0<=d/\d<=255)&&(nm&&F)):=by rw[<- E,Bool.and_assoc]
 rw[B];refine VC.join (α:=Unit) (λ_=>[(1,kE q)]) (λ_=>[A,kA q 0 [.string x.aX,.slice aa x.a5.length ac,.slice ta x.ae.length tc,vi d,.slice a x.body.length c]]) (λ_=>(decide (g=x.a5.length/\0<=d/\d<=255)&&(nm&&F))=true) ?_ ?_
 .refine af ?_;have stop:∀b:Bool,b=false->(if b=false then 150 else if(decide (15<x.a5.length)||(decide (63<x.ae.length)||x.body.any jq))=true then 151 else if(x.body.any λy=>decide (40<jy y))=true then 152 else 0)=150:=λb h=>if_pos h
  by_cases h1:g<0
  .skip
   rw[A0 (g < 0)];exact zC2
  rw[A1 (g < 0)];refine af ?_;by_cases h2:g=x.a5.length;rotate_left
  .skip
   rw[A1 (g=(x.a5.length:Int))];exact zC2
  rw[A0 (g=(x.a5.length:Int))];refine af ?_;cases nm with
  |false=>
   exact zFP
  |true=>
   refine af ?_;by_cases h3:d<0
   .skip
    rw[A0 (d < 0)];exact zC2
   rw[A1 (d < 0)];refine af ?_;by_cases h4:d>255
   .skip
    rw[A0 (d > 255)];exact zC2
   rw[A1 (d > 255)];refine af ?_;cases F with
   |false=>
    exact zFP
   |true=>
    refine af ?_;exact⟨(),by rw[Zt Zo];rfl,ZU,ZI⟩
 rintro⟨⟩ N
 rw[N];have T:F=true:=by
  simp only[vG]at N;exact N.2.2
 have J:=J T;rw[if_neg Zs];refine af ?_;refine VO.bool 59 (decide (15<x.a5.length)||decide (63<x.ae.length)) Zr ?_ ?_
 .by_cases h1:15<x.a5.length
  .skip
   rw[A0 ((x.a5.length:Int) > 15)];refine af ?_;exact⟨by simp[h1],ZU,ZI⟩
  .skip
   rw[A1 ((x.a5.length:Int) > 15)];refine af ?_;refine⟨?_,ZU,ZI⟩;rw[show decide ((x.ae.length:Int)>63)=decide (63<x.ae.length)from decide_eq_decide.2 ⟨λh=>by omega,λh=>by omega⟩];simp[h1]
 rw[<- vR];generalize (decide (15<x.a5.length)||decide (63<x.ae.length))=D;refine jB ?_;refine VC.join (α:=Unit) (λ_=>[(6,.bool (D||x.body.any jq)),(7,.bool (x.body.any λy=>decide (40<jy y)))]) (λ_=>[A]) (λ_=>True) ?_ ?_
 .refine af ?_;refine VC.loop (α:=Nat) (bg:=λj=>[(1,kE q),(6,.bool (D||(x.body.take j).any jq)),(7,.bool ((x.body.take j).any λy=>decide (40<jy y))),(8,vi j)]) (Hf:=λ_=>[A,kA q 0 [.string x.aX,.slice aa x.a5.length ac,.slice ta x.ae.length tc,vi d,.slice a x.body.length c]]) (I:=λj=>j<=x.body.length) (μ:=λj=>x.body.length-j) 0 (X0 _) (by simp only[Qm,List.any_nil,vU];exact Du) ZI ?_
  rintro j i1
  by_cases hj:j<x.body.length;rotate_left
  .rw[Ql Zo];generalize (x.body.any λy=>decide (40<jy y))=d1;generalize (D||x.body.any jq)=m1;refine af ?_;rw[A1 ((j:Int) < (x.body.length:Int))];exact Ds
  obtain rfl:=ha Zo;obtain⟨y,G⟩:∃y,x.body[j]? =some y:=⟨_,Zg hj⟩;have K:=hr j y G;have cA:=hm j hj;have O:=K.len;have hzw:y.w<=Nd.ws x.body:=Nd.cQ (Zv G);have s:=OZ A _ y (Qs _) _ K;have H:=J y (Zv G);have M:=OW A _ y (Qs _) Zo H _ K;have L6:=Bo H;have W:(x.body.take (j+1)).any jq=((x.body.take j).any jq||jq y):=by rw[Qi,G];simp
  have C:((x.body.take (j+1)).any λy=>decide (40<jy y))=((x.body.take j).any (λy=>decide (40<jy y))||decide (40<jy y)):=by rw[Qi,G];simp
  generalize us j=uj at K cA s M O;have E:(D||(x.body.take (j+1)).any jq)=((D||(x.body.take j).any jq)||jq y):=by rw[W,vR]
  generalize (D||(x.body.take j).any jq)=mj at E|-;generalize ((x.body.take j).any λy=>decide (40<jy y))=dj at C|-;generalize jq y=my at s E;generalize jy y=Q at M L6 C;refine af ?_;rw[A0 ((j:Int) < (x.body.length:Int))];refine af ?_;refine VO.bool 75 (mj||my) Zr ?_ ?_
  .cases mj with
   |true=>
    refine af ?_;exact⟨Zs,ZU,ZI⟩
   |false=>
    refine af ?_;refine kR Zr Gb O ?_;refine af ?_;refine kH s Zr ZP (λv dl m=>?_);obtain⟨rfl,rfl⟩:=m;simp only[aE];refine af ?_;exact⟨Zs,ZU,ZI⟩
  refine af ?_;refine VO.bool 85 (dj||decide (40<Q)) Zr ?_ ?_
  .cases dj with
   |true=>
    refine af ?_;exact⟨Zs,ZU,ZI⟩
   |false=>
    refine af ?_;refine kR Zr Gb O ?_;refine af ?_;refine kH M Zr ZP (λv dl m=>?_);obtain⟨rfl,rfl⟩:=m;simp only[aE];refine af ?_;refine⟨?_,ZU,ZI⟩;rw[show decide ((Q:Int)>40)=decide (40<Q)from decide_eq_decide.2 ⟨λh=>by omega,λh=>by omega⟩];simp
  refine af ?_;refine⟨j+1,Zo,Zo,?_,ZI⟩;rw[E,C];exact Du
 rintro⟨⟩ _
 generalize (x.body.any λy=>decide (40<jy y))=d1;generalize (D||x.body.any jq)=m1;cases m1 with
 |true=>
  exact Zx
 |false=>
  cases d1 with
  |true=>
   exact Zx
  |false=>
   exact Zx
def blk_rd {A:List kC}{x:Md}{g:Option Addr}{j:Nat}{m:Option Addr}{q:Nat}{a:Option Addr}{c bk o:Nat}{us:Nat->List Value}(s:dU A (.slice g x.a5.length j) x.a5)(B:dU A (.slice m x.ae.length q) x.ae)(d:qj A x.body a bk o us)(C:x.body.length<=c):
 jD A (.mk 7 e0 Go.V.fD x.a5 x.ae x.body 0) [.int .u8 7,.string ⟨#[]⟩,.int .u8 0,.int .i64 0,.int .u64 0,.string ⟨#[]⟩,Nz,.slice g x.a5.length j,.slice m x.ae.length q,.slice a x.body.length c,.int .i64 0]:=
 .mk (lv:=[cv 0,vi 0,uv 0,.string e0,Nz]) ⟨Zd,Zd,d.many,Zd,Zd⟩ (fD A) s B d.at_ d.mem d.rd C
def ResD(A:List kC)(aX:ByteArray)(aH:Int)(an:List zM×Nat×Int)(v:Value)(B:List kC):Prop:=∃Ei,v=.tuple #[.agg #[.string (if an.2.1=0 then aX else e0),.int .i64 (if an.2.1=0 then aH else 0),Ei],.agg #[.int .i64 (an.2.1:Int),.int .i64 an.2.2]]/\O0 (A++B) Ei an.1
def DB(A)(hE:nM A)(x vs)(h:Nr A x vs)(lW:∀a c,vs[4]? =some (.slice a x.body.length c)->x.body.length<=c)(F G fv gv)(hF:dU A fv F)(hG:dU A gv G)(hcnt:nE x.a5 x.ae x.body<=1048576)(hw:Nd.ws x.body<=274877906944):
 aq pg9 14 [.agg vs.toArray,fv,gv] [A] (λv dl=>∃B,ResD A x.aX x.aH (tM F G x) v B/\dl=[A++B]):=by
 have hchk:=Ig A hE x hw vs h;obtain⟨⟨aa,ac,ta,tc,a,c,bk,o,us,rfl,bI,bL,hk⟩,bR,pW⟩:=h;have hblk:=blk_rd bI bL hk (lW a c rfl);have hF':=hF;have hG':=hG;obtain⟨fa,fc,rfl,_,_⟩:=hF';obtain⟨ga,gc,rfl,_,_⟩:=hG';refine aq.intro low14 Zn9 ?_;refine af ?_;refine kZ Zr (λq3=>?_);simp only[Value.cells];refine kJ (λL=>?_);refine kJ (λN=>?_);refine af ?_;refine kH hchk Zr ZP (λv dl K=>?_);obtain⟨rfl,rfl⟩:=K;simp only[aE];by_cases hc:wS x=0;rotate_left
 .have DH:tM F G x=([],wS x,0):=by unfold tM;rw[if_neg hc]
  rw[DH];refine af ?_;rw[A1 ((wS x:Int)=0)];refine af ?_;refine⟨.inr rfl,_,[A++[]],.az (us:=[.string ⟨#[]⟩,vi 0,Nz]) Zr Zr zSb (.az (us:=[vi (wS x:Int),vi 0]) Zr Zr zSb .nil),ap.cut (M:=[A]) ZI (ap.perm Zs),[],⟨Nz,?_,wn.nil _⟩,rfl⟩;rw[if_neg hc,if_neg hc];rfl
 have DH:tM F G x=(lM F G x.a5 x.ae x.body).answer:=by unfold tM;rw[if_pos hc]
 have hkD:=uY hc;have iL:=E7 hc hw;rw[DH];refine af ?_;rw[A0 ((wS x:Int)=0)];refine af ?_;refine kZ Zr (λD=>?_);simp only[Value.cells];refine af ?_;obtain⟨X,hX⟩:∃X:DX,X=⟨D,.slice fa F.length fc,.slice ga G.length gc,F,G⟩:=⟨_,rfl⟩;obtain⟨w0,Ws⟩:∃w0:DW,w0=⟨Nz,[],Nz,[],Nz,[],Nz,[],Nz,[],[]⟩:=⟨_,rfl⟩;have Ta:gN X iU w0 A:=by
  rw[hX,Ws];exact⟨.nil,.nil,.nil,.nil,.nil,λi l hl=>by simp[iU]at hl,λe p he=>by simp[iU]at he,hF,hG,rfl,rfl⟩
 have Ma:∀y∈x.body,∀ws,jD A y ws->nL X A y ws:=λy hy=>XD X A y.size y (Qs _) (yu iL hy)
 have hcM:cV (.mk 7 e0 Go.V.fD x.a5 x.ae x.body 0)=nE x.a5 x.ae x.body:=rfl;have C:=xi X A (.mk 7 e0 Go.V.fD x.a5 x.ae x.body 0) _ hblk Ma iU w0 A (λa h=>h) Ta [] Nz (zI.nil A) (λv h=>by cases h) (-1) (by
  rw[hcM];have e1:iU.vars.length=0:=rfl;have e2:iU.dg.length=0:=rfl;have e3:iU.a7.length=0:=rfl;exact⟨Zo,Zo,Zo⟩) (by rw[hcM,Q7];omega)
 have Wd:iD X.F X.G x.a5 x.ae x.body 0 iU [] (-1)=lM F G x.a5 x.ae x.body:=by rw[hX];rfl
 have d:=Ot F G x.a5 x.ae x.body;have hPp:=root_pp F G x.a5 x.ae x.body hkD;simp only[Nd.a5,Nd.ae,Nd.ak,Nd.at_]at C;rw[Wd]at C;generalize nu:lM F G x.a5 x.ae x.body=st at C d hPp|-;have g:X.q=D:=by rw[hX]
 rw[g]at C;refine VO.imp (H':=[DM X w0 iU,A,kA N 0 [vi 0,vi 0],kA L 0 [.string ⟨#[]⟩,vi 0,Nz],kA q3 0 [.string x.aX,.slice aa x.a5.length ac,.slice ta x.ae.length tc,vi x.aH,.slice a x.body.length c]]) (ap.cut (M:=[kA D 0 [.slice fa F.length fc,.slice ga G.length gc,Nz,Nz,Nz,Nz,Nz,vi 0,vi 0,Nz,Nz,Nz],A,kA N 0 [vi 0,vi 0],kA L 0 [.string ⟨#[]⟩,vi 0,Nz],kA q3 0 [.string x.aX,.slice aa x.a5.length ac,.slice ta x.ae.length tc,vi x.aH,.slice a x.body.length c]]) ZI (ap.perm (by rw[hX,Ws];simp[DM,et,aj,iU,zw,yC]))) ?_;refine kH C Zr ZP (λv dl K=>?_);obtain⟨w1,B1,⟨rfl,mw⟩,rfl⟩:=K;simp only[aE];obtain⟨hv1,hu1,DL⟩:=d.less;have E:OV st:=by
  have ha:∀j,st.a5.getD j 0<=nE x.a5 x.ae x.body:=λj=>by
   rw[Vh];cases hj:st.a5[j]? with
   |none=>exact X0 _
   |some a=>exact d.bw.ar a (Zv hj)
  refine⟨Zo,Zo,λj=>by have:=ha j;omega,λu=>?_⟩;have h1:=Bi (st:=st) (u:=u) ha;have h2:=qH st u;have h3:(st.around u).length*(nE x.a5 x.ae x.body+1)<=1048576*1048577:=Nat.mul_le_mul Zo Zo;omega
 have hbw:∀l∈st.a8,PN.ws l<536870912:=λl hl=>by have:=d.bw.bd l hl;omega
 have m7:kC.cell D 7 (vi (zw st.f))∈DM X w1 st:=by rw[<- g];exact oT rfl
 have m8:kC.cell D 8 (vi (yC st.f))∈DM X w1 st:=by rw[<- g];exact oT rfl
 obtain⟨oa,oc,hof⟩:=mw.o.form;have m3:kC.cell D 3 (.slice oa st.a7.length oc)∈DM X w1 st:=by rw[<- g];exact oT (by rw[<- hof];rfl)
 cases hf:st.f with
 |some f=>
  obtain⟨e,p⟩:=f;have cz:=mw.ef e p hf;rw[hf]at m7 m8;simp only[zw,yC]at m7 m8;rw[Iv hf];refine af ?_;rw[A1 ((e:Int)=0)];refine af ?_;apply VC.seq;refine VC.draws ⟨?_,?_,trivial⟩
  .exact zB3
  .exact zB3
 |none=>
  rw[hf]at m7;simp only[zw]at m7;have J:st.answer=if 255<st.a7.length then([],183,0)else if((List.range st.a7.length).map st.aG).any zM.SU then([],183,0)else((List.range st.a7.length).map st.aG,0,0):=by
   unfold ai.answer;rw[hf]
  rw[J];refine af ?_;by_cases qV:255<st.a7.length
  .rw[if_pos qV];rw[A0 ((st.a7.length:Int) > 255)];refine af ?_;exact⟨.inr rfl,_,[A++B1],.az (us:=[.string ⟨#[]⟩,vi 0,Nz]) Zr Zr zSb (.az (us:=[vi 183,vi 0]) Zr Zr zSb .nil),ZI,B1,⟨Nz,rfl,wn.nil _⟩,rfl⟩
  rw[if_neg qV];rw[A1 ((st.a7.length:Int) > 255)];have hrk:=Ht X st w1 (A++B1) mw d.ph E.v E.o Zo E.a E.c;rw[g]at hrk;refine af ?_;refine kH hrk Zr ZP (λv dl K=>?_);obtain⟨B2,rfl,H,rfl⟩:=K;simp only[aE];obtain⟨ov,m3',H9⟩:=H.a7;obtain⟨oa',oc',rfl⟩:=yS H9;clear m3 m7 m8 hof;obtain⟨T,hT⟩:∃T,T=(A++B1)++B2:=⟨_,rfl⟩;rw[<- hT]at m3' H|-;refine af ?_;refine kJ (λZ=>?_);refine af ?_;refine VC.loop (α:=Nat×List kC×Value×List (List Value)×List Value) (bg:=λs=>[(6,kE L),(7,kE N),(9,kE D),(10,kE Z),(11,vi s.1)])
   (Hf:=λs=>[s.2.1,kA Z 0 [.string x.aX,vi x.aH,s.2.2.1],aj s.2.2.1 s.2.2.2.1.flatten s.2.2.2.2,kA N 0 [vi 0,vi 0],kA L 0 [.string ⟨#[]⟩,vi 0,Nz]])
   (I:=λs=>s.1<=st.a7.length/\(∃B,s.2.1=T++B)/\ke 6 s.2.2.1 s.1 s.2.2.2.1.flatten s.2.2.2.2/\fg 6 (SS s.2.1) ((List.range s.1).map st.aG) s.2.2.2.1/\∀i,i<s.1->(st.aG i).SU=false) (μ:=λs=>st.a7.length-s.1) (0,T,Nz,[],[]) ⟨X0 _,⟨[],(vm T).symm⟩,.nil,fg.nil,λi h=>absurd h (by simp only;omega)⟩ ZU
   (ap.cut (M:=[T,kA Z 0 [.string x.aX,vi x.aH,Nz],kA N 0 [vi 0,vi 0],kA L 0 [.string ⟨#[]⟩,vi 0,Nz]]) ZI (ap.perm A4)) ?_
  rintro⟨i,T1,uv,rows,sp⟩ ⟨hi,⟨B3,rfl⟩,aM,bA,cY⟩
  simp only at hi aM bA cY;dsimp only;obtain⟨O,Q,rfl⟩:=aM.form;have m3'':kC.cell D 3 (.slice oa' st.a7.length oc')∈T++B3:=Zw _ m3';have hWF1:=H.more (T':=T++B3) λa h=>Zw _ h
  refine af ?_;by_cases cm:i<st.a7.length;rotate_left
  .rw[A1 ((i:Int) < (st.a7.length:Int))];obtain rfl:i=st.a7.length:=by omega
   have hnb:((List.range st.a7.length).map st.aG).any zM.SU=false:=by
    rw[List.any_eq_false];intro y hy;obtain⟨k,hk,rfl⟩:=QO.1 hy;rw[cY k (QS.1 hk)];decide
   rw[if_neg (by rw[hnb];decide)];have re:=td (Rd:=SS (T++B3)) (B:=[]) (l:=(List.range st.a7.length).map st.aG) (sv:=.slice O st.a7.length Q) (sp:=sp) (by rw[Q6,Q8];exact aM) bA;refine af ?_;refine⟨.inr rfl,_,[A++(B1++(B2++(B3++aj (.slice O st.a7.length Q) rows.flatten sp)))],.az (us:=[.string x.aX,vi x.aH,.slice O st.a7.length Q]) Zr Zr zSb (.az (us:=[vi 0,vi 0]) Zr Zr zSb .nil),ap.cut (M:=[T++B3,aj (.slice O st.a7.length Q) rows.flatten sp]) ZI (ap.perm (by rw[hT];simp)),_,⟨.slice O st.a7.length Q,rfl,?_⟩,rfl⟩;refine re.imp (λy hy=>?_) λ_ _ k=>k.more λy hy=>?_
   .simp only[vm]at hy;simp only[QH,hy,or_true]
   .rw[hT]at hy;exact zF9
  rw[A0 ((i:Int) < (st.a7.length:Int))];have hun:=SA (T++B3) D st hWF1 E d.ph hPp hbw i cm;have ZF:(0<=(st.aG i).a5/\(st.aG i).a5<1073741824)/\(st.aG i).a9.length<2199023255552/\(0<=(st.aG i).bi/\(st.aG i).bi<1073741824)/\(0<=(st.aG i).aA/\(st.aG i).aA<1073741824):=by
   have h1:=E.a i;have h2:=E.c i;have h3:=oZ st i false;have h4:=oZ st i true;have h5:=E.v;unfold ai.aG;simp only[Q6];exact⟨⟨Zo,Zo⟩,Zo,⟨Zo,Zo⟩,Zo,Zo⟩
  obtain⟨un,hune⟩:∃un,un=st.aG i:=⟨_,rfl⟩;rw[<- hune]at hun ZF;refine af ?_;refine kH hun Zr ZP (λv dl K=>?_);obtain⟨B4,ws,rfl,hU,rfl⟩:=K;have hU':=hU;obtain⟨cv',bv',rfl,UQ,hbv⟩:=hU';have hcv':=UQ;obtain⟨W,Y,rfl,_⟩:=hcv';have hbv':=hbv;obtain⟨S,U,_,_,_,rfl,_⟩:=hbv';simp only[vq,QV,OP]at hU|-;obtain⟨⟨b1,b2⟩,b3,⟨b4,b5⟩,b6,b7⟩:=ZF;refine af ?_;refine kJ (λdN=>?_);refine jB ?_;refine VC.join (α:=Unit) (bg:=λ_=>[(6,kE L),(7,kE N),(9,kE D),(10,kE Z),(11,vi i),(12,kE dN),(13,vi un.frame)])
   (Hf:=λ_=>[kA dN 0 [vi un.a7,vi un.a5,.slice W un.a9.length Y,vi un.bi,vi un.aA,.slice S un.body.length U],(T++B3)++B4,kA Z 0 [.string x.aX,vi x.aH,.slice O i Q],aj (.slice O i Q) rows.flatten sp,kA N 0 [vi 0,vi 0],kA L 0 [.string ⟨#[]⟩,vi 0,Nz]]) (I:=λ_=>True) ?_ ?_
  .refine af ?_;by_cases N9:0<un.aA
   .rw[show decide (un.aA>0)=true from Zt N9];have ur:un.frame=un.a5+un.a9.length+un.bi+1:=by unfold zM.frame;rw[if_pos N9]
    rw[ur];exact Ds
   .rw[show decide (un.aA>0)=false from Zf N9];have ur:un.frame=un.a5+un.a9.length+un.bi:=by unfold zM.frame;rw[if_neg N9];omega
    rw[ur];exact Ds
  rintro⟨⟩ -
  have hbg:un.SU=(decide (63<un.frame)||decide (63<un.aA)):=rfl;refine af ?_;by_cases cM:63<un.frame
  .rw[show decide (un.frame>63)=true from Zt cM];exact zB1
  rw[show decide (un.frame>63)=false from Zf cM];refine af ?_;by_cases mo:63<un.aA
  .rw[show decide (un.aA>63)=true from Zt mo];exact zB1
  rw[show decide (un.aA>63)=false from Zf mo];refine af ?_;refine kV (out:=[vi un.a7,vi un.a5,.slice W un.a9.length Y,vi un.bi,vi un.aA,.slice S un.body.length U]) Zr Zr (λr=>?_);refine kX (k:=i) (m:=1) (xs:=rows.flatten) (sp:=sp) (ys:=[vi un.a7,vi un.a5,.slice W un.a9.length Y,vi un.bi,vi un.aA,.slice S un.body.length U]) Zr Zr aM ZK Zr ?_ rfl Zr Zr Zd Zo (λbZ bf ax=>?_)
  .exact l9
  have cf:rows.flatten++([vi un.a7,vi un.a5,.slice W un.a9.length Y,vi un.bi,vi un.aA,.slice S un.body.length U]:List Value)=(rows++[([vi un.a7,vi un.a5,.slice W un.a9.length Y,vi un.bi,vi un.aA,.slice S un.body.length U]:List Value)]).flatten:=by simp
  rw[cf]at ax|-;obtain⟨dZ,ed,rfl⟩:=ax.form;refine af ?_;refine⟨(i+1,(T++B3)++B4,.slice dZ (i+1) ed,rows++[[vi un.a7,vi un.a5,.slice W un.a9.length Y,vi un.bi,vi un.aA,.slice S un.body.length U]],bf),⟨by simp only;omega,⟨B3++B4,by simp only;rw[vj]⟩,ax,?_,λk hk=>?_⟩,by simp only;omega,ZU,ZI⟩
  .show fg 6 (SS ((T++B3)++B4)) ((List.range (i+1)).map st.aG) _;rw[List.range_succ,QC];exact(bA.imp λ_ _ k=>k.more λz hz=>Zw _ hz).snoc rfl (by rw[<- hune];exact hU)
  .simp only at hk;by_cases e:k<i
   .exact cY k e
   .obtain rfl:k=i:=by omega
    rw[<- hune,hbg,Zf cM,Zf mo];rfl
noncomputable section
def F6:aP:=aZ (o:=gF pq Tryz.f6 [(11,[.range 28])])
def low6:Zo9 6 [(11,[.range 28])] F6:=Zx9
end
def ifc50:∃d,Tryz.prog.underlying 50=some (.interface d):=by
 have h:(match pg9.underlying 50 with|some (.interface _)=>true|_=>false)=true:=by kernel_rfl
 split at h
 .exact⟨_,by assumption⟩
 .cases h
def inf44:∃i,Tryz.prog.info? 44=some i/\i.comparable=true:=by
 have h:(match pg9.info? 44 with|some i=>i.comparable|none=>false)=true:=by kernel_rfl
 split at h
 .exact⟨_,by assumption,h⟩
 .cases h
def und44:∃k,Tryz.prog.underlying 44=some (.int k):=by
 have h:(match pg9.underlying 44 with|some (.int _)=>true|_=>false)=true:=by kernel_rfl
 split at h
 .exact⟨_,by assumption⟩
 .cases h
def tH(A)(K:nM A)(T:EtA∈A)(x vs)(h:Nr A x vs)(lW:∀a c,vs[4]? =some (.slice a x.body.length c)->x.body.length<=c)(F m)(H:dU A m F):aq pg9 6 [.agg vs.toArray,m] [A] (λv dl=>v=.bool true/\dl=[A]):=by
 have L:dU A Nz []:=⟨none,0,rfl,X0 _,λi t h=>by simp at h⟩;have g:=UG A x vs h F [] m Nz H L;have j:=λZ=>l8 A x vs (h.ok K Z) F [] m Nz H L
 have Q:=DB A K x vs h lW F [] m Nz H L;have eU:=C9 x.body;obtain⟨⟨aa,ac,ta,tc,a,c,bk,o,us,rfl,bI,bL,hk⟩,bR,pW⟩:=h;obtain⟨fa,fc,rfl,cf,ur⟩:=H;refine aq.intro low6 Zn9 ?_;refine af ?_;refine kZ Zr (λq2=>?_);simp only[Value.cells];refine af ?_;refine kH (K8 A K T) Zr ZP (λv dl d=>?_);obtain⟨rfl,rfl⟩:=d;simp only[aE];refine af ?_;refine kH g Zr ZP (λv dl d=>?_);obtain⟨b,rfl,X,rfl⟩:=d;simp only[aE];cases b with
 |true=>
  exact zBV
 |false=>
 obtain⟨S,mo,NX,Y⟩:=X rfl;refine af ?_;refine kH (j Zo Zo Zo S Zo Zo) Zr ZP (λv dl d=>?_);have W:=d;have G:=Q S Zo;clear j Q g;rcases W with⟨l,Ei,B,ha,rfl,re,rfl⟩|⟨e,p,q,ha,cz,rfl,rfl⟩
 .rw[ha]at G;simp only[aE];obtain⟨ua,uc,_,_,_,rfl,_⟩:=re;refine af ?_;refine kJ (λq7=>?_);refine af ?_;refine kH G Zr ZP (λv dl d=>?_);obtain⟨B2,⟨E,rfl,I⟩,rfl⟩:=d;simp only[aE];obtain⟨N,O,_,_,_,rfl,_⟩:=I;refine af ?_;refine kJ (λq9=>?_);refine kJ (λU=>?_);exact zE3
 .rw[ha]at G;simp only[aE];refine af ?_;refine kJ (λq7=>?_);refine af ?_;refine kH G Zr ZP (λv dl d=>?_);obtain⟨B2,⟨E,rfl,I⟩,rfl⟩:=d;simp only[aE];obtain⟨N,O,_,_,_,rfl,_⟩:=I;refine af ?_;refine kJ (λq9=>?_);refine kJ (λU=>?_);refine af ?_;rw[A1 ((e:Int)=0)];refine af ?_;refine kJ (λuN=>?_);refine af ?_;refine kH (Np (A++B2) (Zw _ T) q uN _) Zr ZP (λv dl d=>?_);obtain⟨rfl,rfl⟩:=d;simp only[aE];unfold jT Ol;refine af ?_;rw[show decide (p=p)=true from Zt rfl];refine af ?_;obtain⟨ms,J⟩:=ifc50;obtain⟨i44,C,s⟩:=inf44;obtain⟨k44,D⟩:=und44;refine st_eqif (a:=e) (b:=e) J C s D Zr Zr ?_;rw[show decide ((e:Int)=e)=true from Zt rfl];exact zE3
end Go.Proofs.YtijnokbblmbpkaaGreatDoor

/-
  A send that is inlined.
-/
import Derived.Test.YtijnokbblmbpkaaGreatDoorM22
import Derived.Test.YtijnokbblmbpkaaGreatDoorM17
import Derived.Test.YtijnokbblmbpkaaGreatDoorM11
set_option linter.all false
namespace Go.Proofs.YtijnokbblmbpkaaGreatDoor
open Go Go.V
set_option maxHeartbeats 12800000
set_option maxRecDepth 100000
def pu(k:Int)(nm:ByteArray)(vv kv:Value):List Value:=[.int .u8 k,.string nm,.int .u8 0,.int .i64 0,.int .u64 0,.string e0,Nz,Nz,.int .i64 0,.bool false,Nz,vv,kv]
structure SpS where
 j:Nat
 st:ah
 us:Value
 bA:List Value
 U:List UC
 V:List az
 T:List kC
 sv:Value
 rows:List (List Value)
 sp:List Value
 B:List kC
 XG:List PN
 vv:Value
 l8:List Nat
 Nk:List Value
 rs:List zY
structure Uz (X:Fix)(nm:ByteArray)(l:List Nd)(st:ah)(env:List Nat)(i:Nat)(q:Nat)(Uq Vq:List Nat)(s:SpS):Prop where
 j:s.j<=l.length
 u:∃w,s.U[i]? =some w/\w.q=q
 ok:ii s.st s.us s.bA s.U s.V s.T
 gr:Gr st s.st
 pU:Uq <+:s.U.map UC.q
 pV:Vq <+:s.V.map az.q
 room:Room s.st (jM (l.drop s.j))
 e3:(kf X.F X.G nm l 0 st env i).2.2=(kf X.F X.G nm (l.drop s.j) s.j s.st env i).2.2
 e1:(kf X.F X.G nm l 0 st env i).1=s.XG++(kf X.F X.G nm (l.drop s.j) s.j s.st env i).1
 e2:(kf X.F X.G nm l 0 st env i).2.1=s.rs++(kf X.F X.G nm (l.drop s.j) s.j s.st env i).2.1
 pl:s.XG.length=s.j
 sl:jA 13 s.sv s.j s.rows.flatten s.sp
 rw:zh s.B (s.V.map az.q) s.XG s.rows
 vsl:jA 1 s.vv s.l8.length (s.l8.map fun b=>kM (some b)) s.Nk
 raw:∀r∈s.rs,∃v,r=cG v/\v < (s.V.map az.q).length
 l8:s.l8=s.rs.map fun r=>(s.V.map az.q).getD r.index.toNat 0
 few:s.rs.length<=s.j
theorem s5 {U U':List UC}{i:Nat}{w:UC}(hw:U[i]? =some w)(h:U.map UC.q <+:U'.map UC.q):∃w',U'[i]? =some w'/\w'.q=w.q:=by
 obtain⟨t,ht⟩:=h;have h1:(U.map UC.q)[i]? =some w.q:=by rw[Vu,hw];rfl
 have h2:(U'.map UC.q)[i]? =some w.q:=by rw[<- ht,Vj (Vt.1 h1).1];exact h1
 rw[Vu]at h2;exact X0.1 h2
theorem CZ {qs Bn:List Nat}{rs:List zY}(h:∀r∈rs,∃v,r=cG v/\v < qs.length)(hq:qs <+:Bn):(∀r∈rs,∃v,r=cG v/\v < Bn.length)/\(rs.map fun r=>Bn.getD r.index.toNat 0)=rs.map fun r=>qs.getD r.index.toNat 0:=by
 refine⟨fun r hr=>let⟨v,h1,h2⟩:=h r hr;⟨v,h1,Qq h2 hq.length_le⟩,QB fun r hr=>?_⟩;obtain⟨v,rfl,hv⟩:=h r hr;exact zDQ
theorem MS {qs:List Nat}{rs:List zY}(h:∀r∈rs,∃v,r=cG v/\v < qs.length):eu rs=rs/\zE rs=[]/\yC qs rs:=by
 refine⟨V8.2 fun r hr=>?_,V7.2 fun r hr=>?_,.inl fun r hr=>?_,fun r hr _=>h r hr⟩
 ·obtain⟨v,rfl,_⟩:=h r hr;rfl
 ·obtain⟨v,rfl,_⟩:=h r hr;simp[cG]
 ·obtain⟨v,rfl,_⟩:=h r hr;rfl
section
variable {X:Fix} {nm:ByteArray} {l:List Nd} {st:ah} {env:List Nat} {i q:Nat} {Uq Vq:List Nat} {s:SpS}
theorem Uz.out(h:Uz X nm l st env i q Uq Vq s){y:Nd}(hy:l[s.j]? =some y)(aL:yM nm s.j=false){Dj:Value}{iL:List Value}{U2:List UC}{V2:List az}{T2 B2:List kC}(hS:ii (j9 X.F X.G y s.st env i).2 Dj iL U2 V2 T2)(hU:s.U.map UC.q <+:U2.map UC.q)(hV:s.V.map az.q <+:V2.map az.q)
 {ws:List Value} {pn:PN} (Cv:pn=(j9 X.F X.G y s.st env i).1) (hn:xd B2 (V2.map az.q) pn ws) {eW:Value} {bE:List Value} (bD:jA 13 eW (s.j+1) (s.rows++[ws]).flatten bE):
 Uz X nm l st env i q Uq Vq ⟨s.j+1,(j9 X.F X.G y s.st env i).2,Dj,iL,U2,V2,T2,eW,s.rows++[ws],bE,s.B++B2,s.XG++[pn],s.vv,s.l8,s.Nk,s.rs⟩:=by
 subst Cv;have aS:=(Vt.1 hy).1;have O5:l.drop s.j=y::l.drop (s.j+1):=by
  exact zDO
 obtain⟨h1,h2,h3,h4,h5,h6,h7,h8,h9,xL,OX,h12,h13,h14,h15,h16,h17⟩:=h;rw[O5]at h7 h8 h9 xL;simp only[jM]at h7;rw[we _ _ _ _ _ _ _ _ _ aL]at h8 h9 xL;have hl:=(nM X.F X.G _ y (Qn _) s.st env i).1;obtain⟨w,hw,pK⟩:=h2;obtain⟨w',sF,hwq'⟩:=s5 hw hU;obtain⟨r1,r2⟩:=CZ h15 hV;exact⟨aS,⟨w',sF,hwq'.trans pK⟩,hS,h4.trans (wd X.F X.G _ y (Qn _) s.st env i).1,h5.trans hU,h6.trans hV,h7.less hl,h8,by rw[h9];simp,xL,by simp[OX],bD,(h13.more (fun x hx=>Zw _ hx) hV).snoc (hn.more (fun x hx=>QG _ hx) (Qc _)),h14,r1,h16.trans r2.symm,by simp only;omega⟩
theorem Uz.inn(h:Uz X nm l st env i q Uq Vq s){y:Nd}(hy:l[s.j]? =some y)(aL:yM nm s.j=true){Dj:Value}{iL:List Value}{U2:List UC}{V2:List az}{T2 B2:List kC}(hS:ii (zo X.F X.G y s.st env i).2 Dj iL U2 V2 T2)(hU:s.U.map UC.q <+:U2.map UC.q)(hV:s.V.map az.q <+:V2.map az.q)
 {ws:List Value} {pn:PN} (Cv:pn=(zo X.F X.G y s.st env i).1) (hn:xd B2 (V2.map az.q) pn ws) {eW:Value} {bE:List Value} (bD:jA 13 eW (s.j+1) (s.rows++[ws]).flatten bE)
 {vv':Value} {Tr:List Value} {MP:List Nat} (hp:(jQ nm≠5/\vv'=s.vv/\Tr=s.Nk/\MP=s.l8)∨(jQ nm=5/\s.st.vars.length < (V2.map az.q).length/\MP=s.l8++[(V2.map az.q).getD s.st.vars.length 0]/\jA 1 vv' MP.length (MP.map fun b=>kM (some b)) Tr)):
 Uz X nm l st env i q Uq Vq ⟨s.j+1,(zo X.F X.G y s.st env i).2,Dj,iL,U2,V2,T2,eW,s.rows++[ws],bE,s.B++B2,s.XG++[pn],vv',MP,Tr,s.rs++(if jQ nm=5 then [cG s.st.vars.length]else [])⟩:=by
 subst Cv;have aS:=(Vt.1 hy).1;have O5:l.drop s.j=y::l.drop (s.j+1):=by
  exact zDO
 obtain⟨h1,h2,h3,h4,h5,h6,h7,h8,h9,xL,OX,h12,h13,h14,h15,h16,h17⟩:=h;rw[O5]at h7 h8 h9 xL;simp only[jM]at h7;rw[zN _ _ _ _ _ _ _ _ _ aL]at h8 h9 xL;have hl:=(nM X.F X.G _ y (Qn _) s.st env i).2;obtain⟨w,hw,pK⟩:=h2;obtain⟨w',sF,hwq'⟩:=s5 hw hU;obtain⟨r1,r2⟩:=CZ h15 hV;refine⟨aS,⟨w',sF,hwq'.trans pK⟩,hS,h4.trans (wd X.F X.G _ y (Qn _) s.st env i).2,h5.trans hU,h6.trans hV,h7.less hl,h8,by rw[h9];simp,?_,by simp[OX],bD,(h13.more (fun x hx=>Zw _ hx) hV).snoc (hn.more (fun x hx=>QG _ hx) (Qc _)),?_,?_,?_,?_⟩
 ·rw[xL];simp only;split <;> simp
 ·rcases hp with⟨_,rfl,rfl,rfl⟩|⟨_,_,_,k⟩
  ·exact h14
  ·exact k
 ·intro r hr;rcases QF.1 hr with hr|hr
  ·exact r1 r hr
  ·rcases hp with⟨k,_⟩|⟨k,k2,_⟩
   ·rw[if_neg k]at hr;cases hr
   ·rw[if_pos k,QR]at hr;exact⟨_,hr,k2⟩
 ·show MP=_;rw[QA,r2,<- h16];rcases hp with⟨k,_,_,k2⟩|⟨k,_,k2,_⟩
  ·rw[if_neg k,k2];simp
  ·rw[if_pos k,k2];show _=s.l8++[(V2.map az.q).getD ((s.st.vars.length:Int)).toNat 0];rw[vV]
 ·show(s.rs++_).length<=s.j+1;rw[Vy];split
  ·rw[Q8];omega
  ·rw[Q6];omega
theorem Uz.fin(h:Uz X nm l st env i q Uq Vq s)(hj:s.j=l.length):ii (kf X.F X.G nm l 0 st env i).2.2 s.us s.bA s.U s.V s.T/\
 xd (aj s.sv s.rows.flatten s.sp++(s.B++aj s.vv (s.l8.map fun b=>kM (some b)) s.Nk)) (s.V.map az.q) (.mk (ib nm) (lG nm) fV (kf X.F X.G nm l 0 st env i).2.1 0 false (kf X.F X.G nm l 0 st env i).1) (pu (ib nm:Nat) (lG nm) s.vv s.sv):=by
 obtain⟨h1,h2,h3,h4,h5,h6,h7,h8,h9,xL,OX,h12,h13,h14,h15,h16,h17⟩:=h;rw[hj,List.drop_length,kf]at h8 h9 xL;simp only[vm]at h9 xL;rw[h8,h9,xL];refine⟨h3,?_⟩;obtain⟨k1,k2,k3⟩:=MS h15;rw[<- OX]at h12;have:=yo (k:=ib nm) (nm:=lG nm) (lit:=fV) (refs:=s.rs) (unit:=0) (fM:=false) (rv:=Nz) (vv:=s.vv) (B:=s.B++aj s.vv (s.l8.map fun b=>kM (some b)) s.Nk) h12 (h13.more (fun x hx=>Zw _ hx) (Qc _)) (o9 _) (by rw[k2];exact jy.nil _) (by
  rw[k1,<- h16];exact(iD rfl h14).more (fun x hx=>QG _ hx)) k3
 exact this
end
theorem Kq(F G:List ByteArray)(nm:ByteArray)(env:List Nat)(u:Nat):∀(l:List Nd) (i:Nat) (st:ah),Gr st (kf F G nm l i st env u).2.2:=by
 intro l
 induction l with
 |nil=>intro i st;rw[kf];exact Gr.refl _
 |cons y q ihq=>
  intro i st;obtain⟨k1,k2⟩:=wd F G _ y (Qn _) st env u;cases hi:yM nm i with
  |true=>rw[zN _ _ _ _ _ _ _ _ _ hi];exact k2.trans (ihq _ _)
  |false=>rw[we _ _ _ _ _ _ _ _ _ hi];exact k1.trans (ihq _ _)
theorem P0 {nm:ByteArray}{kids:List Nd}(hf:eA (jQ nm) kids=true){i:Nat}{y:Nd}(hy:kids[i]? =some y)(hi:yM nm i=true):(jQ nm=5/\y.args.length=1)∨(jQ nm≠5/\y.args.length=0):=by
 have hl:=(Vt.1 hy).1;rw[x8 hf hl]at hi;simp only[vF,decide_eq_true_eq]at hi;have hle:=uN nm;generalize jQ nm=n at hf hi hle;have hn:n=0∨n=5∨(n=1∨n=2∨n=3∨n=4):=by omega
 rcases hn with rfl|rfl|hn
 ·cases hf
 ·obtain⟨h1,b,h2,h3,h4⟩:=OU hf;simp only[jD,iO]at hi;obtain rfl:i=2:=by omega
  rw[hy]at h2;rw[X3 h2];exact .inl ⟨rfl,h4⟩
 ·cases hp:jt y with
  |true=>exact .inr ⟨Zo,(yY hp).2⟩
  |false=>
   have:=Dz hn hi.1 hy hp;rw[hf]at this;cases this
theorem P1(F G:List ByteArray)(y:Nd)(st:ah)(env:List Nat)(u:Nat):st.vars.length+y.args.length<=(zo F G y st env u).2.vars.length:=by
 cases y with
 |mk k s lit args ab kids p=>
 rw[dw];obtain⟨f1,f2,f3,f4⟩:=jZ u true false p args 0 st env;have g:=zf u false false p ab 0 (kP u true false p args 0 st env).1 (kP u true false p args 0 st env).2;have g2:=wV F G kids (kP u false false p ab 0 (kP u true false p args 0 st env).1 (kP u true false p args 0 st env).2).1 (kP u false false p ab 0 (kP u true false p args 0 st env).1 (kP u true false p args 0 st env).2).2 u;have h1:=g.vars.length_le;have h2:=g2.vars.length_le;show st.vars.length+args.length<=_;simp only;omega
theorem Ej:∀l:List Nd,l.length<=Nd.aq l:=by
 intro l
 induction l with
 |nil=>exact Qn _
 |cons x r ih=>have:=x.size_pos;simp only[Nd.aq,Vz];omega
theorem Ez(X:Fix)(l1 l2 l3 l4 l5 vk av tv:Value)(s:ByteArray)(kids:List Nd)(a:Option Addr)(ac bk ko:Nat)(ks:Nat->List Value)(KC:kids.length < 1073741824)(ha:0 < kids.length->a=some ⟨bk,ko,none⟩)(hm:∀i,i < kids.length->∀y∈kA bk (ko+i*11) (ks i),y∈X.S)(hr:∀i x,kids[i]? =some x->jJ X.S x (ks i))(N:Nat)(hN:Nd.aq kids<=N)(hN2:N < 1073741824)(ir:qR kids=true)(aP:∀x,x.size<=N->Se x=true->∀vs,jJ X.S x vs->oL X x vs)(p:Int)(DG:eA (jQ s) kids=true)
 (st:ah) (us:Value) (bA:List Value) (U:List UC) (Vs:List az) (T:List kC) (hS:ii st us bA U Vs T) (i:Nat) (u:UC) (hu:U[i]? =some u) (env:List Nat) (b:Nat) (es:Array MapEntry) (c:Nat) (hs:zH st Vs env es c) (EX:∀v∈env,st.af v∈st.line i) (bX:Room st (jM kids)):
 rR X 207 [kF X.wq,.agg #[vk,.string s,l1,l2,l3,l4,l5,av,tv,.slice a kids.length ac,.int .i64 p],vi (jD (jQ s)),vi (iO (jQ s)),kF u.q,.map (some b)] st (kf X.F X.G s kids 0 st env i).2.2 us bA U Vs T b es c (Yt (.mk (ib s) (lG s) fV (kf X.F X.G s kids 0 st env i).2.1 0 false (kf X.F X.G s kids 0 st env i).1)):=by
 have Gv:jQ s=1∨jQ s=2∨jQ s=3∨jQ s=4∨jQ s=5:=by
  have h1:=uN s;have h2:jQ s≠0:=fun e=>by rw[e]at DG;cases DG
  omega
 have Ul:s=nmTo↔jQ s=5:=by
  constructor
  ·rintro rfl;decide
  ·intro h;unfold jQ at h
   repeat' split at h
   all_goals first|omega|assumption
 refine ji.intro low207 (by simp[n207]) ?_;refine VC.join (α:=Nat×Nat) (bi:=fun q=>[(0,kF X.wq),(2,vi (jD (jQ s))),(3,vi (iO (jQ s))),(4,kF u.q),(5,.map (some b)),(7,kF q.1),(12,kF q.2)]) (Hf:=fun q=>[kA q.2 0 (pu 0 e0 Nz Nz),kA q.1 0 [vk,.string s,l1,l2,l3,l4,l5,av,tv,.slice a kids.length ac,.int .i64 p],kA X.wq 0 [.map (some X.fb),.map (some X.gb),us],aj us (U.map fun u=>kM (some u.q)) bA,[.obj X.fb (.map X.bG X.fc)],[.obj X.gb (.map X.bL X.gc)],WK U Vs,T,[.obj b (.map es c)],X.S]) (I:=fun _=>True) ?_ ?_
 ·refine ae ?_;refine kX Zr (fun q7=>?_);simp only[Value.cells];refine kO (fun fR=>?_);refine ae ?_;exact⟨(q7,fR),trivial,ZU,by unfold pu e0;exact bS⟩
 rintro⟨q7,fR⟩ _
 dsimp only;refine VC.join (α:=Nat) (bi:=fun mf=>[(0,kF X.wq),(2,vi (jD (jQ s))),(3,vi (iO (jQ s))),(4,kF u.q),(5,.map (some b)),(7,kF q7),(12,kF fR),(13,kF mf)]) (Hf:=fun mf=>[kA mf 0 (pu 11 s Nz Nz),kA fR 0 (pu 0 e0 Nz Nz),kA q7 0 [vk,.string s,l1,l2,l3,l4,l5,av,tv,.slice a kids.length ac,.int .i64 p],kA X.wq 0 [.map (some X.fb),.map (some X.gb),us],aj us (U.map fun u=>kM (some u.q)) bA,[.obj X.fb (.map X.bG X.fc)],[.obj X.gb (.map X.bL X.gc)],WK U Vs,T,[.obj b (.map es c)],X.S]) (I:=fun _=>True) ?_ (fun mf _=>?_)
 ·refine ae ?_;refine kO (fun mf=>?_);refine ae ?_;exact⟨mf,trivial,ZU,by unfold pu e0;exact bS⟩
 refine VC.join (α:=Unit) (bi:=fun _=>[(0,kF X.wq),(2,vi (jD (jQ s))),(3,vi (iO (jQ s))),(4,kF u.q),(5,.map (some b)),(7,kF q7),(12,kF fR),(13,kF mf)]) (Hf:=fun _=>[kA mf 0 (pu (ib s:Nat) (lG s) Nz Nz),kA fR 0 (pu 0 e0 Nz Nz),kA q7 0 [vk,.string s,l1,l2,l3,l4,l5,av,tv,.slice a kids.length ac,.int .i64 p],kA X.wq 0 [.map (some X.fb),.map (some X.gb),us],aj us (U.map fun u=>kM (some u.q)) bA,[.obj X.fb (.map X.bG X.fc)],[.obj X.gb (.map X.bL X.gc)],WK U Vs,T,[.obj b (.map es c)],X.S]) (I:=fun _=>True) ?_ (fun _ _=>?_)
 ·unfold pu;refine ae ?_;rcases Gv with h|h|h|h|h
  ·exact zBB
  ·exact zBB
  ·exact zC3
  ·exact zC3
  ·have hf:jD (jQ s)=2:=by rw[h];rfl
   have e1:ib s=13:=by simp[ib,h]
   have e2:lG s=e0:=by simp[lG,h]
   rw[e1,e2];rw[show decide ((jD (jQ s):Int)=0)=false from Zf Zo];refine ae ?_;rw[show decide (s=⟨#[116,111,58,100,111,58]⟩)=true from Zt (Ul.2 h)];refine ae ?_;exact⟨(),trivial,ZU,by simp only[e0];exact ao.refl _⟩
 refine ae ?_;refine VC.loop (α:=SpS) (bi:=fun p=>[(0,kF X.wq),(2,vi (jD (jQ s))),(3,vi (iO (jQ s))),(4,kF u.q),(5,.map (some b)),(12,kF fR),(13,kF mf),(36,.slice a kids.length ac),(37,vi kids.length),(38,vi p.j)])
  (Hf:=fun p=>[kA mf 0 (pu (ib s:Nat) (lG s) p.vv p.sv),kA fR 0 (pu 0 e0 Nz Nz),kA X.wq 0 [.map (some X.fb),.map (some X.gb),p.us],aj p.us (p.U.map fun u=>kM (some u.q)) p.bA,[.obj X.fb (.map X.bG X.fc)],[.obj X.gb (.map X.bL X.gc)],WK p.U p.V,p.T,[.obj b (.map es c)],X.S,aj p.sv p.rows.flatten p.sp,p.B,aj p.vv (p.l8.map fun b=>kM (some b)) p.Nk]) (I:=Uz X s kids st env i u.q (U.map UC.q) (Vs.map az.q)) (μ:=fun p=>kids.length - p.j) ⟨0,st,us,bA,U,Vs,T,Nz,[],[],[],[],Nz,[],[],[]⟩
  ⟨Qv _,⟨u,hu,rfl⟩,hS,Gr.refl st,Qc _,Qc _,bX,rfl,rfl,rfl,rfl,.nil,zh.nil _ _,.nil,Zs,rfl,Qn _⟩ ZU (ao.cut (M:=[kA mf 0 (pu (ib s:Nat) (lG s) Nz Nz),kA fR 0 (pu 0 e0 Nz Nz),kA X.wq 0 [.map (some X.fb),.map (some X.gb),us],aj us (U.map fun u=>kM (some u.q)) bA,[.obj X.fb (.map X.bG X.fc)],[.obj X.gb (.map X.bL X.gc)],WK U Vs,T,[.obj b (.map es c)],X.S]) ZI (ao.perm (by simp[aj]))) ?_
 rintro⟨j,bN,Bx,ox,U1,V1,T1,sv,rows,sp,B,XG,vv,l8,Nk,rs⟩ hp
 have xT:j<=kids.length:=hp.j;obtain⟨sa,sc,gT⟩:∃sa sc,sv=.slice sa j sc:=hp.sl.form;obtain⟨pa,pc,NL⟩:∃pa pc,vv=.slice pa l8.length pc:=hp.vsl.form;obtain⟨w,hw,pK⟩:∃w,U1[i]? =some w/\w.q=u.q:=hp.u;subst gT;subst NL;dsimp only;unfold pu;refine ae ?_;by_cases aS:j < kids.length;rotate_left
 ·rw[show decide ((j:Int) < (kids.length:Int))=false from Zf Zo];obtain⟨f1,f2⟩:=hp.fin (by show j=kids.length;omega);refine ae ?_;refine jL ⟨.inr rfl,_,[kA X.wq 0 [.map (some X.fb),.map (some X.gb),Bx],aj Bx (U1.map fun u=>kM (some u.q)) ox,[.obj X.fb (.map X.bG X.fc)],[.obj X.gb (.map X.bL X.gc)],WK U1 V1,T1,[.obj b (.map es c)],X.S,aj (.slice sa j sc) rows.flatten sp++(B++aj (.slice pa l8.length pc) (l8.map fun b=>kM (some b)) Nk)],.aN (us:=pu (ib s:Nat) (lG s) (.slice pa l8.length pc) (.slice sa j sc)) Zr Zr (fun y hy=>by simp only[Vd,QF];repeat (first|exact Or.inl hy|refine Or.inr ?_)) .nil,?_,⟨Bx,ox,U1,V1,T1,_,⟨f1,hp.pU,hp.pV,_,rfl,f2⟩,rfl⟩⟩;refine ao.cut (M:=[kA X.wq 0 [.map (some X.fb),.map (some X.gb),Bx],aj Bx (U1.map fun u=>kM (some u.q)) ox,[.obj X.fb (.map X.bG X.fc)],[.obj X.gb (.map X.bL X.gc)],WK U1 V1,T1,[.obj b (.map es c)],X.S,aj (.slice sa j sc) rows.flatten sp,B,aj (.slice pa l8.length pc) (l8.map fun b=>kM (some b)) Nk]) ZI (ao.perm Zs)
 rw[show decide ((j:Int) < (kids.length:Int))=true from Zt Zo];obtain rfl:=ha Zo;obtain⟨y,hy⟩:∃y,kids[j]? =some y:=⟨_,Zg aS⟩;have cQ:=hm j aS;have bK:=hr j y hy;have Pz:y.size<=N:=by have:=Nd.aD (Zv hy);omega
 have hyok:=nh ir (Zv hy);have hoy:=aP y Pz hyok;have hiq:=x8 DG aS;generalize ks j=kj at*;refine ae ?_;obtain⟨e1,e2,e3,e4,e5,e6,e7,a1,c1,a2,c2,a3,c3,bk2,o2,Dj,rfl,mO,bJ,bF,hk8,IS,p8,du,hcp2⟩:=fF bK;refine kS Zr (fun z hz=>by have h9:=cQ z hz;simp[h9]) rfl ?_;refine jF ?_;refine kO (fun q15=>?_);refine jF ?_;refine VC.seq ?_;refine VC.join (α:=Unit) (bi:=fun _=>[(0,kF X.wq),(2,vi (jD (jQ s))),(3,vi (iO (jQ s))),(4,kF u.q),(5,.map (some b)),(12,kF fR),(13,kF mf),(15,kF q15),(36,.slice (some ⟨bk,ko,none⟩) kids.length ac),(37,vi kids.length),(38,vi j),(50,.bool (!yM s j))])
  (Hf:=fun _=>[kA q15 0 (rN y.kind y.name e1 e2 e3 e4 e5 e6 e7 a1 y.args.length c1 a2 y.ab.length c2 a3 y.kids.length c3 y.at_),kA mf 0 [.int .u8 (ib s:Nat),.string (lG s),.int .u8 0,.int .i64 0,.int .u64 0,.string e0,Nz,Nz,.int .i64 0,.bool false,Nz,.slice pa l8.length pc,.slice sa j sc],kA fR 0 [.int .u8 0,.string e0,.int .u8 0,.int .i64 0,.int .u64 0,.string e0,Nz,Nz,.int .i64 0,.bool false,Nz,Nz,Nz],kA X.wq 0 [.map (some X.fb),.map (some X.gb),Bx],aj Bx (U1.map fun u=>kM (some u.q)) ox,[.obj X.fb (.map X.bG X.fc)],[.obj X.gb (.map X.bL X.gc)],WK U1 V1,T1,[.obj b (.map es c)],X.S,aj (.slice sa j sc) rows.flatten sp,B,aj (.slice pa l8.length pc) (l8.map fun b=>kM (some b)) Nk]) (I:=fun _=>True) ?_ (fun _ _=>?_)
 ·rw[hiq];refine ae ?_;by_cases c1:(j:Int) < (jD (jQ s):Int)
  ·rw[Zt c1,show decide (jD (jQ s)<=j)=false from Zf Zo];refine ae ?_;exact⟨(),trivial,ZU,ao.refl _⟩
  ·rw[Zf c1,show decide (jD (jQ s)<=j)=true from Zt Zo];refine ae ?_;by_cases c2:(iO (jQ s):Int)<=(j:Int)
   ·rw[Zt c2,show decide (j < iO (jQ s))=false from Zf Zo];refine ae ?_;exact⟨(),trivial,ZU,ao.refl _⟩
   ·rw[Zf c2,show decide (j < iO (jQ s))=true from Zt Zo];refine ae ?_;exact⟨(),trivial,ZU,ao.refl _⟩
 have Uj:Room bN (jM (kids.drop j)):=hp.room;have O5:kids.drop j=y::kids.drop (j+1):=by
  exact zDO
 rw[O5]at Uj;simp only[jM]at Uj;have LX:ii bN Bx ox U1 V1 T1:=hp.ok;have DI:Gr st bN:=hp.gr;have hpV:Vs.map az.q <+:V1.map az.q:=hp.pV;have cF:i < st.outer.length:=by have:=(Vt.1 hu).1;rw[hS.rep.ul]at this;exact this
 have sC:=hs.more DI.vars hpV hS.rep.vl;have Wl:∀v∈env,bN.af v∈bN.line i:=fun v hv=>by
  obtain⟨k1,k2⟩:=sW DI hS.rep.wf LX.rep.wf cF (hs.lt v hv);rw[k1,k2];exact EX v hv
 have hsl0:jA 13 (.slice sa j sc) j rows.flatten sp:=hp.sl;have hvsl0:jA 1 (.slice pa l8.length pc) l8.length (l8.map fun b=>kM (some b)) Nk:=hp.vsl;have hfew:rs.length<=j:=hp.few;have hptl:l8.length=rs.length:=by have e:l8=_:=hp.l8;rw[e,Q5]
 have he3:(kf X.F X.G s kids 0 st env i).2.2=(kf X.F X.G s (kids.drop j) j bN env i).2.2:=hp.e3;rw[O5]at he3;cases aL:yM s j with
 |false=>
  rw[we _ _ _ _ _ _ _ _ _ aL]at he3;simp only[vO];have KF:=hoy _ bK bN Bx ox U1 V1 T1 LX i w hw env b es c sC Wl (Uj.mono Zo);rw[pK]at KF;refine jF ?_;cases Ud:(j9 X.F X.G y bN env i).2.f with
  |some e=>
   have gQ:∀x,(j9 X.F X.G y bN env i).2.f=some x->(kf X.F X.G s kids 0 st env i).2.2.f=some x:=fun x hx=>by rw[he3];exact(Kq _ _ _ _ _ _ _ _).f _ hx
   refine VC.seq (VC.Ci ⟨⟨[_,_,_,_,_,_],_,_,_,_,rfl,?_⟩,⟨[_,_,_,_,_],_,_,_,_,rfl,?_⟩,trivial⟩)
   ·refine⟨?_,?_,trivial⟩
    all_goals
     refine ae ?_;refine kL KF Zr ZP (fun v Post hv=>?_) (fun ch Post hz=>?_)
     ·exact zBY
     ·exact zBM
   ·refine⟨?_,?_,?_,?_,trivial⟩
    all_goals
     refine ae ?_;refine kL KF Zr ZP (fun v Post hv=>?_) (fun ch Post hz=>?_)
     ·exact zBY
     ·exact zBM
  |none=>
   refine VC.seq (VC.draws ⟨?_,?_,trivial⟩)
   all_goals
    refine ae ?_;refine kL KF Zr ZP (fun v Post hv=>?_) (fun ch Post hz=>?_);rotate_left
    ·obtain⟨q1,Nv,p1,ep,rfl,rfl⟩:=hz;rw[Ud]at ep;cases ep
    obtain⟨ow,iL,U2,V2,T2,B2,⟨H6,ux,uy,ws,rfl,hn⟩,rfl⟩:=hv;simp only[aJ];obtain⟨pn,Cv⟩:∃pn,pn=(j9 X.F X.G y bN env i).1:=⟨_,rfl⟩;rw[<- Cv]at hn;obtain⟨f1,f2,f3,f4,f5,f6,f7,r1,r2,r3,p1,p2,p3,k1,k2,k3,Um⟩:=lr hn;subst Um;refine ae ?_;refine jB (out:=[.int .u8 pn.kind,.string pn.name,.int .u8 f1,.int .i64 f2,.int .u64 f3,.string f4,.slice f5 f6 f7,.slice r1 r2 r3,.int .i64 pn.unit,.bool pn.super,Nz,.slice p1 p2 p3,.slice k1 k2 k3]) Zr Zr (fun r=>?_);refine ae ?_;refine jH (k:=j) (m:=1) (xs:=rows.flatten) (sp:=sp) (ys:=[.int .u8 pn.kind,.string pn.name,.int .u8 f1,.int .i64 f2,.int .u64 f3,.string f4,.slice f5 f6 f7,.slice r1 r2 r3,.int .i64 pn.unit,.bool pn.super,Nz,.slice p1 p2 p3,.slice k1 k2 k3]) Zr Zr hsl0 ZK Zr ?_ rfl Zr Zr Zd Zo (fun eW bE aT=>?_)
    ·exact ET
    have gS:rows.flatten++([.int .u8 pn.kind,.string pn.name,.int .u8 f1,.int .i64 f2,.int .u64 f3,.string f4,.slice f5 f6 f7,.slice r1 r2 r3,.int .i64 pn.unit,.bool pn.super,Nz,.slice p1 p2 p3,.slice k1 k2 k3]:List Value)=(rows++[([.int .u8 pn.kind,.string pn.name,.int .u8 f1,.int .i64 f2,.int .u64 f3,.string f4,.slice f5 f6 f7,.slice r1 r2 r3,.int .i64 pn.unit,.bool pn.super,Nz,.slice p1 p2 p3,.slice k1 k2 k3]:List Value)]).flatten:=by simp
    rw[gS]at aT|-;obtain⟨nU,nV,rfl⟩:=aT.form;have mQ:=hp.out hy aL H6 ux uy Cv hn aT;exact zAF
 |true=>
  rw[zN _ _ _ _ _ _ _ _ _ aL]at he3;simp only[Bool.not_true];have gQ:∀x,(zo X.F X.G y bN env i).2.f=some x->(kf X.F X.G s kids 0 st env i).2.2.f=some x:=fun x hx=>by rw[he3];exact(Kq _ _ _ _ _ _ _ _).f _ hx
  have IV:pW y=iV y.args y.ab (jM y.kids):=by cases y;rfl
  have hys2:y.size=1+Nd.aq y.kids:=by cases y;rfl
  have hyk:qR y.kids=true:=by
   cases y;simp only[Se,vF]at hyok;exact hyok.2
  have fT:=Ej y.kids;have Pa:=Gy X (.int .u8 y.kind) (.int .u8 e1) (.int .i64 e2) (.int .u64 e3) (.string e4) (.slice e5 e6 e7) (.string y.name) y.kind y.name y.lit y.args y.ab (.slice a1 y.args.length c1) (.slice a2 y.ab.length c2) bJ bF y.kids a3 c3 bk2 o2 Dj Zo IS p8 du
   (fun i' x' oE=>aP x' (by have:=Nd.aD (Zv oE);omega) (nh hyk (Zv oE)) _ (du i' x' oE)) y.at_ bN Bx ox U1 V1 T1 LX i w hw env b es c sC Wl (by rw[<- IV];exact Uj.mono Zo)
  rw[<- Nd.eta y,pK]at Pa;rcases P0 DG hy aL with⟨h5,tq⟩|⟨h5,tq⟩
  ·skip
   refine ae ?_;refine kL Pa Zr ZP (fun v Post hv=>?_) (fun ch Post hz=>?_);rotate_left
   ·exact zBM
   obtain⟨ow,iL,U2,V2,T2,B2,⟨H6,ux,uy,ws,hv,hn⟩,rfl⟩:=hv;simp only[aJ];obtain⟨pn,Cv⟩:∃pn,pn=(zo X.F X.G y bN env i).1:=⟨_,rfl⟩;rw[<- Cv]at hn;obtain⟨f1,f2,f3,f4,f5,f6,f7,r1,r2,r3,p1,p2,p3,k1,k2,k3,Um⟩:=lr hn;subst Um;have hvl2:bN.vars.length < (V2.map az.q).length:=by
    have h1:=P1 X.F X.G y bN env i;rw[Q5,H6.rep.vl];omega
   have I1:cI (((V2.map az.q).drop bN.vars.length).take y.args.length)=kF ((V2.map az.q).getD bN.vars.length 0):=by
    rw[tq,vw hvl2,Vh,Zg hvl2];rfl
   rw[I1]at hv;subst hv;refine ae ?_;refine kO (fun q16=>?_);refine ae ?_;refine jB (out:=[.int .u8 pn.kind,.string pn.name,.int .u8 f1,.int .i64 f2,.int .u64 f3,.string f4,.slice f5 f6 f7,.slice r1 r2 r3,.int .i64 pn.unit,.bool pn.super,Nz,.slice p1 p2 p3,.slice k1 k2 k3]) Zr Zr (fun r=>?_);refine ae ?_;refine jH (k:=j) (m:=1) (xs:=rows.flatten) (sp:=sp) (ys:=[.int .u8 pn.kind,.string pn.name,.int .u8 f1,.int .i64 f2,.int .u64 f3,.string f4,.slice f5 f6 f7,.slice r1 r2 r3,.int .i64 pn.unit,.bool pn.super,Nz,.slice p1 p2 p3,.slice k1 k2 k3]) Zr Zr hsl0 ZK Zr ?_ rfl Zr Zr Zd Zo (fun eW bE aT=>?_)
   ·exact ET
   have gS:rows.flatten++([.int .u8 pn.kind,.string pn.name,.int .u8 f1,.int .i64 f2,.int .u64 f3,.string f4,.slice f5 f6 f7,.slice r1 r2 r3,.int .i64 pn.unit,.bool pn.super,Nz,.slice p1 p2 p3,.slice k1 k2 k3]:List Value)=(rows++[([.int .u8 pn.kind,.string pn.name,.int .u8 f1,.int .i64 f2,.int .u64 f3,.string f4,.slice f5 f6 f7,.slice r1 r2 r3,.int .i64 pn.unit,.bool pn.super,Nz,.slice p1 p2 p3,.slice k1 k2 k3]:List Value)]).flatten:=by simp
   rw[gS]at aT|-;obtain⟨nU,nV,rfl⟩:=aT.form;refine ae ?_;refine jB (out:=[kF ((V2.map az.q).getD bN.vars.length 0)]) Zr Zr (fun rr2=>?_);refine ae ?_;refine jH (k:=l8.length) (m:=1) (xs:=l8.map fun b=>kM (some b)) (sp:=Nk) (ys:=[kF ((V2.map az.q).getD bN.vars.length 0)]) Zr Zr hvsl0 ZK Zr ?_ rfl Zr Zr Zd Zo (fun vv' Tr Px=>?_)
   ·exact ET
   have hfv:(l8.map fun b=>kM (some b))++[kF ((V2.map az.q).getD bN.vars.length 0)]=(l8++[(V2.map az.q).getD bN.vars.length 0]).map fun b=>kM (some b):=by simp[kM]
   rw[hfv]at Px|-;obtain⟨pa',pc',rfl⟩:=Px.form;have mQ:=hp.inn hy aL H6 ux uy Cv hn aT (.inr ⟨h5,hvl2,rfl,by rw[Vy];exact Px⟩);refine ae ?_;refine⟨_,mQ,by simp only;omega,ZU,?_⟩;simp only;refine ao.cut (M:=[kA mf 0 [.int .u8 (ib s:Nat),.string (lG s),.int .u8 0,.int .i64 0,.int .u64 0,.string e0,.slice none 0 0,.slice none 0 0,.int .i64 0,.bool false,.slice none 0 0,.slice pa' (l8.length+1) pc',.slice nU (j+1) nV],kA fR 0 [.int .u8 0,.string e0,.int .u8 0,.int .i64 0,.int .u64 0,.string e0,.slice none 0 0,.slice none 0 0,.int .i64 0,.bool false,.slice none 0 0,.slice none 0 0,.slice none 0 0],kA X.wq 0 [.map (some X.fb),.map (some X.gb),ow],aj ow (U2.map fun u=>kM (some u.q)) iL,[.obj X.fb (.map X.bG X.fc)],[.obj X.gb (.map X.bL X.gc)],WK U2 V2,T2,[.obj b (.map es c)],X.S,aj (.slice nU (j+1) nV) (rows++[([.int .u8 pn.kind,.string pn.name,.int .u8 f1,.int .i64 f2,.int .u64 f3,.string f4,.slice f5 f6 f7,.slice r1 r2 r3,.int .i64 pn.unit,.bool pn.super,.slice none 0 0,.slice p1 p2 p3,.slice k1 k2 k3]:List Value)]).flatten bE,B,aj (.slice pa' (l8.length+1) pc') ((l8++[(V2.map az.q).getD bN.vars.length 0]).map fun b=>kM (some b)) Tr,B2]) ZI (ao.perm ?_);simp only[Vd,Ve,vm,vj]
   repeat (first|exact vX _ QW|refine vX _ ?_)
  ·skip
   refine ae ?_;refine kL Pa Zr ZP (fun v Post hv=>?_) (fun ch Post hz=>?_);rotate_left
   ·exact zBM
   obtain⟨ow,iL,U2,V2,T2,B2,⟨H6,ux,uy,ws,hv,hn⟩,rfl⟩:=hv;simp only[aJ];obtain⟨pn,Cv⟩:∃pn,pn=(zo X.F X.G y bN env i).1:=⟨_,rfl⟩;rw[<- Cv]at hn;obtain⟨f1,f2,f3,f4,f5,f6,f7,r1,r2,r3,p1,p2,p3,k1,k2,k3,Um⟩:=lr hn;subst Um;have I1:cI (((V2.map az.q).drop bN.vars.length).take y.args.length)=.pointer none:=by
    rw[tq];rfl
   rw[I1]at hv;subst hv;refine ae ?_;refine kO (fun q16=>?_);refine ae ?_;refine jB (out:=[.int .u8 pn.kind,.string pn.name,.int .u8 f1,.int .i64 f2,.int .u64 f3,.string f4,.slice f5 f6 f7,.slice r1 r2 r3,.int .i64 pn.unit,.bool pn.super,Nz,.slice p1 p2 p3,.slice k1 k2 k3]) Zr Zr (fun r=>?_);refine ae ?_;refine jH (k:=j) (m:=1) (xs:=rows.flatten) (sp:=sp) (ys:=[.int .u8 pn.kind,.string pn.name,.int .u8 f1,.int .i64 f2,.int .u64 f3,.string f4,.slice f5 f6 f7,.slice r1 r2 r3,.int .i64 pn.unit,.bool pn.super,Nz,.slice p1 p2 p3,.slice k1 k2 k3]) Zr Zr hsl0 ZK Zr ?_ rfl Zr Zr Zd Zo (fun eW bE aT=>?_)
   ·exact ET
   have gS:rows.flatten++([.int .u8 pn.kind,.string pn.name,.int .u8 f1,.int .i64 f2,.int .u64 f3,.string f4,.slice f5 f6 f7,.slice r1 r2 r3,.int .i64 pn.unit,.bool pn.super,Nz,.slice p1 p2 p3,.slice k1 k2 k3]:List Value)=(rows++[([.int .u8 pn.kind,.string pn.name,.int .u8 f1,.int .i64 f2,.int .u64 f3,.string f4,.slice f5 f6 f7,.slice r1 r2 r3,.int .i64 pn.unit,.bool pn.super,Nz,.slice p1 p2 p3,.slice k1 k2 k3]:List Value)]).flatten:=by simp
   rw[gS]at aT|-;obtain⟨nU,nV,rfl⟩:=aT.form;have mQ:=hp.inn hy aL H6 ux uy Cv hn aT (.inl ⟨h5,rfl,rfl,rfl⟩);exact zAF
end Go.Proofs.YtijnokbblmbpkaaGreatDoor

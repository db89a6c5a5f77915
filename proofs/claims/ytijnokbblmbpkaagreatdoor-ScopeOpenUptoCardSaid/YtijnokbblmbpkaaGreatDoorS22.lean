/-
  Trees that own their memory: rows, a focus; what changes them.
-/
import Derived.Test.YtijnokbblmbpkaaGreatDoorS21
import Derived.Test.YtijnokbblmbpkaaGreatDoorS11
import Derived.Test.YtijnokbblmbpkaaGreatDoorS17
set_option linter.all false
namespace Go.V
open Go
theorem IZ {P:Program}{n:Nat}{rs:List RO}{Γ:Env}{H:SH}{Z:List PanicEntry->Env->SH->Prop}{K:Env->SH->Prop}{d:Option Nat}{t:TypeId}{size bytes:Nat}{zero:List Value}{s x:Operand}{a:Option Addr}{c2:Nat}
 (hs:ev Γ s=some Nz) (hx:ev Γ x=some (.slice a 0 c2)) (h:VO P n rs (ap d Nz Γ) H Z K):VO P n (⟨d,none,.append t size bytes zero s x⟩::rs) Γ H Z K:=by
 refine VO.Yn rfl rfl (fun ρ aK=>⟨_,rfl,?_⟩);rw[aK _ _ hs,aK _ _ hx];simp only[dW];rw[if_pos (show 0+0<=0 by omega)];cases a with
 |none=>
  refine aG.bind (aG.pure ?_);exact aG.pure ⟨_,H,[],.inl rfl,Zs,h⟩
 |some ad=>
  have e0:(Builtin.firstCells size 0 (.slice (some ad) 0 c2):Sem (Array Value))=pure #[]:=by
   simp only[Builtin.firstCells,Qq];rfl
  rw[e0];refine aG.bind (aG.pure ?_);exact aG.pure ⟨_,H,[],.inl rfl,Zs,h⟩
theorem KK(Ls:Nat->List kC)(L':List kC)(j:Nat):∃Ls':Nat->List kC,(∀i,i < j->Ls' i=Ls i)/\Ls' j=L'/\(List.range (j+1)).flatMap Ls'=(List.range j).flatMap Ls++L':=by
 refine⟨fun i=>if i < j then Ls i else L',fun i hi=>if_pos hi,if_neg (Nat.lt_irrefl _),?_⟩;rw[List.range_succ,V6];simp only[List.flatMap_cons,List.flatMap_nil,vg,Nat.lt_irrefl,if_false]
 congr 1
 rw[List.flatMap_def,List.flatMap_def]
 congr 1
 exact Q6 fun i hi=>if_pos (QJ.1 hi)
def iq(l:List Lt)(rows:List (List Value))(K:List kC):Prop:=rows.length=l.length/\(∀r∈rows,r.length=5)/\∃Ls,K=(List.range l.length).flatMap Ls/\∀(i:Nat) x r,l[i]? =some x->rows[i]? =some r->gK x r (Ls i)
theorem iq.nil:iq [] [] []:=⟨rfl,fun r hr=>(by cases hr),fun _=>[],rfl,fun i x r h=>(by simp at h)⟩
theorem DD {α:Type}{l:List α}{z x:α}{i:Nat}(h:(l++[z])[i]? =some x):(i < l.length/\l[i]? =some x)∨(i=l.length/\x=z):=by
 have hi:=(Vm.1 h).1;rw[Vt,Q3]at hi;by_cases e:i < l.length
 ·rw[Vd e]at h;exact .inl ⟨e,h⟩
 ·have:i=l.length:=by omega
  subst this;rw[Ve (Qh _),Qn]at h;simp only[Vh,Qy]at h;exact .inr ⟨rfl,h.symm⟩
theorem iq.snoc {l:List Lt}{rows:List (List Value)}{K:List kC}(h:iq l rows K){x:Lt}{r:List Value}{L:List kC}(hx:gK x r L):iq (l++[x]) (rows++[r]) (K++L):=by
 obtain⟨h1,h2,Ls,rfl,h3⟩:=h;obtain⟨Ls',e1,e2,e3⟩:=KK Ls L l.length;refine⟨by simp[h1],fun r' G7=>?_,Ls',by rw[Vt,Q3,e3],fun i y r' hy G7=>?_⟩
 ·rcases QA.1 G7 with h|h
  ·exact h2 r' h
  ·rw[QK.1 h];exact hx.rd.len
 ·rcases DD hy with⟨hi,hy⟩|⟨rfl,rfl⟩
  ·rcases DD G7 with⟨_,G7⟩|⟨e,_⟩
   ·rw[e1 i hi];exact h3 i y r' hy G7
   ·omega
  ·rcases DD G7 with⟨e,_⟩|⟨_,rfl⟩
   ·omega
   ·rw[e2];exact hx
theorem gK.of {k:Nat}{n:Int}{b:Nat}{t:ByteArray}{items:List Lt}{sv:Value}{rows:List (List Value)}{sp:List Value}{K:List kC}(bF:jG 5 sv items.length rows.flatten sp)(h:iq items rows K)(wf:MP k n b t items.length):
 gK (.mk k n b t items) [cv k,vi n,uv b,.string t,sv] (ai sv rows.flatten sp++K):=by
 obtain⟨h1,h2,Ls,rfl,h3⟩:=h;exact .mk bF h1 h2 h3 wf (vX _)
theorem gK.parts {x:Lt}{vs:List Value}{L:List kC}(h:gK x vs L):∃sv rows sp K,vs=[cv x.kind,vi x.n,uv x.bits,.string x.text,sv]/\jG 5 sv x.items.length rows.flatten sp/\iq x.items rows K/\MP x.kind x.n x.bits x.text x.items.length/\L.Perm (ai sv rows.flatten sp++K):=by
 cases h with
 |mk bF hl h5 hr wf hL=>exact⟨_,_,_,_,rfl,bF,⟨hl,h5,_,rfl,hr⟩,wf,hL⟩
structure Foc (p9:Nat)(x0:Nd)(M:List kC)(b o:Nat)(x:Nd)(vs:List Value)(L R:List kC):Prop where
 own:Ed x vs L
 here:M.Perm (kA b o vs++(L++R))
 w:x.w<=x0.w
 back:∀y ws L',Ed y ws L'->OU x y=false->OU y x=false->∃z us Lz,OU x0 z=false/\OU z x0=false/\Ed z us Lz/\(kA b o ws++(L'++R)).Perm (kA p9 0 us++Lz)
section
variable {H:Type} {enc:TypeId×Value->H} {P:Program} {bulk:DataW H->Nat}
open Go.ChangeShapes Go.WideShapes Go.Deep
end
end Go.V
namespace Go.Proofs.YtijnokbblmbpkaaGreatDoor
open Go Go.V
set_option maxHeartbeats 3200000
set_option maxRecDepth 100000
theorem xU {A:List kC}{x:Lt}{vs:List Value}(h:zw A x vs):∃(e:Option Addr) (c:Nat),vs=[cv x.kind,vi x.n,uv x.bits,.string x.text,.slice e x.items.length c]:=by
 cases h with
 |mk wf ha hm hr=>exact⟨_,_,rfl⟩
theorem L1(A:List kC):∀(N:Nat) (x:Lt),x.size<=N->x.size<=274877906944->∀vs,zw A x vs->aq Tryz.prog 208 [.agg vs.toArray] [A] (fun v Post=>∃ws B,v=.agg ws.toArray/\gK x ws B/\Post=[A,B]):=by
 intro N
 induction N with
 |zero=>intro x hx;have:=x.size_pos;omega
 |succ N ih=>
  intro x hx hb vs h;cases h with
  |@mk k n b t items a c bk o us wf ha hm hr=>
  simp only[Lt.size]at hx hb;have JF:=Ru items;refine aq.intro abb (by simp[n208]) ?_;refine ae ?_;refine kY Zr (fun q=>?_);simp only[Value.cells];refine kN (fun q2=>?_);refine ae ?_;refine VC.loop (α:=Nat×Value×List (List Value)×List Value×List kC) (bn:=fun s=>[(1,kF q),(2,kF q2),(9,.slice a items.length c),(10,vi items.length),(11,vi s.1)]) (Hf:=fun s=>[kA q 0 [cv k,vi n,uv b,.string t,s.2.1],ai s.2.1 s.2.2.1.flatten s.2.2.2.1,s.2.2.2.2,kA q2 0 [.int .u8 0,.int .i64 0,.int .u64 0,.string ⟨#[]⟩,Nz],A])
   (I:=fun s=>s.1<=items.length/\jG 5 s.2.1 s.1 s.2.2.1.flatten s.2.2.2.1/\iq (items.take s.1) s.2.2.1 s.2.2.2.2) (μ:=fun s=>items.length - s.1) (0,Nz,[],[],[]) ⟨Qp _,.nil,iq.nil⟩ ZU (ao.cut (M:=[kA q 0 [cv k,vi n,uv b,.string t,Nz],kA q2 0 [.int .u8 0,.int .i64 0,.int .u64 0,.string ⟨#[]⟩,Nz],A]) ZI (ao.perm (by simp[ai]))) ?_
  rintro⟨j,sv,rows,sp,B⟩ ⟨i1,i2,i3⟩
  simp only at i1 i2 i3;dsimp only;obtain⟨sa,sc,rfl⟩:=i2.form;refine ae ?_;by_cases hj:j < items.length;rotate_left
  ·rw[show decide ((j:Int) < (items.length:Int))=false from Zf Zo];have Ba:j=items.length:=by omega
   subst Ba;rw[List.take_length]at i3;have NO:=gK.of i2 i3 wf;refine ae ?_;exact⟨.inr rfl,[.agg #[cv k,vi n,uv b,.string t,.slice sa items.length sc]],[A,ai (.slice sa items.length sc) rows.flatten sp++B],.aJ (us:=[cv k,vi n,uv b,.string t,.slice sa items.length sc]) Zr Zr (fun y hy=>by simp only[V9,QA];repeat (first|exact Or.inl hy|refine Or.inr ?_)) .nil,ao.cut (M:=[A,ai (.slice sa items.length sc) rows.flatten sp,B]) ZI (ao.perm Zs),⟨_,_,rfl,NO,rfl⟩⟩
  obtain rfl:=ha Zo;rw[show decide ((j:Int) < (items.length:Int))=true from Zt Zo];obtain⟨y,hy⟩:∃y,items[j]? =some y:=⟨_,Zg hj⟩;have cH:=hm j hj;have bL:=hr j y hy;have eu:=Lt.aD (Zv hy);have aE:=ih y Zo Zo (us j) bL;generalize us j=uj at*;obtain⟨e1,c1,rfl⟩:=xU bL;refine ae ?_;refine kX Zr (fun z hz=>by have h9:=cH z hz;simp[h9]) rfl ?_;refine ae ?_;refine kN (fun q5=>?_);refine ae ?_;refine VC.draws ⟨?_,?_,trivial⟩
  all_goals
   refine ae ?_;refine kJ aE Zr ZP (fun v Post hv=>?_);obtain⟨ws,B2,rfl,hw,rfl⟩:=hv;simp only[aH];have hwr:=hw.rd;obtain⟨e2,c2,rfl⟩:=xU hwr;have hsn:=i3.snoc hw;rw[show items.take j++[y]=items.take (j+1) by rw[QX,hy];rfl]at hsn;refine ae ?_;refine jE (out:=[cv y.kind,vi y.n,uv y.bits,.string y.text,.slice e2 y.items.length c2]) Zr Zr (fun r=>?_);refine jK (k:=j) (m:=1) (xs:=rows.flatten) (sp:=sp) (ys:=[cv y.kind,vi y.n,uv y.bits,.string y.text,.slice e2 y.items.length c2]) Zr Zr i2 ZK Zr ?_ rfl Zr Zr Zd Zo (fun eK bE aR=>?_)
   ·exact Eg
   have fG:rows.flatten++[cv y.kind,vi y.n,uv y.bits,.string y.text,.slice e2 y.items.length c2]=(rows++[[cv y.kind,vi y.n,uv y.bits,.string y.text,.slice e2 y.items.length c2]]).flatten:=by simp
   rw[fG]at aR|-;obtain⟨va,vc,rfl⟩:=aR.form;refine ae ?_;refine⟨(j+1,.slice va (j+1) vc,rows++[[cv y.kind,vi y.n,uv y.bits,.string y.text,.slice e2 y.items.length c2]],bE,B++B2),⟨by simp only;omega,aR,hsn⟩,by simp only;omega,ZU,?_⟩;simp only;refine ao.cut (M:=[kA q 0 [cv k,vi n,uv b,.string t,.slice va (j+1) vc],ai (.slice va (j+1) vc) (rows++[[cv y.kind,vi y.n,uv y.bits,.string y.text,.slice e2 y.items.length c2]]).flatten bE,B,B2,kA q2 0 [.int .u8 0,.int .i64 0,.int .u64 0,.string ⟨#[]⟩,Nz],A]) ZI (ao.perm Zs)
set_option maxHeartbeats 12800000
def oU(k:Int)(nm:ByteArray)(vv kv:Value):List Value:=[.int .u8 k,.string nm,.int .u8 0,.int .i64 0,.int .u64 0,.string e0,Nz,Nz,.int .i64 0,.bool false,Nz,vv,kv]
structure SpS where
 j:Nat
 st:ah
 us:Value
 bz:List Value
 U:List UC
 V:List ax
 T:List kC
 sv:Value
 rows:List (List Value)
 sp:List Value
 B:List kC
 Wj:List PN
 vv:Value
 lG:List Nat
 Mh:List Value
 rs:List zj
structure SR (X:Fix)(nm:ByteArray)(l:List Nd)(st:ah)(env:List Nat)(i:Nat)(q:Nat)(Uq Vq:List Nat)(s:SpS):Prop where
 j:s.j<=l.length
 u:∃w,s.U[i]? =some w/\w.q=q
 ok:gM s.st s.us s.bz s.U s.V s.T
 gr:Gr st s.st
 pU:Uq <+:s.U.map UC.q
 pV:Vq <+:s.V.map ax.q
 room:Room s.st (jN (l.drop s.j))
 e3:(jA X.F X.G nm l 0 st env i).2.2=(jA X.F X.G nm (l.drop s.j) s.j s.st env i).2.2
 e1:(jA X.F X.G nm l 0 st env i).1=s.Wj++(jA X.F X.G nm (l.drop s.j) s.j s.st env i).1
 e2:(jA X.F X.G nm l 0 st env i).2.1=s.rs++(jA X.F X.G nm (l.drop s.j) s.j s.st env i).2.1
 pl:s.Wj.length=s.j
 sl:jG 13 s.sv s.j s.rows.flatten s.sp
 rw:zW s.B (s.V.map ax.q) s.Wj s.rows
 vsl:jG 1 s.vv s.lG.length (s.lG.map fun b=>kM (some b)) s.Mh
 raw:∀r∈s.rs,∃v,r=dH v/\v < (s.V.map ax.q).length
 lG:s.lG=s.rs.map fun r=>(s.V.map ax.q).getD r.index.toNat 0
 few:s.rs.length<=s.j
theorem sF {U U':List UC}{i:Nat}{w:UC}(hw:U[i]? =some w)(h:U.map UC.q <+:U'.map UC.q):∃w',U'[i]? =some w'/\w'.q=w.q:=by
 obtain⟨t,ht⟩:=h;have h1:(U.map UC.q)[i]? =some w.q:=by rw[Vn,hw];rfl
 have h2:(U'.map UC.q)[i]? =some w.q:=by rw[<- ht,Vd (Vm.1 h1).1];exact h1
 rw[Vn]at h2;exact Qu.1 h2
theorem Bz {qs Ax:List Nat}{rs:List zj}(h:∀r∈rs,∃v,r=dH v/\v < qs.length)(hq:qs <+:Ax):(∀r∈rs,∃v,r=dH v/\v < Ax.length)/\(rs.map fun r=>Ax.getD r.index.toNat 0)=rs.map fun r=>qs.getD r.index.toNat 0:=by
 refine⟨fun r hr=>let⟨v,h1,h2⟩:=h r hr;⟨v,h1,Qk h2 hq.length_le⟩,Q6 fun r hr=>?_⟩;obtain⟨v,rfl,hv⟩:=h r hr;exact zDK
theorem LR {qs:List Nat}{rs:List zj}(h:∀r∈rs,∃v,r=dH v/\v < qs.length):ed rs=rs/\wz rs=[]/\zv qs rs:=by
 refine⟨V0.2 fun r hr=>?_,vz.2 fun r hr=>?_,.inl fun r hr=>?_,fun r hr _=>h r hr⟩
 ·obtain⟨v,rfl,_⟩:=h r hr;rfl
 ·obtain⟨v,rfl,_⟩:=h r hr;simp[dH]
 ·obtain⟨v,rfl,_⟩:=h r hr;rfl
section
variable {X:Fix} {nm:ByteArray} {l:List Nd} {st:ah} {env:List Nat} {i q:Nat} {Uq Vq:List Nat} {s:SpS}
theorem SR.out(h:SR X nm l st env i q Uq Vq s){y:Nd}(hy:l[s.j]? =some y)(aY:dU nm s.j=false){GJ:Value}{ij:List Value}{U2:List UC}{V2:List ax}{T2 B2:List kC}(hS:gM (jH X.F X.G y s.st env i).2 GJ ij U2 V2 T2)(hU:s.U.map UC.q <+:U2.map UC.q)(hV:s.V.map ax.q <+:V2.map ax.q)
 {ws:List Value} {pn:PN} (Bf:pn=(jH X.F X.G y s.st env i).1) (hn:uJ B2 (V2.map ax.q) pn ws) {eK:Value} {bE:List Value} (bF:jG 13 eK (s.j+1) (s.rows++[ws]).flatten bE):
 SR X nm l st env i q Uq Vq ⟨s.j+1,(jH X.F X.G y s.st env i).2,GJ,ij,U2,V2,T2,eK,s.rows++[ws],bE,s.B++B2,s.Wj++[pn],s.vv,s.lG,s.Mh,s.rs⟩:=by
 subst Bf;have aO:=(Vm.1 hy).1;have NH:l.drop s.j=y::l.drop (s.j+1):=by
  exact zDI
 obtain⟨h1,h2,h3,h4,h5,h6,h7,h8,h9,xn,Nu,YX,h13,h14,h15,h16,h17⟩:=h;rw[NH]at h7 h8 h9 xn;simp only[jN]at h7;rw[zy _ _ _ _ _ _ _ _ _ aY]at h8 h9 xn;have hl:=(mY X.F X.G _ y (Qh _) s.st env i).1;obtain⟨w,hw,po⟩:=h2;obtain⟨w',rX,Z5⟩:=sF hw hU;obtain⟨r1,r2⟩:=Bz h15 hV;exact⟨aO,⟨w',rX,Z5.trans po⟩,hS,h4.trans (zo X.F X.G _ y (Qh _) s.st env i).1,h5.trans hU,h6.trans hV,h7.less hl,h8,by rw[h9];simp,xn,by simp[Nu],bF,(h13.more (fun x hx=>Zw _ hx) hV).snoc (hn.more (fun x hx=>QB _ hx) (QV _)),h14,r1,h16.trans r2.symm,by simp only;omega⟩
theorem SR.inn(h:SR X nm l st env i q Uq Vq s){y:Nd}(hy:l[s.j]? =some y)(aY:dU nm s.j=true){GJ:Value}{ij:List Value}{U2:List UC}{V2:List ax}{T2 B2:List kC}(hS:gM (cI X.F X.G y s.st env i).2 GJ ij U2 V2 T2)(hU:s.U.map UC.q <+:U2.map UC.q)(hV:s.V.map ax.q <+:V2.map ax.q)
 {ws:List Value} {pn:PN} (Bf:pn=(cI X.F X.G y s.st env i).1) (hn:uJ B2 (V2.map ax.q) pn ws) {eK:Value} {bE:List Value} (bF:jG 13 eK (s.j+1) (s.rows++[ws]).flatten bE)
 {vv':Value} {R3:List Value} {LN:List Nat} (hp:(jP nm≠5/\vv'=s.vv/\R3=s.Mh/\LN=s.lG)∨(jP nm=5/\s.st.vars.length < (V2.map ax.q).length/\LN=s.lG++[(V2.map ax.q).getD s.st.vars.length 0]/\jG 1 vv' LN.length (LN.map fun b=>kM (some b)) R3)):
 SR X nm l st env i q Uq Vq ⟨s.j+1,(cI X.F X.G y s.st env i).2,GJ,ij,U2,V2,T2,eK,s.rows++[ws],bE,s.B++B2,s.Wj++[pn],vv',LN,R3,s.rs++(if jP nm=5 then [dH s.st.vars.length]else [])⟩:=by
 subst Bf;have aO:=(Vm.1 hy).1;have NH:l.drop s.j=y::l.drop (s.j+1):=by
  exact zDI
 obtain⟨h1,h2,h3,h4,h5,h6,h7,h8,h9,xn,Nu,YX,h13,h14,h15,h16,h17⟩:=h;rw[NH]at h7 h8 h9 xn;simp only[jN]at h7;rw[dM _ _ _ _ _ _ _ _ _ aY]at h8 h9 xn;have hl:=(mY X.F X.G _ y (Qh _) s.st env i).2;obtain⟨w,hw,po⟩:=h2;obtain⟨w',rX,Z5⟩:=sF hw hU;obtain⟨r1,r2⟩:=Bz h15 hV;refine⟨aO,⟨w',rX,Z5.trans po⟩,hS,h4.trans (zo X.F X.G _ y (Qh _) s.st env i).2,h5.trans hU,h6.trans hV,h7.less hl,h8,by rw[h9];simp,?_,by simp[Nu],bF,(h13.more (fun x hx=>Zw _ hx) hV).snoc (hn.more (fun x hx=>QB _ hx) (QV _)),?_,?_,?_,?_⟩
 ·rw[xn];simp only;split <;> simp
 ·rcases hp with⟨_,rfl,rfl,rfl⟩|⟨_,_,_,k⟩
  ·exact h14
  ·exact k
 ·intro r hr;rcases QA.1 hr with hr|hr
  ·exact r1 r hr
  ·rcases hp with⟨k,_⟩|⟨k,k2,_⟩
   ·rw[if_neg k]at hr;cases hr
   ·rw[if_pos k,QK]at hr;exact⟨_,hr,k2⟩
 ·show LN=_;rw[Q5,r2,<- h16];rcases hp with⟨k,_,_,k2⟩|⟨k,_,k2,_⟩
  ·rw[if_neg k,k2];simp
  ·rw[if_pos k,k2];show _=s.lG++[(V2.map ax.q).getD ((s.st.vars.length:Int)).toNat 0];rw[vT]
 ·show(s.rs++_).length<=s.j+1;rw[Vt];split
  ·rw[Q3];omega
  ·rw[Q0];omega
theorem SR.fin(h:SR X nm l st env i q Uq Vq s)(hj:s.j=l.length):gM (jA X.F X.G nm l 0 st env i).2.2 s.us s.bz s.U s.V s.T/\
 uJ (ai s.sv s.rows.flatten s.sp++(s.B++ai s.vv (s.lG.map fun b=>kM (some b)) s.Mh)) (s.V.map ax.q) (.mk (iS nm) (iT nm) fP (jA X.F X.G nm l 0 st env i).2.1 0 false (jA X.F X.G nm l 0 st env i).1) (oU (iS nm:Nat) (iT nm) s.vv s.sv):=by
 obtain⟨h1,h2,h3,h4,h5,h6,h7,h8,h9,xn,Nu,YX,h13,h14,h15,h16,h17⟩:=h;rw[hj,List.drop_length,jA]at h8 h9 xn;simp only[vg]at h9 xn;rw[h8,h9,xn];refine⟨h3,?_⟩;obtain⟨k1,k2,k3⟩:=LR h15;rw[<- Nu]at YX;have:=x4 (k:=iS nm) (nm:=iT nm) (lit:=fP) (refs:=s.rs) (unit:=0) (iU:=false) (rv:=Nz) (vv:=s.vv) (B:=s.B++ai s.vv (s.lG.map fun b=>kM (some b)) s.Mh) YX (h13.more (fun x hx=>Zw _ hx) (QV _)) (oO _) (by rw[k2];exact w8.nil _) (by
  rw[k1,<- h16];exact(gZ rfl h14).more (fun x hx=>QB _ hx)) k3
 exact this
end
theorem Jx(F G:List ByteArray)(nm:ByteArray)(env:List Nat)(u:Nat):∀(l:List Nd) (i:Nat) (st:ah),Gr st (jA F G nm l i st env u).2.2:=by
 intro l
 induction l with
 |nil=>intro i st;rw[jA];exact Gr.refl _
 |cons y q ihq=>
  intro i st;obtain⟨k1,k2⟩:=zo F G _ y (Qh _) st env u;cases hi:dU nm i with
  |true=>rw[dM _ _ _ _ _ _ _ _ _ hi];exact k2.trans (ihq _ _)
  |false=>rw[zy _ _ _ _ _ _ _ _ _ hi];exact k1.trans (ihq _ _)
theorem Of {nm:ByteArray}{kids:List Nd}(hf:ej (jP nm) kids=true){i:Nat}{y:Nd}(hy:kids[i]? =some y)(hi:dU nm i=true):(jP nm=5/\y.args.length=1)∨(jP nm≠5/\y.args.length=0):=by
 have hl:=(Vm.1 hy).1;rw[xK hf hl]at hi;simp only[vF,decide_eq_true_eq]at hi;have hle:=ur nm;generalize jP nm=n at hf hi hle;have hn:n=0∨n=5∨(n=1∨n=2∨n=3∨n=4):=by omega
 rcases hn with rfl|rfl|hn
 ·cases hf
 ·obtain⟨h1,b,h2,h3,h4⟩:=Nr hf;simp only[jB,io]at hi;obtain rfl:i=2:=by omega
  rw[hy]at h2;rw[Qx h2];exact .inl ⟨rfl,h4⟩
 ·cases hp:jq y with
  |true=>exact .inr ⟨Zo,(yg hp).2⟩
  |false=>
   have:=CM hn hi.1 hy hp;rw[hf]at this;cases this
theorem Og(F G:List ByteArray)(y:Nd)(st:ah)(env:List Nat)(u:Nat):st.vars.length+y.args.length<=(cI F G y st env u).2.vars.length:=by
 cases y with
 |mk k s lit args ab kids p=>
 rw[iE];obtain⟨f1,f2,f3,f4⟩:=jv u true false p args 0 st env;have g:=zT u false false p ab 0 (kQ u true false p args 0 st env).1 (kQ u true false p args 0 st env).2;have g2:=wn F G kids (kQ u false false p ab 0 (kQ u true false p args 0 st env).1 (kQ u true false p args 0 st env).2).1 (kQ u false false p ab 0 (kQ u true false p args 0 st env).1 (kQ u true false p args 0 st env).2).2 u;have h1:=g.vars.length_le;have h2:=g2.vars.length_le;show st.vars.length+args.length<=_;simp only;omega
theorem Ds:∀l:List Nd,l.length<=Nd.aw l:=by
 intro l
 induction l with
 |nil=>exact Qh _
 |cons x r ih=>have:=x.size_pos;simp only[Nd.aw,Vu];omega
theorem DE(X:Fix)(l1 l2 l3 l4 l5 vk av tv:Value)(s:ByteArray)(kids:List Nd)(a:Option Addr)(ac bk ko:Nat)(ks:Nat->List Value)(K2:kids.length < 1073741824)(ha:0 < kids.length->a=some ⟨bk,ko,none⟩)(hm:∀i,i < kids.length->∀y∈kA bk (ko+i*11) (ks i),y∈X.S)(hr:∀i x,kids[i]? =some x->jJ X.S x (ks i))(N:Nat)(hN:Nd.aw kids<=N)(hN2:N < 1073741824)(mT:qh kids=true)(aM:∀x,x.size<=N->O8 x=true->∀vs,jJ X.S x vs->ot X x vs)(p:Int)(CU:ej (jP s) kids=true)
 (st:ah) (us:Value) (bz:List Value) (U:List UC) (Vs:List ax) (T:List kC) (hS:gM st us bz U Vs T) (i:Nat) (u:UC) (hu:U[i]? =some u) (env:List Nat) (b:Nat) (es:Array MapEntry) (c:Nat) (hs:z7 st Vs env es c) (DY:∀v∈env,st.af v∈st.line i) (bV:Room st (jN kids)):
 rp X 207 [kF X.wq,.agg #[vk,.string s,l1,l2,l3,l4,l5,av,tv,.slice a kids.length ac,.int .i64 p],vi (jB (jP s)),vi (io (jP s)),kF u.q,.map (some b)] st (jA X.F X.G s kids 0 st env i).2.2 us bz U Vs T b es c (Xa (.mk (iS s) (iT s) fP (jA X.F X.G s kids 0 st env i).2.1 0 false (jA X.F X.G s kids 0 st env i).1)):=by
 have E7:jP s=1∨jP s=2∨jP s=3∨jP s=4∨jP s=5:=by
  have h1:=ur s;have h2:jP s≠0:=fun e=>by rw[e]at CU;cases CU
  omega
 have Sy:s=nmTo↔jP s=5:=by
  constructor
  ·rintro rfl;decide
  ·intro h;unfold jP at h
   repeat' split at h
   all_goals first|omega|assumption
 refine jf.intro aba (by simp[n207]) ?_;refine VC.join (α:=Nat×Nat) (bn:=fun q=>[(0,kF X.wq),(2,vi (jB (jP s))),(3,vi (io (jP s))),(4,kF u.q),(5,.map (some b)),(7,kF q.1),(12,kF q.2)]) (Hf:=fun q=>[kA q.2 0 (oU 0 e0 Nz Nz),kA q.1 0 [vk,.string s,l1,l2,l3,l4,l5,av,tv,.slice a kids.length ac,.int .i64 p],kA X.wq 0 [.map (some X.fb),.map (some X.gb),us],ai us (U.map fun u=>kM (some u.q)) bz,[.obj X.fb (.map X.bI X.fc)],[.obj X.gb (.map X.bM X.gc)],WK U Vs,T,[.obj b (.map es c)],X.S]) (I:=fun _=>True) ?_ ?_
 ·refine ae ?_;refine kY Zr (fun q7=>?_);simp only[Value.cells];refine kN (fun eF=>?_);refine ae ?_;exact⟨(q7,eF),trivial,ZU,by unfold oU e0;exact bQ⟩
 rintro⟨q7,eF⟩ _
 dsimp only;refine VC.join (α:=Nat) (bn:=fun IH=>[(0,kF X.wq),(2,vi (jB (jP s))),(3,vi (io (jP s))),(4,kF u.q),(5,.map (some b)),(7,kF q7),(12,kF eF),(13,kF IH)]) (Hf:=fun IH=>[kA IH 0 (oU 11 s Nz Nz),kA eF 0 (oU 0 e0 Nz Nz),kA q7 0 [vk,.string s,l1,l2,l3,l4,l5,av,tv,.slice a kids.length ac,.int .i64 p],kA X.wq 0 [.map (some X.fb),.map (some X.gb),us],ai us (U.map fun u=>kM (some u.q)) bz,[.obj X.fb (.map X.bI X.fc)],[.obj X.gb (.map X.bM X.gc)],WK U Vs,T,[.obj b (.map es c)],X.S]) (I:=fun _=>True) ?_ (fun IH _=>?_)
 ·refine ae ?_;refine kN (fun IH=>?_);refine ae ?_;exact⟨IH,trivial,ZU,by unfold oU e0;exact bQ⟩
 refine VC.join (α:=Unit) (bn:=fun _=>[(0,kF X.wq),(2,vi (jB (jP s))),(3,vi (io (jP s))),(4,kF u.q),(5,.map (some b)),(7,kF q7),(12,kF eF),(13,kF IH)]) (Hf:=fun _=>[kA IH 0 (oU (iS s:Nat) (iT s) Nz Nz),kA eF 0 (oU 0 e0 Nz Nz),kA q7 0 [vk,.string s,l1,l2,l3,l4,l5,av,tv,.slice a kids.length ac,.int .i64 p],kA X.wq 0 [.map (some X.fb),.map (some X.gb),us],ai us (U.map fun u=>kM (some u.q)) bz,[.obj X.fb (.map X.bI X.fc)],[.obj X.gb (.map X.bM X.gc)],WK U Vs,T,[.obj b (.map es c)],X.S]) (I:=fun _=>True) ?_ (fun _ _=>?_)
 ·unfold oU;refine ae ?_;rcases E7 with h|h|h|h|h
  ·exact zB8
  ·exact zB8
  ·exact zBZ
  ·exact zBZ
  ·have hf:jB (jP s)=2:=by rw[h];rfl
   have e1:iS s=13:=by simp[iS,h]
   have e2:iT s=e0:=by simp[iT,h]
   rw[e1,e2];rw[show decide ((jB (jP s):Int)=0)=false from Zf Zo];refine ae ?_;rw[show decide (s=⟨#[116,111,58,100,111,58]⟩)=true from Zt (Sy.2 h)];refine ae ?_;exact⟨(),trivial,ZU,by simp only[e0];exact ao.refl _⟩
 refine ae ?_;refine VC.loop (α:=SpS) (bn:=fun p=>[(0,kF X.wq),(2,vi (jB (jP s))),(3,vi (io (jP s))),(4,kF u.q),(5,.map (some b)),(12,kF eF),(13,kF IH),(36,.slice a kids.length ac),(37,vi kids.length),(38,vi p.j)])
  (Hf:=fun p=>[kA IH 0 (oU (iS s:Nat) (iT s) p.vv p.sv),kA eF 0 (oU 0 e0 Nz Nz),kA X.wq 0 [.map (some X.fb),.map (some X.gb),p.us],ai p.us (p.U.map fun u=>kM (some u.q)) p.bz,[.obj X.fb (.map X.bI X.fc)],[.obj X.gb (.map X.bM X.gc)],WK p.U p.V,p.T,[.obj b (.map es c)],X.S,ai p.sv p.rows.flatten p.sp,p.B,ai p.vv (p.lG.map fun b=>kM (some b)) p.Mh]) (I:=SR X s kids st env i u.q (U.map UC.q) (Vs.map ax.q)) (μ:=fun p=>kids.length - p.j) ⟨0,st,us,bz,U,Vs,T,Nz,[],[],[],[],Nz,[],[],[]⟩
  ⟨Qp _,⟨u,hu,rfl⟩,hS,Gr.refl st,QV _,QV _,bV,rfl,rfl,rfl,rfl,.nil,zW.nil _ _,.nil,Zs,rfl,Qh _⟩ ZU (ao.cut (M:=[kA IH 0 (oU (iS s:Nat) (iT s) Nz Nz),kA eF 0 (oU 0 e0 Nz Nz),kA X.wq 0 [.map (some X.fb),.map (some X.gb),us],ai us (U.map fun u=>kM (some u.q)) bz,[.obj X.fb (.map X.bI X.fc)],[.obj X.gb (.map X.bM X.gc)],WK U Vs,T,[.obj b (.map es c)],X.S]) ZI (ao.perm (by simp[ai]))) ?_
 rintro⟨j,bN,AI,nY,U1,V1,T1,sv,rows,sp,B,Wj,vv,lG,Mh,rs⟩ hp
 have Ba:j<=kids.length:=hp.j;obtain⟨sa,sc,gq⟩:∃sa sc,sv=.slice sa j sc:=hp.sl.form;obtain⟨pa,pc,hvv⟩:∃pa pc,vv=.slice pa lG.length pc:=hp.vsl.form;obtain⟨w,hw,po⟩:∃w,U1[i]? =some w/\w.q=u.q:=hp.u;subst gq;subst hvv;dsimp only;unfold oU;refine ae ?_;by_cases aO:j < kids.length;rotate_left
 ·rw[show decide ((j:Int) < (kids.length:Int))=false from Zf Zo];obtain⟨f1,f2⟩:=hp.fin (by show j=kids.length;omega);refine ae ?_;refine jM ⟨.inr rfl,_,[kA X.wq 0 [.map (some X.fb),.map (some X.gb),AI],ai AI (U1.map fun u=>kM (some u.q)) nY,[.obj X.fb (.map X.bI X.fc)],[.obj X.gb (.map X.bM X.gc)],WK U1 V1,T1,[.obj b (.map es c)],X.S,ai (.slice sa j sc) rows.flatten sp++(B++ai (.slice pa lG.length pc) (lG.map fun b=>kM (some b)) Mh)],.aJ (us:=oU (iS s:Nat) (iT s) (.slice pa lG.length pc) (.slice sa j sc)) Zr Zr (fun y hy=>by simp only[V9,QA];repeat (first|exact Or.inl hy|refine Or.inr ?_)) .nil,?_,⟨AI,nY,U1,V1,T1,_,⟨f1,hp.pU,hp.pV,_,rfl,f2⟩,rfl⟩⟩;refine ao.cut (M:=[kA X.wq 0 [.map (some X.fb),.map (some X.gb),AI],ai AI (U1.map fun u=>kM (some u.q)) nY,[.obj X.fb (.map X.bI X.fc)],[.obj X.gb (.map X.bM X.gc)],WK U1 V1,T1,[.obj b (.map es c)],X.S,ai (.slice sa j sc) rows.flatten sp,B,ai (.slice pa lG.length pc) (lG.map fun b=>kM (some b)) Mh]) ZI (ao.perm Zs)
 rw[show decide ((j:Int) < (kids.length:Int))=true from Zt Zo];obtain rfl:=ha Zo;obtain⟨y,hy⟩:∃y,kids[j]? =some y:=⟨_,Zg aO⟩;have cH:=hm j aO;have bL:=hr j y hy;have Oa:y.size<=N:=by have:=Nd.aD (Zv hy);omega
 have ζ:=mi mT (Zv hy);have hoy:=aM y Oa ζ;have hiq:=xK CU aO;generalize ks j=kj at*;refine ae ?_;obtain⟨e1,e2,e3,e4,e5,e6,e7,a1,c1,a2,c2,a3,c3,Yx,o2,GJ,rfl,oL,bK,bG,hk8,HP,rV,dS,hcp2⟩:=fk bL;refine kX Zr (fun z hz=>by have h9:=cH z hz;simp[h9]) rfl ?_;refine jD ?_;refine kN (fun q15=>?_);refine jD ?_;refine VC.seq ?_;refine VC.join (α:=Unit) (bn:=fun _=>[(0,kF X.wq),(2,vi (jB (jP s))),(3,vi (io (jP s))),(4,kF u.q),(5,.map (some b)),(12,kF eF),(13,kF IH),(15,kF q15),(36,.slice (some ⟨bk,ko,none⟩) kids.length ac),(37,vi kids.length),(38,vi j),(50,.bool (!dU s j))])
  (Hf:=fun _=>[kA q15 0 (rN y.kind y.name e1 e2 e3 e4 e5 e6 e7 a1 y.args.length c1 a2 y.ab.length c2 a3 y.kids.length c3 y.at_),kA IH 0 [.int .u8 (iS s:Nat),.string (iT s),.int .u8 0,.int .i64 0,.int .u64 0,.string e0,Nz,Nz,.int .i64 0,.bool false,Nz,.slice pa lG.length pc,.slice sa j sc],kA eF 0 [.int .u8 0,.string e0,.int .u8 0,.int .i64 0,.int .u64 0,.string e0,Nz,Nz,.int .i64 0,.bool false,Nz,Nz,Nz],kA X.wq 0 [.map (some X.fb),.map (some X.gb),AI],ai AI (U1.map fun u=>kM (some u.q)) nY,[.obj X.fb (.map X.bI X.fc)],[.obj X.gb (.map X.bM X.gc)],WK U1 V1,T1,[.obj b (.map es c)],X.S,ai (.slice sa j sc) rows.flatten sp,B,ai (.slice pa lG.length pc) (lG.map fun b=>kM (some b)) Mh]) (I:=fun _=>True) ?_ (fun _ _=>?_)
 ·rw[hiq];refine ae ?_;by_cases c1:(j:Int) < (jB (jP s):Int)
  ·rw[Zt c1,show decide (jB (jP s)<=j)=false from Zf Zo];refine ae ?_;exact⟨(),trivial,ZU,ao.refl _⟩
  ·rw[Zf c1,show decide (jB (jP s)<=j)=true from Zt Zo];refine ae ?_;by_cases c2:(io (jP s):Int)<=(j:Int)
   ·rw[Zt c2,show decide (j < io (jP s))=false from Zf Zo];refine ae ?_;exact⟨(),trivial,ZU,ao.refl _⟩
   ·rw[Zf c2,show decide (j < io (jP s))=true from Zt Zo];refine ae ?_;exact⟨(),trivial,ZU,ao.refl _⟩
 have Sx:Room bN (jN (kids.drop j)):=hp.room;have NH:kids.drop j=y::kids.drop (j+1):=by
  exact zDI
 rw[NH]at Sx;simp only[jN]at Sx;have KQ:gM bN AI nY U1 V1 T1:=hp.ok;have DW:Gr st bN:=hp.gr;have hpV:Vs.map ax.q <+:V1.map ax.q:=hp.pV;have et:i < st.outer.length:=by have:=(Vm.1 hu).1;rw[hS.rep.ul]at this;exact this
 have ud:=hs.more DW.vars hpV hS.rep.vl;have Tx:∀v∈env,bN.af v∈bN.line i:=fun v hv=>by
  obtain⟨k1,k2⟩:=sA DW hS.rep.wf KQ.rep.wf et (hs.lt v hv);rw[k1,k2];exact DY v hv
 have ZR:jG 13 (.slice sa j sc) j rows.flatten sp:=hp.sl;have hvsl0:jG 1 (.slice pa lG.length pc) lG.length (lG.map fun b=>kM (some b)) Mh:=hp.vsl;have hfew:rs.length<=j:=hp.few;have hptl:lG.length=rs.length:=by have e:lG=_:=hp.lG;rw[e,Vz]
 have he3:(jA X.F X.G s kids 0 st env i).2.2=(jA X.F X.G s (kids.drop j) j bN env i).2.2:=hp.e3;rw[NH]at he3;cases aY:dU s j with
 |false=>
  rw[zy _ _ _ _ _ _ _ _ _ aY]at he3;simp only[vN];have JI:=hoy _ bL bN AI nY U1 V1 T1 KQ i w hw env b es c ud Tx (Sx.mono Zo);rw[po]at JI;refine jD ?_;cases Sq:(jH X.F X.G y bN env i).2.f with
  |some e=>
   have gp:∀x,(jH X.F X.G y bN env i).2.f=some x->(jA X.F X.G s kids 0 st env i).2.2.f=some x:=fun x hx=>by rw[he3];exact(Jx _ _ _ _ _ _ _ _).f _ hx
   refine VC.seq (VC.AV ⟨⟨[_,_,_,_,_,_],_,_,_,_,rfl,?_⟩,⟨[_,_,_,_,_],_,_,_,_,rfl,?_⟩,trivial⟩)
   ·refine⟨?_,?_,trivial⟩
    all_goals
     refine ae ?_;refine kL JI Zr ZP (fun v Post hv=>?_) (fun ch Post hz=>?_)
     ·exact zBU
     ·exact zBJ
   ·refine⟨?_,?_,?_,?_,trivial⟩
    all_goals
     refine ae ?_;refine kL JI Zr ZP (fun v Post hv=>?_) (fun ch Post hz=>?_)
     ·exact zBU
     ·exact zBJ
  |none=>
   refine VC.seq (VC.draws ⟨?_,?_,trivial⟩)
   all_goals
    refine ae ?_;refine kL JI Zr ZP (fun v Post hv=>?_) (fun ch Post hz=>?_);rotate_left
    ·obtain⟨q1,Mq,p1,eC,rfl,rfl⟩:=hz;rw[Sq]at eC;cases eC
    obtain⟨nX,ij,U2,V2,T2,B2,⟨G0,tR,tS,ws,rfl,hn⟩,rfl⟩:=hv;simp only[aH];obtain⟨pn,Bf⟩:∃pn,pn=(jH X.F X.G y bN env i).1:=⟨_,rfl⟩;rw[<- Bf]at hn;obtain⟨f1,f2,f3,f4,f5,f6,f7,r1,r2,r3,p1,p2,p3,k1,k2,k3,Sz⟩:=iK hn;subst Sz;refine ae ?_;refine jE (out:=[.int .u8 pn.kind,.string pn.name,.int .u8 f1,.int .i64 f2,.int .u64 f3,.string f4,.slice f5 f6 f7,.slice r1 r2 r3,.int .i64 pn.unit,.bool pn.super,Nz,.slice p1 p2 p3,.slice k1 k2 k3]) Zr Zr (fun r=>?_);refine ae ?_;refine jK (k:=j) (m:=1) (xs:=rows.flatten) (sp:=sp) (ys:=[.int .u8 pn.kind,.string pn.name,.int .u8 f1,.int .i64 f2,.int .u64 f3,.string f4,.slice f5 f6 f7,.slice r1 r2 r3,.int .i64 pn.unit,.bool pn.super,Nz,.slice p1 p2 p3,.slice k1 k2 k3]) Zr Zr ZR ZK Zr ?_ rfl Zr Zr Zd Zo (fun eK bE aR=>?_)
    ·exact Eg
    have fG:rows.flatten++([.int .u8 pn.kind,.string pn.name,.int .u8 f1,.int .i64 f2,.int .u64 f3,.string f4,.slice f5 f6 f7,.slice r1 r2 r3,.int .i64 pn.unit,.bool pn.super,Nz,.slice p1 p2 p3,.slice k1 k2 k3]:List Value)=(rows++[([.int .u8 pn.kind,.string pn.name,.int .u8 f1,.int .i64 f2,.int .u64 f3,.string f4,.slice f5 f6 f7,.slice r1 r2 r3,.int .i64 pn.unit,.bool pn.super,Nz,.slice p1 p2 p3,.slice k1 k2 k3]:List Value)]).flatten:=by simp
    rw[fG]at aR|-;obtain⟨nE,nF,rfl⟩:=aR.form;have lZ:=hp.out hy aY G0 tR tS Bf hn aR;exact zAF
 |true=>
  rw[dM _ _ _ _ _ _ _ _ _ aY]at he3;simp only[Bool.not_true];have gp:∀x,(cI X.F X.G y bN env i).2.f=some x->(jA X.F X.G s kids 0 st env i).2.2.f=some x:=fun x hx=>by rw[he3];exact(Jx _ _ _ _ _ _ _ _).f _ hx
  have NG:pE y=iy y.args y.ab (jN y.kids):=by cases y;rfl
  have hys2:y.size=1+Nd.aw y.kids:=by cases y;rfl
  have hyk:qh y.kids=true:=by
   cases y;simp only[O8,vF]at ζ;exact ζ.2
  have fH:=Ds y.kids;have NM:=Fa X (.int .u8 y.kind) (.int .u8 e1) (.int .i64 e2) (.int .u64 e3) (.string e4) (.slice e5 e6 e7) (.string y.name) y.kind y.name y.lit y.args y.ab (.slice a1 y.args.length c1) (.slice a2 y.ab.length c2) bK bG y.kids a3 c3 Yx o2 GJ Zo HP rV dS
   (fun i' x' oh=>aM x' (by have:=Nd.aD (Zv oh);omega) (mi hyk (Zv oh)) _ (dS i' x' oh)) y.at_ bN AI nY U1 V1 T1 KQ i w hw env b es c ud Tx (by rw[<- NG];exact Sx.mono Zo)
  rw[<- Nd.eta y,po]at NM;rcases Of CU hy aY with⟨h5,sQ⟩|⟨h5,sQ⟩
  ·skip
   refine ae ?_;refine kL NM Zr ZP (fun v Post hv=>?_) (fun ch Post hz=>?_);rotate_left
   ·exact zBJ
   obtain⟨nX,ij,U2,V2,T2,B2,⟨G0,tR,tS,ws,hv,hn⟩,rfl⟩:=hv;simp only[aH];obtain⟨pn,Bf⟩:∃pn,pn=(cI X.F X.G y bN env i).1:=⟨_,rfl⟩;rw[<- Bf]at hn;obtain⟨f1,f2,f3,f4,f5,f6,f7,r1,r2,r3,p1,p2,p3,k1,k2,k3,Sz⟩:=iK hn;subst Sz;have Z2:bN.vars.length < (V2.map ax.q).length:=by
    have h1:=Og X.F X.G y bN env i;rw[Vz,G0.rep.vl];omega
   have HX:cz (((V2.map ax.q).drop bN.vars.length).take y.args.length)=kF ((V2.map ax.q).getD bN.vars.length 0):=by
    rw[sQ,vp Z2,Vb,Zg Z2];rfl
   rw[HX]at hv;subst hv;refine ae ?_;refine kN (fun q16=>?_);refine ae ?_;refine jE (out:=[.int .u8 pn.kind,.string pn.name,.int .u8 f1,.int .i64 f2,.int .u64 f3,.string f4,.slice f5 f6 f7,.slice r1 r2 r3,.int .i64 pn.unit,.bool pn.super,Nz,.slice p1 p2 p3,.slice k1 k2 k3]) Zr Zr (fun r=>?_);refine ae ?_;refine jK (k:=j) (m:=1) (xs:=rows.flatten) (sp:=sp) (ys:=[.int .u8 pn.kind,.string pn.name,.int .u8 f1,.int .i64 f2,.int .u64 f3,.string f4,.slice f5 f6 f7,.slice r1 r2 r3,.int .i64 pn.unit,.bool pn.super,Nz,.slice p1 p2 p3,.slice k1 k2 k3]) Zr Zr ZR ZK Zr ?_ rfl Zr Zr Zd Zo (fun eK bE aR=>?_)
   ·exact Eg
   have fG:rows.flatten++([.int .u8 pn.kind,.string pn.name,.int .u8 f1,.int .i64 f2,.int .u64 f3,.string f4,.slice f5 f6 f7,.slice r1 r2 r3,.int .i64 pn.unit,.bool pn.super,Nz,.slice p1 p2 p3,.slice k1 k2 k3]:List Value)=(rows++[([.int .u8 pn.kind,.string pn.name,.int .u8 f1,.int .i64 f2,.int .u64 f3,.string f4,.slice f5 f6 f7,.slice r1 r2 r3,.int .i64 pn.unit,.bool pn.super,Nz,.slice p1 p2 p3,.slice k1 k2 k3]:List Value)]).flatten:=by simp
   rw[fG]at aR|-;obtain⟨nE,nF,rfl⟩:=aR.form;refine ae ?_;refine jE (out:=[kF ((V2.map ax.q).getD bN.vars.length 0)]) Zr Zr (fun rr2=>?_);refine ae ?_;refine jK (k:=lG.length) (m:=1) (xs:=lG.map fun b=>kM (some b)) (sp:=Mh) (ys:=[kF ((V2.map ax.q).getD bN.vars.length 0)]) Zr Zr hvsl0 ZK Zr ?_ rfl Zr Zr Zd Zo (fun vv' R3 N8=>?_)
   ·exact Eg
   have hfv:(lG.map fun b=>kM (some b))++[kF ((V2.map ax.q).getD bN.vars.length 0)]=(lG++[(V2.map ax.q).getD bN.vars.length 0]).map fun b=>kM (some b):=by simp[kM]
   rw[hfv]at N8|-;obtain⟨pa',pc',rfl⟩:=N8.form;have lZ:=hp.inn hy aY G0 tR tS Bf hn aR (.inr ⟨h5,Z2,rfl,by rw[Vt];exact N8⟩);refine ae ?_;refine⟨_,lZ,by simp only;omega,ZU,?_⟩;simp only;refine ao.cut (M:=[kA IH 0 [.int .u8 (iS s:Nat),.string (iT s),.int .u8 0,.int .i64 0,.int .u64 0,.string e0,.slice none 0 0,.slice none 0 0,.int .i64 0,.bool false,.slice none 0 0,.slice pa' (lG.length+1) pc',.slice nE (j+1) nF],kA eF 0 [.int .u8 0,.string e0,.int .u8 0,.int .i64 0,.int .u64 0,.string e0,.slice none 0 0,.slice none 0 0,.int .i64 0,.bool false,.slice none 0 0,.slice none 0 0,.slice none 0 0],kA X.wq 0 [.map (some X.fb),.map (some X.gb),nX],ai nX (U2.map fun u=>kM (some u.q)) ij,[.obj X.fb (.map X.bI X.fc)],[.obj X.gb (.map X.bM X.gc)],WK U2 V2,T2,[.obj b (.map es c)],X.S,ai (.slice nE (j+1) nF) (rows++[([.int .u8 pn.kind,.string pn.name,.int .u8 f1,.int .i64 f2,.int .u64 f3,.string f4,.slice f5 f6 f7,.slice r1 r2 r3,.int .i64 pn.unit,.bool pn.super,.slice none 0 0,.slice p1 p2 p3,.slice k1 k2 k3]:List Value)]).flatten bE,B,ai (.slice pa' (lG.length+1) pc') ((lG++[(V2.map ax.q).getD bN.vars.length 0]).map fun b=>kM (some b)) R3,B2]) ZI (ao.perm ?_);simp only[V9,VV,vg,vf]
   repeat (first|exact vV _ QP|refine vV _ ?_)
  ·skip
   refine ae ?_;refine kL NM Zr ZP (fun v Post hv=>?_) (fun ch Post hz=>?_);rotate_left
   ·exact zBJ
   obtain⟨nX,ij,U2,V2,T2,B2,⟨G0,tR,tS,ws,hv,hn⟩,rfl⟩:=hv;simp only[aH];obtain⟨pn,Bf⟩:∃pn,pn=(cI X.F X.G y bN env i).1:=⟨_,rfl⟩;rw[<- Bf]at hn;obtain⟨f1,f2,f3,f4,f5,f6,f7,r1,r2,r3,p1,p2,p3,k1,k2,k3,Sz⟩:=iK hn;subst Sz;have HX:cz (((V2.map ax.q).drop bN.vars.length).take y.args.length)=.pointer none:=by
    rw[sQ];rfl
   rw[HX]at hv;subst hv;refine ae ?_;refine kN (fun q16=>?_);refine ae ?_;refine jE (out:=[.int .u8 pn.kind,.string pn.name,.int .u8 f1,.int .i64 f2,.int .u64 f3,.string f4,.slice f5 f6 f7,.slice r1 r2 r3,.int .i64 pn.unit,.bool pn.super,Nz,.slice p1 p2 p3,.slice k1 k2 k3]) Zr Zr (fun r=>?_);refine ae ?_;refine jK (k:=j) (m:=1) (xs:=rows.flatten) (sp:=sp) (ys:=[.int .u8 pn.kind,.string pn.name,.int .u8 f1,.int .i64 f2,.int .u64 f3,.string f4,.slice f5 f6 f7,.slice r1 r2 r3,.int .i64 pn.unit,.bool pn.super,Nz,.slice p1 p2 p3,.slice k1 k2 k3]) Zr Zr ZR ZK Zr ?_ rfl Zr Zr Zd Zo (fun eK bE aR=>?_)
   ·exact Eg
   have fG:rows.flatten++([.int .u8 pn.kind,.string pn.name,.int .u8 f1,.int .i64 f2,.int .u64 f3,.string f4,.slice f5 f6 f7,.slice r1 r2 r3,.int .i64 pn.unit,.bool pn.super,Nz,.slice p1 p2 p3,.slice k1 k2 k3]:List Value)=(rows++[([.int .u8 pn.kind,.string pn.name,.int .u8 f1,.int .i64 f2,.int .u64 f3,.string f4,.slice f5 f6 f7,.slice r1 r2 r3,.int .i64 pn.unit,.bool pn.super,Nz,.slice p1 p2 p3,.slice k1 k2 k3]:List Value)]).flatten:=by simp
   rw[fG]at aR|-;obtain⟨nE,nF,rfl⟩:=aR.form;have lZ:=hp.inn hy aY G0 tR tS Bf hn aR (.inl ⟨h5,rfl,rfl,rfl⟩);exact zAF
end Go.Proofs.YtijnokbblmbpkaaGreatDoor

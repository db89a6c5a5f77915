/-
  scope.Resolve: a method's scope, or what is wrong.
-/
import Derived.Test.YtijnokbblmbpkaaGreatDoorS24
import Derived.Test.YtijnokbblmbpkaaGreatDoorS27
import Derived.Test.YtijnokbblmbpkaaGreatDoorS14
import Derived.Test.YtijnokbblmbpkaaGreatDoorS17
import Derived.Test.YtijnokbblmbpkaaGreatDoorS10
import Derived.KernelRfl
import Derived.Test.YtijnokbblmbpkaaGreatDoorProg
import Derived.Test.YtijnokbblmbpkaaGreatDoorS22
import Derived.Test.YtijnokbblmbpkaaGreatDoorS18
import Derived.Shelf.SlMaps.Clone
import Derived.Shelf.Lay
import Derived.Test.YtijnokbblmbpkaaGreatDoorS16
import Derived.Test.YtijnokbblmbpkaaGreatDoorS26
set_option linter.unusedSimpArgs false
set_option linter.unusedVariables false
namespace Go.Proofs.YtijnokbblmbpkaaGreatDoor
open Go Go.V
set_option maxHeartbeats 12800000
set_option maxRecDepth 100000
theorem res1_none(a b:Nat)(A:List kC)(B:List kC):FunDR Tryz.prog 48 [kE a,kE b] .returning .returning [A,B] (fun Post=>Post=[A,B]):=by
 refine FunDR.intro low48 (by simp[n48]) .none ?_;refine GOH ?_;refine VCz.seq (VCz.reg ?_);refine GOH ?_;refine VCz.cond (t:=false) Zr (fun h=>by cases h) (fun _=>VCz.skip ?_);exact kG (Post:=[A,B]) (.inl rfl) .nil rfl ZI
theorem res1_some(q6 q7 q e:Nat)(p:Int)(v1:Value)(v2:Value)(v3:Value)(v4:Value):FunDR Tryz.prog 48 [kE q6,kE q7] (.panicking (failCh q)) (.panicking [{v:=failV q,recovered:=true}]) [kA q6 0 [v1,v2,v3],kA q7 0 [v4],jJ q e p] (fun Post=>Post=[kA q6 0 [.string e0,.int .i64 0,.slice none 0 0],kA q7 0 [failV q],jJ q e p]):=by
 refine FunDR.intro low48 (by simp[n48]) .some ?_;unfold failV;refine GOH ?_;refine VCz.seq (VCz.reg ?_);refine GOH ?_;refine VCz.cond (t:=true) Zr (fun _=>VCz.reg ?_) (fun h=>by cases h);refine GOH ?_;exact kG (Post:=[kA q6 0 [.string e0,.int .i64 0,.slice none 0 0],kA q7 0 [.iface 80 (kE q)],jJ q e p]) (.inl rfl) .nil rfl (by unfold e0;exact IMx)
def ansM(F G:List ByteArray)(x:Md):List wZ×Nat×Int:=if zB x=0 then(rootS F G x.args x.temps x.body).answer else([],zB x,0)
def ResR(S:List kC)(F G:List ByteArray)(x:Md)(v:Value)(Post:SH):Prop:=
 (∃l usv B,ansM F G x=(l,0,0)/\v=.tuple #[.agg #[.string x.sel,vi x.prim,usv],.nilIface]/\UsRd B usv l/\Post=[S,B])∨
 (∃e p q,ansM F G x=([],e,p)/\e≠0/\v=.tuple #[.agg #[.string e0,.int .i64 0,.slice none 0 0],.iface 80 (kE q)]/\Post=[S,jJ q e p])
theorem stmts_all {x:Md}(h:zB x=0):∀y∈x.body,kO y≠none:=by
 have hm:methodR x≠none:=by
  intro e;unfold zB at h;rw[e]at h;cases h
 unfold methodR at hm;have h1:=(names_ne (names_ne (wA hm).2).2).2;rw[<- jh]at h1;exact stmts_ne (max_ne h1)
theorem okNs_body {x:Md}(h:zB x=0)(hw:Nd.ws x.body<=274877906944):okNs x.body=true:=okNs_of fun y hy=>nodeD_ok y (stmts_all h y hy) (by have:=Nd.ws_mem hy;omega)
theorem Resolve_spec(S:List kC)(x:Md)(vs:List Value)(h:MdRd S x vs)(F G:List ByteArray)(fv gv:Value)(hF:RdT S fv F)(hG:RdT S gv G)(hFl:F.length<=1048576)(hGl:G.length<=1048576)(hcnt:cntM x.args x.temps x.body<=1048576)(hsz:Nd.sizes x.body<=1048576)(hw:Nd.ws x.body<=274877906944):
 Fun Tryz.prog 15 [.agg vs.toArray,fv,gv] [S] (fun v Post=>ResR S F G x v Post):=by
 have hchk:=Check_spec S x vs h;obtain⟨⟨aa,ac,ta,tc,a,c,bk,o,us,rfl,hav,htv,hkids⟩,hsel,hprim⟩:=h;obtain⟨fa,fc,rfl,hfl,hfr⟩:=hF;obtain⟨ga,gc,rfl,hgl,hgr⟩:=hG;refine Fun.introDP low15 (by simp[n15]) ?_;simp only[F15,laidA,VDP];refine GOH ?_;refine kd Zr (fun q3=>?_);simp only[Value.cells];refine kL (fun q6=>?_);refine kL (fun q7=>?_);refine GOH ?_;refine kM hchk Zr ZP (fun v Post hv=>?_);obtain⟨rfl,rfl⟩:=hv;simp only[CNx];refine GOH ?_;have hc255:zB x < 256:=by
  unfold zB endE
  repeat' split
  all_goals omega
 by_cases hc:zB x=0;rotate_left
 ·rw[show decide ((zB x:Int)=0)=false from Zf Zo];refine GOH ?_;refine kd Zr (fun q=>?_);simp only[Value.cells];refine GOH ?_;refine⟨.inr rfl,[.agg #[.string e0,.int .i64 0,.slice none 0 0],.iface 80 (kE q)],[S,jJ q (zB x) 0],.cellN (us:=[.string e0,.int .i64 0,.slice none 0 0]) Zr Zr (fun y hy=>by simp only[vz,Q1];repeat (first|exact Or.inl hy|refine Or.inr ?_)) (.cell1 Zr Zan .nil),by unfold jJ nmRes;exact IMx,.inr ⟨zB x,0,q,by unfold ansM;rw[if_neg hc],hc,rfl,rfl⟩⟩
 rw[show decide ((zB x:Int)=0)=true from Zt Zo];have hans:ansM F G x=(rootS F G x.args x.temps x.body).answer:=by unfold ansM;rw[if_pos hc]
 have hkD:=stmts_all hc;have hkk:=okNs_body hc hw;refine GOH ?_;refine⟨[kE q6,kE q7],Zr,?_⟩;refine GOH ?_;refine st_mkmap (fun fb=>?_);refine GOH ?_;refine st_mkmap (fun gb=>?_);refine GOH ?_;refine kd Zr (fun wq=>?_);simp only[Value.cells];refine jU ?_;refine VC.join (α:=Array MapEntry×Nat) (Γf:=fun _=>[(2,.slice ga G.length gc),(3,kE q3),(6,kE q6),(7,kE q7),(9,kE wq)]) (Hf:=fun s=>[kA wq 0 [.map (some fb),.map (some gb),.slice none 0 0],[.obj fb (.map s.1 s.2)],[.obj gb (.map #[] 0)],S,kA q7 0 [.nilIface],kA q6 0 [.string e0,.int .i64 0,.slice none 0 0],kA q3 0 [.string x.sel,.slice aa x.args.length ac,.slice ta x.temps.length tc,vi x.prim,.slice a x.body.length c]]) (I:=fun s=>FieldsIs F s.1 s.2) ?_ ?_
 ·refine GOH ?_;refine VC.loop (α:=Nat×Array MapEntry×Nat) (Γf:=fun s=>[(2,.slice ga G.length gc),(3,kE q3),(6,kE q6),(7,kE q7),(9,kE wq),(31,.slice fa F.length fc),(32,vi F.length),(33,vi s.1)]) (Hf:=fun s=>[kA wq 0 [.map (some fb),.map (some gb),.slice none 0 0],[.obj fb (.map s.2.1 s.2.2)],[.obj gb (.map #[] 0)],S,kA q7 0 [.nilIface],kA q6 0 [.string e0,.int .i64 0,.slice none 0 0],kA q3 0 [.string x.sel,.slice aa x.args.length ac,.slice ta x.temps.length tc,vi x.prim,.slice a x.body.length c]]) (I:=fun s=>s.1<=F.length/\FldIs F s.1 s.2.1 s.2.2) (μ:=fun s=>F.length - s.1) (0,#[],0) ⟨Qf _,FldIs.nil F⟩ ZU (by unfold e0;exact IMx) ?_
  rintro⟨j,es,c0⟩ ⟨hj,hfd⟩
  simp only at hj hfd;dsimp only;refine GOH ?_;by_cases hlt:j < F.length;rotate_left
  ·rw[show decide ((j:Int) < (F.length:Int))=false from Zf Zo];refine GOH ?_;exact⟨(es,c0),hfd.all Zo,ZU,ZI⟩
  rw[show decide ((j:Int) < (F.length:Int))=true from Zt Zo];obtain⟨s,hs⟩:∃s,F[j]? =some s:=⟨_,Zg hlt⟩;obtain⟨b1,o1,rfl,hcell,hss⟩:=hfr j s hs;obtain⟨m,hm1,hm2⟩:=hfd.is;refine GOH ?_;refine wP (E:=zX) (V:=fun n:Nat=>.int .i64 n) (k:=s) Zr Zr rfl (.there .here) hm1 ?_;cases hg:kq s m with
  |some i0=>
   refine GOH ?_;refine⟨(j+1,es,c0),⟨by simp only;omega,⟨m,hm1,fun nm=>?_⟩⟩,by simp only;omega,ZU,ZI⟩;show kq nm m=(F.take (j+1)).findIdx? _;rw[fld_take hs,<- hm2];by_cases e:s=nm
   ·subst e;rw[hg];rfl
   ·rw[if_neg e];simp
  |none=>
   refine GOH ?_;refine wO (E:=zX) (V:=fun n:Nat=>.int .i64 n) (k:=s) (v:=j) Zr Zr Zr rfl ZK hm1 (fun es' c' hes=>?_);refine GOH ?_;refine⟨(j+1,es',c'),⟨by simp only;omega,⟨jZ s j m,hes,fun nm=>?_⟩⟩,by simp only;omega,ZU,ZI⟩;show kq nm (jZ s j m)=(F.take (j+1)).findIdx? _;rw[fld_take hs,<- hm2,jo];by_cases e:s=nm
   ·subst e;rw[if_pos rfl,if_pos rfl,hg];rfl
   ·rw[if_neg e,if_neg e];simp
 rintro⟨fes,fcl⟩ hfields
 simp only at hfields;dsimp only;refine VC.join (α:=Array MapEntry×Nat) (Γf:=fun _=>[(3,kE q3),(6,kE q6),(7,kE q7),(9,kE wq)]) (Hf:=fun s=>[kA wq 0 [.map (some fb),.map (some gb),.slice none 0 0],[.obj fb (.map fes fcl)],[.obj gb (.map s.1 s.2)],S,kA q7 0 [.nilIface],kA q6 0 [.string e0,.int .i64 0,.slice none 0 0],kA q3 0 [.string x.sel,.slice aa x.args.length ac,.slice ta x.temps.length tc,vi x.prim,.slice a x.body.length c]]) (I:=fun s=>GlobsIs G s.1 s.2) ?_ ?_
 ·refine GOH ?_;refine VC.loop (α:=Nat×Array MapEntry×Nat) (Γf:=fun s=>[(3,kE q3),(6,kE q6),(7,kE q7),(9,kE wq),(56,.slice ga G.length gc),(57,vi G.length),(58,vi s.1)]) (Hf:=fun s=>[kA wq 0 [.map (some fb),.map (some gb),.slice none 0 0],[.obj fb (.map fes fcl)],[.obj gb (.map s.2.1 s.2.2)],S,kA q7 0 [.nilIface],kA q6 0 [.string e0,.int .i64 0,.slice none 0 0],kA q3 0 [.string x.sel,.slice aa x.args.length ac,.slice ta x.temps.length tc,vi x.prim,.slice a x.body.length c]]) (I:=fun s=>s.1<=G.length/\GlbIs G s.1 s.2.1 s.2.2) (μ:=fun s=>G.length - s.1) (0,#[],0) ⟨Qf _,GlbIs.nil G⟩ ZU ZI ?_
  rintro⟨j,es,c0⟩ ⟨hj,hgd⟩
  simp only at hj hgd;dsimp only;refine GOH ?_;by_cases hlt:j < G.length;rotate_left
  ·rw[show decide ((j:Int) < (G.length:Int))=false from Zf Zo];refine GOH ?_;exact⟨(es,c0),hgd.all Zo,ZU,ZI⟩
  rw[show decide ((j:Int) < (G.length:Int))=true from Zt Zo];obtain⟨s,hs⟩:∃s,G[j]? =some s:=⟨_,Zg hlt⟩;obtain⟨b1,o1,rfl,hcell,hss⟩:=hgr j s hs;obtain⟨m,hm1,hm2,hm3⟩:=hgd.is;have hms:=hm3 s;refine GOH ?_;refine wP (E:=zX) (V:=fun n:Nat=>.int .i64 n) (k:=s) Zr Zr rfl (.there (.there .here)) hm1 ?_;have hlv:lookV false (.int .i64 0) ((kq s m).map fun n:Nat=>.int .i64 n)=.int .i64 ((kq s m).getD 0:Nat):=by cases kq s m <;> rfl
  rw[hlv];generalize hgn:(kq s m).getD 0=gn at hms;refine GOH ?_;refine wO (E:=zX) (V:=fun n:Nat=>.int .i64 n) (k:=s) (v:=gn+1) Zr Zr Zr rfl ZK hm1 (fun es' c' hes=>?_);refine GOH ?_;refine⟨(j+1,es',c'),⟨by simp only;omega,⟨jZ s (gn+1) m,hes,fun nm=>?_,fun nm=>?_⟩⟩,by simp only;omega,ZU,ZI⟩
  ·show decide ((kq nm (jZ s (gn+1) m)).getD 0=0)=!(G.take (j+1)).any _;rw[glb_take hs,jo];by_cases e:s=nm
   ·subst e;simp
   ·rw[if_neg e,Zf e,vQ];exact hm2 nm
  ·show(kq nm (jZ s (gn+1) m)).getD 0<=j+1;rw[jo];by_cases e:s=nm
   ·rw[if_pos e];show gn+1<=j+1;omega
   ·rw[if_neg e];have:=hm3 nm;omega
 rintro⟨ges,gcl⟩ hglobs
 simp only at hglobs;dsimp only;obtain⟨X,hX⟩:∃X:Fix,X=⟨F,G,wq,fb,gb,fes,ges,fcl,gcl,S⟩:=⟨_,rfl⟩;have hXok:FixOk X:=by rw[hX];exact⟨hfields,hglobs⟩
 have hnl:=nd_len x.body;refine GOH ?_;refine st_mkmap (fun mb=>?_);have hS0:StOk st0 (.slice none 0 0) [] [] [] []:=⟨⟨ph0.wf,rfl,rfl,.nil,(fun i u h=>by simp at h),(fun i u h=>by simp at h),(fun i u h=>by simp at h),(fun i u h=>by simp at h),(fun v x y h=>by simp[st0]at h)⟩,rfl,.nil,fun i u h=>by simp at h⟩;have hbl:=block_spec X (.int .u8 0) (.int .u8 0) (.int .i64 0) (.int .u64 0) (.string e0) (.slice none 0 0) (.string e0) x.args x.temps (.slice aa x.args.length ac) (.slice ta x.temps.length tc) (by rw[hX];exact hav) (by rw[hX];exact htv) x.body a c bk o us Zo hkids.at_ (by rw[hX];exact hkids.mem) (by rw[hX];exact hkids.rd)
  (fun i' x' hx'=>part_ok X hXok 1048576 Zo x' (by have:=Nd.sizes_mem (Zv hx');omega) (okNs_mem hkk (Zv hx')) _ (by rw[hX];exact hkids.rd i' x' hx')) 0 st0 (.slice none 0 0) [] [] [] [] hS0 (-1) ⟨Zo,Zd⟩ [] mb #[] 0 ⟨.nil,(fun v h=>by cases h),.nil⟩ (fun v h=>by cases h) ⟨by show 0+_ < _;unfold cntM at hcnt;omega,by show 0+_ < _;unfold cntM at hcnt;omega,by show 0+_ < _;unfold cntM at hcnt;omega⟩
 rw[hX]at hbl;simp only at hbl;have hroot:unitS F G x.args x.temps x.body 0 st0 [] (-1)=rootS F G x.args x.temps x.body:=rfl;rw[hroot]at hbl;have hbl2:jY Tryz.prog 49 [kE wq,.agg #[.int .u8 0,.string e0,.int .u8 0,.int .i64 0,.int .u64 0,.string e0,.slice none 0 0,.slice aa x.args.length ac,.slice ta x.temps.length tc,.slice a x.body.length c,.int .i64 0],.pointer none,.map (some mb)] [kA wq 0 [.map (some fb),.map (some gb),.slice none 0 0],[.obj fb (.map fes fcl)],[.obj gb (.map ges gcl)],[.obj mb (.map #[] 0)],S] _ _:=(hbl.conv (R:=[]) (by simp[V.Spl,slA,WK]) (fun v Post h=>⟨Post,h,by rw[vd];exact Imp.refl _⟩) (fun ch Post h=>⟨Post,h,by rw[vd];exact Imp.refl _⟩));have hrt:=root_ok F G x.args x.temps x.body;have hopen:=fun {e:Nat} {p:Int} h=>root_err F G x.args x.temps x.body (e:=e) (p:=p) h
 obtain⟨st,hst⟩:∃st,st=rootS F G x.args x.temps x.body:=⟨_,rfl⟩;rw[<- hst]at hans hrt hopen;simp only[<- hst]at hbl2;refine kJ hbl2 Zr ZP (fun v Post hv=>?_) (fun ch Post hz=>?_);rotate_left
 ·obtain⟨q,e,p,hf,rfl,rfl⟩:=hz;have hae:=answer_f hf;have he0:e≠0:=by rcases hopen hf with h|h|h <;> omega
  refine⟨[kA q6 0 [.string e0,.int .i64 0,.slice none 0 0],kA q7 0 [.nilIface],jJ q e p],_,_,_,res1_some q6 q7 q e p _ _ _ _,rfl,ZP,?_⟩;exact zAX
 obtain⟨us1,usp1,U1,V1,T1,⟨hS1,_,_,w,hw1,rfl⟩,rfl⟩:=hv;simp only[CNx];obtain⟨l1,l2,l3⟩:=hrt.less;have hbnds:Bnds st:=⟨⟨Zo,Zo,fun j=>by
  rw[V5];cases e:st.args[j]? with
  |none=>simp
  |some a=>have:=hrt.bw.ar a (Zv e);simp only[Qi];omega⟩,fun l hl=>by have:=hrt.bw.bd l hl;omega⟩
 have hsc:=scope_spec st hrt.ph hbnds hS1.ok U1 V1 hS1.rep.laid us1 usp1 hS1.sl T1 hS1.bod wq (.map (some fb)) (.map (some gb)) (.slice aa x.args.length ac) (.slice ta x.temps.length tc) (.slice a x.body.length c) x.sel x.prim;refine GOH ?_;refine kJ hsc Zr ZP (fun v Post hv=>?_) (fun ch Post hz=>?_);rotate_left
 ·obtain⟨q,hae,rfl,rfl⟩:=hz;obtain⟨e,he⟩:∃e:Nat,e=183:=⟨_,rfl⟩;obtain⟨p,hp⟩:∃p:Int,p=0:=⟨_,rfl⟩;rw[<- he,<- hp]at hae;have he0:e≠0:=by omega
  rw[show jJ q 183 0=jJ q e p by rw[he,hp]];refine⟨[kA q6 0 [.string e0,.int .i64 0,.slice none 0 0],kA q7 0 [.nilIface],jJ q e p],_,_,_,res1_some q6 q7 q e p _ _ _ _,rfl,ZP,?_⟩;exact zAX
 obtain⟨usv,B,⟨ha2,rfl,husr⟩,rfl⟩:=hv;obtain⟨usa,usc,hue⟩:∃usa usc,usv=.slice usa ((List.range st.outer.length).map st.unitR).length usc:=let⟨e1,e2,_,_,_,e3,_⟩:=husr;⟨e1,e2,e3⟩;subst hue;generalize hl:(List.range st.outer.length).map st.unitR=lu at*;generalize hln:lu.length=ln at*;simp only[CNx];refine GOH ?_;refine⟨.inr rfl,[kA q6 0 [.string x.sel,vi x.prim,.slice usa ln usc],kA q7 0 [.nilIface]],_,_,res1_none q6 q7 _ _,ZP,?_⟩
 rintro Post rfl
 refine⟨.inr rfl,[.agg #[.string x.sel,vi x.prim,.slice usa ln usc],.nilIface],[S,B],.cellN (us:=[.string x.sel,vi x.prim,.slice usa ln usc]) Zr Zr (fun y hy=>by simp only[vf,QD,vz,Q1];repeat (first|exact Or.inl hy|refine Or.inr ?_)) (.cell1 Zr Zan .nil),by simp only[CNx];exact IMx,.inl ⟨_,_,B,hans.trans ha2,rfl,husr,rfl⟩⟩
end Go.Proofs.YtijnokbblmbpkaaGreatDoor
namespace Go.Proofs.YtijnokbblmbpkaaGreatDoor
open Go Go.V
set_option maxHeartbeats 3200000
set_option maxRecDepth 100000
section
variable (A:List kC)
variable (hE:EtA∈A)
include hE
theorem Wrong_in(k:Nat)(a n:Int)(ha:kC.cell k 1 (.int .i64 a)∈A)(hk:kC.cell k 2 (.iface 44 (.int .i64 n))∈A):Fun Tryz.prog 16 [flP k] [A] (fun v Post=>v=.tuple #[.int .i64 n,.int .i64 a]/\Post=[A]):=by
 refine Fun.intro low16 (by simp[n16]) ?_;unfold flP;refine GOH ?_;refine kL (fun pe=>?_);refine GOH ?_;refine kL (fun pf=>?_);refine GOH ?_;refine kM (As_fail A hE k pf _) Zr ZP (fun v Post hv=>?_);obtain⟨rfl,rfl⟩:=hv;simp only[CNx];refine GOH ?_;refine kM (As_in A hE k n hk pe _) Zr ZP (fun v Post hv=>?_);obtain⟨rfl,rfl⟩:=hv;simp only[CNx];refine GOH ?_;refine kG (.inr rfl) (.tmp Zr (.tmp Zr .nil)) ⟨by simp[tup],rfl⟩ ZI
end
end Go.Proofs.YtijnokbblmbpkaaGreatDoor
namespace Go.Proofs.YtijnokbblmbpkaaGreatDoor
open Go Go.V
set_option maxRecDepth 100000
def F73:FIR:=laid (X:=⟨8,[.tmp 2],(qS [qo 2 (.mv (.const (.slice none 0 0)))] [0] (.seq (qS [qm 3 0,qo 4 (.eqnil false .slice (.tmp 3))] [0,4] (qC 4 (qS [qo 2 (.mv (.const (.slice none 0 0)))] [2] .ret) .skip)) (qS [qo 5 (.bslice 9 0 [(.string ⟨#[]⟩)] []),qm 6 0,qo 7 (.append 9 1 16 [(.string ⟨#[]⟩)] (.tmp 5) (.tmp 6)),qm 2 7] [2] .ret)))⟩)
theorem n73:F73.n=8:=rfl
theorem low73:ki Tryz.prog (kpO F73) (kQ []) 73=some F73:=by kernel_rfl
end Go.Proofs.YtijnokbblmbpkaaGreatDoor
namespace Go.V
open Go
structure MetIs (out:List ByteArray)(es:Array MapEntry)(c:Nat):Prop where
 is:∃m,zG zX (fun n:Nat=>.int .i64 n) es c m/\∀s,((kq s m).getD 0=0↔zW s=0/\s∉out)
structure HeldIs (seen:List ByteArray)(es:Array MapEntry)(c:Nat):Prop where
 is:∃m,zG zX (fun n:Nat=>.int .i64 n) es c m/\(∀s,((kq s m).getD 0=0↔s∉seen))/\∀s,(kq s m).getD 0<=seen.length
theorem HeldIs.nil:HeldIs [] #[] 0:=⟨⟨[],.nil,fun s=>by simp[kq],fun s=>by simp[kq]⟩⟩
theorem lookN {m:List (ByteArray×Nat)}{s:ByteArray}:lookV false (.int .i64 0) ((kq s m).map fun n:Nat=>.int .i64 n)=.int .i64 ((kq s m).getD 0:Nat):=by cases kq s m <;> rfl
theorem met_put {out:List ByteArray}{m:List (ByteArray×Nat)}{k:Nat}{s:ByteArray}(h:∀s,((kq s m).getD 0=0↔zW s=0/\s∉out)):∀t,((kq t (jZ s (k+1) m)).getD 0=0↔zW t=0/\t∉out++[s]):=by
 intro t;rw[jo,Q1,QC];by_cases e:s=t
 ·rw[if_pos e];exact⟨fun h=>absurd h Zs,fun h=>absurd (.inr e.symm) h.2⟩
 ·rw[if_neg e,h t];exact⟨fun g=>⟨g.1,fun c=>c.elim g.2 (fun c=>e c.symm)⟩,fun g=>⟨g.1,fun c=>g.2 (.inl c)⟩⟩
theorem held_put {seen:List ByteArray}{m:List (ByteArray×Nat)}{s:ByteArray}(h:∀s,((kq s m).getD 0=0↔s∉seen))(hl:∀s,(kq s m).getD 0<=seen.length):
 (∀t,((kq t (jZ s ((kq s m).getD 0+1) m)).getD 0=0↔t∉seen++[s]))/\∀t,(kq t (jZ s ((kq s m).getD 0+1) m)).getD 0<=(seen++[s]).length:=by
 refine⟨fun t=>?_,fun t=>?_⟩
 ·rw[jo,Q1,QC];by_cases e:s=t
  ·rw[if_pos e];exact⟨fun h=>absurd h Zs,fun h=>absurd (.inr e.symm) h⟩
  ·rw[if_neg e,h t];exact⟨fun g c=>c.elim g (fun c=>e c.symm),fun g c=>g (.inl c)⟩
 ·rw[jo,Vj,Vu];have:=hl s;have:=hl t;by_cases e:s=t
  ·rw[if_pos e];show(kq s m).getD 0+1<=_;omega
  ·rw[if_neg e];omega
theorem met_five:∀s,((kq s (jZ nmFalse 1 (jZ nmTrue 1 (jZ nmNil 1 (jZ nmSuper 1 (jZ nmSelf 1 ([]:List (ByteArray×Nat)))))))).getD 0=0↔zW s=0/\s∉([]:List ByteArray)):=by
 intro s;rw[jo,jo,jo,jo,jo];by_cases a:nmFalse=s
 ·rw[if_pos a];subst a;exact⟨fun h=>absurd h Zs,fun h=>absurd h.1 Zd⟩
 rw[if_neg a];by_cases b:nmTrue=s
 ·rw[if_pos b];subst b;exact⟨fun h=>absurd h Zs,fun h=>absurd h.1 Zd⟩
 rw[if_neg b];by_cases c:nmNil=s
 ·rw[if_pos c];subst c;exact⟨fun h=>absurd h Zs,fun h=>absurd h.1 Zd⟩
 rw[if_neg c];by_cases d:nmSuper=s
 ·rw[if_pos d];subst d;exact⟨fun h=>absurd h Zs,fun h=>absurd h.1 Zd⟩
 rw[if_neg d];by_cases e:nmSelf=s
 ·rw[if_pos e];subst e;exact⟨fun h=>absurd h Zs,fun h=>absurd h.1 Zd⟩
 rw[if_neg e];have hz:zW s=0:=by
  unfold zW;rw[if_neg (fun k=>k.elim (fun k=>e k.symm) (fun k=>d k.symm)),if_neg (fun k=>c k.symm),if_neg (fun k=>b k.symm),if_neg (fun k=>a k.symm)]
 exact⟨fun _=>⟨hz,Zs⟩,fun _=>rfl⟩
mutual
theorem frN_len(seen:List ByteArray):∀(x:Nd) (out:List ByteArray),(frN seen out x).length<=out.length+x.w
 |.mk k s lit args temps kids p,out=>by
  rw[frN];have:=frNs_len (if k=7 then seen++args++temps else seen) kids (if(k=2∨k=3)/\zW s=0/\s∉seen/\s∉out then out++[s]else out);have h2:(if(k=2∨k=3)/\zW s=0/\s∉seen/\s∉out then out++[s]else out).length<=out.length+1:=by
   split
   ·rw[Vj,Vu];exact QW _
   ·omega
  simp only[Nd.w];omega
theorem frNs_len(seen:List ByteArray):∀(l:List Nd) (out:List ByteArray),(frNs seen out l).length<=out.length+Nd.ws l
 |[],out=>by rw[frNs];simp only[Nd.ws];omega
 |x::r,out=>by
  rw[frNs];have h1:=frN_len seen x out;have h2:=frNs_len seen r (frN seen out x);simp only[Nd.ws];omega
end
mutual
theorem frN_size(seen:List ByteArray)(B:Nat):∀(x:Nd) (out:List ByteArray),x.w<=B->(∀t∈out,t.size<=B)->∀t∈frN seen out x,t.size<=B
 |.mk k s lit args temps kids p,out,hw,ho=>by
  rw[frN];simp only[Nd.w]at hw;refine frNs_size _ B kids _ Zo ?_;split
  ·intro t ht;rcases Q1.1 ht with h|h
   ·exact ho t h
   ·rw[QC.1 h];omega
  ·exact ho
theorem frNs_size(seen:List ByteArray)(B:Nat):∀(l:List Nd) (out:List ByteArray),Nd.ws l<=B->(∀t∈out,t.size<=B)->∀t∈frNs seen out l,t.size<=B
 |[],out,hw,ho=>by rw[frNs];exact ho
 |x::r,out,hw,ho=>by
  rw[frNs];simp only[Nd.ws]at hw;exact frNs_size seen B r _ Zo (frN_size seen B x out Zo ho)
end
theorem nws_app(b:List Nd):∀(a:List Nd),Nd.ws (a++b)=Nd.ws a+Nd.ws b
 |[]=>by rw[QD,Nd.ws,Qe]
 |x::r=>by rw[vf,Nd.ws,Nd.ws,nws_app b r,QT]
theorem frNs_snoc(seen:List ByteArray)(z:Nd):∀(l:List Nd) (out:List ByteArray),frNs seen out (l++[z])=frN seen (frNs seen out l) z
 |[],out=>by rw[QD,frNs,frNs,frNs]
 |x::r,out=>by rw[vf,frNs,frNs,frNs_snoc seen z r]
structure FrOk (seen out:List ByteArray)(mes:Array MapEntry)(mc:Nat)(hes:Array MapEntry)(hc:Nat)(sv:Value)(sp:List Value):Prop where
 met:MetIs out mes mc
 held:HeldIs seen hes hc
 sl:jC 1 sv out.length (out.map Value.string) sp
theorem src_texts {A:List kC}{a:Option Addr}{c:Nat}{l:List ByteArray}(h:RdT A (.slice a l.length c) l)(hl:0 < l.length):Src A 1 l.length (l.map Value.string) (.slice a l.length c):=by
 obtain⟨a',c',e,_,hr⟩:=h;cases e;obtain⟨t,ht⟩:∃t,l[0]? =some t:=⟨_,Zg hl⟩;obtain⟨b,o,had,_⟩:=hr 0 t ht;cases had;exact zC1
end Go.V
namespace Go.Proofs
open Go.Shelf
shelf_lay_g SlLaysW.n5 Slmc 5 at Tryz 72 as Tryz.slcl2
end Go.Proofs
namespace Go.Proofs.YtijnokbblmbpkaaGreatDoor
open Go Go.V
set_option maxHeartbeats 20000000
set_option maxRecDepth 100000
theorem cloneM_spec(b:Nat)(es:Array MapEntry)(c:Nat):Fun Tryz.prog 72 [.map (some b)] [[.obj b (.map es c)]] (fun v Post=>∃b',v=.map (some b')/\Post=[[.obj b (.map es c)],[.obj b' (.map es c)]]):=by
 refine⟨by kernel_rfl,fun F w hs=>?_⟩;have hb:w.heap[b]? =some (.map es c):=(hs.obj (b:=b) (o:=.map es c) Zs).1;refine(AnyW.maps_Clone Tryz.slcl2 b es c w hb).mono ?_;exact zB6
theorem st_appendT {P:Program}{n:Nat}{rs:List RO}{Γ:Env}{H R:SH}{Z:List PanicEntry->Env->SH->Prop}{K:Env->SH->Prop}{d:Option Nat}{s x:Operand}{sv:Value}{k:Nat}{xs sp:List Value}{a:Option Addr}{c:Nat}{l:List ByteArray}{A:List kC}
 (hs:ev Γ s=some sv) (hx:ev Γ x=some (.slice a l.length c)) (hsl:jC 1 sv k xs sp) (ht:Tk H (slA sv xs sp) R) (hr:RdT A (.slice a l.length c) l) (hA:∀y∈A,y∈R.flatten) (hroom:(2*(k+l.length)+192)*16<=2 ^ 48)
 (h:∀sv' sp',jC 1 sv' (k+l.length) (xs++l.map Value.string) sp'->VO P n rs (putE d sv' Γ) (slA sv' (xs++l.map Value.string) sp'::R) Z K):VO P n (⟨d,none,.append 9 1 16 [.string ⟨#[]⟩] s x⟩::rs) Γ H Z K:=by
 by_cases hl:0 < l.length
 ·exact jF (m:=l.length) (ys:=l.map Value.string) hs hx hsl ht Zr ((src_texts hr hl).mono hA) Zs (by simp[vX,jc]) Zr Zd hroom h
 ·have hl0:l=[]:=vj Zo;subst hl0;have h':=h sv sp (by simpa using hsl);simp only[Q0,vd]at h';have h2:VO P n rs (putE d sv Γ) H Z K:=VO.imp (Imp.perm (by simpa using ht.perm)) h';have hx':ev Γ x=some (.slice a 0 c):=hx;cases hsl with
  |mk h1 h2' h3=>
   cases a with
   |none=>exact jF (m:=0) (ys:=[]) hs hx' (.mk h1 h2' h3) ht Zr Zr Zr Zr Zr Zd (by simpa using hroom) (fun sv' sp' g=>by simpa using h sv' sp' (by simpa using g))
   |some ad=>exact st_append0 hs hx' h3 h2
  |nil=>exact st_appendN hs hx' h2
theorem cloneTexts_spec(A:List kC)(av:Value)(l:List ByteArray)(h:RdT A av l):Fun Tryz.prog 73 [av] [A] (fun v Post=>∃B,TxOwn v l B/\Post=[A,B]):=by
 obtain⟨a,c,rfl,hl,hr⟩:=h;refine Fun.intro low73 (by simp[n73]) ?_;have hsz:∀t∈l,t.size<=140737488355328:=fun t ht=>by
  obtain⟨i,hi⟩:=Vg ht;obtain⟨_,_,_,_,h⟩:=hr i t hi;exact h
 cases a with
 |none=>
  have hl0:l=[]:=by
   cases l with
   |nil=>rfl
   |cons t l=>obtain⟨_,_,h,_⟩:=hr 0 t rfl;cases h
  subst hl0;refine GOH ?_;exact kG (Post:=[A,[]]) (.inr rfl) (.tmp Zr .nil) ⟨[],⟨[],.nil,rfl,Zs,Zs⟩,rfl⟩ ⟨[],by simp[V.Spl]⟩
 |some ad=>
  refine GOH ?_;refine j9 (out:=[]) Zr Zr (fun q=>?_);refine GOH ?_;cases hl0:l with
  |nil=>
   subst hl0;refine st_append0 Zr Zr (QW _) ?_;refine GOH ?_;exact kG (Post:=[A,[]]) (.inr rfl) (.tmp Zr .nil) ⟨[],⟨[],.mk rfl rfl (QW _),rfl,Zs,Zs⟩,rfl⟩ ⟨[],by simp[V.Spl,kA]⟩
  |cons t l'=>
   rw[<- hl0];obtain⟨b,o,had,_⟩:=hr 0 t (by rw[hl0];rfl);cases had;have hsrc:Src [A].flatten 1 l.length (l.map Value.string) (.slice (some ⟨b,o,none⟩) l.length c):=by
    exact zC1
   refine jF (k:=0) (m:=l.length) (xs:=[]) (sp:=[]) (ys:=l.map Value.string) Zr Zr (.mk rfl rfl (QW _)) (show Tk [kA q 0 [],A] (kA q 0 []) [A]from .here) Zr hsrc Zs (by simp[vX,jc]) Zr Zd Zo (fun sv' sp' hsl'=>?_);rw[QD,Qe]at*;obtain⟨a',c',rfl⟩:=hsl'.form;refine GOH ?_;exact kG (Post:=[A,slA (.slice a' l.length c') (l.map Value.string) sp']) (.inr rfl) (.tmp Zr .nil) ⟨_,⟨_,hsl',rfl,hl,hsz⟩,rfl⟩ ZI
theorem free_down(S:List kC)(mp op dp mb:Nat):∀(N:Nat) (x:Nd),x.w<=N->∀vs,jQ S x vs->∀(seen out:List ByteArray) (mes:Array MapEntry) (mc hb:Nat) (hes:Array MapEntry) (hc:Nat) (sv:Value) (sp:List Value),FrOk seen out mes mc hes hc sv sp->
 seen.length+x.w<=1099511627776->out.length+x.w<=1099511627776->
 Fun Tryz.prog 71 [.agg vs.toArray,.map (some hb),kE mp,kE op,kE dp] [kA mp 0 [.map (some mb)],kA op 0 [sv],kA dp 0 [(.func (.func 71) #[] #[kE mp,kE op,kE dp])],[.obj mb (.map mes mc)],[.obj hb (.map hes hc)],slA (sv) ((out).map Value.string) sp,S]
  (fun v Post=>∃mes' mc' sv' sp',(v=.tuple #[]/\MetIs (frN seen out x) mes' mc'/\jC 1 sv' (frN seen out x).length ((frN seen out x).map Value.string) sp')/\Post=[kA mp 0 [.map (some mb)],kA op 0 [sv'],kA dp 0 [(.func (.func 71) #[] #[kE mp,kE op,kE dp])],[.obj mb (.map mes' mc')],[.obj hb (.map hes hc)],slA (sv') ((frN seen out x).map Value.string) sp',S]):=by
 intro N
 induction N with
 |zero=>intro x hx;have:=x.w_pos;omega
 |succ N ih=>
  intro x hx vs h seen out mes mc hb hes hc sv sp hok hsw how;obtain⟨hmet,hheld,hsl⟩:=hok;obtain⟨sa,sc,rfl⟩:=hsl.form;cases h with
  |@mk k s lit args temps kids p lv av tv a cc bk o us wf hl hav htv ha hm hr hcp=>
  obtain⟨aa,ac,rfl,hav1,hav2⟩:=id hav;obtain⟨ta,tc,rfl,htv1,htv2⟩:=id htv;have hlv:=hl;cases hl with
  |@mk k1 n1 b1 t1 items la lc lbk lo lus wf2 ha2 hm2 hr2=>
  simp only[Nd.w]at hx hsw how;obtain⟨mH,hH1,hH2,hH3⟩:=id hheld.is;obtain⟨mM,hM1,hM2⟩:=id hmet.is;have hgs:=hH2 s;have hms:=hM2 s;obtain⟨s1,hs1d⟩:∃s1,s1=(if k=7 then seen++args++temps else seen):=⟨_,rfl⟩;obtain⟨o1,ho1d⟩:∃o1,o1=(if(k=2∨k=3)/\zW s=0/\s∉seen/\s∉out then out++[s]else out):=⟨_,rfl⟩;have hfr:frN seen out (.mk k s (.mk k1 n1 b1 t1 items) args temps kids p)=frNs s1 o1 kids:=by rw[frN,<- hs1d,<- ho1d]
  rw[hfr];have hs1l:s1.length<=seen.length+args.length+temps.length:=by
   rw[hs1d];split
   ·simp only[Vj];omega
   ·omega
  have ho1l:o1.length<=out.length+1:=by
   rw[ho1d];split
   ·simp
   ·omega
  obtain⟨fn,hfn⟩:∃fn,fn=(Value.func (.func 71) #[] #[kE mp,kE op,kE dp]):=⟨_,rfl⟩;have hcall:∀(z:Nd) (us:List Value),z∈kids->jQ S z us->∀(seen out:List ByteArray) (mes:Array MapEntry) (mc hb:Nat) (hes:Array MapEntry) (hc:Nat) (sv:Value) (sp:List Value),FrOk seen out mes mc hes hc sv sp->seen.length+z.w<=1099511627776->out.length+z.w<=1099511627776->
   FunV Tryz.prog fn [.agg us.toArray,.map (some hb)] [kA mp 0 [.map (some mb)],kA op 0 [sv],kA dp 0 [fn],[.obj mb (.map mes mc)],[.obj hb (.map hes hc)],slA (sv) ((out).map Value.string) sp,S]
    (fun v Post=>∃mes' mc' sv' sp',(v=.tuple #[]/\MetIs (frN seen out z) mes' mc'/\jC 1 sv' (frN seen out z).length ((frN seen out z).map Value.string) sp')/\Post=[kA mp 0 [.map (some mb)],kA op 0 [sv'],kA dp 0 [fn],[.obj mb (.map mes' mc')],[.obj hb (.map hes hc)],slA (sv') ((frN seen out z).map Value.string) sp',S]):=fun z us hz hzr seen out mes mc hb hes hc sv sp g1 g2 g3=>by
   have hzw:=Nd.ws_mem hz;rw[hfn];exact FunV.of_fun (first:=#[]) (cap:=#[kE mp,kE op,kE dp]) (ih z Zo us hzr seen out mes mc hb hes hc sv sp g1 g2 g3)
  rw[<- hfn];refine Fun.intro low71 (by simp[n71]) ?_;simp only[CNx];refine jU ?_;refine kd Zr (fun q=>?_);simp only[Value.cells];refine jU ?_;refine VC.join (α:=Array MapEntry×Nat×Value×List Value×Nat×Array MapEntry×Nat×List kC) (Γf:=fun r=>[(1,.map (some r.2.2.2.2.1)),(4,kE dp),(5,kE q)])
   (Hf:=fun r=>[kA q 0 [cv k,.string s,cv k1,vi n1,uv b1,.string t1,.slice la items.length lc,.slice aa args.length ac,.slice ta temps.length tc,.slice a kids.length cc,vi p],kA mp 0 [.map (some mb)],kA op 0 [r.2.2.1],kA dp 0 [fn],[.obj mb (.map r.1 r.2.1)],[.obj r.2.2.2.2.1 (.map r.2.2.2.2.2.1 r.2.2.2.2.2.2.1)],slA (r.2.2.1) ((o1).map Value.string) r.2.2.2.1,S,r.2.2.2.2.2.2.2])
   (I:=fun r=>MetIs o1 r.1 r.2.1/\HeldIs s1 r.2.2.2.2.2.1 r.2.2.2.2.2.2.1/\jC 1 r.2.2.1 o1.length (o1.map Value.string) r.2.2.2.1/\(kC.obj r.2.2.2.2.1 (.map r.2.2.2.2.2.1 r.2.2.2.2.2.2.1)::r.2.2.2.2.2.2.2).Perm (kC.obj hb (.map hes hc)::(if k=7 then [kC.obj r.2.2.2.2.1 (.map r.2.2.2.2.2.1 r.2.2.2.2.2.2.1)]else []))) ?_ ?_
  ·refine GOH ?_;by_cases hk2:k=2
   ·subst hk2;exact zA9
   by_cases hk3:k=3
   ·subst hk3;exact zA9
   have ho1:o1=out:=by rw[ho1d,if_neg (fun c=>c.1.elim hk2 hk3)]
   rw[show decide ((k:Int)=2)=false from Zf Zo];refine GOH ?_;rw[show decide ((k:Int)=3)=false from Zf Zo];refine GOH ?_;by_cases hk7:k=7;rotate_left
   ·rw[show decide ((k:Int)=7)=false from Zf Zo];have hseen:s1=seen:=by rw[hs1d,if_neg hk7]
    refine GOH ?_;refine⟨(mes,mc,.slice sa out.length sc,sp,hb,hes,hc,[]),⟨by rw[ho1];exact hmet,by rw[hseen];exact hheld,by rw[ho1];exact hsl,by rw[if_neg hk7]⟩,ZU,?_⟩;dsimp only;rw[ho1];exact IMx
   subst hk7;refine GOH ?_;refine kM (cloneM_spec hb hes hc) Zr ZP (fun v Post hv=>?_);obtain⟨hb',rfl,rfl⟩:=hv;simp only[CNx];have hnl:(args++temps).length=args.length+temps.length:=Vj;refine jU ?_;refine VC.seq_draws (α:=Value×List kC) (fun r=>[(1,.map (some hb')),(4,kE dp),(5,kE q),(47,r.1),(48,vi (args.length+temps.length:Nat)),(49,vi (0:Nat))])
    (fun r=>[kA q 0 [cv 7,.string s,cv k1,vi n1,uv b1,.string t1,.slice la items.length lc,.slice aa args.length ac,.slice ta temps.length tc,.slice a kids.length cc,vi p],r.2,[.obj hb' (.map hes hc)],kA mp 0 [.map (some mb)],kA op 0 [.slice sa out.length sc],kA dp 0 [fn],[.obj mb (.map mes mc)],[.obj hb (.map hes hc)],slA (.slice sa out.length sc) ((out).map Value.string) sp,S])
    (fun r=>∃xa xc,r.1=.slice xa (args++temps).length xc/\RdT r.2 r.1 (args++temps)) ⟨?_,?_,trivial⟩ ?_
   ·exact zAG
   ·exact zAG
   rintro⟨lv,X⟩ ⟨xa,xc,e1,hrd⟩
   simp only at e1 hrd;subst e1;obtain⟨xa',xc',e',hrl,hrd2⟩:=id hrd;cases e';dsimp only;refine GOH ?_;refine VC.loop (α:=Nat×Array MapEntry×Nat) (Γf:=fun r=>[(1,.map (some hb')),(4,kE dp),(5,kE q),(47,.slice xa (args++temps).length xc),(48,vi (args.length+temps.length:Nat)),(49,vi r.1)])
    (Hf:=fun r=>[kA q 0 [cv 7,.string s,cv k1,vi n1,uv b1,.string t1,.slice la items.length lc,.slice aa args.length ac,.slice ta temps.length tc,.slice a kids.length cc,vi p],X,[.obj hb' (.map r.2.1 r.2.2)],kA mp 0 [.map (some mb)],kA op 0 [.slice sa out.length sc],kA dp 0 [fn],[.obj mb (.map mes mc)],[.obj hb (.map hes hc)],slA (.slice sa out.length sc) ((out).map Value.string) sp,S])
    (I:=fun r=>r.1<=args.length+temps.length/\HeldIs (seen++(args++temps).take r.1) r.2.1 r.2.2) (μ:=fun r=>args.length+temps.length - r.1) (0,hes,hc) ⟨Qf _,by rw[QS,vd];exact hheld⟩ ZU ZI ?_
   rintro⟨j,es2,c2⟩ ⟨hj,hh2⟩
   simp only at hj hh2;dsimp only;refine GOH ?_;by_cases hlt:j < args.length+temps.length;rotate_left
   ·rw[show decide ((j:Int) < ((args.length+temps.length:Nat):Int))=false from Zf Zo];refine GOH ?_;rw[QR Zo]at hh2;refine⟨(mes,mc,.slice sa out.length sc,sp,hb',es2,c2,[kC.obj hb (.map hes hc)]),⟨by rw[ho1];exact hmet,by rw[hs1d,if_pos rfl,vZ];exact hh2,by rw[ho1];exact hsl,List.Perm.swap _ _ _⟩,ZU,?_⟩;dsimp only;rw[ho1];exact IMx
   rw[show decide ((j:Int) < ((args.length+temps.length:Nat):Int))=true from Zt Zo];obtain⟨nm,hnm⟩:∃nm,(args++temps)[j]? =some nm:=⟨_,Zg Zo⟩;obtain⟨xb,xo,rfl,hcell,hss⟩:=hrd2 j nm hnm;obtain⟨m2,k1',k2',k3'⟩:=id hh2.is;have k4:=k3' nm;have k5:=held_put (s:=nm) k2' k3';rw[Vj,Vv]at k4;refine GOH ?_;refine wP (E:=zX) (V:=fun n:Nat=>.int .i64 n) (k:=nm) Zr Zr rfl Zay k1' ?_;rw[lookN];generalize hgn2:(kq nm m2).getD 0=gn2 at k4 k5;refine GOH ?_;refine wO (E:=zX) (V:=fun n:Nat=>.int .i64 n) (k:=nm) (v:=gn2+1) Zr Zr Zr rfl ZK k1' (fun es' c' hes'=>?_);refine GOH ?_;refine⟨(j+1,es',c'),⟨by simp only;omega,?_⟩,by simp only;omega,ZU,ZI⟩;have htk:seen++(args++temps).take (j+1)=seen++(args++temps).take j++[nm]:=by rw[QO,hnm,vZ];rfl
   rw[htk];exact⟨⟨_,hes',k5.1,k5.2⟩⟩
  rintro⟨mes1,mc1,sv1,sp1,hb1,hes1,hc1,ex⟩ ⟨g1,g2,g3,g4⟩
  simp only at g1 g2 g3 g4;dsimp only;refine GOH ?_;refine VC.loop (α:=Nat×Array MapEntry×Nat×Value×List Value) (Γf:=fun r=>[(1,.map (some hb1)),(4,kE dp),(59,.slice a kids.length cc),(60,vi kids.length),(61,vi r.1)])
   (Hf:=fun r=>[kA mp 0 [.map (some mb)],kA op 0 [r.2.2.2.1],kA dp 0 [fn],[.obj mb (.map r.2.1 r.2.2.1)],[.obj hb1 (.map hes1 hc1)],slA (r.2.2.2.1) ((frNs s1 o1 (kids.take r.1)).map Value.string) r.2.2.2.2,S,ex])
   (I:=fun r=>r.1<=kids.length/\MetIs (frNs s1 o1 (kids.take r.1)) r.2.1 r.2.2.1/\jC 1 r.2.2.2.1 (frNs s1 o1 (kids.take r.1)).length ((frNs s1 o1 (kids.take r.1)).map Value.string) r.2.2.2.2) (μ:=fun r=>kids.length - r.1) (0,mes1,mc1,sv1,sp1) ⟨Qf _,by rw[QS,frNs];exact g1,by rw[QS,frNs];exact g3⟩ ZU (by dsimp only;rw[QS,frNs];exact IMx) ?_
  rintro⟨j,mes2,mc2,sv2,sp2⟩ ⟨hj,i1,i2⟩
  simp only at hj i1 i2;dsimp only;obtain⟨o2,ho2⟩:∃o2,o2=frNs s1 o1 (kids.take j):=⟨_,rfl⟩;rw[<- ho2]at i1 i2|-;have ho2l:o2.length<=o1.length+Nd.ws (kids.take j):=by rw[ho2];exact frNs_len s1 _ _
  refine GOH ?_;by_cases hlt:j < kids.length;rotate_left
  ·rw[show decide ((j:Int) < (kids.length:Int))=false from Zf Zo];rw[QR Zo]at ho2;rw[<- ho2];refine GOH ?_;refine kG (Post:=[kA mp 0 [.map (some mb)],kA op 0 [sv2],kA dp 0 [fn],[.obj mb (.map mes2 mc2)],[.obj hb (.map hes hc)],slA (sv2) ((o2).map Value.string) sp2,S]) (.inl rfl) .nil ⟨mes2,mc2,sv2,sp2,⟨rfl,i1,i2⟩,rfl⟩ ?_;refine Imp.cut (M:=[kA mp 0 [.map (some mb)],kA op 0 [sv2],kA dp 0 [fn],[.obj mb (.map mes2 mc2)],slA sv2 (o2.map Value.string) sp2,S,[.obj hb1 (.map hes1 hc1)],ex]) ZI ?_;refine Imp.cut (M:=[kA mp 0 [.map (some mb)],kA op 0 [sv2],kA dp 0 [fn],[.obj mb (.map mes2 mc2)],slA sv2 (o2.map Value.string) sp2,S,[.obj hb (.map hes hc)],(if k=7 then [kC.obj hb1 (.map hes1 hc1)]else [])]) (Imp.perm ?_) ZI;simp only[vz,V0,vd];refine vU _ (vU _ (vU _ (vU _ (vU _ (vU _ ?_)))));exact g4
  rw[show decide ((j:Int) < (kids.length:Int))=true from Zt Zo];obtain rfl:=ha Zo;obtain⟨z,hz⟩:∃z,kids[j]? =some z:=⟨_,Zg hlt⟩;have hzr:=hr j z hz;have hzm:=hm j hlt;have hmany:=wf.many;have htk:kids.take (j+1)=kids.take j++[z]:=by rw[QO,hz];rfl
  have hws:Nd.ws (kids.take j)+z.w<=Nd.ws kids:=by
   have e:kids=kids.take j++z::kids.drop (j+1):=by
    rw[<- QP j kids]
    congr 1
    ·rw[QP]
    ·rw[QP,vh hlt]
     congr 1
     rw[Zg hlt]at hz;exact Qn hz
   have:=nws_app (z::kids.drop (j+1)) (kids.take j);rw[<- e]at this;rw[this];simp only[Nd.ws];omega
  have hzk:=hcall z (us j) (Zv hz) hzr s1 o2 mes2 mc2 hb1 hes1 hc1 sv2 sp2 ⟨i1,g2,i2⟩ Zo Zo;generalize us j=uj at hzr hzm hzk;obtain⟨f1,f2,f3,f4,f5,f6,f7,f8,f9,f10,f11,f12,f13,f14,f15,f16,f17,rfl,hsz,hkk⟩:=nd_open2 hzr;refine GOH ?_;refine kZ Zr (fun u hu=>List.mem_flatten.2 ⟨S,Zs,hzm u hu⟩) rfl ?_;refine GOH ?_;refine kL (fun q9=>?_);refine GOH ?_;refine st_callV Zr hzk Zr ZP (fun v Post hv=>?_);obtain⟨mes3,mc3,sv3,sp3,⟨rfl,j1,j2⟩,rfl⟩:=hv;simp only[CNx];have ho3:frNs s1 o1 (kids.take (j+1))=frN s1 o2 z:=by rw[htk,frNs_snoc,ho2]
  refine GOH ?_;refine⟨(j+1,mes3,mc3,sv3,sp3),⟨by simp only;omega,by simp only;rw[ho3];exact j1,by simp only;rw[ho3];exact j2⟩,by simp only;omega,ZU,?_⟩;dsimp only;rw[ho3];exact IMx
end Go.Proofs.YtijnokbblmbpkaaGreatDoor
namespace Go.Proofs.YtijnokbblmbpkaaGreatDoor
open Go Go.V
set_option maxHeartbeats 3200000
set_option maxRecDepth 100000
theorem Free_spec(S:List kC)(x:Nd)(vs:List Value)(h:jQ S x vs)(hw:x.w<=274877906944):Fun Tryz.prog 27 [.agg vs.toArray] [S] (fun v Post=>∃B,TxOwn v (frN [] [] x) B/\Post=[S,B]):=by
 have hlen:=frN_len [] x [];have hsz:=frN_size [] 274877906944 x [] hw (fun t ht=>by cases ht);have hd:∀(mp op dp mb:Nat) (mes:Array MapEntry) (mc hb:Nat),MetIs [] mes mc->FunV Tryz.prog (.func (.func 71) #[] #[kE mp,kE op,kE dp]) [.agg vs.toArray,.map (some hb)] [kA mp 0 [.map (some mb)],kA op 0 [.slice none 0 0],kA dp 0 [.func (.func 71) #[] #[kE mp,kE op,kE dp]],[.obj mb (.map mes mc)],[.obj hb (.map #[] 0)],slA (.slice none 0 0) (([]:List ByteArray).map Value.string) [],S]
  (fun v Post=>∃mes' mc' sv' sp',(v=.tuple #[]/\MetIs (frN [] [] x) mes' mc'/\jC 1 sv' (frN [] [] x).length ((frN [] [] x).map Value.string) sp')/\Post=[kA mp 0 [.map (some mb)],kA op 0 [sv'],kA dp 0 [.func (.func 71) #[] #[kE mp,kE op,kE dp]],[.obj mb (.map mes' mc')],[.obj hb (.map #[] 0)],slA sv' ((frN [] [] x).map Value.string) sp',S]):=fun mp op dp mb mes mc hb hm=>
  FunV.of_fun (first:=#[]) (cap:=#[kE mp,kE op,kE dp]) (free_down S mp op dp mb _ x (QW _) vs h [] [] mes mc hb #[] 0 (.slice none 0 0) [] ⟨hm,HeldIs.nil,.nil⟩ (by rw[Vr];omega) (by rw[Vr];omega))
 obtain⟨g1,g2,g3,g4,g5,g6,g7,g8,g9,g10,g11,g12,g13,g14,g15,g16,rfl⟩:=nd_openS h;refine Fun.intro low27 (by simp[n27]) ?_;refine GOH ?_;refine kd Zr (fun q=>?_);simp only[Value.cells];refine GOH ?_;refine kL (fun op=>?_);refine GOH ?_;refine st_mkmap (fun mb=>?_);refine GOH ?_;refine wO (E:=zX) (V:=fun n:Nat=>.int .i64 n) (k:=nmSelf) (v:=1) Zr Zr Zr rfl ZK .nil (fun es1 c1 h1=>?_);refine GOH ?_;refine wO (E:=zX) (V:=fun n:Nat=>.int .i64 n) (k:=nmSuper) (v:=1) Zr Zr Zr rfl ZK h1 (fun es2 c2 h2=>?_);refine GOH ?_;refine wO (E:=zX) (V:=fun n:Nat=>.int .i64 n) (k:=nmNil) (v:=1) Zr Zr Zr rfl ZK h2 (fun es3 c3 h3=>?_);refine GOH ?_;refine wO (E:=zX) (V:=fun n:Nat=>.int .i64 n) (k:=nmTrue) (v:=1) Zr Zr Zr rfl ZK h3 (fun es4 c4 h4=>?_);refine GOH ?_;refine wO (E:=zX) (V:=fun n:Nat=>.int .i64 n) (k:=nmFalse) (v:=1) Zr Zr Zr rfl ZK h4 (fun es5 c5 h5=>?_);refine GOH ?_;refine kL (fun mp=>?_);refine GOH ?_;refine kL (fun dp=>?_);refine GOH ?_;refine st_mkmap (fun hb=>?_);refine GOH ?_;refine VO.imp (H':=[kA mp 0 [.map (some mb)],kA op 0 [.slice none 0 0],kA dp 0 [(.func (.func 71) #[] #[kE mp,kE op,kE dp])],[.obj mb (.map es5 c5)],[.obj hb (.map #[] 0)],slA (.slice none 0 0) (([]:List ByteArray).map Value.string) [],S]) ?_ ?_
 ·show Imp [[.obj hb (.map #[] 0)],kA dp 0 [(.func (.func 71) #[] #[kE mp,kE op,kE dp])],kA mp 0 [.map (some mb)],[.obj mb (.map es5 c5)],kA op 0 [.slice none 0 0],kA q 0 _,S] [kA mp 0 [.map (some mb)],kA op 0 [.slice none 0 0],kA dp 0 [(.func (.func 71) #[] #[kE mp,kE op,kE dp])],[.obj mb (.map es5 c5)],[.obj hb (.map #[] 0)],[],S];exact Imp.cut (M:=[kA mp 0 [.map (some mb)],kA op 0 [.slice none 0 0],kA dp 0 [(.func (.func 71) #[] #[kE mp,kE op,kE dp])],[.obj mb (.map es5 c5)],[.obj hb (.map #[] 0)],S]) ZI (Imp.perm Zs)
 refine st_callV Zr (hd mp op dp mb es5 c5 hb ⟨⟨_,h5,met_five⟩⟩) Zr ZP (fun v Post hv=>?_);obtain⟨mes',mc',sv',sp',⟨rfl,j1,j2⟩,rfl⟩:=hv;simp only[CNx];obtain⟨a',c',rfl⟩:=id j2.form;refine GOH ?_;exact kG (Post:=[S,slA (.slice a' (frN [] [] x).length c') ((frN [] [] x).map Value.string) sp']) (.inr rfl) (.tmp Zr .nil) ⟨_,⟨sp',j2,rfl,by rw[Vr]at hlen;omega,fun t ht=>by have:=hsz t ht;omega⟩,rfl⟩ ZI
end Go.Proofs.YtijnokbblmbpkaaGreatDoor
namespace Go.Proofs.YtijnokbblmbpkaaGreatDoor
open Go Go.V
set_option maxRecDepth 100000
def F11:FIR:=laid (X:=⟨137,[.tmp 0],(qS [qz 0 false] [] (qS [qo 15 (.call 23 [(.const (.string ⟨#[102,111,111,58,32,97,32,124,32,116,32,117,32,124,32,116,32,58,61,32,97,46,32,117,32,58,61,32,91,58,120,32,124,32,116,32,58,61,32,120,32,43,32,97,46,32,91,120,32,43,32,117,93,93,46,32,94,117]⟩))]),
 qm 14 15,qe 16 14 0,qe 17 14 1,
 qo 1 (.alloc 25 [(.string ⟨#[]⟩),(.slice none 0 0),(.slice none 0 0),(.int .i64 0),(.slice none 0 0)]),
 qo 2 (.alloc 61 [(.int .i64 0),(.int .i64 0),(.bool false)]),qs 5 1 16,qs 3 2 17] [1] (qS [qN 19 5 1,qo 20 (.call 15 [(.tmp 19),(.const (.slice none 0 0)),(.const (.slice none 0 0))]),qm 18 20,qe 21 18 0,
 qe 22 18 1,qo 3 (.alloc 43 [(.string ⟨#[]⟩),(.int .i64 0),(.slice none 0 0)]),qs 3 3 21,qm 4 22] [1,3,4] (qS [qo 24 (.call 23 [(.const (.string ⟨#[102,111,111,32,120]⟩))]),qm 23 24,qe 25 23 0,qe 26 23 1,
 qo 5 (.alloc 25 [(.string ⟨#[]⟩),(.slice none 0 0),(.slice none 0 0),(.int .i64 0),(.slice none 0 0)]),
 qo 6 (.alloc 61 [(.int .i64 0),(.int .i64 0),(.bool false)]),qs 5 5 25,qs 3 6 26] [1,3,4,5] (qS [qN 28 5 5,qo 29 (.call 15 [(.tmp 28),(.const (.slice none 0 0)),(.const (.slice none 0 0))]),qm 27 29,qe 30 27 0,
 qe 31 27 1,qo 7 (.alloc 43 [(.string ⟨#[]⟩),(.int .i64 0),(.slice none 0 0)]),qs 3 7 30,qm 8 31] [1,3,4,8] (qS [qm 33 8,qx 34 16 [33],qm 32 34,qe 35 32 0,qe 36 32 1,qm 9 35,qm 10 36] [1,3,4,9,10] (.seq (qS [qm 37 4,qo 38 (.eqnil true .iface (.tmp 37)),qm 39 38,qu 39 (qf 40 2 3),qu 39 (ql 41 40),qu 39 (qL 42 41),qu 39 (qc 43 .neq 42 3),
 qr 44 39 43,qm 45 44,qu 45 (qf 46 2 3),qu 45 (ql 47 46),qu 45 (qo 48 (.idxL 6 (.tmp 47) (.const (.int .i64 1)))),qu 45 (qf 49 2 48),
 qu 45 (ql 50 49),qu 45 (qL 51 50),qu 45 (qc 52 .neq 51 2),qr 53 45 52,qm 54 53,qu 54 (qf 55 2 3),qu 54 (ql 56 55),
 qu 54 (qo 57 (.idxL 6 (.tmp 56) (.const (.int .i64 2)))),qu 54 (qf 58 2 57),qu 54 (ql 59 58),qu 54 (qL 60 59),qu 54 (qc 61 .neq 60 2),
 qr 62 54 61,qm 63 62,qu 63 (qf 64 4 1),qu 63 (ql 65 64),qu 63 (qL 66 65),qu 63 (qc 67 .neq 66 3),qr 68 63 67] [1,3,9,10,68] (qC 68 (qS [qz 0 false] [0] .ret) .skip)) (qS [qf 69 4 1,ql 70 69,qo 71 (.idxL 11 (.tmp 70) (.const (.int .i64 1))),qN 72 11 71,qx 73 27 [72],qm 11 73] [1,3,9,10,11] (qS [qo 74 (.build [(.int .u8 0),(.string ⟨#[]⟩),(.int .u8 0),(.int .i64 0),(.int .u64 0),(.string ⟨#[]⟩),(.slice none 0 0),(.slice none 0 0),(.slice none 0 0),(.slice none 0 0),(.int .i64 0)] [(0,1,(.const (.int .u8 7)))]),
 qo 75 (.bslice 72 1 [(.int .u8 0),(.string ⟨#[]⟩),(.int .u8 0),(.int .i64 0),(.int .u64 0),(.string ⟨#[]⟩),(.slice none 0 0),(.slice none 0 0),(.slice none 0 0),(.slice none 0 0),(.int .i64 0)] [(0,11,(.tmp 74))]),
 qo 76 (.build [(.int .u8 0),(.string ⟨#[]⟩),(.int .u8 0),(.int .i64 0),(.int .u64 0),(.string ⟨#[]⟩),(.slice none 0 0),(.slice none 0 0),(.slice none 0 0),(.slice none 0 0),(.int .i64 0)] [(0,1,(.const (.int .u8 4))),(1,1,(.const (.string ⟨#[119,104,105,108,101,84,114,117,101]⟩))),(9,1,(.tmp 75))]),
 qx 77 26 [76],qm 12 77] [1,3,9,10,11,12] (qS [qf 78 4 1,ql 79 78,qo 80 (.idxL 11 (.tmp 79) (.const (.int .i64 0))),qN 81 11 80,qx 82 26 [81],qm 13 82] [3,9,10,11,12,13] (qS [qf 83 2 3,ql 84 83,qo 85 (.idxL 6 (.tmp 84) (.const (.int .i64 0))),qf 86 4 85,ql 87 86,qc 88 .eql 87 2,qm 89 88,
 qt 89 (qf 90 2 3),qt 89 (ql 91 90),qt 89 (qo 92 (.idxL 6 (.tmp 91) (.const (.int .i64 1)))),qt 89 (qf 93 2 92),qt 89 (ql 94 93),
 qt 89 (qo 95 (.idxL 4 (.tmp 94) (.const (.int .i64 0)))),qt 89 (qN 96 4 95),
 qt 89 (qo 97 (.build [(.int .u8 0),(.int .i64 0),(.int .i64 0),(.string ⟨#[]⟩)] [(0,1,(.const (.int .u8 5))),(1,1,(.const (.int .i64 1)))])),
 qt 89 (qo 98 (.eqagg false [.int,.int,.int,.str] (.tmp 96) (.tmp 97))),qa 99 89 98,qm 100 99,qt 100 (qf 101 2 3),qt 100 (ql 102 101),
 qt 100 (qo 103 (.idxL 6 (.tmp 102) (.const (.int .i64 2)))),qt 100 (qf 104 2 103),qt 100 (ql 105 104),
 qt 100 (qo 106 (.idxL 4 (.tmp 105) (.const (.int .i64 1)))),qt 100 (qN 107 4 106),
 qt 100 (qo 108 (.build [(.int .u8 0),(.int .i64 0),(.int .i64 0),(.string ⟨#[]⟩)] [(0,1,(.const (.int .u8 5)))])),
 qt 100 (qo 109 (.eqagg false [.int,.int,.int,.str] (.tmp 107) (.tmp 108))),qa 110 100 109,qm 111 110,qt 111 (qm 112 9),qt 111 (qc 113 .eql 112 181),
 qa 114 111 113,qm 115 114,qt 115 (qm 116 10),qt 115 (qc 117 .eql 116 4),qa 118 115 117,qm 119 118,qt 119 (qm 120 11),qt 119 (qL 121 120),
 qt 119 (qc 122 .eql 121 3),qa 123 119 122,qm 124 123,qt 124 (qm 125 11),qt 124 (qo 126 (.idxL 1 (.tmp 125) (.const (.int .i64 0)))),
 qt 124 (ql 127 126),qt 124 (qo 128 (.bin .eql (.tmp 127) (.const (.string ⟨#[117]⟩)))),qa 129 124 128,qm 130 129,qt 130 (qm 131 12),qa 132 130 131,
 qm 133 132,qt 133 (qm 134 13),qt 133 (qo 135 (.un .not (.tmp 134))),qa 136 133 135,qm 0 136] [0] .ret)))))))))))⟩)
theorem n11:F11.n=137:=rfl
theorem low11:ki Tryz.prog (kpO F11) (kQ []) 11=some F11:=by kernel_rfl
end Go.Proofs.YtijnokbblmbpkaaGreatDoor
namespace Go.Proofs.YtijnokbblmbpkaaGreatDoor
open Go Go.V
set_option maxHeartbeats 6400000
set_option maxRecDepth 100000
def u1:List wZ:=(ansM [] [] m1).1
theorem an1:(ansM [] [] m1).2=(0,0):=by kernel_rfl
theorem an2:(ansM [] [] m2)=([],181,4):=by kernel_rfl
theorem un1:u1.length=3:=by kernel_rfl
theorem un2:u1[0]?.map (·.vector)=some 2:=by kernel_rfl
theorem un3:u1[1]?.map (·.copied.length)=some 2:=by kernel_rfl
theorem un4:(u1[1]?.bind (·.copied[0]?))=some ⟨5,1,0,e0⟩:=by kernel_rfl
theorem un5:(u1[2]?.bind (·.copied[1]?))=some ⟨5,0,0,e0⟩:=by kernel_rfl
theorem un6:u1[2]?.map (·.copied.length)=some 2:=by kernel_rfl
theorem units_at {B:List kC}{v:Value}(h:UsRd B v u1):∃bk o c b1 o1 c1 b2 o2 c2,v=.slice (some ⟨bk,o,none⟩) 3 c/\kC.cell bk (o+4) (.int .i64 2)∈B/\kC.cell bk (o+8) (.slice (some ⟨b1,o1,none⟩) 2 c1)∈B/\kC.cell bk (o+14) (.slice (some ⟨b2,o2,none⟩) 2 c2)∈B/\
 (∀y∈kA b1 o1 [.int .u8 5,.int .i64 1,.int .i64 0,.string ⟨#[]⟩],y∈B)/\∀y∈kA b2 (o2+4) [.int .u8 5,.int .i64 0,.int .i64 0,.string ⟨#[]⟩],y∈B:=by
 obtain⟨a,c,bk,o,us,rfl,h2,h3,h4⟩:=h;obtain⟨x0,e0',k0⟩:=Qk.1 un2;obtain⟨x1,e1,k1⟩:=Qk.1 un3;obtain⟨x2,e2,k2⟩:=Qk.1 un6;have k3:=un4;rw[e1]at k3;have k4:=un5;rw[e2]at k4;rw[un1]at h2 h3|-;obtain rfl:=h2 Zd;obtain⟨cv0,bv0,r0,p0,_⟩:=h4 0 x0 e0';obtain⟨cv1,bv1,r1,p1,_⟩:=h4 1 x1 e1;obtain⟨cv2,bv2,r2,p2,_⟩:=h4 2 x2 e2;obtain⟨a1,c1,rfl,q1⟩:=p1;obtain⟨a2,c2,rfl,q2⟩:=p2;obtain⟨b1,o1,rfl,s1⟩:=q1 0 _ k3;obtain⟨b2,o2,rfl,s2⟩:=q2 1 _ k4;have g0:=h3 0 Zd;have g1:=h3 1 Zd;have g2:=h3 2 Zd;rw[r0]at g0;rw[r1,show x1.copied.length=2 from k1]at g1;rw[r2,show x2.copied.length=2 from k2]at g2;refine⟨bk,o,c,b1,o1,c1,b2,o2,c2,rfl,g0 _ ?_,g1 _ ?_,g2 _ ?_,s1,?_⟩
 ·exact kI.2 ⟨4,.int .i64 2,by rw[<- k0];rfl,Zs⟩
 ·exact kI.2 ⟨2,_,rfl,Zs⟩
 ·exact kI.2 ⟨2,_,rfl,Zs⟩
 ·exact s2
def bl0:Nd:=.mk 7 ⟨#[]⟩ (.mk 0 0 0 ⟨#[]⟩ []) [] [] [] 0
def wh0:Nd:=.mk 4 ⟨#[119,104,105,108,101,84,114,117,101]⟩ (.mk 0 0 0 ⟨#[]⟩ []) [] [] [bl0] 0
theorem RdT.nil0(S:List kC):RdT S (.slice none 0 0) []:=⟨none,0,rfl,Zd,fun i t h=>by simp at h⟩
theorem lt0(S:List kC):LtRd S (.mk 0 0 0 ⟨#[]⟩ []) [cv 0,vi 0,uv 0,.string ⟨#[]⟩,.slice none 0 0]:=.mk (a:=none) (c:=0) (bk:=0) (o:=0) (us:=fun _=>[]) ⟨Zd,Zd,Zd,Zd,Zd⟩ (fun h=>absurd h Zs) (fun i hi=>absurd hi Zs) (fun i x hx=>by simp at hx)
def z11:List Value:=[.int .u8 7,.string ⟨#[]⟩,.int .u8 0,.int .i64 0,.int .u64 0,.string ⟨#[]⟩,.slice none 0 0,.slice none 0 0,.slice none 0 0,.slice none 0 0,.int .i64 0]
theorem bl0_rd(S:List kC):jQ S bl0 z11:=
 .mk (a:=none) (c:=0) (bk:=0) (o:=0) (us:=fun _=>[]) ⟨Zd,Zd,Zd,Zd⟩ (lt0 S) (RdT.nil0 S) (RdT.nil0 S) (fun h=>absurd h Zs) (fun i hi=>absurd hi Zs) (fun i x hx=>by simp at hx) (QW _)
theorem wh0_rd(q c:Nat)(hc:1<=c):jQ (kA q 0 z11) wh0 [.int .u8 4,.string ⟨#[119,104,105,108,101,84,114,117,101]⟩,.int .u8 0,.int .i64 0,.int .u64 0,.string ⟨#[]⟩,.slice none 0 0,.slice none 0 0,.slice none 0 0,.slice (some ⟨q,0,none⟩) 1 c,.int .i64 0]:=
 .mk (a:=some ⟨q,0,none⟩) (c:=c) (bk:=q) (o:=0) (us:=fun _=>z11) (kids:=[bl0]) ⟨Zd,Zd,Zd,Zd⟩ (lt0 _) (RdT.nil0 _) (RdT.nil0 _) (fun _=>rfl) (fun i hi y hy=>by
  have:i=0:=by simpa using hi
  subst this;simpa using hy) (fun i x hx=>by
  cases i with
  |zero=>obtain rfl:bl0=x:=by simpa using hx
         exact bl0_rd _
  |succ i=>simp at hx) hc
theorem inl_wh:inlN wh0=true:=by kernel_rfl
theorem inl_b0:(m1.body[0]?).map inlN=some false:=by kernel_rfl
theorem fr_b1:(m1.body[1]?).map (frN [] [])=some [⟨#[117]⟩,⟨#[116]⟩,⟨#[97]⟩]:=by kernel_rfl
theorem w_m1:Nd.ws m1.body<=274877906944:=QV (by kernel_rfl)
theorem w_m2:Nd.ws m2.body<=274877906944:=QV (by kernel_rfl)
theorem s_m1:Nd.sizes m1.body<=1048576:=QV (by kernel_rfl)
theorem s_m2:Nd.sizes m2.body<=1048576:=QV (by kernel_rfl)
theorem c_m1:cntM m1.args m1.temps m1.body<=1048576:=QV (by kernel_rfl)
theorem c_m2:cntM m2.args m2.temps m2.body<=1048576:=QV (by kernel_rfl)
theorem Res1(S:List kC)(vs:List Value)(h:MdRd S m1 vs):Fun Tryz.prog 15 [.agg vs.toArray,.slice none 0 0,.slice none 0 0] [S] (fun v Post=>∃sel prim usv B,v=.tuple #[.agg #[.string sel,.int .i64 prim,usv],.nilIface]/\UsRd B usv u1/\Post=[S,B]):=by
 refine(Resolve_spec S m1 vs h [] [] _ _ (RdT.nil0 S) (RdT.nil0 S) (Qf _) (Qf _) c_m1 s_m1 w_m1).mono ?_
 rintro v Post (⟨l,usv,B,e1,rfl,h2,rfl⟩|⟨e,p,q,e1,hne,_⟩)
 ·have:u1=l:=by unfold u1;rw[e1]
  rw[this];exact⟨_,_,usv,B,rfl,h2,rfl⟩
 ·have:=an1;rw[e1]at this;exact absurd (congrArg Prod.fst this) hne
theorem Res2(S:List kC)(vs:List Value)(h:MdRd S m2 vs):Fun Tryz.prog 15 [.agg vs.toArray,.slice none 0 0,.slice none 0 0] [S] (fun v Post=>∃q,v=.tuple #[.agg #[.string e0,.int .i64 0,.slice none 0 0],.iface 80 (kE q)]/\Post=[S,jJ q 181 4]):=by
 refine(Resolve_spec S m2 vs h [] [] _ _ (RdT.nil0 S) (RdT.nil0 S) (Qf _) (Qf _) c_m2 s_m2 w_m2).mono ?_
 rintro v Post (⟨l,usv,B,e1,_⟩|⟨e,p,q,e1,hne,rfl,rfl⟩)
 ·rw[an2]at e1;cases e1
 ·rw[an2]at e1;cases e1;exact⟨q,rfl,rfl⟩
end Go.Proofs.YtijnokbblmbpkaaGreatDoor
namespace Go.Proofs.YtijnokbblmbpkaaGreatDoor
open Go Go.V
set_option maxHeartbeats 6400000
set_option maxRecDepth 100000
theorem ErA.more {A B:List kC}(h:ErA A)(hs:∀x∈A,x∈B):ErA B:=by
 obtain⟨ev,h1,h2⟩:=h;exact⟨ev,hs _ h1,h2⟩
theorem awake_spec(A:List kC)(hE:ErA A)(hT:EtA∈A):Fun Tryz.prog 11 [] [A] (fun v Post=>v=.bool true/\Post=[A]):=by
 refine Fun.intro low11 (by simp[n11]) ?_;refine GOH ?_;refine kM (m1_spec A) Zr ZP (fun v Post hv=>?_);obtain⟨vs1,B1,rfl,hm1,rfl⟩:=hv;simp only[CNx];refine VO.imp (H':=[A++B1]) (Imp.perm Zs) ?_;have hmd:MdRd (A++B1) m1 vs1:=(hm1.more fun z hz=>Q3 _ hz).ok (hE.more fun z hz=>Zw _ hz) w_m1;have hm1':=hm1.more (B:=A++B1) fun z hz=>Q3 _ hz
 have hE1:ErA (A++B1):=hE.more fun z hz=>Zw _ hz
 have hT1:EtA∈A++B1:=Zw _ hT;have hA1:∃R,A++B1=A++R:=⟨B1,rfl⟩;generalize A++B1=S1 at hmd hm1' hE1 hT1 hA1|-;clear hm1;obtain⟨⟨aa,ac,ta,tc,a,c,bk,o,us,rfl,hav,htv,hk⟩,hsel,hprim⟩:=hm1';refine GOH ?_;refine kL (fun q1=>?_);refine GOH ?_;refine kL (fun q2=>?_);refine GOH ?_;refine kM (Res1 S1 _ hmd) Zr ZP (fun v Post hv=>?_);obtain⟨sel,prim,usv,B,rfl,hus,rfl⟩:=hv;obtain⟨ub,uo,uc,rb1,ro1,rc1,rb2,ro2,rc2,rfl,k1,k2,k3,k4,k5⟩:=units_at hus;simp only[CNx];refine VO.imp (H':=[S1++B,kA q1 0 [.string m1.sel,.slice aa m1.args.length ac,.slice ta m1.temps.length tc,vi m1.prim,.slice a m1.body.length c]]) (Imp.cut (M:=[S1,B,kA q1 0 [.string m1.sel,.slice aa m1.args.length ac,.slice ta m1.temps.length tc,vi m1.prim,.slice a m1.body.length c]]) ZI (Imp.perm Zs)) ?_
 replace k1:kC.cell ub (uo+4) (.int .i64 2)∈S1++B:=Q3 _ k1
 replace k2:=Q3 S1 k2
 replace k3:=Q3 S1 k3
 replace k4:∀y∈kA rb1 ro1 [.int .u8 5,.int .i64 1,.int .i64 0,.string ⟨#[]⟩],y∈S1++B:=fun y hy=>Q3 S1 (k4 y hy)
 replace k5:∀y∈kA rb2 (ro2+4) [.int .u8 5,.int .i64 0,.int .i64 0,.string ⟨#[]⟩],y∈S1++B:=fun y hy=>Q3 S1 (k5 y hy)
 have hk2:∃bk o us,KidsRd (S1++B) m1.body a bk o us:=⟨bk,o,us,hk.at_,hk.many,fun i hi y hy=>Zw _ (hk.mem i hi y hy),fun i x e=>(hk.rd i x e).more fun z hz=>Zw _ hz⟩;have hE2:ErA (S1++B):=hE1.more fun z hz=>Zw _ hz
 have hT2:EtA∈S1++B:=Zw _ hT1;have hA2:∃R,S1++B=A++R:=by
  obtain⟨R,rfl⟩:=hA1;exact⟨R++B,vZ _ _ _⟩
 clear hk hmd hav htv hus;generalize S1++B=S2 at k1 k2 k3 k4 k5 hk2 hE2 hT2 hA2|-;clear hE1 hT1 hA1;refine GOH ?_;refine kL (fun q3=>?_);refine GOH ?_;refine kM (m2_spec S2) Zr ZP (fun v Post hv=>?_);obtain⟨vs2,B2,rfl,hm2,rfl⟩:=hv;simp only[CNx];refine VO.imp (H':=[S2++B2,kA q1 0 [.string m1.sel,.slice aa m1.args.length ac,.slice ta m1.temps.length tc,vi m1.prim,.slice a m1.body.length c],kA q3 0 [.string sel,.int .i64 prim,.slice (some ⟨ub,uo,none⟩) 3 uc]]) (Imp.cut (M:=[S2,B2,kA q1 0 [.string m1.sel,.slice aa m1.args.length ac,.slice ta m1.temps.length tc,vi m1.prim,.slice a m1.body.length c],kA q3 0 [.string sel,.int .i64 prim,.slice (some ⟨ub,uo,none⟩) 3 uc]]) ZI (Imp.perm Zs)) ?_;have hmd:MdRd (S2++B2) m2 vs2:=(hm2.more fun z hz=>Q3 _ hz).ok (hE2.more fun z hz=>Zw _ hz) w_m2;obtain⟨⟨aa2,ac2,ta2,tc2,a2,c2,_,_,_,rfl,_,_,_⟩,_,_⟩:=hm2;refine GOH ?_;refine kL (fun q4=>?_);refine GOH ?_;refine kL (fun q5=>?_);refine GOH ?_;refine kM (Res2 (S2++B2) _ hmd) Zr ZP (fun v Post hv=>?_);obtain⟨qf,rfl,rfl⟩:=hv;simp only[CNx];refine VO.imp (H':=[(S2++B2)++jJ qf 181 4,kA q1 0 [.string m1.sel,.slice aa m1.args.length ac,.slice ta m1.temps.length tc,vi m1.prim,.slice a m1.body.length c],kA q3 0 [.string sel,.int .i64 prim,.slice (some ⟨ub,uo,none⟩) 3 uc]]) (Imp.cut (M:=[S2++B2,jJ qf 181 4,kA q1 0 [.string m1.sel,.slice aa m1.args.length ac,.slice ta m1.temps.length tc,vi m1.prim,.slice a m1.body.length c],kA q3 0 [.string sel,.int .i64 prim,.slice (some ⟨ub,uo,none⟩) 3 uc]]) ZI (Imp.perm Zs)) ?_;have hfl:∀y∈jJ qf 181 4,y∈S2++B2++jJ qf 181 4:=fun y hy=>Q3 _ hy
 have f1:kC.cell qf 1 (.int .i64 4)∈S2++B2++jJ qf 181 4:=hfl _ (kI.2 ⟨1,_,rfl,Zs⟩);have f2:kC.cell qf 2 (.iface 44 (.int .i64 181))∈S2++B2++jJ qf 181 4:=hfl _ (kI.2 ⟨2,_,rfl,Zs⟩);clear hfl hmd;have hin:∀z∈S2,z∈S2++B2++jJ qf 181 4:=fun z hz=>Zw _ (Zw _ hz)
 replace k1:=hin _ k1
 replace k2:=hin _ k2
 replace k3:=hin _ k3
 replace k4:=fun y hy=>hin y (k4 y hy)
 replace k5:=fun y hy=>hin y (k5 y hy)
 have hT3:=hin _ hT2;obtain⟨bk,o,us,hk⟩:=hk2;have hk3:KidsRd (S2++B2++jJ qf 181 4) m1.body a bk o us:=⟨hk.at_,hk.many,fun i hi y hy=>hin _ (hk.mem i hi y hy),fun i x e=>(hk.rd i x e).more hin⟩;have hA3:∃R,S2++B2++jJ qf 181 4=A++R:=by
  obtain⟨R,rfl⟩:=hA2;exact⟨R++(B2++jJ qf 181 4),Zs⟩
 clear hin hk hE2 hT2 hA2;generalize S2++B2++jJ qf 181 4=S at k1 k2 k3 k4 k5 f1 f2 hT3 hk3 hA3|-;refine GOH ?_;refine kL (fun q6=>?_);refine GOH ?_;refine kM (Wrong_in S hT3 qf 4 181 f1 f2) Zr ZP (fun v Post hv=>?_);obtain⟨rfl,rfl⟩:=hv;simp only[CNx];obtain rfl:=hk3.at_ Zd;refine GOH ?_;obtain⟨n1,e1,hn1⟩:=Qk.1 fr_b1;obtain⟨n0,e0',hn0⟩:=Qk.1 inl_b0;have hw1:n1.w<=274877906944:=QY (Nd.ws_mem (Zv e1)) w_m1;refine kZ (us:=us 1) Zr (fun u hu=>by simp only[vz,Q1];exact .inl (hk3.mem 1 Zd u hu)) (jQ.len (hk3.rd 1 n1 e1)) ?_;refine GOH ?_;refine kM (Free_spec S n1 (us 1) (hk3.rd 1 n1 e1) hw1) Zr ZP (fun v Post hv=>?_);obtain⟨B3,hto,rfl⟩:=hv;have hrd:=hto.rd;rw[hn1]at hrd;obtain⟨fa,fc,rfl,_,hr⟩:=hrd;obtain⟨fb,fo,rfl,k6,_⟩:=hr 0 _ rfl;rw[QU]at k6;clear hto hr;simp only[CNx];refine GOH ?_;refine j9 (out:=z11) Zr Zr (fun qb=>?_);refine GOH ?_;refine kM (inlined_spec (kA qb 0 z11) wh0 _ (wh0_rd qb 1 (QW _))) Zr ZP (fun v Post hv=>?_);obtain⟨rfl,rfl⟩:=hv;rw[inl_wh];simp only[CNx];refine GOH ?_;refine kZ (us:=us 0) Zr (fun u hu=>by simp only[vz,Q1];have:=hk3.mem 0 Zd u hu;simp[this]) (jQ.len (hk3.rd 0 n0 e0')) ?_;refine GOH ?_;refine kM (inlined_spec S n0 (us 0) (hk3.rd 0 n0 e0')) Zr ZP (fun v Post hv=>?_);obtain⟨rfl,rfl⟩:=hv;rw[hn0];simp only[CNx];refine GOH ?_;refine kZ (us:=[.int .u8 5,.int .i64 1,.int .i64 0,.string ⟨#[]⟩]) Zr (fun u hu=>by have:=k4 u hu;simp only[vz,Q1];simp[this]) rfl ?_;refine GOH ?_;refine kZ (us:=[.int .u8 5,.int .i64 0,.int .i64 0,.string ⟨#[]⟩]) Zr (fun u hu=>by have:=k5 u hu;simp only[vz,Q1];simp[this]) rfl ?_;refine GOH ?_;obtain⟨R,rfl⟩:=hA3;exact kG (Post:=[A]) (.inr rfl) (.tmp (v:=.bool true) Zr .nil) ⟨rfl,rfl⟩ (Imp.cut (M:=[A++R]) ZI ⟨[R],by simp[V.Spl]⟩)
end Go.Proofs.YtijnokbblmbpkaaGreatDoor

/-
  ScopeMore: the walk.
-/
import Derived.Test.YtijnokbblmbpkaaGreatDoorM28
set_option linter.all false
namespace Go.Proofs.YtijnokbblmbpkaaGreatDoor
open Go Go.V
set_option maxHeartbeats 12800000
set_option maxRecDepth 100000
def E6(S:List kC)(err:Value)(e:Nat)(p:Int):Prop:=(err=.nilIface/\e=0/\p=0)∨∃q,err=flP q/\kC.cell q 1 (.int .i64 p)∈S/\kC.cell q 2 (.iface 44 (.int .i64 e))∈S
theorem E6.more {S T:List kC}{err:Value}{e:Nat}{p:Int}(h:E6 S err e p)(hs:∀y∈S,y∈T):E6 T err e p:=by
 rcases h with h|⟨q,h1,h2,h3⟩
 ·exact .inl h
 ·exact .inr ⟨q,h1,hs _ h2,hs _ h3⟩
theorem Dp(S:List kC)(hT:Ys∈S){err:Value}{e:Nat}{p:Int}(h:E6 S err e p):aw Tryz.prog 16 [err] [S] (fun v Post=>v=.tuple #[.int .i64 e,.int .i64 p]/\Post=[S]):=by
 rcases h with⟨rfl,rfl,rfl⟩|⟨q,rfl,h2,h3⟩
 ·exact Li S
 ·exact Fg S hT q p e h2 h3
def Z4(S:List kC)(aE:ByteArray)(ax:Int)(a:List wY×Nat×Int)(v:Value)(B:List kC):Prop:=∃uY err,v=.tuple #[.agg #[.string (if a.2.1=0 then aE else e0),.int .i64 (if a.2.1=0 then ax else 0),uY],err]/\pN B uY a.1/\E6 B err a.2.1 a.2.2
theorem Hm {S:List kC}{F G:List ByteArray}{x:Md}{v:Value}{Post:SH}(h:Z5 S F G x v Post):∃B,Z4 S x.aE x.ax (gK F G x) v B/\Post=[S,B]:=by
 rcases h with⟨l,uY,B,e1,rfl,x4,rfl⟩|⟨e,p,q,e1,bZ,rfl,rfl⟩
 ·rw[e1];exact⟨B,⟨uY,.nilIface,rfl,x4,.inl ⟨rfl,rfl,rfl⟩⟩,rfl⟩
 ·rw[e1];refine⟨_,⟨_,_,?_,pN.nil _,.inr ⟨q,rfl,kJ.2 ⟨1,_,rfl,Zs⟩,kJ.2 ⟨2,_,rfl,Zs⟩⟩⟩,rfl⟩;simp only[if_neg bZ];rfl
theorem Of {F G:List ByteArray}{x:Md}{m:ByteArray}(hc:wO x=0)(hm:m∉jz ([]++x.args++x.ab) [] x.body):gK (F++[m]) (G++[m]) x=gK F G x:=by
 rw[gK,gK,if_pos hc,if_pos hc,MW F G x.args x.ab x.body m (nZ hc) hm]
theorem Lj {S:List kC}{F G:List ByteArray}{x:Md}{v:Value}{Post:SH}(h:Z5 S F G x v Post)(Wb:iU x.args x.ab x.body<=1048576):(gK F G x).1.length<=1099511627776/\∀y∈(gK F G x).1,y.copied.length<=1099511627776/\PN.ws y.body<=1099511627776:=by
 rcases h with⟨l,uY,B,e1,_⟩|⟨e,p,q,e1,_⟩
 ·have hs:=Ca e1;rw[e1];refine⟨by have:=hs.many;simp only;omega,fun y hy=>?_⟩;obtain⟨i,hi⟩:=List.mem_iff_getElem?.1 hy;obtain⟨Y9,hu1,Mf,hu3⟩:=hs.unit i y hi;have ha0:=Y9.args;have EW:=Y9.locals;have:y.frame=y.args+y.copied.length+y.locals+(if 0 < y.aA then 1 else 0):=rfl;split at this <;> omega
 ·rw[e1];exact⟨Zs,fun y hy=>by cases hy⟩
theorem C2 {v:Value}{l:List ByteArray}{m:ByteArray}{sp:List Value}(h:jA 1 v (l.length+1) (l.map Value.string++[m].map Value.string) sp)(hl:l.length<=65536)(ht:∀t∈l,t.size<=140737488355328)(hm:m.size<=140737488355328):dG (aj v (l.map Value.string++[m].map Value.string) sp) v (l++[m]):=by
 rw[<- QA]at h|-;exact Ax Zs h pJ (fun t h=>by
  rcases QF.1 h with h|h
  ·exact ht t h
  ·rw[QR.1 h];exact hm)
theorem Hi {A:List kC}{v:Value}{l:List ByteArray}(h:dG A v l):∀t∈l,t.size<=140737488355328:=fun t ht=>by
 obtain⟨a,c,rfl,_,hr⟩:=h;obtain⟨i,hi⟩:=List.mem_iff_getElem?.1 ht;obtain⟨_,_,_,_,k⟩:=hr i t hi;exact k
theorem xe(A:List kC)(hE:nE A)(hT:Ys∈A)(x:Md)(vs:List Value)(h:Lg A x vs)(ss:∀a c,vs[4]? =some (.slice a x.body.length c)->x.body.length<=c)(F G:List ByteArray)(fv gv:Value)(hF:dG A fv F)(hG:dG A gv G)(m:ByteArray)(hm:m.size<=140737488355328):aw Tryz.prog 10 [.agg vs.toArray,fv,gv,.string m] [A] (fun v Post=>v=.bool true/\Post=[A]):=by
 have hfar:=OS A x vs h F G fv gv hF hG;have Wa:=fun hw=>E5 A hE x hw vs h
 have hres:=fun hw=>ez A x vs (h.ok hE hw) F G fv gv hF hG
 have eC:=Ao x.body;have hFs:=Hi hF;have hGs:=Hi hG;have YX:=h;have cp:x.args.length<=1099511627776:=by
  obtain⟨⟨aa,ac,ta,tc,a,c,bk,o,us,_,bJ,_⟩,_⟩:=h;obtain⟨_,_,_,g,_⟩:=bJ;exact g
 obtain⟨⟨aa,ac,ta,tc,a,c,bk,o,us,rfl,bJ,bF,hk⟩,bY,qg⟩:=h;have hblk:=π bJ bF hk (ss a c rfl);obtain⟨fa,fc,rfl,gS,uG⟩:=hF;obtain⟨ga,gc,rfl,hgl,DI⟩:=hG;refine aw.intro low10 (by simp[n10]) ?_;refine ae ?_;refine kX Zr (fun q4=>?_);simp only[Value.cells];refine ae ?_;refine kH (Ir A hE hT) Zr ZP (fun v Post hv=>?_);obtain⟨rfl,rfl⟩:=hv;simp only[aJ];refine ae ?_;refine kH hfar Zr ZP (fun v Post hv=>?_);obtain⟨b,rfl,hb,rfl⟩:=hv;simp only[aJ];cases b with
 |true=>
  exact zB4
 |false=>
 obtain⟨ep,p7,Nx,hb4⟩:=hb rfl;refine ae ?_;by_cases hml:m.size > 65536
 ·rw[show decide ((m.size:Int) > 65536)=true from Zt Zo];exact zB4
 rw[show decide ((m.size:Int) > 65536)=false from Zf Zo];refine ae ?_;refine kH (Wa Zo) Zr ZP (fun v Post hv=>?_);obtain⟨rfl,rfl⟩:=hv;simp only[aJ];refine ae ?_;by_cases hc:wO x=0;rotate_left
 ·rw[show decide (((wO x:Nat):Int)=0)=false from Zf Zo];exact zB4
 rw[show decide (((wO x:Nat):Int)=0)=true from Zt Zo];refine ae ?_;refine kH (B7 A _ _ hblk (by
  have e1:e0.size=0:=rfl;have e2:Go.V.fV.size=1:=by decide
  have e3:iU x.args x.ab x.body=1+x.args.length+x.ab.length+jM x.body:=rfl;rw[Nd.w];omega)) Zr ZP (fun v Post hv=>?_)
 obtain⟨B,Ul,rfl⟩:=hv;have uz:=Ul.rd;rw[OW]at uz;simp only[aJ];have xO:=@Of F G x m hc;generalize jz ([]++x.args++x.ab) [] x.body=l at uz xO;have hhas:=O0 B l v uz m;obtain⟨la,lc,rfl,KC,NE⟩:=uz;clear Ul hfar Wa;refine ae ?_;refine kH hhas Zr ZP (fun v Post hv=>?_);obtain⟨rfl,rfl⟩:=hv;simp only[aJ];by_cases hml2:m∈l
 ·rw[show(l.any fun s=>decide (s=m))=true from vh.2 ⟨m,hml2,Zt rfl⟩];exact zB4
 rw[show(l.any fun s=>decide (s=m))=false from vg.2 fun s hs k=>hml2 (of_decide_eq_true k ▸ hs)]
 replace xO:=xO hml2
 refine ae ?_;refine kH (hres Zo Zo Zo ep Zo Zo) Zr ZP (fun v Post hv=>?_);obtain⟨sC,rK⟩:=Lj hv ep;obtain⟨B1,⟨uY,err,rfl,x4,herr⟩,rfl⟩:=Hm hv;simp only[aJ];obtain⟨ua,uc,ubk,uo,uws,hu0,_⟩:=id x4;obtain⟨n0,hn0⟩:∃n0,n0=(gK F G x).1.length:=⟨_,rfl⟩;rw[<- hn0]at hu0;subst hu0;have Y7:∀(S:List kC) (fv gv:Value),(∀y∈A,y∈S)->dG S fv (F++[m])->dG S gv (G++[m])->aw Tryz.prog 15 [.agg #[.string x.aE,.slice aa x.args.length ac,.slice ta x.ab.length tc,vi x.ax,.slice a x.body.length c],fv,gv] [S] (fun v Post=>∃B,Z4 S x.aE x.ax (gK F G x) v B/\Post=[S,B]):=fun S fv gv hS h1 h2=>
  (ez S x _ ((YX.more hS).ok (hE.more hS) Zo) _ _ fv gv h1 h2 pJ pJ ep Zo Zo).mono fun v Post hv=>by
    rw[<- xO];exact Hm hv
 generalize gK F G x=Oe at sC rK x4 herr hn0 Y7;obtain⟨sl,bD⟩:∃sl,sl=(if Oe.2.1=0 then x.aE else e0):=⟨_,rfl⟩;obtain⟨pr,hpr⟩:∃pr,pr=(if Oe.2.1=0 then x.ax else 0):=⟨_,rfl⟩;rw[<- bD,<- hpr];refine ae ?_;refine kO (fun mf=>?_);refine ae ?_;refine VC.imp (H':=[kA mf 0 [.string sl,.int .i64 pr,.slice ua n0 uc],A,B1,kA q4 0 [.string x.aE,.slice aa x.args.length ac,.slice ta x.ab.length tc,vi x.ax,.slice a x.body.length c]]) ZI ?_;refine VC.seq (VC.freeC 17 (fun i v B d=>match i with
  |0=>v=.agg #[.string x.aE,.slice aa x.args.length ac,.slice ta x.ab.length tc,vi x.ax,.slice a x.body.length c]/\B=[]
  |1=>v=.slice fa F.length fc/\B=[]
  |2=>∃sp,jA 1 v F.length (F.map Value.string) sp/\B=aj v (F.map Value.string) sp
  |3=>v=.string m/\B=[]
  |4=>∃r,v=.slice (some ⟨r,0,none⟩) 1 1/\B=kA r 0 [.string m]
  |5=>∃sp,jA 1 v (F.length+1) (F.map Value.string++[m].map Value.string) sp/\B=aj v (F.map Value.string++[m].map Value.string) sp
  |6=>v=.slice ga G.length gc/\B=[]
  |7=>∃sp,jA 1 v G.length (G.map Value.string) sp/\B=aj v (G.map Value.string) sp
  |8=>v=.string m/\B=[]
  |9=>∃r,v=.slice (some ⟨r,0,none⟩) 1 1/\B=kA r 0 [.string m]
  |10=>∃sp,jA 1 v (G.length+1) (G.map Value.string++[m].map Value.string) sp/\B=aj v (G.map Value.string++[m].map Value.string) sp
  |11=>Z4 A x.aE x.ax Oe v B
  |12=>v=d 11/\B=[]
  |13=>(∀y z,d 12=.tuple #[y,z]->v=y)/\B=[]
  |14=>(∀y z,d 12=.tuple #[y,z]->v=z)/\B=[]
  |15=>∃q,v=kF q/\B=kA q 0 [.string ⟨#[]⟩,.int .i64 0,Nz]
  |16=>∃q cs,d 15=kF q/\d 13=.agg cs/\B=kA q 0 cs.toList
  |_=>True) Zd Zd Zd (fun i=>match i with|5=>[2,4]|10=>[7,9]|11=>[5,10]|16=>[15]|_=>[]) Zd ?_ ?_)
 ·intro i hi vv hg ay hh DJ
  match i,hi with
  |0,_=>
   show VO _ _ [⟨some 62,none,.iB 5 (.tmp 4)⟩] _ [kA mf 0 [.string sl,.int .i64 pr,.slice ua n0 uc],A,B1,kA q4 0 [.string x.aE,.slice aa x.args.length ac,.slice ta x.ab.length tc,vi x.ax,.slice a x.body.length c]] _ _;exact yH (DJ 4 _ rfl Zd) UB Zad
  |1,_=>
   show VO _ _ [⟨some 63,none,.mv (.tmp 1)⟩] _ _ _ _;exact nz (DJ 1 _ rfl Zd) Zad
  |2,_=>
   show VO _ _ [⟨some 64,none,.append 9 1 16 [.string ⟨#[]⟩] (.const Nz) (.tmp 63)⟩] _ [kA mf 0 [.string sl,.int .i64 pr,.slice ua n0 uc],A,B1,kA q4 0 [.string x.aE,.slice aa x.args.length ac,.slice ta x.ab.length tc,vi x.ax,.slice a x.body.length c]] _ _;have e:=hh 1 Zd 63 rfl;rw[(hg 1 Zd).1]at e;refine VO.imp (H':=aj Nz [] []::[kA mf 0 [.string sl,.int .i64 pr,.slice ua n0 uc],A,B1,kA q4 0 [.string x.aE,.slice aa x.args.length ac,.slice ta x.ab.length tc,vi x.ax,.slice a x.body.length c]]) (ao.perm (by simp[aj])) ?_;refine pD (l:=F) (A:=A) Zr e .nil ZK ⟨fa,fc,rfl,gS,uG⟩ (fun y hy=>by simp[hy]) Zo (fun sv sp hs=>?_);exact zEV
  |3,_=>
   show VO _ _ [⟨some 65,none,.mv (.tmp 3)⟩] _ _ _ _;exact nz (DJ 3 _ rfl Zd) Zad
  |4,_=>
   show VO _ _ [⟨some 66,none,.gM 9 1 [.string ⟨#[]⟩] [(0,1,.tmp 65)]⟩] _ [kA mf 0 [.string sl,.int .i64 pr,.slice ua n0 uc],A,B1,kA q4 0 [.string x.aE,.slice aa x.args.length ac,.slice ta x.ab.length tc,vi x.ax,.slice a x.body.length c]] _ _;have e:=hh 3 Zd 65 rfl;rw[(hg 3 Zd).1]at e;exact zBQ
  |5,_=>
   show VO _ _ [⟨some 67,none,.append 9 1 16 [.string ⟨#[]⟩] (.tmp 64) (.tmp 66)⟩] _ _ _ _;obtain⟨sp,hs,hB⟩:=hg 2 Zd;obtain⟨r,hr,hB2⟩:=hg 4 Zd;have e:=hh 2 Zd 64 rfl;have e2:=hh 4 Zd 66 rfl;rw[hr]at e2;show VO _ _ _ _ ((vv 2).2::(vv 4).2::[kA mf 0 [.string sl,.int .i64 pr,.slice ua n0 uc],A,B1,kA q4 0 [.string x.aE,.slice aa x.args.length ac,.slice ta x.ab.length tc,vi x.ax,.slice a x.body.length c]]) _ _;exact zD2
  |6,_=>
   show VO _ _ [⟨some 68,none,.mv (.tmp 2)⟩] _ _ _ _;exact nz (DJ 2 _ rfl Zd) Zad
  |7,_=>
   show VO _ _ [⟨some 69,none,.append 9 1 16 [.string ⟨#[]⟩] (.const Nz) (.tmp 68)⟩] _ [kA mf 0 [.string sl,.int .i64 pr,.slice ua n0 uc],A,B1,kA q4 0 [.string x.aE,.slice aa x.args.length ac,.slice ta x.ab.length tc,vi x.ax,.slice a x.body.length c]] _ _;have e:=hh 6 Zd 68 rfl;rw[(hg 6 Zd).1]at e;refine VO.imp (H':=aj Nz [] []::[kA mf 0 [.string sl,.int .i64 pr,.slice ua n0 uc],A,B1,kA q4 0 [.string x.aE,.slice aa x.args.length ac,.slice ta x.ab.length tc,vi x.ax,.slice a x.body.length c]]) (ao.perm (by simp[aj])) ?_;refine pD (l:=G) (A:=A) Zr e .nil ZK ⟨ga,gc,rfl,hgl,DI⟩ (fun y hy=>by simp[hy]) Zo (fun sv sp hs=>?_);exact zEV
  |8,_=>
   show VO _ _ [⟨some 70,none,.mv (.tmp 3)⟩] _ _ _ _;exact nz (DJ 3 _ rfl Zd) Zad
  |9,_=>
   show VO _ _ [⟨some 71,none,.gM 9 1 [.string ⟨#[]⟩] [(0,1,.tmp 70)]⟩] _ [kA mf 0 [.string sl,.int .i64 pr,.slice ua n0 uc],A,B1,kA q4 0 [.string x.aE,.slice aa x.args.length ac,.slice ta x.ab.length tc,vi x.ax,.slice a x.body.length c]] _ _;have e:=hh 8 Zd 70 rfl;rw[(hg 8 Zd).1]at e;exact zBQ
  |10,_=>
   show VO _ _ [⟨some 72,none,.append 9 1 16 [.string ⟨#[]⟩] (.tmp 69) (.tmp 71)⟩] _ _ _ _;obtain⟨sp,hs,hB⟩:=hg 7 Zd;obtain⟨r,hr,hB2⟩:=hg 9 Zd;have e:=hh 7 Zd 69 rfl;have e2:=hh 9 Zd 71 rfl;rw[hr]at e2;show VO _ _ _ _ ((vv 7).2::(vv 9).2::[kA mf 0 [.string sl,.int .i64 pr,.slice ua n0 uc],A,B1,kA q4 0 [.string x.aE,.slice aa x.args.length ac,.slice ta x.ab.length tc,vi x.ax,.slice a x.body.length c]]) _ _;exact zD2
  |11,_=>
   show VO _ _ [⟨some 73,none,.call 15 [.tmp 62,.tmp 67,.tmp 72]⟩] _ ((vv 5).2::(vv 10).2::[kA mf 0 [.string sl,.int .i64 pr,.slice ua n0 uc],A,B1,kA q4 0 [.string x.aE,.slice aa x.args.length ac,.slice ta x.ab.length tc,vi x.ax,.slice a x.body.length c]]) _ _;have e:=hh 0 Zd 62 rfl;rw[(hg 0 Zd).1]at e;have e2:=hh 5 Zd 67 rfl;have e3:=hh 10 Zd 72 rfl;obtain⟨sp,hs,hB⟩:=hg 5 Zd;obtain⟨sp2,hsb,hB2⟩:=hg 10 Zd;have r1:=C2 hs Zo hFs hm;have r2:=C2 hsb Zo hGs hm;rw[<- hB]at r1;rw[<- hB2]at r2;refine VO.imp (H':=(A++((vv 5).2++(vv 10).2))::[kA mf 0 [.string sl,.int .i64 pr,.slice ua n0 uc],B1,kA q4 0 [.string x.aE,.slice aa x.args.length ac,.slice ta x.ab.length tc,vi x.ax,.slice a x.body.length c]]) (ao.cut (M:=[A,(vv 5).2,(vv 10).2,kA mf 0 [.string sl,.int .i64 pr,.slice ua n0 uc],B1,kA q4 0 [.string x.aE,.slice aa x.args.length ac,.slice ta x.ab.length tc,vi x.ax,.slice a x.body.length c]]) ZI (ao.perm Zs)) ?_;refine kH (Y7 (A++((vv 5).2++(vv 10).2)) _ _ (fun y hy=>Zw _ hy) (r1.more fun y hy=>QG _ (Zw _ hy)) (r2.more fun y hy=>QG _ (QG _ hy))) (by simp only[V.nI,V.ev,e,e2,e3]) ZP (fun v Post hv=>?_);obtain⟨B2,hf,rfl⟩:=hv;refine VO.nil ⟨v,B2,rfl,hf,?_⟩;simp only[aJ];exact ao.cut (M:=[A,(vv 5).2++(vv 10).2,B2,kA mf 0 [.string sl,.int .i64 pr,.slice ua n0 uc],B1,kA q4 0 [.string x.aE,.slice aa x.args.length ac,.slice ta x.ab.length tc,vi x.ax,.slice a x.body.length c]]) (ao.perm Zs) ZI
  |12,_=>
   show VO _ _ [⟨some 61,none,.mv (.tmp 73)⟩] _ _ _ _;exact nz (hh 11 Zd 73 rfl) Zad
  |13,_=>
   show VO _ _ [⟨some 74,none,.ext (.tmp 61) 0⟩] _ _ _ _;obtain⟨Dj,er2,k1,_,_⟩:=hg 11 Zd;have e:=hh 12 Zd 61 rfl;have k2:(vv 12).1=(vv 11).1:=(hg 12 Zd).1;rw[k2,k1]at e;refine sX e Zr (VO.nil ⟨_,[],rfl,⟨fun y z k=>?_,rfl⟩,ao.perm Zs⟩);have k:(vv 12).1=.tuple #[y,z]:=k;rw[k2,k1]at k;simp at k;exact k.1
  |14,_=>
   show VO _ _ [⟨some 75,none,.ext (.tmp 61) 1⟩] _ _ _ _;obtain⟨Dj,er2,k1,_,_⟩:=hg 11 Zd;have e:=hh 12 Zd 61 rfl;have k2:(vv 12).1=(vv 11).1:=(hg 12 Zd).1;rw[k2,k1]at e;refine sX e Zr (VO.nil ⟨_,[],rfl,⟨fun y z k=>?_,rfl⟩,ao.perm Zs⟩);have k:(vv 12).1=.tuple #[y,z]:=k;rw[k2,k1]at k;simp at k;exact k.2
  |15,_=>
   show VO _ _ [⟨some 15,none,.alloc 43 [.string ⟨#[]⟩,.int .i64 0,Nz]⟩] _ [kA mf 0 [.string sl,.int .i64 pr,.slice ua n0 uc],A,B1,kA q4 0 [.string x.aE,.slice aa x.args.length ac,.slice ta x.ab.length tc,vi x.ax,.slice a x.body.length c]] _ _;exact kO (fun q=>VO.nil ⟨_,_,rfl,⟨q,rfl,rfl⟩,ao.refl _⟩)
  |16,_=>
   show VO _ _ [⟨none,none,.store 3 (.tmp 15) (.tmp 74)⟩] _ ((vv 15).2::[kA mf 0 [.string sl,.int .i64 pr,.slice ua n0 uc],A,B1,kA q4 0 [.string x.aE,.slice aa x.args.length ac,.slice ta x.ab.length tc,vi x.ax,.slice a x.body.length c]]) _ _;obtain⟨Dj,er2,k1,Mf,_⟩:=hg 11 Zd;obtain⟨ua2,uc2,_,_,_,rfl,_⟩:=Mf;have e:=hh 15 Zd 15 rfl;have e2:=hh 13 Zd 74 rfl;obtain⟨q,j1,j2⟩:=hg 15 Zd;have k2:(vv 12).1=(vv 11).1:=(hg 12 Zd).1;have k3:=(hg 13 Zd).1 _ _ (show(vv 12).1=_ from k2.trans k1);rw[j1]at e;rw[k3]at e2;rw[j2];refine eV e e2 Zr Zr Zr (by exact Lh.cells Zo (by show 3<=3;omega) Zr) ?_;exact VO.nil ⟨undef,_,rfl,⟨q,_,j1,k3,rfl⟩,ao.refl _⟩
  |n+17,h=>exact absurd h Zo
 ·intro vv hg ay hh DJ;obtain⟨Dj,er2,k1,Mg,herr2⟩:=hg 11 Zd;have k2:(vv 12).1=(vv 11).1:=(hg 12 Zd).1;have k3:=(hg 13 Zd).1 _ _ (show(vv 12).1=_ from k2.trans k1);have k4:=(hg 14 Zd).1 _ _ (show(vv 12).1=_ from k2.trans k1);obtain⟨q15,j1,_⟩:=hg 15 Zd;obtain⟨q',cs,i1,i2,i3⟩:=hg 16 Zd;have i1:(vv 15).1=kF q':=i1;have i2:(vv 13).1=.agg cs:=i2;rw[k3,Value.agg.injEq]at i2;subst i2;have s15:=hh 15 Zd 15 rfl;rw[i1]at s15;have s75:=hh 14 Zd 75 rfl;rw[k4]at s75;have s13:=DJ 13 _ rfl Zd;have s14:=DJ 14 _ rfl Zd;show VO _ _ [⟨some 16,none,.mv (.tmp 75)⟩] _ ([(vv 0).2,(vv 1).2,(vv 3).2,(vv 6).2,(vv 8).2,(vv 11).2,(vv 12).2,(vv 13).2,(vv 14).2,(vv 16).2]++[kA mf 0 [.string sl,.int .i64 pr,.slice ua n0 uc],A,B1,kA q4 0 [.string x.aE,.slice aa x.args.length ac,.slice ta x.ab.length tc,vi x.ax,.slice a x.body.length c]]) _ _;rw[i3];clear i3 i1 hg hh DJ k1 k2 k3 k4 j1;generalize (vv 11).2=B2 at*;obtain⟨ua2,uc2,_,_,_,Mf,_⟩:=id Mg;subst Mf;obtain⟨n2,AY⟩:∃n2,n2=Oe.1.length:=⟨_,rfl⟩;rw[<- AY]at Mg;subst n2;have hsS:=Ak (A++(B1++B2)) sl pr Oe.1 sC rK _ _ (x4.more fun y hy=>QG _ (Zw _ hy)) (Mg.more fun y hy=>QG _ (QG _ hy));have E4:=Dp (A++(B1++B2)) (Zw _ hT) (herr.more fun y hy=>QG _ (Zw _ hy));have I8:=Dp (A++(B1++B2)) (Zw _ hT) (herr2.more fun y hy=>QG _ (QG _ hy));rw[<- bD,<- hpr];refine VO.imp (H':=[A++(B1++B2),kA mf 0 [.string sl,.int .i64 pr,.slice ua n0 uc],kA q' 0 [.string sl,.int .i64 pr,.slice ua2 Oe.1.length uc2]]) ?_ ?_
  ·simp only[aJ];exact ao.cut (M:=[A,B1,B2,kA mf 0 [.string sl,.int .i64 pr,.slice ua n0 uc],kA q' 0 [.string sl,.int .i64 pr,.slice ua2 Oe.1.length uc2]]) ZI (ao.perm Zs)
  subst hn0;refine VO.sub (Δ:=[(13,kF mf),(14,err),(15,kF q'),(75,er2)]) (Sub.cons s13 (Sub.cons s14 (Sub.cons s15 (Sub.cons s75 Sub.nil)))) ?_;refine ae ?_;refine kH E4 Zr ZP (fun v Post hv=>?_);obtain⟨rfl,rfl⟩:=hv;simp only[aJ];refine ae ?_;refine kH I8 Zr ZP (fun v Post hv=>?_);obtain⟨rfl,rfl⟩:=hv;simp only[aJ];refine ae ?_;rw[show decide ((Oe.2.1:Int)=(Oe.2.1:Int))=true from Zt rfl];refine ae ?_;rw[show decide (Oe.2.2=Oe.2.2)=true from Zt rfl];refine ae ?_;refine kH hsS Zr ZP (fun v Post hv=>?_);obtain⟨rfl,rfl⟩:=hv;simp only[aJ];refine ae ?_;exact kG (Post:=[A]) (.inr rfl) (.tmp Zr .nil) ⟨rfl,rfl⟩ (ao.cut (M:=[A++(B1++B2)]) ZI ⟨[B1++B2],by simp[V.eo]⟩)
end Go.Proofs.YtijnokbblmbpkaaGreatDoor

/-
  The units around a unit, one behind the other; how many are needed.
-/
import Derived.Test.YtijnokbblmbpkaaGreatDoorS18
import Derived.Test.YtijnokbblmbpkaaGreatDoorS12
import Derived.Test.YtijnokbblmbpkaaGreatDoorS15
import Derived.Test.YtijnokbblmbpkaaGreatDoorS16
import Derived.Test.YtijnokbblmbpkaaGreatDoorS7
import Derived.Test.YtijnokbblmbpkaaGreatDoorS11
import Derived.Test.YtijnokbblmbpkaaGreatDoorS17
set_option linter.all false
namespace Go.V
open Go
theorem Wf.Bl {st:ah}(h:Wf st):∀(k u:Nat),u<=st.outer.length->∀x,(st.line u)[k]? =some x->(st.line u)[k+1]? =if st.outer.getD x (-1) < 0 then none else some (st.outer.getD x (-1)).toNat:=by
 intro k
 induction k with
 |zero=>
  intro u hu x hx;have hl:=h.ff u;rw[h.line hu]at hx|-;obtain rfl:u=x:=by simpa using hx
  rw[Vg];split
  ·rfl
  ·rw[h.line Zo];rfl
 |succ k ih=>
  intro u hu x hx;have hl:=h.ff u;rw[h.line hu]at hx|-;rw[Vg]at hx|-;split at hx
  ·simp at hx
  ·rename_i c;rw[if_neg c];exact ih _ Zo x hx
theorem Wf.Un {st:ah}(h:Wf st){u:Nat}(hu:u < st.outer.length):∀w∈st.line u,w < st.outer.length:=fun w hw=>by
 have:=h.uf u Zo w hw;omega
def ah.around(st:ah)(u:Nat):List Nat:=(st.line u).drop 1
def tE(U:List UC)(l:List Nat)(d:Nat):Value:=match l[d]? with|some x=>kF (qU U x)|none=>.pointer none
theorem oA(st:ah)(u d:Nat):(st.around u)[d]? =(st.line u)[d+1]?:=by
 unfold ah.around;rw[Vi,Nat.add_comm]
theorem fp {U:List UC}{x:Nat}{w:UC}(h:U[x]? =some w):qU U x=w.q:=by unfold qU;rw[h];rfl
theorem eO.outerQ {st:ah}{L:Nat}{U:List UC}{V:List ax}(h:eO st L U V){i:Nat}{u:UC}(hu:U[i]? =some u):kM u.outer=tE U (st.around i) 0:=by
 have et:i < st.outer.length:=by have:=(Vm.1 hu).1;rw[h.ul]at this;exact this
 have tN:=h.wf.ff i;have h0:(st.line i)[0]? =some i:=by rw[h.wf.line Zo];rfl
 have hn:=h.wf.Bl 0 i Zo i h0;rw[h.ou i u hu];unfold tE;rw[oA,hn];by_cases c:st.outer.getD i (-1) < 0
 ·rw[if_pos c,if_pos c];rfl
 ·rw[if_neg c,if_neg c];obtain⟨w,hw⟩:∃w,U[(st.outer.getD i (-1)).toNat]? =some w:=⟨_,Zg (by rw[h.ul];omega)⟩;rw[hw];simp only[fp hw];rfl
theorem eO.outerN {st:ah}{L:Nat}{U:List UC}{V:List ax}(h:eO st L U V){i d x:Nat}{w:UC}(hi:i < st.outer.length)(hd:(st.around i)[d]? =some x)(hw:U[x]? =some w):kM w.outer=tE U (st.around i) (d+1):=by
 rw[oA]at hd;have hn:=h.wf.Bl (d+1) i Zo x hd;have hxl:=h.wf.Un hi x (Zv hd);have tN:=h.wf.ff x;rw[h.ou x w hw];unfold tE;rw[oA,hn];by_cases c:st.outer.getD x (-1) < 0
 ·rw[if_pos c,if_pos c];rfl
 ·rw[if_neg c,if_neg c];obtain⟨w',rX⟩:∃w',U[(st.outer.getD x (-1)).toNat]? =some w':=⟨_,Zg (by rw[h.ul];omega)⟩;rw[rX];simp only[fp rX];rfl
theorem RY(o:List Int):∀n u,(yN o n u).length<=n:=by
 intro n
 induction n with
 |zero=>intro u;simp[yN]
 |succ n ih=>
  intro u;simp only[yN];split
  ·simp
  ·have:=ih (o.getD u.toNat (-1));rw[Vu];omega
theorem uP(st:ah)(u:Nat):(st.around u).length<=st.outer.length:=by
 have:=RY st.outer (st.outer.length+1) u;unfold ah.around ah.line;rw[Vv];omega
def ah.lP(st:ah)(u k:Nat):List (Nat×Int):=((st.around u).reverse.take k).flatMap fun o=>(st.things o).filter (st.bg u)
theorem Ev(st:ah)(u:Nat){k:Nat}(h:(st.around u).length<=k):st.lP u k=st.copied u:=by
 unfold ah.lP ah.copied ah.around;rw[QZ (by rw[List.length_reverse];exact h)]
theorem Ks(st:ah){u k o:Nat}(h:(st.around u).reverse[k]? =some o):st.lP u (k+1)=st.lP u k++(st.things o).filter (st.bg u):=by
 unfold ah.lP;have hl:=(Vm.1 h).1;rw[QX,h];simp
theorem I8(st:ah){o m:Nat}(h:m < st.args.getD o 0+1):(st.things o)[m]? =some (o,(m:Int) - 1):=by
 unfold ah.things;rw[Vn,List.getElem?_range h];rfl
theorem pb(st:ah)(o:Nat):(st.things o).length=st.args.getD o 0+1:=by unfold ah.things;simp
theorem A5 {α:Type}{l:List α}{p:α->Bool}{m:Nat}{x:α}(h:l[m]? =some x):(l.take (m+1)).filter p=(l.take m).filter p++(if p x=true then [x]else []):=by
 rw[QX,h,vx];simp only[Option.toList_some]
 congr 1
 by_cases c:p x=true
 ·rw[if_pos c,vy,if_pos c];rfl
 ·rw[if_neg c,vy,if_neg c];rfl
theorem Hu {st:ah}{u M:Nat}(h:∀j,st.args.getD j 0<=M):(st.copied u).length<=(st.around u).length*(M+1):=by
 have key:∀l:List Nat,(l.flatMap fun o=>(st.things o).filter (st.bg u)).length<=l.length*(M+1):=by
  exact zCA
 have:=key (st.around u).reverse;rw[List.length_reverse]at this;exact this
theorem M9 {st:ah}{u M k:Nat}(h:∀j,st.args.getD j 0<=M):(st.lP u k).length<=(st.around u).length*(M+1):=by
 have key:∀l:List Nat,(l.flatMap fun o=>(st.things o).filter (st.bg u)).length<=l.length*(M+1):=by
  exact zCA
 have h1:=key ((st.around u).reverse.take k);have h2:((st.around u).reverse.take k).length<=(st.around u).length:=by
  have:=List.length_take_le' k (st.around u).reverse;rw[List.length_reverse]at this;exact this
 exact Qj h1 (Qm _ h2)
theorem EM {α β:Type}(f:α->List β){l:List α}{i:Nat}{x:α}(h:l[i]? =some x):∃R,(∀y,((l.set i y).flatMap f).Perm (f y++R))/\∀(k:Nat) z,k≠i->l[k]? =some z->∀a∈f z,a∈R:=by
 induction l generalizing i with
 |nil=>simp at h
 |cons a l ih=>
  cases i with
  |zero=>
   refine⟨l.flatMap f,fun y=>by simp,fun k z hk hz b hb=>?_⟩;cases k with
   |zero=>exact absurd rfl hk
   |succ k=>exact QG.2 ⟨z,Zv (by simpa using hz),hb⟩
  |succ i=>
   obtain⟨R,hR,hm⟩:=ih (i:=i) (by simpa using h);refine⟨f a++R,fun y=>?_,fun k z hk hz b hb=>?_⟩
   ·simp only[List.set_cons_succ,List.flatMap_cons];refine(vV _ (hR y)).trans ?_;exact zAT
   ·cases k with
    |zero=>
     obtain rfl:a=z:=by simpa using hz
     exact Zw _ hb
    |succ k=>exact QB _ (hm k z Zo (by simpa using hz) b hb)
theorem W6 {U:List UC}{V:List ax}{i:Nat}{u:UC}(hu:U[i]? =some u):∃R,(WK U V).Perm ([.obj u.nb (.map u.es u.cl)]++(kA u.q 7 [u.cv]++(ai u.cv (u.da.flatMap jT) u.bZ++R)))/\
 (∀c' v' p',(WK (U.set i {u with da:=c',cv:=v',bZ:=p'}) V).Perm ([.obj u.nb (.map u.es u.cl)]++(kA u.q 7 [v']++(ai v' (c'.flatMap jT) p'++R))))/\
 (∀(k:Nat) z,k≠i->U[k]? =some z->∀a∈z.atoms,a∈R)/\kC.own u.q 9∈R/\∀a∈kA u.q 0 [.int .i64 u.args,.int .i64 u.locals,.int .i64 u.aB,kM u.outer,.int .i64 u.num,u.tv,.map (some u.nb)],a∈R:=by
 obtain⟨RU,h1,hm⟩:=EM UC.atoms hu;obtain⟨X,hX⟩:∃X,X=(kC.own u.q 9::(kA u.q 0 [.int .i64 u.args,.int .i64 u.locals,.int .i64 u.aB,kM u.outer,.int .i64 u.num,u.tv,.map (some u.nb)]++(kA u.q 8 [u.body]++ai u.tv (u.ab.map fun b=>kM (some b)) u.ig))):=⟨_,rfl⟩;have hA:∀c' v' p',({u with da:=c',cv:=v',bZ:=p'}:UC).atoms.Perm (([.obj u.nb (.map u.es u.cl)]++(kA u.q 7 [v']++ai v' (c'.flatMap jT) p'))++X):=fun c' v' p'=>by
  unfold UC.atoms UC.row;rw[hX];have e:kA u.q 0 [.int .i64 u.args,.int .i64 u.locals,.int .i64 u.aB,kM u.outer,.int .i64 u.num,u.tv,.map (some u.nb),v',u.body]=kA u.q 0 [.int .i64 u.args,.int .i64 u.locals,.int .i64 u.aB,kM u.outer,.int .i64 u.num,u.tv,.map (some u.nb)]++(kA u.q 7 [v']++kA u.q 8 [u.body]):=rfl;simp only;rw[e];generalize kA u.q 0 [.int .i64 u.args,.int .i64 u.locals,.int .i64 u.aB,kM u.outer,.int .i64 u.num,u.tv,.map (some u.nb)]=A;generalize kA u.q 7 [v']=B;generalize kA u.q 8 [u.body]=C;generalize ai u.tv (u.ab.map fun b=>kM (some b)) u.ig=D;generalize ai v' (c'.flatMap jT) p'=E;generalize kC.obj u.nb (.map u.es u.cl)=o;generalize kC.own u.q 9=w;simp only[vf,vj];have k1:(A++(B++(C++(D++(E++[o]))))).Perm (o::(B++(E++(A++(C++D))))):=by
   refine List.Perm.trans (l₂:=(A++(B++(C++(D++E))))++[o]) (by simp only[vf];exact vX _) ?_;refine QP.trans (List.Perm.cons o ?_);refine(QR A B _).trans (vV _ ?_);refine List.Perm.trans (l₂:=(A++(C++D))++E) (by simp only[vf];exact vX _) ?_;exact QP
  refine(List.Perm.cons w k1).trans ?_;refine(List.Perm.swap _ _ _).trans (List.Perm.cons o ?_);refine List.Perm.trans (l₂:=[w]++(B++(E++(A++(C++D))))) (vX _) ?_;refine(QR _ B _).trans (vV _ ?_);exact(QR _ E _)
 have key:∀c' v' p',(WK (U.set i {u with da:=c',cv:=v',bZ:=p'}) V).Perm ([.obj u.nb (.map u.es u.cl)]++(kA u.q 7 [v']++(ai v' (c'.flatMap jT) p'++(X++(RU++V.flatMap ax.atoms))))):=fun c' v' p'=>by
  unfold WK;refine(vW _ ((h1 _).trans (vW _ (hA c' v' p')))).trans ?_;simp only[vf];exact vX _
 refine⟨X++(RU++V.flatMap ax.atoms),?_,key,fun k z hk hz a ha=>QB _ (Zw _ (hm k z hk hz a ha)),Zw _ (by rw[hX];exact QE ..),fun a ha=>Zw _ (by rw[hX];exact QD _ (Zw _ ha))⟩;have:=key u.da u.cv u.bZ;have e1:U.set i {u with da:=u.da,cv:=u.cv,bZ:=u.bZ}=U:=zE hu
 rwa [e1]at this
theorem AS(st:ah){l:List Nat}{j v:Nat}(h:l[j]? =some v)(r:Bool):yH st (l.take (j+1)) r=yH st (l.take j) r+(if st.rem v=r then 1 else 0):=by
 unfold yH;rw[A5 h,Vt];by_cases c:st.rem v=r
 ·rw[if_pos (Zt c),if_pos c];rfl
 ·rw[if_neg (by simpa using c),if_neg c];rfl
section
variable {P:Program} {n:Nat} {Γ:Env} {H:SH} {Z:List PanicEntry->Env->SH->Prop} {K:Env->SH->Prop} {rs:List RO} {d:Option Nat}
theorem L6 {m:Operand}{b c:Nat}{es:Array MapEntry}{l:List ((Nat×Int)×Int)}(hm:ev Γ m=some (.map (some b)))(ho:uH H b (.map es c))(hl:yU es.toList l)
 (h:VO P n rs (ap d (.int .i64 l.length) Γ) H Z K):VO P n (⟨d,none,.OS m⟩::rs) Γ H Z K:=by
 refine VO.read rfl rfl (fun ρ aK=>⟨_,rfl,fun F w hs=>?_⟩) h;rw[aK _ _ hm];have hg:=gH (P:=P) ho.mem hs;have hlen:es.size=l.length:=by
  have:=congrArg List.length hl;simpa using this
 simp[wM,hg,hlen]
end
end Go.V
namespace Go.Proofs.YtijnokbblmbpkaaGreatDoor
open Go Go.V
set_option maxHeartbeats 3200000
set_option maxRecDepth 100000
noncomputable def thF0:Field:=((Tryz.prog.fieldsOf 217)[0]?).getD default
noncomputable def thF1:Field:=((Tryz.prog.fieldsOf 217)[1]?).getD default
noncomputable def i206:TypeInfo:=(Tryz.prog.info? 206).getD default
noncomputable def i3:TypeInfo:=(Tryz.prog.info? 3).getD default
theorem thP:Xc Tryz.prog 217 199 206:=
 ⟨⟨thF0,thF1,by kernel_rfl,by kernel_rfl,by kernel_rfl,by decide+kernel,by decide+kernel,by kernel_rfl,by kernel_rfl⟩,⟨i206,by kernel_rfl,by decide+kernel⟩,by kernel_rfl,by kernel_rfl,⟨3,i3,by kernel_rfl,by kernel_rfl,by kernel_rfl⟩⟩
theorem u124:Tryz.prog.underlying 124=some (.pointer 206):=by kernel_rfl
theorem C7:Tryz.prog.info? 206=some i206:=by kernel_rfl
theorem C8:i206.size≠0:=by decide+kernel
theorem Mc(st:ah)(U:List UC)(Vs:List ax)(hR:cA st U Vs)(i v:Nat)(u:UC)(y:ax)(hu:U[i]? =some u)(hy:Vs[v]? =some y)(hl:st.af v∈st.line i)(hb:st.uses.length < 1073741824):
 aq Tryz.prog 232 [kF u.q,kF y.q] [WK U Vs] (fun r Post=>∃U' nN,(r=.tuple #[]/\cA (st.use i v) U' nN/\U'.map UC.q=U.map UC.q/\U'.map UC.body=U.map UC.body/\nN.map ax.q=Vs.map ax.q)/\Post=[WK U' nN]):=by
 have hwf:=hR.wf;have et:i < st.outer.length:=by have:=(Vm.1 hu).1;rw[hR.ul]at this;exact this
 have C6:v < st.vars.length:=by have:=(Vm.1 hy).1;rw[hR.vl]at this;exact this
 obtain⟨x,hx⟩:∃x,st.vars[v]? =some x:=⟨_,Zg C6⟩;have huo:st.af v=x.unit:=by unfold ah.af;rw[hx];rfl
 have hoo:st.bC v=x.own:=by unfold ah.bC;rw[hx];rfl
 obtain⟨⟨w,hw,hyw⟩,hya,XG,bL,lq⟩:=hR.vn v x y hx hy;have ZL:=(hwf.vu v x hx).2;have D4:w.q=u.q->x.unit=i:=fun e=>cr.Re hR hw hu e
 have hly:wZ (WK U Vs) w.q:=fZ hw;have hlu:wZ (WK U Vs) u.q:=fZ hu;have m0:kC.cell y.q 0 (kF w.q)∈WK U Vs:=iY hy _ (kI.2 ⟨0,_,by unfold ax.row;rw[hyw];rfl,rfl⟩);have m1:kC.cell y.q 1 (.int .i64 x.own)∈WK U Vs:=iY hy _ (kI.2 ⟨1,_,by unfold ax.row;rw[hya];rfl,rfl⟩);refine aq.intro abq (by simp[n232]) ?_;generalize hB:WK U Vs=B at hly hlu m0 m1|-;refine ae ?_;refine st_eqp u124 C7 C8 Zr Zr (hlu.more Zs) (hly.more Zs) ?_;refine ae ?_;by_cases he:u.q=w.q
 ·rw[Zt he];refine ae ?_;refine kG (Post:=[B]) (.inr rfl) .nil ⟨U,Vs,⟨rfl,?_,rfl,rfl,rfl⟩,by rw[hB]⟩ ZI;have e1:i=st.af v:=by rw[huo];exact(D4 he.symm).symm
  refine cr.congr (hR.useS et C6) (fun j t=>?_) (fun k=>?_) (fun k=>?_)
  ·rw[Ft,hwf.qW Zo e1];simp
  ·rw[J1];by_cases e:v=k
   ·subst e;simp[<- e1]
   ·simp[e]
  ·show st.uses.length<=(st.uses++[(i,v)]).length;rw[Vt];omega
 rw[Zf he];refine ae ?_;have ck:i≠st.af v:=fun e=>he (by
  rw[huo]at e;rw[<- e,hu]at hw;rw[Qx hw])
 have l7:∀k,(st.use i v).rem k=(st.rem k||(decide (v=k)&&decide (x.own < 0))):=fun k=>by
  rw[J1];by_cases e:v=k
  ·subst e;rw[hoo,show decide (st.af v≠i)=true from Zt (fun e=>ck e.symm),Bool.and_true]
  ·simp[e]
 by_cases ho:x.own < 0
 ·rw[show decide (x.own < 0)=true from Zt ho];obtain⟨R,hp,hr⟩:=Mj (U:=U) hy;rw[<- hB];refine VC.imp (H:=[WK U Vs]) (H':=[kA y.q 3 [.bool y.remote],R]) (ao.perm (by simpa using hp)) ?_;refine ae ?_;obtain⟨pw,xq⟩:∃pw,pw=Vs.set v {y with remote:=true}:=⟨_,rfl⟩;refine VC.imp (H':=[WK U pw]) (ao.perm (by rw[xq];simpa using(hr true).symm)) ?_;have SB:pw[v]? =some {y with remote:=true}:=by rw[xq,Vp];simp[(Vm.1 hy).1]
  obtain⟨y2,SB,η,hyu2,hya2⟩:∃y2,pw[v]? =some y2/\y2.q=y.q/\y2.unit=y.unit/\y2.arg=y.arg:=⟨_,SB,rfl,rfl,rfl⟩;have hvq2:pw.map ax.q=Vs.map ax.q:=by
   rw[xq,List.map_set];exact zE (by rw[Vn,hy];rfl)
  obtain⟨ME,H4⟩:∃ME:Nat->Bool,ME=fun k=>st.rem k||decide (v=k):=⟨_,rfl⟩
  have XB:∀k,(st.use i v).rem k=ME k:=fun k=>by rw[l7,H4];simp[ho]
  have JC:cr st (lR st v []) ME (fun k=>st.uses.length+(if k∈([]:List Nat)then 1 else 0)) U pw:=by
   rw[xq,H4];exact(cr.far hR hy).congr (fun k t=>AT st v k t) (fun k=>rfl) (fun k=>by simp)
  clear xq H4 hr;exact zA0
 ·rw[show decide (x.own < 0)=false from Zf ho];refine ae ?_;obtain⟨pw,xq⟩:∃pw,pw=Vs:=⟨_,rfl⟩;rw[<- hB];refine VC.imp (H':=[WK U pw]) (ao.perm (by rw[xq])) ?_;obtain⟨y2,SB,η,hyu2,hya2⟩:∃y2,pw[v]? =some y2/\y2.q=y.q/\y2.unit=y.unit/\y2.arg=y.arg:=⟨_,by rw[xq];exact hy,rfl,rfl,rfl⟩;have hvq2:pw.map ax.q=Vs.map ax.q:=by rw[xq]
  obtain⟨ME,H4⟩:∃ME:Nat->Bool,ME=st.rem:=⟨_,rfl⟩;have XB:∀k,(st.use i v).rem k=ME k:=fun k=>by rw[l7,H4];simp[ho]
  have JC:cr st (lR st v []) ME (fun k=>st.uses.length+(if k∈([]:List Nat)then 1 else 0)) U pw:=by
   rw[xq,H4];exact cr.congr hR (fun k t=>AT st v k t) (fun k=>rfl) (fun k=>by simp)
  clear xq H4;exact zA0
def mu(l:List Nat):List (Nat×Nat):=(List.range l.length).reverse.map fun i=>(i,l.getD i 0)
theorem mw(l:List Nat):(mu l).length=l.length:=by unfold mu;simp
theorem Gh {l:List Nat}{d k:Nat}(h:d+k+1=l.length):(mu l)[d]? =some (k,l.getD k 0):=by
 unfold mu;rw[Vn,List.getElem?_reverse (by rw[List.length_range];omega),List.length_range,List.getElem?_range Zo];have e:l.length - 1 - d=k:=by omega
 rw[e];rfl
theorem Ko(q:Nat)(l:List Nat)(v:Value)(L:List kC)(hL:wp L v l)(hl:l.length < 1073741824):
 Iter Tryz.prog (.func (.func 210) #[] #[kF q]) (fun x:Nat×Nat=>[vi x.1,kF x.2]) [kA q 0 [v],L] [] (fun full=>full=mu l):=by
 intro y J SP hy A hA;obtain⟨a,c,rfl,hp⟩:=hL;refine dk.bY (first:=#[]) (cap:=#[kF q]) ?_;show aq Tryz.prog 210 [y,kF q] _ _;refine aq.intro abd (by simp[n210]) ?_;simp only[aH];refine ae ?_;refine VC.loop (α:=Nat×List kC) (bn:=fun s=>[(0,y),(1,kF q),(3,.int .i64 ((l.length:Int) - 1 - s.1))]) (Hf:=fun s=>[kA q 0 [.slice a l.length c],L,s.2]) (I:=fun s=>s.1<=l.length/\J ((mu l).take s.1) s.2) (μ:=fun s=>l.length - s.1) (0,A) ⟨Qp _,by simpa using hA⟩ (by simp only[Int.natCast_zero,Int.sub_zero];exact tX) ZI ?_
 rintro⟨d,A1⟩ ⟨hd,hJ⟩
 simp only at hd hJ;dsimp only;refine ae ?_;by_cases aO:d < l.length;rotate_left
 ·rw[show decide ((0:Int)<=(l.length:Int) - 1 - (d:Int))=false from Zf Zo];refine ae ?_;have xz:(mu l).take d=mu l:=QZ (by rw[mw];omega);rw[xz]at hJ;exact kG (Post:=[A1]) (.inl rfl) .nil ⟨rfl,.inl ⟨mu l,A1,rfl,hJ,rfl⟩⟩ ZI
 obtain⟨k,hk⟩:∃k,d+k+1=l.length:=⟨l.length - 1 - d,Zo⟩;have Zx:(l.length:Int) - 1 - (d:Int)=(k:Int):=by omega
 rw[Zx];rw[show decide ((0:Int)<=(k:Int))=true from Zt Zo];have hg:=Gh hk;obtain⟨x,hx⟩:∃x,l[k]? =some x:=⟨_,Zg Zo⟩;obtain⟨b,o,rfl,hc⟩:=hp k x hx;have hgx:l.getD k 0=x:=by rw[Vb,hx];rfl
 rw[hgx]at hg;have hcc:kC.cell b (o+k) (kF x)∈L:=hc;refine ae ?_;have aM:OkC (fun full=>full=mu l) ((mu l).take d++[(k,x)]):=⟨(mu l).drop (d+1),by
  have hdl:d < (mu l).length:=by rw[mw];exact aO
  have e:=(Vm.1 hg).2;rw[vf,List.singleton_append,<- e,<- vp hdl,QY]⟩
 refine dN Zr (hy ((mu l).take d) (k,x) A1 aM hJ) Zr ZP (fun v Post hv=>?_);rcases hv with⟨rfl,A',Nv,rfl⟩|⟨rfl,B',hB',rfl⟩
 ·simp only[aH];refine ae ?_;have ht:(mu l).take (d+1)=(mu l).take d++[(k,x)]:=by rw[QX,hg];rfl
  refine⟨(d+1,A'),⟨by show d+1<=l.length;omega,by simp only[ht];exact Nv⟩,by simp only;omega,by simp only;rw[show(l.length:Int) - 1 - ((d+1:Nat):Int)=(k:Int) - 1 by omega];exact tX,ZI⟩
 ·exact zE1
theorem Kp(v:Value)(L:List kC)(hv:v.cells.toList=[v]):aq Tryz.prog 173 [v] [L] (fun r Post=>∃q,r=.func (.func 210) #[] #[kF q]/\Post=[kA q 0 [v],L]):=by
 refine aq.intro aaJ (by simp[n173]) ?_;refine ae ?_;refine kY Zr (fun q=>?_);rw[hv];refine ae ?_;exact kG (Post:=[kA q 0 [v],L]) (.inr rfl) (.tmp Zr .nil) ⟨q,rfl,rfl⟩ ZI
set_option maxHeartbeats 6400000
theorem Jq(st:ah)(l:List Nat)(r:Bool):yH st l r<=l.length:=Vy _ _
theorem Eu(st:ah)(i:Nat)(r:Bool):yH st (st.ab i) r=(st.locals i r).length:=by unfold yH;rw[pT]
theorem Ot(st:ah)(xp:Ph st)(U:List UC)(Vs:List ax)(i:Nat)(hR:eO st i U Vs)(u:UC)(hu:U[i]? =some u)(hb:st.vars.length<=1048576/\st.outer.length<=1048576/\∀j,st.args.getD j 0<=1048576):
 aq Tryz.prog 114 [kF u.q] [WK U Vs] (fun r Post=>∃U' nN,(r=.tuple #[]/\eO st (i+1) U' nN/\U'.map UC.q=U.map UC.q/\U'.map UC.body=U.map UC.body/\nN.map ax.q=Vs.map ax.q)/\Post=[WK U' nN]):=by
 obtain⟨hbv,Tj,hba⟩:=hb;have et:i < st.outer.length:=by have:=(Vm.1 hu).1;rw[hR.ul]at this;exact this
 obtain⟨T9,bF⟩:=hR.tm i u hu;obtain⟨n1,n2,n3,n4,n5⟩:=hR.nl i u hu (Qh _);obtain⟨mm,t1,t2,t3,t4⟩:=hR.nd i u hu;obtain⟨tp,Xn⟩:∃l,l=st.ab i:=⟨_,rfl⟩;have ue:u.ab.length=tp.length:=by rw[T9,Vz,Xn]
 have htb:tp.length<=1048576:=by
  rw[Xn];unfold ah.ab;have h1:=Vy (fun v=>decide (st.af v=i)&&decide (st.bC v < 0)) (List.range st.vars.length);rw[List.length_range]at h1;omega
 have hpt:=gZ rfl bF;obtain⟨ta,tc,bG⟩:=bF.form;obtain⟨U1,KR⟩:∃U1:Nat->List UC,U1=fun j=>U.set i {u with locals:=yH st (tp.take j) false,aB:=yH st (tp.take j) true}:=⟨_,rfl⟩
 obtain⟨V1,hV1⟩:∃V1:Nat->List ax,V1=fun j=>IW st Vs (tp.take j):=⟨_,rfl⟩
 have hU0:U1 0=U:=by
  rw[KR];simp only[Qa];have e:({u with locals:=yH st [] false,aB:=yH st [] true}:UC)=u:=by
   cases u;simp only at n1 n2;subst n1;subst n2;rfl
  rw[e];exact zE hu
 have hV0:V1 0=Vs:=by
  rw[hV1];simp only[Qa];exact WE st Vs
 have hUi:∀j,(U1 j)[i]? =some {u with locals:=yH st (tp.take j) false,aB:=yH st (tp.take j) true}:=fun j=>by
  rw[KR];simp only;rw[Vp,if_pos rfl,if_pos (Vm.1 hu).1]
 refine aq.intro aai (by simp[n114]) ?_;refine VC.join (α:=Nat) (bn:=fun q=>[(1,kF q)]) (Hf:=fun q=>[kA q 0 [kF u.q],WK (U1 0) (V1 0)]) (I:=fun _=>True) ?_ (fun q1 _=>?_)
 ·refine ae ?_;refine kY Zr (fun q=>?_);simp only[Value.cells];refine ae ?_;exact⟨q,trivial,ZU,by rw[hU0,hV0];exact bQ⟩
 refine VC.scope ?_;refine VC.join (α:=Unit) (bn:=fun _=>[(1,kF q1)]) (Hf:=fun _=>[kA q1 0 [kF u.q],WK (U1 tp.length) (V1 tp.length)]) (I:=fun _=>True) ?_ (fun _ _=>?_)
 ·have k5:kC.cell u.q 5 (.slice ta tp.length tc)∈WK (U1 0) (V1 0):=by
   rw[hU0,hV0];exact zp hu _ (QD _ (Zw _ (kI.2 ⟨5,_,by unfold UC.row;rw[bG,ue];rfl,rfl⟩)))
  refine ae ?_;refine VC.loop (α:=Nat) (bn:=fun j=>[(1,kF q1),(13,.slice ta tp.length tc),(14,vi tp.length),(15,vi j)]) (Hf:=fun j=>[kA q1 0 [kF u.q],WK (U1 j) (V1 j)]) (I:=fun j=>j<=tp.length) (μ:=fun j=>tp.length - j) 0 (Qp _) ZU ZI ?_;intro j hj;refine ae ?_;by_cases aO:j < tp.length;rotate_left
  ·rw[show decide ((j:Int) < (tp.length:Int))=false from Zf Zo];obtain rfl:j=tp.length:=by omega
   exact W8
  rw[show decide ((j:Int) < (tp.length:Int))=true from Zt Zo];obtain⟨v,hv⟩:∃v,tp[j]? =some v:=⟨_,Zg aO⟩;have hvm:v∈st.ab i:=Xn ▸ Zv hv;have C6:=yL hvm;obtain⟨y,hy⟩:∃y,Vs[v]? =some y:=⟨_,Zg (by rw[hR.vl];exact C6)⟩;obtain⟨x,hx⟩:∃x,st.vars[v]? =some x:=⟨_,Zg C6⟩;obtain⟨_,_,bL,_⟩:=hR.vn v x y hx hy;obtain⟨y1,SA,Ue,hy1r⟩:∃y1,(V1 j)[v]? =some y1/\y1.q=y.q/\y1.remote=st.rem v:=⟨{y with slot:=if v∈tp.take j then(st.bP v).toNat else y.slot},by rw[hV1];exact fW hy,rfl,bL⟩;obtain⟨R,hp,hr⟩:=wk_lay (hUi j) SA;simp only at hp hr;rw[Ue]at hp;have hpp:=hp;rw[<- vf]at hpp;have hqj:u.ab[j]? =some y.q:=by
   rw[T9,<- Xn,Vn,hv];show some (Vs.getD v yP).q=_;rw[Vb,hy];rfl
  obtain⟨ta',tc',C4,hpt'⟩:=hpt;rw[bG]at C4;simp only[Value.slice.injEq]at C4;obtain⟨tb,to,hta,htc⟩:=hpt' j y.q hqj;rw[<- C4.1]at hta;subst hta;have k1:kC.cell tb (to+j) (kM (some y.q))∈R:=gf hpp (zp (hUi j) _ (QD _ (QB _ (Zw _ htc)))) (by simp[kA,kM]);have k1:kC.cell tb (to+j) (kF y.q)∈R:=k1;have k3:kC.cell y.q 3 (.bool (st.rem v))∈R:=gf hpp (iY SA _ (kI.2 ⟨3,_,by unfold ax.row;rw[hy1r];rfl,by rw[Ue]⟩)) Ji;have hso:st.bP v=(yH st (tp.take j) (st.rem v):Int):=by
   have:=J4 (Xn ▸ hv);rw[this,Xn];rfl
  have hUs:∀l n,(U1 j).set i {u with locals:=l,aB:=n}=U.set i {u with locals:=l,aB:=n}:=fun l n=>by
   rw[KR];simp only[List.set_set]
  have hVn:(V1 j).set v {y1 with slot:=(st.bP v).toNat}=V1 (j+1):=by
   have e:tp.take (j+1)=tp.take j++[v]:=by rw[QX,hv];rfl
   rw[hV1];simp only;rw[e];exact WH hy (by rw[<- SA,hV1])
  have Tv:=Jq st (tp.take j) true;have fE:=Jq st (tp.take j) false;have tP:=List.length_take_le j tp;have ud:=AS st hv true;have xF:=AS st hv false;have hUn:U1 (j+1)=U.set i {u with locals:=yH st (tp.take (j+1)) false,aB:=yH st (tp.take (j+1)) true}:=by rw[KR]
  refine VC.imp (H':=[kA q1 0 [kF u.q],kA y.q 4 [.int .i64 y1.slot],kA u.q 1 [.int .i64 (yH st (tp.take j) false),.int .i64 (yH st (tp.take j) true)],R]) (ao.perm (by simp only[V9,VV,vg];exact vV _ hp)) ?_;cases l7:st.rem v with
  |true=>
   rw[l7]at k3 hso;rw[l7]at ud xF;simp only[if_true,Bool.true_eq_false,if_false,Qd]at ud xF;refine ae ?_;refine⟨j+1,Zo,Zo,ZU,?_⟩;have dS:=hr (yH st (tp.take j) false) (yH st (tp.take j) true+1) (st.bP v).toNat;rw[hVn,hUs,Ue]at dS;rw[hUn,ud,xF];refine ao.cut (M:=[kA q1 0 [kF u.q],kA y.q 4 [.int .i64 ((yH st (tp.take j) true:Int))],kA u.q 1 [.int .i64 ((yH st (tp.take j) false:Int)),.int .i64 ((yH st (tp.take j) true:Int)+1)],R]) ZI (ao.perm ?_);simp only[V9,VV,vg];refine vV _ ?_;have e:((st.bP v).toNat:Int)=(yH st (tp.take j) true:Int):=by omega
   rw[e]at dS;simp only[Int.natCast_add,Int.natCast_one]at dS;exact dS.symm
  |false=>
   rw[l7]at k3 hso;rw[l7]at ud xF;simp only[if_true,vK,if_false,Qd]at ud xF;refine ae ?_;refine⟨j+1,Zo,Zo,ZU,?_⟩;have dS:=hr (yH st (tp.take j) false+1) (yH st (tp.take j) true) (st.bP v).toNat;rw[hVn,hUs,Ue]at dS;rw[hUn,ud,xF];refine ao.cut (M:=[kA q1 0 [kF u.q],kA y.q 4 [.int .i64 ((yH st (tp.take j) false:Int))],kA u.q 1 [.int .i64 ((yH st (tp.take j) false:Int)+1),.int .i64 ((yH st (tp.take j) true:Int))],R]) ZI (ao.perm ?_);simp only[V9,VV,vg];refine vV _ ?_;have e:((st.bP v).toNat:Int)=(yH st (tp.take j) false:Int):=by omega
   rw[e]at dS;simp only[Int.natCast_add,Int.natCast_one]at dS;exact dS.symm
 obtain⟨U2,hU2⟩:∃U2,U2=U1 tp.length:=⟨_,rfl⟩;obtain⟨V2,hV2⟩:∃V2,V2=V1 tp.length:=⟨_,rfl⟩;rw[<- hU2,<- hV2];have cy:tp.take tp.length=tp:=List.take_length;have Nw:U2=U.set i {u with locals:=(st.locals i false).length,aB:=(st.locals i true).length}:=by
  rw[hU2,KR];simp only;rw[cy,Xn,Eu,Eu]
 have hV2e:V2=IW st Vs (st.ab i):=by
  rw[hV2,hV1];simp only;rw[cy,Xn]
 have im:U2.map UC.q=U.map UC.q:=by rw[Nw];exact zS hu rfl
 have XD:U2[i]? =some {u with locals:=(st.locals i false).length,aB:=(st.locals i true).length}:=by
  rw[Nw,Vp,if_pos rfl,if_pos (Vm.1 hu).1]
 clear KR hV1 hU0 hV0 hUi hU2 hV2;have sQ:∀x∈st.around i,x < i:=fun x hx=>by
  unfold ah.around at hx;have tN:=xp.wf.ff i;rw[xp.wf.line Zo]at hx;simp only[List.drop_succ_cons,vr]at hx;split at hx
  ·cases hx
  ·have:=xp.wf.uf _ Zo x hx;omega
 have aA:∀x∈st.around i,∃w,U2[x]? =some w/\U[x]? =some w/\w.q=qU U x:=fun x hx=>by
  have h1:=sQ x hx;obtain⟨w,hw⟩:∃w,U[x]? =some w:=⟨_,Zg (by rw[hR.ul];omega)⟩;exact⟨w,by rw[Nw,Vp,if_neg Zo];exact hw,hw,(fp hw).symm⟩
 have au:=uP st i;obtain⟨pt,ZM⟩:∃pt,pt=(st.around i).map (qU U):=⟨_,rfl⟩;have pK:pt.length=(st.around i).length:=by rw[ZM,Vz]
 refine jD ?_;refine VC.join (α:=Value×List Value) (bn:=fun s=>[(1,kF q1),(4,s.1)]) (Hf:=fun s=>[kA q1 0 [kF u.q],WK U2 V2,ai s.1 (pt.map fun b=>kM (some b)) s.2]) (I:=fun s=>jG 1 s.1 pt.length (pt.map fun b=>kM (some b)) s.2) ?_ ?_
 ·have k3:kC.cell u.q 3 (tE U (st.around i) 0)∈WK U2 V2:=by
   rw[<- hR.outerQ hu];exact zp XD _ (QD _ (Zw _ (kI.2 ⟨3,_,rfl,rfl⟩)))
  refine ae ?_;refine VC.loop (α:=Nat×Value×List Value) (bn:=fun s=>[(1,kF q1),(4,s.2.1),(5,tE U (st.around i) s.1)]) (Hf:=fun s=>[kA q1 0 [kF u.q],WK U2 V2,ai s.2.1 ((pt.take s.1).map fun b=>kM (some b)) s.2.2]) (I:=fun s=>s.1<=pt.length/\jG 1 s.2.1 s.1 ((pt.take s.1).map fun b=>kM (some b)) s.2.2) (μ:=fun s=>pt.length - s.1) (0,Nz,[]) ⟨Qp _,.nil⟩ ZU (ao.cut (M:=[kA q1 0 [kF u.q],WK U2 V2]) ZI (ao.perm (by simp[ai]))) ?_
  rintro⟨d,sv,sp⟩ ⟨hd,gq⟩
  simp only at hd gq;dsimp only;obtain⟨sa,sc,rfl⟩:=gq.form;by_cases aO:d < pt.length;rotate_left
  ·have he:tE U (st.around i) d=.pointer none:=by
    unfold tE;rw[Vj Zo]
   rw[he];have htk2:pt.take d=pt:=QZ Zo;have hde:d=pt.length:=by omega
   rw[htk2]at gq|-;refine ae ?_;exact⟨(.slice sa d sc,sp),by rw[<- hde];exact gq,ZU,ZI⟩
  obtain⟨x,hx⟩:∃x,(st.around i)[d]? =some x:=⟨_,Zg Zo⟩;obtain⟨w,Z4,hw,po⟩:=aA x (Zv hx);have he:tE U (st.around i) d=kF w.q:=by
   unfold tE;rw[hx,po]
  have Xy:=hR.outerN et hx hw;have k4:kC.cell w.q 3 (tE U (st.around i) (d+1))∈WK U2 V2:=by
   rw[<- Xy];exact zp Z4 _ (QD _ (Zw _ (kI.2 ⟨3,_,rfl,rfl⟩)))
  have hpd:pt[d]? =some w.q:=by rw[ZM,Vn,hx,po];rfl
  rw[he];obtain⟨nx,hnx⟩:∃nx,nx=tE U (st.around i) (d+1):=⟨_,rfl⟩;rw[<- hnx]at k4;refine ae ?_;refine jE (out:=[kF w.q]) Zr Zr (fun rr=>?_);refine ae ?_;refine jK (k:=d) (m:=1) (xs:=(pt.take d).map fun b=>kM (some b)) (sp:=sp) (ys:=[kF w.q]) Zr Zr gq ZK Zr ?_ rfl Zr Zr Zd Zo (fun eK bE aR=>?_)
  ·exact Eg
  have hfv:((pt.take d).map fun b=>kM (some b))++[kF w.q]=(pt.take (d+1)).map fun b=>kM (some b):=by
   rw[QX,hpd];simp[kM]
  rw[hfv]at aR|-;obtain⟨nE,nF,rfl⟩:=aR.form;refine ae ?_;exact⟨(d+1,.slice nE (d+1) nF,bE),⟨by simp only;omega,aR⟩,by simp only;omega,by simp only[<- hnx];exact tX,ZI⟩
 rintro⟨sv,sp⟩ gq
 simp only at gq;dsimp only;have hpr:=gZ rfl gq;obtain⟨sa,sc,rfl⟩:=gq.form;refine VC.seq (VC.label ?_);refine ae ?_;refine kJ (Kp (.slice sa pt.length sc) (ai (.slice sa pt.length sc) (pt.map fun b=>kM (some b)) sp) rfl) Zr ZP (fun v Post hv=>?_);obtain⟨q2,rfl,rfl⟩:=hv;simp only[aH];refine ae ?_;obtain⟨u2,Ua⟩:∃u2:UC,u2={u with locals:=(st.locals i false).length,aB:=(st.locals i true).length}:=⟨_,rfl⟩;rw[<- Ua]at XD Nw;have hu2q:u2.q=u.q:=by rw[Ua]
 have ZY:u2.nb=u.nb/\u2.es=u.es/\u2.cl=u.cl/\u2.da=[]/\u2.cv=Nz/\u2.bZ=[]:=by rw[Ua];exact⟨rfl,rfl,rfl,n3,n4,n5⟩
 have Tr:∀da cv bZ,da=zM U (st.copied i)->jG 2 cv da.length (da.flatMap jT) bZ->eO st (i+1) (U2.set i {u2 with da:=da,cv:=cv,bZ:=bZ}) V2/\(U2.set i {u2 with da:=da,cv:=cv,bZ:=bZ}).map UC.q=U.map UC.q/\(U2.set i {u2 with da:=da,cv:=cv,bZ:=bZ}).map UC.body=U.map UC.body/\V2.map ax.q=Vs.map ax.q:=fun da cv bZ hc hs=>by
  have e:U2.set i {u2 with da:=da,cv:=cv,bZ:=bZ}=U.set i {u with locals:=(st.locals i false).length,aB:=(st.locals i true).length,da:=zM U (st.copied i),cv:=cv,bZ:=bZ}:=by
   rw[Nw,List.set_set,Ua,hc]
  rw[e,hV2e];subst hc;exact⟨hR.step hu hs,zS hu rfl,se hu rfl,XY _ _ _⟩
 obtain⟨WF,hWF⟩:∃WF:List (Nat×Int)->Value->List Value->List kC,WF=fun c' v' p'=>WK (U2.set i {u2 with da:=c',cv:=v',bZ:=p'}) V2:=⟨_,rfl⟩
 have KS:∀c' v' p',WK (U2.set i {u2 with da:=c',cv:=v',bZ:=p'}) V2=WF c' v' p':=fun c' v' p'=>by rw[hWF]
 refine VC.gE (α:=Nat×Nat) (enc:=fun x=>[vi x.1,kF x.2]) (fun d A=>∃cv bZ,jG 2 cv (zM U (st.lP i d.length)).length ((zM U (st.lP i d.length)).flatMap jT) bZ/\A=[kA q1 0 [kF u.q],WK (U2.set i {u2 with da:=zM U (st.lP i d.length),cv:=cv,bZ:=bZ}) V2].flatten) ([kA q1 0 [kF u.q],WK U2 V2].flatten) Zr (Ko q2 pt _ _ hpr Zo) (R:=[kA q1 0 [kF u.q],WK U2 V2]) ZP (ao.perm Zs) ?_ (fun _=>rfl) ?_ ?_
 ·refine⟨Nz,[],.nil,?_⟩;have e:({u2 with da:=zM U (st.lP i 0),cv:=Nz,bZ:=[]}:UC)=u2:=by
   obtain⟨_,_,_,h1,h2,h3⟩:=ZY;cases u2;simp only at h1 h2 h3;subst h1;subst h2;subst h3;rfl
  show _=[kA q1 0 [kF u.q],WK (U2.set i {u2 with da:=zM U (st.lP i 0),cv:=Nz,bZ:=[]}) V2].flatten;rw[e,zE XD]
 ·rintro c x A aM ⟨cv,bZ,G1,rfl⟩
  obtain⟨rest,bO⟩:=aM;have ob:(mu pt)[c.length]? =some x:=by rw[<- bO];simp
  have hdl:c.length < pt.length:=by have:=(Vm.1 ob).1;rwa [mw]at this
  obtain⟨k,hk⟩:∃k,c.length+k+1=pt.length:=⟨pt.length - 1 - c.length,Zo⟩;obtain⟨o,ho⟩:∃o,(st.around i)[k]? =some o:=⟨_,Zg Zo⟩;obtain⟨w,Z4,hw,po⟩:=aA o (Zv ho);have hoi:=sQ o (Zv ho);have JN:x=(k,w.q):=by
   rw[Gh hk]at ob;rw[<- Qx ob,ZM,Vb,Vn,ho,po];rfl
  subst JN;have ZH:(st.around i).reverse[c.length]? =some o:=by
   rw[List.getElem?_reverse Zo];have e:(st.around i).length - 1 - c.length=k:=by omega
   rw[e];exact ho
  have hsucc:=Ks st ZH;have hwa:=(hR.ar o w hw).1;obtain⟨na,D0⟩:∃na,na=st.args.getD o 0:=⟨_,rfl⟩;have hnab:=hba o;rw[<- D0]at hwa hnab;obtain⟨CK,hCK⟩:∃CK:Nat->List (Nat×Int),CK=fun m=>zM U (st.lP i c.length++((st.things o).take m).filter (st.bg i)):=⟨_,rfl⟩
  have hC0:CK 0=zM U (st.lP i c.length):=by rw[hCK];simp
  have hCe:CK (na+1)=zM U (st.lP i (c.length+1)):=by
   rw[hCK];simp only;rw[hsucc,QZ (by rw[pb];omega)]
  have hCl:∀m,(CK m).length<=1048577*1048577:=fun m=>by
   rw[hCK];simp only;unfold zM;rw[Vz,Vt];have h1:=M9 (st:=st) (u:=i) (k:=c.length) hba;have h2:=Vy (st.bg i) ((st.things o).take m);have h3:=List.length_take_le' m (st.things o);rw[pb,<- D0]at h3;omega
  have hCs:∀m,m < na+1->CK (m+1)=CK m++(if st.bg i (o,(m:Int) - 1)=true then [(w.q,(m:Int) - 1)]else []):=fun m hm=>by
   rw[hCK];simp only;rw[A5 (I8 st (by rw[<- D0];exact hm)),<- vf];unfold zM;rw[Q5]
   congr 1
   split
   ·simp[po]
   ·rfl
  simp only[uR];refine VC.imp (H':=[kA q1 0 [kF u.q],WK (U2.set i {u2 with da:=zM U (st.lP i c.length),cv:=cv,bZ:=bZ}) V2]) (ao.perm Zs) ?_;refine VC.ly ?_;refine ae ?_;refine⟨trivial,?_⟩;refine ae ?_;refine VC.loop (α:=Nat×Value×List Value) (bn:=fun s=>[(1,kF q1),(7,kF w.q),(8,.int .i64 ((s.1:Int) - 1))]) (Hf:=fun s=>[kA q1 0 [kF u.q],WK (U2.set i {u2 with da:=CK s.1,cv:=s.2.1,bZ:=s.2.2}) V2]) (I:=fun s=>s.1<=na+1/\jG 2 s.2.1 (CK s.1).length ((CK s.1).flatMap jT) s.2.2) (μ:=fun s=>na+1 - s.1) (0,cv,bZ) ⟨Qp _,by simp only[hC0];exact G1⟩ (by simp only[Int.natCast_zero,Int.zero_sub];exact tX) (by simp only[hC0];exact bQ) ?_
  rintro⟨m,cv1,rI⟩ ⟨hm,KW⟩
  simp only at hm KW;dsimp only;obtain⟨ca,cc,rfl⟩:=KW.form;have hu3:(U2.set i {u2 with da:=CK m,cv:=.slice ca (CK m).length cc,bZ:=rI})[i]? =some {u2 with da:=CK m,cv:=.slice ca (CK m).length cc,bZ:=rI}:=by
   rw[Vp,if_pos rfl,if_pos (Vm.1 XD).1]
  obtain⟨R,hp,hr,hoth,ZL,lX⟩:=W6 (V:=V2) hu3;simp only[List.set_set]at hp hr;simp only[KS]at hp hr;simp only[hu2q,ZY.2.1,ZY.2.2.1]at hp hr ZL lX;have HZ:∀(j:Nat) z,j≠i->U2[j]? =some z->∀a∈z.atoms,a∈R:=fun j z hj hz=>hoth j z hj (by rw[Vp,if_neg (fun e=>hj e.symm)];exact hz)
  have ka:kC.cell w.q 0 (.int .i64 na)∈R:=HZ o w Zo Z4 _ (QD _ (Zw _ (kI.2 ⟨0,_,by unfold UC.row;rw[hwa];rfl,rfl⟩)));have km:kC.cell u.q 6 (.map (some u2.nb))∈R:=lX _ (kI.2 ⟨6,_,rfl,rfl⟩);have CW:∀(j:Nat) z,U2[j]? =some z->wZ R z.q:=fun j z hz=>by
   by_cases e:j=i
   ·subst e;rw[XD]at hz;obtain rfl:=Qx hz;rw[hu2q];exact⟨⟨9,ZL⟩,⟨_,lX _ (kI.2 ⟨0,_,rfl,rfl⟩)⟩⟩
   ·exact⟨⟨9,HZ j z e hz _ (QE ..)⟩,⟨_,HZ j z e hz _ (QD _ (Zw _ (kI.2 ⟨0,_,rfl,rfl⟩)))⟩⟩
  have JG:=CW o w Z4;have hlm:∀p∈mm,wZ R p.1.1:=fun p hp=>by
   obtain⟨⟨j,z,h1,h2⟩,_⟩:=t3 p hp;have hq:=CN im j;rw[h1]at hq;obtain⟨z2,h3,h4⟩:=Qu.1 hq;rw[h2,<- h4];exact CW j z2 h3
  have hCm:=hCl m;refine VC.imp (H':=[kA q1 0 [kF u.q],[.obj u2.nb (.map u.es u.cl)],kA u.q 7 [.slice ca (CK m).length cc],ai (.slice ca (CK m).length cc) ((CK m).flatMap jT) rI,R]) (ao.perm (by simp only[V9,VV,vg];rw[KS];exact vV _ hp)) ?_;refine ae ?_;by_cases yV:m < na+1;rotate_left
  ·rw[show decide ((m:Int) - 1 < (na:Int))=false from Zf Zo];obtain rfl:m=na+1:=by omega
   refine ae ?_;refine⟨_,⟨.slice ca (CK (na+1)).length cc,rI,?_,rfl⟩,?_⟩
   ·rw[Vt,Q3,<- hCe];exact KW
   ·rw[Vt,Q3,<- hCe];have h9:=hr (CK (na+1)) (.slice ca (CK (na+1)).length cc) rI;refine ao.cut (M:=[kA q1 0 [kF u.q],[.obj u2.nb (.map u.es u.cl)],kA u.q 7 [.slice ca (CK (na+1)).length cc],ai (.slice ca (CK (na+1)).length cc) ((CK (na+1)).flatMap jT) rI,R]) ZI (ao.perm ?_);simp only[V9,VV,vg];rw[KS];exact vV _ h9.symm
  rw[show decide ((m:Int) - 1 < (na:Int))=true from Zt Zo];refine ae ?_;refine L6 Zr (.there .here) t1.of ?_;refine ae ?_;by_cases Sv:mm=[]
  ·rw[show decide ((mm.length:Int)=0)=true from Zt (by rw[Sv];rfl)];have hz:∀o'∈st.around i,∀t∈st.things o',¬st.bg i t=true:=fun o' xD t ht hn=>by
    obtain⟨w',_,rX,_⟩:=aA o' xD;obtain⟨e1,_⟩:=iJ.1 ht;have h1:=t4 o' w' t.2 rX;have e2:(o',t.2)=t:=by rw[<- e1]
    rw[e2]at h1;have:=h1.2 hn;rw[Sv]at this;cases this
   have hf0:∀o'∈st.around i,(st.things o').filter (st.bg i)=[]:=fun o' xD=>vz.2 (hz o' xD)
   have hc0:st.copied i=[]:=by
    unfold ah.copied;rw[List.flatMap_eq_nil_iff];exact fun o' xD=>hf0 o' (by unfold ah.around;simpa using xD)
   have Bd:CK m=[]:=by
    rw[hCK];simp only;have e1:st.lP i c.length=[]:=by
     unfold ah.lP;rw[List.flatMap_eq_nil_iff];exact fun o' xD=>hf0 o' (by have:=QI xD;simpa using this)
    have e2:((st.things o).take m).filter (st.bg i)=[]:=vz.2 fun t ht=>hz o (Zv ho) t (QI ht)
    rw[e1,e2];rfl
   obtain⟨h1,h2,h3,h4⟩:=Tr (CK m) _ _ (by rw[Bd,hc0];rfl) KW;have h9:=hr (CK m) (.slice ca (CK m).length cc) rI;refine ae ?_;exact⟨(fun l h=>by cases h),kG (Post:=[WK (U2.set i {u2 with da:=CK m,cv:=.slice ca (CK m).length cc,bZ:=rI}) V2]) (.inl rfl) .nil ⟨_,_,⟨rfl,h1,h2,h3,h4⟩,rfl⟩ (by
    rw[KS];refine ao.cut (M:=[[.obj u2.nb (.map u.es u.cl)],kA u.q 7 [.slice ca (CK m).length cc],ai (.slice ca (CK m).length cc) ((CK m).flatMap jT) rI,R]) ZI (ao.perm ?_);simp only[V9,VV,vg];exact h9.symm)⟩
  have hmm0:0 < mm.length:=by
   cases mm with
   |nil=>exact absurd rfl Sv
   |cons _ _=>simp
  rw[show decide ((mm.length:Int)=0)=false from Zf Zo];refine ae ?_;refine kN (fun q9=>?_);refine ae ?_;refine sB (k:=(w.q,(m:Int) - 1)) thP Zr Zr (.there (.there .here)) t1.of (JG.more (fun _ hx=>by simp[hx])) (fun p hp=>(hlm p hp).more (fun _ hx=>by simp[hx])) ?_;have Mw:decide ((0:Int) < (ky (w.q,(m:Int) - 1) mm).getD 0)=st.bg i (o,(m:Int) - 1):=by
   have h1:=t4 o w ((m:Int) - 1) hw;cases e:ky (w.q,(m:Int) - 1) mm with
   |none=>
    rw[e]at h1;cases e2:st.bg i (o,(m:Int) - 1)with
    |false=>rfl
    |true=>have:=h1.2 e2;cases this
   |some z=>
    rw[e]at h1;rw[h1.1 rfl];have:=(t3 _ (xZ e)).2.1;exact Zt this
  refine ae ?_;rw[Mw];have ES:=hCs m yV;cases Xv:st.bg i (o,(m:Int) - 1)with
  |false=>
   rw[Xv]at ES;simp only[vK,if_false,vg]at ES;have h9:=hr (CK m) (.slice ca (CK m).length cc) rI;refine ae ?_;refine⟨(m+1,.slice ca (CK m).length cc,rI),⟨by simp only;omega,by simp only[ES];exact KW⟩,by simp only;omega,by simp only;rw[show((m+1:Nat):Int) - 1=(m:Int) - 1+1 by omega];exact tX,?_⟩;simp only[ES];rw[KS];refine ao.cut (M:=[kA q1 0 [kF u.q],[.obj u2.nb (.map u.es u.cl)],kA u.q 7 [.slice ca (CK m).length cc],ai (.slice ca (CK m).length cc) ((CK m).flatMap jT) rI,R]) ZI (ao.perm ?_);exact zEN
  |true=>
   rw[Xv]at ES;simp only[if_true]at ES;have Hb:(CK m).flatMap jT++[kF w.q,.int .i64 ((m:Int) - 1)]=(CK (m+1)).flatMap jT:=by
    rw[ES,V6,V7];rfl
   have hcl1:(CK (m+1)).length=(CK m).length+1:=by rw[ES,Vt];rfl
   refine jD ?_;refine VC.draws ⟨?_,?_,?_,?_,?_,?_,?_,?_,?_,?_,?_,?_,?_,?_,?_,trivial⟩
   all_goals
    refine ae ?_;refine jE (out:=[kF w.q,.int .i64 ((m:Int) - 1)]) Zr Zr (fun rr=>?_);refine ae ?_;refine jK (k:=(CK m).length) (m:=1) (xs:=(CK m).flatMap jT) (sp:=rI) (ys:=[kF w.q,.int .i64 ((m:Int) - 1)]) Zr Zr KW ZK Zr ?_ rfl Zr Zr Zd Zo (fun eK bE aR=>?_)
    ·exact Eg
    rw[Hb,<- hcl1]at aR;rw[Hb];obtain⟨nE,nF,rfl⟩:=aR.form;have h9:=hr (CK (m+1)) (.slice nE (CK (m+1)).length nF) bE;refine ae ?_;refine⟨(m+1,.slice nE (CK (m+1)).length nF,bE),⟨by simp only;omega,aR⟩,by simp only;omega,by simp only;rw[show((m+1:Nat):Int) - 1=(m:Int) - 1+1 by omega];exact tX,?_⟩;simp only;rw[KS];refine ao.cut (M:=[kA q1 0 [kF u.q],[.obj u2.nb (.map u.es u.cl)],kA u.q 7 [.slice nE (CK (m+1)).length nF],ai (.slice nE (CK (m+1)).length nF) ((CK (m+1)).flatMap jT) bE,R]) ZI (ao.perm ?_);exact zEN
 ·rintro full A rfl ⟨cv,bZ,G1,rfl⟩
  rw[mw,pK,Ev st i (Qh _)]at G1;obtain⟨h1,h2,h3,h4⟩:=Tr _ _ _ rfl G1;rw[mw,pK,Ev st i (Qh _)];exact⟨(fun l h=>by cases h),kG (Post:=[WK (U2.set i {u2 with da:=zM U (st.copied i),cv:=cv,bZ:=bZ}) V2]) (.inl rfl) .nil ⟨_,_,⟨rfl,h1,h2,h3,h4⟩,rfl⟩ (ao.cut (M:=[kA q1 0 [kF u.q],WK (U2.set i {u2 with da:=zM U (st.copied i),cv:=cv,bZ:=bZ}) V2]) (ao.perm Zs) ZI)⟩
set_option maxHeartbeats 3200000
theorem Cj(a l v c:Nat)(h:a < 1073741824/\l < 1073741824/\v < 1073741824/\c < 4398046511104):aq Tryz.prog 115 [.agg #[vi a,vi l,vi v],vi c] [] (fun r Post=>r=vi ((a+c+l+(if 0 < v then 1 else 0):Nat):Int)/\Post=[]):=by
 obtain⟨h1,h2,h3,h4⟩:=h;refine aq.intro aaj (by simp[n115]) ?_;refine ae ?_;refine kY Zr (fun q=>?_);simp only[Value.cells];refine ae ?_;by_cases hv:0 < v
 ·rw[show decide ((0:Int) < (v:Int))=true from Zt Zo,if_pos hv];refine ae ?_;refine kG (Post:=[]) (.inr rfl) (.tmp (v:=vi ((a+c+l+1:Nat):Int)) Zr .nil) ⟨rfl,rfl⟩ ZI
 ·rw[show decide ((0:Int) < (v:Int))=false from Zf Zo,if_neg hv];refine ae ?_;refine kG (Post:=[]) (.inr rfl) (.tmp (v:=vi ((a+c+l:Nat):Int)) Zr .nil) ⟨rfl,rfl⟩ ZI
theorem KI {α:Type}[DecidableEq α]{l:List α}{k:α}(h:∀i x,i < l.length->l[i]? =some x->x≠k):l.findIdx? (fun y=>decide (y=k))=none:=by
 rw[List.findIdx?_eq_none_iff];intro x hx;obtain⟨i,hi⟩:=Vo hx;exact Zf (h i x (Vm.1 hi).1 hi)
theorem KJ {α:Type}[DecidableEq α]{l:List α}{k:α}{j:Nat}(hj:l[j]? =some k)(h:∀i x,i < j->l[i]? =some x->x≠k):l.findIdx? (fun y=>decide (y=k))=some j:=by
 have hl:=(Vm.1 hj).1;rw[List.findIdx?_eq_some_iff_getElem];refine⟨hl,?_,fun i hi=>?_⟩
 ·rw[Zg hl]at hj;exact Zt (Qx hj)
 ·have et:i < l.length:=by omega
  simp only[Bool.not_eq_true,decide_eq_false_iff_not];exact h i _ hi (Zg et)
theorem Ib(B:List kC)(l:List (Nat×Int))(a:Option Addr)(c:Nat)(K2:l.length < 4398046511104)(tZ:∀(i:Nat) t,l[i]? =some t->∃b o,a=some ⟨b,o,none⟩/\∀y∈kA b (o+i*2) [kF t.1,.int .i64 t.2],y∈B)(hl:∀t∈l,wZ B t.1)(k:Nat×Int)(hk:wZ B k.1):
 aq Tryz.prog 174 [.slice a l.length c,fY k] [B] (fun v Post=>v=.int .i64 (ma l k)/\Post=[B]):=by
 refine aq.intro aaK (by simp[n174]) ?_;unfold fY;refine ae ?_;refine kY Zr (fun q=>?_);simp only[Value.cells];refine ae ?_;refine VC.loop (α:=Nat) (bn:=fun s=>[(0,.slice a l.length c),(3,kF q),(7,vi l.length),(8,vi s)]) (Hf:=fun _=>[kA q 0 [kF k.1,.int .i64 k.2],B]) (I:=fun s=>s<=l.length/\∀i x,i < s->l[i]? =some x->x≠k) (μ:=fun s=>l.length - s) 0 ⟨Qp _,fun i x h=>by omega⟩ ZU ZI ?_
 rintro j ⟨hj,dR⟩
 refine ae ?_;by_cases aO:j < l.length;rotate_left
 ·rw[show decide ((j:Int) < (l.length:Int))=false from Zf Zo];refine ae ?_;refine kG (Post:=[B]) (.inr rfl) (.tmp Zr .nil) ⟨?_,rfl⟩ ZI;unfold ma;rw[KI (fun i x hi hx=>dR i x Zo hx)];rfl
 rw[show decide ((j:Int) < (l.length:Int))=true from Zt Zo];obtain⟨t,ht⟩:∃t,l[j]? =some t:=⟨_,Zg aO⟩;obtain⟨b,o,rfl,hm⟩:=tZ j t ht;refine ae ?_;refine kX (us:=[kF t.1,.int .i64 t.2]) Zr (fun z hz=>by have h9:=hm z hz;simp[h9]) rfl ?_;refine ae ?_;refine WS (k:=k) (j:=t) thP Zr Zr (hk.more (fun _ hx=>by simp[hx])) ((hl t (Zv ht)).more (fun _ hx=>by simp[hx])) ?_;refine ae ?_;by_cases he:k=t
 ·rw[Zt he];refine ae ?_;refine kG (Post:=[B]) (.inr rfl) (.tmp (v:=vi j) Zr .nil) ⟨?_,rfl⟩ ZI;unfold ma;rw[KJ (by rw[he];exact ht) (fun i x hi hx=>dR i x hi hx)];rfl
 ·rw[Zf he];refine ae ?_;refine⟨j+1,⟨Zo,fun i x hi hx=>?_⟩,Zo,ZU,ZI⟩;by_cases K1:i < j
  ·exact dR i x K1 hx
  ·obtain rfl:i=j:=by omega
   rw[ht]at hx;rw[<- Qx hx];exact fun e=>he e.symm
end Go.Proofs.YtijnokbblmbpkaaGreatDoor
namespace Go.V
open Go
theorem Uh {α β:Type}[DecidableEq α][DecidableEq β]{f:α->β}{x:α}:∀{l:List α},(∀y∈l,f y=f x->y=x)->(l.map f).findIdx? (fun y=>decide (y=f x))=l.findIdx? fun y=>decide (y=x):=by
 intro l
 induction l with
 |nil=>intro _;rfl
 |cons y l ih=>
  intro h;rw[Q7,V5,V5,ih (fun z hz=>h z (by simp[hz]))];have e:decide (f y=f x)=decide (y=x):=decide_eq_decide.2 ⟨h y Zs,fun e=>by rw[e]⟩;rw[e]
theorem eO.Rc {st:ah}{L:Nat}{U:List UC}{V:List ax}(h:eO st L U V){i j:Nat}(hi:i < st.outer.length)(hj:j < st.outer.length)(e:qU U i=qU U j):i=j:=by
 obtain⟨u,hu⟩:∃u,U[i]? =some u:=⟨_,Zg (by rw[h.ul];exact hi)⟩;obtain⟨w,hw⟩:∃w,U[j]? =some w:=⟨_,Zg (by rw[h.ul];exact hj)⟩;rw[fp hu,fp hw]at e;have h1:(U.map UC.q)[i]? =some u.q:=by rw[Vn,hu];rfl
 have h2:(U.map UC.q)[j]? =some w.q:=by rw[Vn,hw];rfl
 rw[<- e]at h2;have Tv:=(Vm.1 h1).1;have fE:=(Vm.1 h2).1;have e1:(U.map UC.q)[i]=(U.map UC.q)[j]:=by
  rw[Zg Tv]at h1;rw[Zg fE]at h2;rw[Qx h1,Qx h2]
 have hp:=List.pairwise_iff_getElem.1 h.inj;rcases Nat.lt_trichotomy i j with c|c|c
 ·exact absurd e1 (hp i j Tv fE c)
 ·exact c
 ·exact absurd e1.symm (hp j i fE Tv c)
theorem eO.idx {st:ah}{L:Nat}{U:List UC}{V:List ax}(h:eO st L U V)(hp:Ph st){i:Nat}(hi:i < st.outer.length){t:Nat×Int}(ht:t.1 < st.outer.length):
 (zM U (st.copied i)).findIdx? (fun y=>decide (y=(qU U t.1,t.2)))=(st.copied i).findIdx? fun y=>decide (y=t):=by
 unfold zM;exact Uh (f:=fun t:Nat×Int=>(qU U t.1,t.2)) (x:=t) fun y hy e=>by
  have h1:=(hp.rH hi hy).2.2.1;simp only[Qz]at e;exact Prod.ext (h.Rc h1 ht e.1) e.2
theorem eO.cells {st:ah}{U:List UC}{V:List ax}(h:eO st st.outer.length U V){i:Nat}{u:UC}(hu:U[i]? =some u):∃ca cc,u.cv=.slice ca (st.copied i).length cc/\u.args=st.args.getD i 0/\u.locals=(st.locals i false).length/\u.aB=(st.locals i true).length/\
 ∀(k:Nat) t,(zM U (st.copied i))[k]? =some t->∃b o,ca=some ⟨b,o,none⟩/\∀y∈kA b (o+k*2) [kF t.1,.int .i64 t.2],y∈u.atoms:=by
 have et:=(Vm.1 hu).1;rw[h.ul]at et;obtain⟨h1,h2,h3,h4⟩:=h.la i u hu et;have hlen:(zM U (st.copied i)).length=(st.copied i).length:=Vz _;obtain⟨ca,cc,Tp⟩:=h4.form;rw[h3,hlen]at Tp;refine⟨ca,cc,Tp,(h.ar i u hu).1,h1,h2,fun k t hk=>?_⟩;have Mu:=(Vm.1 hk).1;obtain⟨b,o,c,hv,_,hsa⟩:=Bg h4 (by rw[h3];omega);rw[Tp,Value.slice.injEq]at hv;refine⟨b,o,hv.1,fun y hy=>?_⟩;unfold UC.atoms;refine QD _ (QB _ (QB _ (Zw _ ?_)));rw[hsa,j7];refine Zw _ ?_;rw[h3,List.flatMap_def];exact mS (rows:=(zM U (st.copied i)).map jT) (fun r hr=>by obtain⟨z,_,rfl⟩:=QH.1 hr;rfl) (by rw[Vn,hk];rfl) y hy
end Go.V
namespace Go.Proofs.YtijnokbblmbpkaaGreatDoor
open Go Go.V
set_option maxHeartbeats 6400000
set_option maxRecDepth 100000
structure Hg (st:ah):Prop where
 v:st.vars.length<=1048576
 o:st.outer.length<=1048576
 a:∀j,st.args.getD j 0<=1048576
theorem Hg.da {st:ah}(h:Hg st)(u:Nat):(st.copied u).length<=1048576*(1048576+1):=by
 have h1:=Hu (st:=st) (u:=u) h.a;have h2:=uP st u;exact Qj h1 (Qm _ (Qj h2 h.o))
theorem Hg.loc {st:ah}(h:Hg st)(u:Nat)(r:Bool):(st.locals u r).length<=1048576:=by
 unfold ah.locals;have h1:=Vy (fun v=>decide (st.af v=u)&&decide (st.bC v < 0)&&decide (st.rem v=r)) (List.range st.vars.length);rw[List.length_range]at h1;have:=h.v;omega
theorem ye(st:ah)(xp:Ph st)(hB:Hg st)(U:List UC)(Vs:List ax)(hR:eO st st.outer.length U Vs)(i:Nat)(u:UC)(hu:U[i]? =some u)(t:Nat×Int)(ht:t.1 < st.outer.length)(hc:(t.1=i/\-1<=t.2/\t.2 < st.args.getD i 0/\(t.2 < 0->0 < (st.locals i true).length))∨(t.1≠i/\t∈st.copied i)):
 aq Tryz.prog 116 [kF u.q,fY (qU U t.1,t.2)] [WK U Vs] (fun v Post=>v=.int .i64 (st.place i t)/\Post=[WK U Vs]):=by
 have et:i < st.outer.length:=by have:=(Vm.1 hu).1;rw[hR.ul]at this;exact this
 obtain⟨ca,cc,Tp,XE,N4,huv,lX⟩:=hR.cells hu;obtain⟨w,hw⟩:∃w,U[t.1]? =some w:=⟨_,Zg (by rw[hR.ul];exact ht)⟩;have hqw:=fp hw;have hba:=hB.a i;have hbc:=hB.da i;have KT:=hB.loc i false;have hbv:=hB.loc i true;have JG:wZ (WK U Vs) w.q:=fZ hw;have hlu:wZ (WK U Vs) u.q:=fZ hu;have DZ:∀k∈zM U (st.copied i),wZ (WK U Vs) k.1:=fun k hk=>by
  obtain⟨s,hs,rfl⟩:=QH.1 hk;obtain⟨z,hz⟩:∃z,U[s.1]? =some z:=⟨_,Zg (by rw[hR.ul];exact(xp.rH et hs).2.2.1)⟩;show wZ _ (qU U s.1);rw[fp hz];exact fZ hz
 have nS:∀(k:Nat) x,u.row[k]? =some x->kC.cell u.q k x∈WK U Vs:=fun k x hx=>zp hu _ (QD _ (Zw _ (kI.2 ⟨k,x,hx,by rw[Qo]⟩)))
 have k0:kC.cell u.q 0 (.int .i64 (st.args.getD i 0))∈WK U Vs:=nS 0 _ (by unfold UC.row;rw[XE];rfl);have k1:kC.cell u.q 1 (.int .i64 (st.locals i false).length)∈WK U Vs:=nS 1 _ (by unfold UC.row;rw[N4];rfl);have k2:kC.cell u.q 2 (.int .i64 (st.locals i true).length)∈WK U Vs:=nS 2 _ (by unfold UC.row;rw[huv];rfl);have k7:kC.cell u.q 7 (.slice ca (st.copied i).length cc)∈WK U Vs:=nS 7 _ (by unfold UC.row;rw[Tp];rfl);have ob:(zM U (st.copied i)).length=(st.copied i).length:=Vz _;have Tt:=Ib (WK U Vs) (zM U (st.copied i)) ca cc (by rw[ob];omega) (fun k s hk=>by
  obtain⟨b,o,h1,h2⟩:=lX k s hk;exact⟨b,o,h1,fun y hy=>zp hu _ (h2 y hy)⟩) DZ (w.q,t.2) JG
 rw[ob]at Tt;have pK:t.1≠i->st.place i t=st.args.getD i 0+ma (zM U (st.copied i)) (w.q,t.2)/\0<=ma (zM U (st.copied i)) (w.q,t.2)/\ma (zM U (st.copied i)) (w.q,t.2) < (st.copied i).length:=fun hn=>by
  rcases hc with⟨h1,_⟩|⟨_,h1⟩
  ·exact absurd h1 hn
  obtain⟨k,tL,xA⟩:=sP h1;unfold ah.place ma;rw[if_neg hn,<- hqw,hR.idx xp et ht,xA];exact⟨rfl,by simp only;omega,by simp only;omega⟩
 generalize hix:ma (zM U (st.copied i)) (w.q,t.2)=ix at Tt pK;generalize hW:WK U Vs=B at JG hlu k0 k1 k2 k7 Tt|-;rw[hqw];generalize D0:st.args.getD i 0=na at*;generalize hnc:(st.copied i).length=nc at*;generalize ZD:(st.locals i false).length=nl at*;generalize hnv:(st.locals i true).length=nv at*;refine aq.intro aak (by simp[n116]) ?_;refine VC.join (α:=Nat) (bn:=fun q=>[(0,kF u.q),(3,kF q)]) (Hf:=fun q=>[kA q 0 [kF w.q,.int .i64 t.2],B]) (I:=fun _=>True) ?_ (fun q3 _=>?_)
 ·unfold fY;exact zE4
 refine VC.join (α:=Unit) (bn:=fun _=>[(0,kF u.q),(3,kF q3)]) (Hf:=fun _=>[kA q3 0 [kF w.q,.int .i64 t.2],B]) (I:=fun _=>t.1=i/\t.2 < 0) ?_ (fun _ hI=>?_)
 ·refine ae ?_;refine RC u124 C7 C8 Zr Zr (JG.more (fun _ hx=>by simp[hx])) (hlu.more (fun _ hx=>by simp[hx])) ?_;refine ae ?_;by_cases he:w.q=u.q
  ·have hti:t.1=i:=hR.Rc ht et (by rw[hqw,fp hu];exact he);rw[show decide (w.q=u.q)=true from Zt he];refine ae ?_;by_cases h0:0<=t.2
   ·rw[show decide ((0:Int)<=t.2)=true from Zt h0];refine ae ?_;exact kG (Post:=[B]) (.inr rfl) (.tmp Zr .nil) ⟨by unfold ah.place;rw[if_pos hti,if_pos h0];rfl,rfl⟩ ZI
   ·rw[show decide ((0:Int)<=t.2)=false from Zf h0];refine ae ?_;exact⟨(),⟨hti,Zo⟩,ZU,ZI⟩
  ·have hti:t.1≠i:=fun e=>he (by
    have:=fp hw;rw[e,fp hu]at this;exact this.symm)
   obtain⟨p1,p2,p3⟩:=pK hti;rw[show decide (w.q=u.q)=false from Zf he];refine jD ?_;refine VC.seq (VC.draws ⟨?_,?_,trivial⟩)
   all_goals
    refine ae ?_;refine kJ Tt Zr ZP (fun v Post hv=>?_);obtain⟨rfl,rfl⟩:=hv;simp only[aH];refine ae ?_;exact kG (Post:=[B]) (.inr rfl) (.tmp Zr .nil) ⟨by rw[p1];rfl,rfl⟩ ZI
 obtain⟨h1,h2⟩:=hI;have Z1:0 < nv:=by
  rcases hc with⟨_,_,_,c⟩|⟨c,_⟩
  ·exact c h2
  ·exact absurd h1 c
 refine ae ?_;refine kX (us:=[.int .i64 na,.int .i64 nl,.int .i64 nv]) Zr (fun z hz=>?_) rfl ?_
 ·obtain⟨j,x,hx,rfl⟩:=kI.1 hz;have hz3:j=0∨j=1∨j=2:=by
   exact zEO
  rcases hz3 with rfl|rfl|rfl
  ·obtain rfl:(.int .i64 na:Value)=x:=by simpa using hx
   simp[k0]
  ·obtain rfl:(.int .i64 nl:Value)=x:=by simpa using hx
   simp[k1]
  ·obtain rfl:(.int .i64 nv:Value)=x:=by simpa using hx
   simp[k2]
 refine ae ?_;refine kJ (Cj na nl nv nc ⟨Zo,Zo,Zo,Zo⟩) Zr ZP (fun v Post hv=>?_);obtain⟨rfl,rfl⟩:=hv;rw[if_pos Z1];simp only[QL];refine ae ?_;refine kG (Post:=[B]) (.inr rfl) (.tmp Zr .nil) ⟨?_,rfl⟩ ZI;unfold ah.place;rw[if_pos h1,if_neg Zo,D0,hnc,ZD];show Value.int .i64 (((na+nc+nl+1:Nat):Int) - 1)=.int .i64 ((na:Int)+nc+nl)
 congr 1
 omega
theorem Rl(st:ah)(xp:Ph st)(hB:Hg st)(U:List UC)(Vs:List ax)(hR:eO st st.outer.length U Vs)(i:Nat)(u:UC)(hu:U[i]? =some u)(vv:Nat)(y:ax)(hy:Vs[vv]? =some y)(hv:oT st i vv=true):
 aq Tryz.prog 175 [kF u.q,kF y.q] [WK U Vs] (fun v Post=>v=.agg (jX (st.known i vv)).toArray/\Post=[WK U Vs]):=by
 have et:i < st.outer.length:=by have:=(Vm.1 hu).1;rw[hR.ul]at this;exact this
 obtain⟨C6,N9⟩:=xp.oT hv;obtain⟨w1,w2,w3⟩:=xp.wf.var C6;obtain⟨x,hx⟩:∃x,st.vars[vv]? =some x:=⟨_,Zg C6⟩;obtain⟨⟨w,hw,hyw⟩,hya,bL,lq⟩:=hR.vn vv x y hx hy;have hux:=nJ hx;have XA:=yb hx;obtain⟨ca,cc,Tp,XE,N4,huv,lX⟩:=hR.cells hu;have hqw:qU U (st.af vv)=w.q:=by rw[hux];exact fp hw
 have hba:=hB.a i;have hbc:=hB.da i;have nS:∀(k:Nat) x,u.row[k]? =some x->kC.cell u.q k x∈WK U Vs:=fun k x hx=>zp hu _ (QD _ (Zw _ (kI.2 ⟨k,x,hx,by rw[Qo]⟩)))
 have k0:kC.cell u.q 0 (.int .i64 (st.args.getD i 0))∈WK U Vs:=nS 0 _ (by unfold UC.row;rw[XE];rfl);have k7:kC.cell u.q 7 (.slice ca (st.copied i).length cc)∈WK U Vs:=nS 7 _ (by unfold UC.row;rw[Tp];rfl);have JM:∀(k:Nat) x,y.row[k]? =some x->kC.cell y.q k x∈WK U Vs:=fun k x hx=>iY hy _ (kI.2 ⟨k,x,hx,by rw[Qo]⟩)
 have y0:kC.cell y.q 0 (kF w.q)∈WK U Vs:=JM 0 _ (by unfold ax.row;rw[hyw];rfl);have y1:kC.cell y.q 1 (.int .i64 x.own)∈WK U Vs:=JM 1 _ (by unfold ax.row;rw[hya];rfl);have y3:kC.cell y.q 3 (.bool (st.rem vv))∈WK U Vs:=JM 3 _ (by unfold ax.row;rw[bL];rfl);have y4:kC.cell y.q 4 (.int .i64 y.slot)∈WK U Vs:=JM 4 _ rfl;have bF:x.own < 0->(y.slot:Int)=st.bP vv:=fun h=>lq h (by rw[<- hux];exact w1)
 have Xp:∀a:Int,(0<=x.own->a=x.own)->(x.own < 0->a=-1/\st.rem vv=true)->(st.af vv=i/\-1<=a/\a < st.args.getD i 0/\(a < 0->0 < (st.locals i true).length))∨(st.af vv≠i/\(st.af vv,a)∈st.copied i):=fun a ha hb=>by
  rw[XA]at w2 w3;by_cases e:st.af vv=i
  ·refine .inl ⟨e,?_⟩;by_cases c:x.own < 0
   ·obtain⟨rfl,hr⟩:=hb c;exact⟨Zo,Zo,fun _=>List.length_pos_of_mem (xY.2 ⟨C6,e,by rw[XA];exact c,hr⟩)⟩
   ·rw[ha Zo];exact⟨Zo,by rw[<- e];exact w3,fun c2=>absurd c2 c⟩
  ·rcases N9 with k|k
   ·exact absurd k e
   ·refine .inr ⟨e,?_⟩;rw[XA]at k;by_cases c:x.own < 0
    ·obtain⟨rfl,_⟩:=hb c;have:x.own=-1:=by omega
     rw[<- this];exact k.1
    ·rw[ha Zo];exact k.1
 have l6:∀a:Int,((st.af vv=i/\-1<=a/\a < st.args.getD i 0/\(a < 0->0 < (st.locals i true).length))∨(st.af vv≠i/\(st.af vv,a)∈st.copied i))->aq Tryz.prog 116 [kF u.q,fY (w.q,a)] [WK U Vs] (fun v Post=>v=.int .i64 (st.place i (st.af vv,a))/\Post=[WK U Vs]):=fun a h=>by
  have:=ye st xp hB U Vs hR i u hu (st.af vv,a) w1 h
  rwa [hqw]at this
 generalize hW:WK U Vs=B at k0 k7 y0 y1 y3 y4 l6|-;refine aq.intro aaL (by simp[n175]) ?_;refine ae ?_;refine kN (fun q4=>?_);refine ae ?_;by_cases ho:0<=x.own
 ·rw[show decide ((0:Int)<=x.own)=true from Zt ho];have hp:=l6 x.own (Xp x.own (fun _=>rfl) (fun c=>by omega));have hk:st.known i vv=⟨5,st.place i (st.af vv,x.own),0,e0⟩:=by unfold ah.known;rw[XA,if_pos ho]
  rw[hk];generalize st.place i (st.af vv,x.own)=pl at hp;unfold fY at hp;refine ae ?_;refine kJ hp Zr ZP (fun v Post hv=>?_);obtain⟨rfl,rfl⟩:=hv;simp only[aH];refine ae ?_;exact⟨.inr rfl,_,[B],.aJ (us:=jX ⟨5,pl,0,e0⟩) Zr Zr (fun y hy=>by simp only[V9,QA];repeat (first|exact Or.inl hy|refine Or.inr ?_)) .nil,ZI,rfl,rfl⟩
 rw[show decide ((0:Int)<=x.own)=false from Zf ho];have hn:x.own < 0:=by omega
 refine ae ?_;cases l7:st.rem vv with
 |true=>
  rw[l7]at y3;have hp:=l6 (-1) (Xp (-1) (fun c=>by omega) (fun _=>⟨rfl,l7⟩));have hk:st.known i vv=⟨6,st.place i (st.af vv,-1),y.slot,e0⟩:=by
   unfold ah.known;rw[XA,if_neg ho,if_pos l7,bF hn];unfold ah.bP;rw[l7]
  rw[hk];generalize st.place i (st.af vv,-1)=pl at hp;unfold fY at hp;refine jD ?_;refine VC.seq (VC.draws ⟨?_,?_,trivial⟩)
  all_goals
   refine ae ?_;refine kJ hp Zr ZP (fun v Post hv=>?_);obtain⟨rfl,rfl⟩:=hv;simp only[aH];refine ae ?_;exact⟨.inr rfl,_,[B],.aJ (us:=jX ⟨6,pl,y.slot,e0⟩) Zr Zr (fun y hy=>by simp only[V9,QA];repeat (first|exact Or.inl hy|refine Or.inr ?_)) .nil,ZI,rfl,rfl⟩
 |false=>
  rw[l7]at y3;have hui:st.af vv=i:=by
   rcases N9 with k|k
   ·exact k
   ·have:=k.2 (by rw[XA];exact hn);rw[l7]at this;cases this
  have hm:vv∈st.locals i false:=xY.2 ⟨C6,hui,by rw[XA];exact hn,l7⟩;have KT:=hB.loc i false;have hslb:=Od hm;have T5:(y.slot:Int)=ma (st.locals i false) vv:=by
   rw[bF hn];unfold ah.bP;rw[l7,hui]
  have hk:st.known i vv=⟨5,st.args.getD i 0+(st.copied i).length+y.slot,0,e0⟩:=by
   unfold ah.known;rw[XA,if_neg ho,if_neg (by rw[l7];simp),T5]
  rw[hk];rw[<- T5]at hslb;generalize D0:st.args.getD i 0=na at*;generalize hnc:(st.copied i).length=nc at*;refine ae ?_;exact⟨.inr rfl,_,[B],.aJ (us:=jX ⟨5,(na:Int)+nc+y.slot,0,e0⟩) Zr Zr (fun y hy=>by simp only[V9,QA];repeat (first|exact Or.inl hy|refine Or.inr ?_)) .nil,ZI,rfl,rfl⟩
end Go.Proofs.YtijnokbblmbpkaaGreatDoor

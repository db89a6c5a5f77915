/-
  The units around a unit, one behind the other; how many are needed.
-/
import Derived.Test.YtijnokbblmbpkaaGreatDoorN18
import Derived.Test.YtijnokbblmbpkaaGreatDoorN12
import Derived.Test.YtijnokbblmbpkaaGreatDoorN15
import Derived.Test.YtijnokbblmbpkaaGreatDoorN16
import Derived.Test.YtijnokbblmbpkaaGreatDoorN7
import Derived.Test.YtijnokbblmbpkaaGreatDoorN11
import Derived.Test.YtijnokbblmbpkaaGreatDoorN17
set_option linter.all false
namespace Go.V
open Go
theorem Wf.Bd {st:ah}(h:Wf st):∀(k u:Nat),u<=st.outer.length->∀x,(st.line u)[k]? =some x->(st.line u)[k+1]? =if st.outer.getD x (-1) < 0 then none else some (st.outer.getD x (-1)).toNat:=by
 intro k
 induction k with
 |zero=>
  intro u hu x hx;have hl:=h.eZ u;rw[h.line hu]at hx|-;obtain rfl:u=x:=by simpa using hx
  rw[Vb];split
  ·rfl
  ·rw[h.line Zo];rfl
 |succ k ih=>
  intro u hu x hx;have hl:=h.eZ u;rw[h.line hu]at hx|-;rw[Vb]at hx|-;split at hx
  ·simp at hx
  ·rename_i c;rw[if_neg c];exact ih _ Zo x hx
theorem Wf.U8 {st:ah}(h:Wf st){u:Nat}(hu:u < st.outer.length):∀w∈st.line u,w < st.outer.length:=fun w hw=>by
 have:=h.ue u Zo w hw;omega
def ah.around(st:ah)(u:Nat):List Nat:=(st.line u).drop 1
def tB(U:List UC)(l:List Nat)(d:Nat):Value:=match l[d]? with|some x=>kE (qU U x)|none=>.pointer none
theorem oA(st:ah)(u d:Nat):(st.around u)[d]? =(st.line u)[d+1]?:=by
 unfold ah.around;rw[Vd,Nat.add_comm]
theorem fp {U:List UC}{x:Nat}{w:UC}(h:U[x]? =some w):qU U x=w.q:=by unfold qU;rw[h];rfl
theorem eP.outerQ {st:ah}{L:Nat}{U:List UC}{V:List au}(h:eP st L U V){i:Nat}{u:UC}(hu:U[i]? =some u):kL u.outer=tB U (st.around i) 0:=by
 have cf:i < st.outer.length:=by have:=(Vh.1 hu).1;rw[h.ul]at this;exact this
 have nP:=h.wf.eZ i;have h0:(st.line i)[0]? =some i:=by rw[h.wf.line Zo];rfl
 have hn:=h.wf.Bd 0 i Zo i h0;rw[h.ou i u hu];unfold tB;rw[oA,hn];by_cases c:st.outer.getD i (-1) < 0
 ·rw[if_pos c,if_pos c];rfl
 ·rw[if_neg c,if_neg c];obtain⟨w,hw⟩:∃w,U[(st.outer.getD i (-1)).toNat]? =some w:=⟨_,Zg (by rw[h.ul];omega)⟩;rw[hw];simp only[fp hw];rfl
theorem eP.outerN {st:ah}{L:Nat}{U:List UC}{V:List au}(h:eP st L U V){i d x:Nat}{w:UC}(hi:i < st.outer.length)(hd:(st.around i)[d]? =some x)(hw:U[x]? =some w):kL w.outer=tB U (st.around i) (d+1):=by
 rw[oA]at hd;have hn:=h.wf.Bd (d+1) i Zo x hd;have hxl:=h.wf.U8 hi x (Zv hd);have nP:=h.wf.eZ x;rw[h.ou x w hw];unfold tB;rw[oA,hn];by_cases c:st.outer.getD x (-1) < 0
 ·rw[if_pos c,if_pos c];rfl
 ·rw[if_neg c,if_neg c];obtain⟨w',rT⟩:∃w',U[(st.outer.getD x (-1)).toNat]? =some w':=⟨_,Zg (by rw[h.ul];omega)⟩;rw[rT];simp only[fp rT];rfl
theorem SG(o:List Int):∀n u,(yK o n u).length<=n:=by
 intro n
 induction n with
 |zero=>intro u;simp[yK]
 |succ n ih=>
  intro u;simp only[yK];split
  ·simp
  ·have:=ih (o.getD u.toNat (-1));rw[Vp];omega
theorem uR(st:ah)(u:Nat):(st.around u).length<=st.outer.length:=by
 have:=SG st.outer (st.outer.length+1) u;unfold ah.around ah.line;rw[Vr];omega
def ah.lO(st:ah)(u k:Nat):List (Nat×Int):=((st.around u).reverse.take k).flatMap fun o=>(st.things o).filter (st.bg u)
theorem Eb(st:ah)(u:Nat){k:Nat}(h:(st.around u).length<=k):st.lO u k=st.copied u:=by
 unfold ah.lO ah.copied ah.around;rw[Qc (by rw[List.length_reverse];exact h)]
theorem KM(st:ah){u k o:Nat}(h:(st.around u).reverse[k]? =some o):st.lO u (k+1)=st.lO u k++(st.things o).filter (st.bg u):=by
 unfold ah.lO;have hl:=(Vh.1 h).1;rw[QY,h];simp
theorem Jd(st:ah){o m:Nat}(h:m < st.args.getD o 0+1):(st.things o)[m]? =some (o,(m:Int) - 1):=by
 unfold ah.things;rw[Vi,List.getElem?_range h];rfl
theorem pz(st:ah)(o:Nat):(st.things o).length=st.args.getD o 0+1:=by unfold ah.things;simp
theorem AS {α:Type}{l:List α}{p:α->Bool}{m:Nat}{x:α}(h:l[m]? =some x):(l.take (m+1)).filter p=(l.take m).filter p++(if p x=true then [x]else []):=by
 rw[QY,h,vp];simp only[Option.toList_some]
 congr 1
 by_cases c:p x=true
 ·rw[if_pos c,vq,if_pos c];rfl
 ·rw[if_neg c,vq,if_neg c];rfl
theorem Hh {st:ah}{u M:Nat}(h:∀j,st.args.getD j 0<=M):(st.copied u).length<=(st.around u).length*(M+1):=by
 have key:∀l:List Nat,(l.flatMap fun o=>(st.things o).filter (st.bg u)).length<=l.length*(M+1):=by
  exact zCA
 have:=key (st.around u).reverse;rw[List.length_reverse]at this;exact this
theorem Oa {st:ah}{u M k:Nat}(h:∀j,st.args.getD j 0<=M):(st.lO u k).length<=(st.around u).length*(M+1):=by
 have key:∀l:List Nat,(l.flatMap fun o=>(st.things o).filter (st.bg u)).length<=l.length*(M+1):=by
  exact zCA
 have h1:=key ((st.around u).reverse.take k);have h2:((st.around u).reverse.take k).length<=(st.around u).length:=by
  have:=List.length_take_le' k (st.around u).reverse;rw[List.length_reverse]at this;exact this
 exact Ql h1 (Qo _ h2)
theorem Em {α β:Type}(f:α->List β){l:List α}{i:Nat}{x:α}(h:l[i]? =some x):∃R,(∀y,((l.set i y).flatMap f).Perm (f y++R))/\∀(k:Nat) z,k≠i->l[k]? =some z->∀a∈f z,a∈R:=by
 induction l generalizing i with
 |nil=>simp at h
 |cons a l ih=>
  cases i with
  |zero=>
   refine⟨l.flatMap f,fun y=>by simp,fun k z hk hz b hb=>?_⟩;cases k with
   |zero=>exact absurd rfl hk
   |succ k=>exact QD.2 ⟨z,Zv (by simpa using hz),hb⟩
  |succ i=>
   obtain⟨R,hR,hm⟩:=ih (i:=i) (by simpa using h);refine⟨f a++R,fun y=>?_,fun k z hk hz b hb=>?_⟩
   ·simp only[QV,vy];refine(vU _ (hR y)).trans ?_;exact zAV
   ·cases k with
    |zero=>
     obtain rfl:a=z:=by simpa using hz
     exact Zw _ hb
    |succ k=>exact Q8 _ (hm k z Zo (by simpa using hz) b hb)
theorem XH {U:List UC}{V:List au}{i:Nat}{u:UC}(hu:U[i]? =some u):∃R,(WK U V).Perm ([.obj u.nb (.map u.es u.cl)]++(kA u.q 7 [u.cv]++(ai u.cv (u.de.flatMap jP) u.bZ++R)))/\
 (∀c' v' p',(WK (U.set i {u with de:=c',cv:=v',bZ:=p'}) V).Perm ([.obj u.nb (.map u.es u.cl)]++(kA u.q 7 [v']++(ai v' (c'.flatMap jP) p'++R))))/\
 (∀(k:Nat) z,k≠i->U[k]? =some z->∀a∈z.atoms,a∈R)/\kB.own u.q 9∈R/\∀a∈kA u.q 0 [.int .i64 u.args,.int .i64 u.locals,.int .i64 u.ay,kL u.outer,.int .i64 u.num,u.tv,.map (some u.nb)],a∈R:=by
 obtain⟨RU,h1,hm⟩:=Em UC.atoms hu;obtain⟨X,hX⟩:∃X,X=(kB.own u.q 9::(kA u.q 0 [.int .i64 u.args,.int .i64 u.locals,.int .i64 u.ay,kL u.outer,.int .i64 u.num,u.tv,.map (some u.nb)]++(kA u.q 8 [u.body]++ai u.tv (u.ab.map fun b=>kL (some b)) u.ic))):=⟨_,rfl⟩;have hA:∀c' v' p',({u with de:=c',cv:=v',bZ:=p'}:UC).atoms.Perm (([.obj u.nb (.map u.es u.cl)]++(kA u.q 7 [v']++ai v' (c'.flatMap jP) p'))++X):=fun c' v' p'=>by
  unfold UC.atoms UC.row;rw[hX];have e:kA u.q 0 [.int .i64 u.args,.int .i64 u.locals,.int .i64 u.ay,kL u.outer,.int .i64 u.num,u.tv,.map (some u.nb),v',u.body]=kA u.q 0 [.int .i64 u.args,.int .i64 u.locals,.int .i64 u.ay,kL u.outer,.int .i64 u.num,u.tv,.map (some u.nb)]++(kA u.q 7 [v']++kA u.q 8 [u.body]):=rfl;simp only;rw[e];generalize kA u.q 0 [.int .i64 u.args,.int .i64 u.locals,.int .i64 u.ay,kL u.outer,.int .i64 u.num,u.tv,.map (some u.nb)]=A;generalize kA u.q 7 [v']=B;generalize kA u.q 8 [u.body]=C;generalize ai u.tv (u.ab.map fun b=>kL (some b)) u.ic=D;generalize ai v' (c'.flatMap jP) p'=E;generalize kB.obj u.nb (.map u.es u.cl)=o;generalize kB.own u.q 9=w;simp only[vZ,vf];have k1:(A++(B++(C++(D++(E++[o]))))).Perm (o::(B++(E++(A++(C++D))))):=by
   refine List.Perm.trans (l₂:=(A++(B++(C++(D++E))))++[o]) (by simp only[vZ];exact vW _) ?_;refine QN.trans (List.Perm.cons o ?_);refine(QO A B _).trans (vU _ ?_);refine List.Perm.trans (l₂:=(A++(C++D))++E) (by simp only[vZ];exact vW _) ?_;exact QN
  refine(List.Perm.cons w k1).trans ?_;refine(List.Perm.swap _ _ _).trans (List.Perm.cons o ?_);refine List.Perm.trans (l₂:=[w]++(B++(E++(A++(C++D))))) (vW _) ?_;refine(QO _ B _).trans (vU _ ?_);exact(QO _ E _)
 have key:∀c' v' p',(WK (U.set i {u with de:=c',cv:=v',bZ:=p'}) V).Perm ([.obj u.nb (.map u.es u.cl)]++(kA u.q 7 [v']++(ai v' (c'.flatMap jP) p'++(X++(RU++V.flatMap au.atoms))))):=fun c' v' p'=>by
  unfold WK;refine(vV _ ((h1 _).trans (vV _ (hA c' v' p')))).trans ?_;simp only[vZ];exact vW _
 refine⟨X++(RU++V.flatMap au.atoms),?_,key,fun k z hk hz a ha=>Q8 _ (Zw _ (hm k z hk hz a ha)),Zw _ (by rw[hX];exact QB ..),fun a ha=>Zw _ (by rw[hX];exact QA _ (Zw _ ha))⟩;have:=key u.de u.cv u.bZ;have e1:U.set i {u with de:=u.de,cv:=u.cv,bZ:=u.bZ}=U:=wt hu
 rwa [e1]at this
theorem AM(st:ah){l:List Nat}{j v:Nat}(h:l[j]? =some v)(r:Bool):y8 st (l.take (j+1)) r=y8 st (l.take j) r+(if st.rem v=r then 1 else 0):=by
 unfold y8;rw[AS h,Vo];by_cases c:st.rem v=r
 ·rw[if_pos (Zt c),if_pos c];rfl
 ·rw[if_neg (by simpa using c),if_neg c];rfl
section
variable {P:Program} {n:Nat} {Γ:Env} {H:SH} {Z:List PanicEntry->Env->SH->Prop} {K:Env->SH->Prop} {rs:List RO} {d:Option Nat}
theorem MX {m:Operand}{b c:Nat}{es:Array MapEntry}{l:List ((Nat×Int)×Int)}(hm:ev Γ m=some (.map (some b)))(ho:uG H b (.map es c))(hl:yQ es.toList l)
 (h:VO P n rs (ak d (.int .i64 l.length) Γ) H Z K):VO P n (⟨d,none,.P5 m⟩::rs) Γ H Z K:=by
 refine VO.read rfl rfl (fun ρ aG=>⟨_,rfl,fun F w hs=>?_⟩) h;rw[aG _ _ hm];have hg:=gu (P:=P) ho.mem hs;have hlen:es.size=l.length:=by
  have:=congrArg List.length hl;simpa using this
 simp[wA,hg,hlen]
end
end Go.V
namespace Go.Proofs.YtijnokbblmbpkaaGreatDoor
open Go Go.V
set_option maxHeartbeats 3200000
set_option maxRecDepth 100000
noncomputable def thF0:Field:=((Tryz.prog.fieldsOf 217)[0]?).getD default
noncomputable def thF1:Field:=((Tryz.prog.fieldsOf 217)[1]?).getD default
noncomputable def i206:TypeInfo:=(Tryz.prog.info? 206).getD default
noncomputable def i3:TypeInfo:=(Tryz.prog.info? 3).getD default
theorem thP:XN Tryz.prog 217 199 206:=
 ⟨⟨thF0,thF1,by kernel_rfl,by kernel_rfl,by kernel_rfl,by decide+kernel,by decide+kernel,by kernel_rfl,by kernel_rfl⟩,⟨i206,by kernel_rfl,by decide+kernel⟩,by kernel_rfl,by kernel_rfl,⟨3,i3,by kernel_rfl,by kernel_rfl,by kernel_rfl⟩⟩
theorem u124:Tryz.prog.underlying 124=some (.pointer 206):=by kernel_rfl
theorem CS:Tryz.prog.info? 206=some i206:=by kernel_rfl
theorem CT:i206.size≠0:=by decide+kernel
theorem M5(st:ah)(U:List UC)(Vs:List au)(hR:cy st U Vs)(i v:Nat)(u:UC)(y:au)(hu:U[i]? =some u)(hy:Vs[v]? =some y)(hl:st.af v∈st.line i)(hb:st.uses.length < 1073741824):
 ao Tryz.prog 232 [kE u.q,kE y.q] [WK U Vs] (fun r Post=>∃U' nM,(r=.tuple #[]/\cy (st.use i v) U' nM/\U'.map UC.q=U.map UC.q/\U'.map UC.body=U.map UC.body/\nM.map au.q=Vs.map au.q)/\Post=[WK U' nM]):=by
 have hwf:=hR.wf;have cf:i < st.outer.length:=by have:=(Vh.1 hu).1;rw[hR.ul]at this;exact this
 have CR:v < st.vars.length:=by have:=(Vh.1 hy).1;rw[hR.vl]at this;exact this
 obtain⟨x,hx⟩:∃x,st.vars[v]? =some x:=⟨_,Zg CR⟩;have huo:st.af v=x.unit:=by unfold ah.af;rw[hx];rfl
 have hoo:st.bD v=x.own:=by unfold ah.bD;rw[hx];rfl
 obtain⟨⟨w,hw,hyw⟩,hya,hyf,dD,tL⟩:=hR.vn v x y hx hy;have EK:=(hwf.vu v x hx).2;have HP:w.q=u.q->x.unit=i:=fun e=>cm.RQ hR hw hu e
 have hly:wO (WK U Vs) w.q:=fV hw;have hlu:wO (WK U Vs) u.q:=fV hu;have m0:kB.cell y.q 0 (kE w.q)∈WK U Vs:=iU hy _ (kH.2 ⟨0,_,by unfold au.row;rw[hyw];rfl,rfl⟩);have m1:kB.cell y.q 1 (.int .i64 x.own)∈WK U Vs:=iU hy _ (kH.2 ⟨1,_,by unfold au.row;rw[hya];rfl,rfl⟩);refine ao.intro low232 (by simp[n232]) ?_;generalize hB:WK U Vs=B at hly hlu m0 m1|-;refine ae ?_;refine st_eqp u124 CS CT Zr Zr (hlu.more Zs) (hly.more Zs) ?_;refine ae ?_;by_cases he:u.q=w.q
 ·rw[Zt he];refine ae ?_;refine kG (Post:=[B]) (.inr rfl) .nil ⟨U,Vs,⟨rfl,?_,rfl,rfl,rfl⟩,by rw[hB]⟩ ZI;have e1:i=st.af v:=by rw[huo];exact(HP he.symm).symm
  refine cm.congr (hR.useS cf CR) (fun j t=>?_) (fun k=>?_) (fun k=>?_)
  ·rw[E8,hwf.qT Zo e1];simp
  ·rw[Kj];by_cases e:v=k
   ·subst e;simp[<- e1]
   ·simp[e]
  ·show st.uses.length<=(st.uses++[(i,v)]).length;rw[Vo];omega
 rw[Zf he];refine ae ?_;have cF:i≠st.af v:=fun e=>he (by
  rw[huo]at e;rw[<- e,hu]at hw;rw[X0 hw])
 have l8:∀k,(st.use i v).rem k=(st.rem k||(decide (v=k)&&decide (x.own < 0))):=fun k=>by
  rw[Kj];by_cases e:v=k
  ·subst e;rw[hoo,show decide (st.af v≠i)=true from Zt (fun e=>cF e.symm),Bool.and_true]
  ·simp[e]
 by_cases ho:x.own < 0
 ·rw[show decide (x.own < 0)=true from Zt ho];obtain⟨R,hp,hr⟩:=Na (U:=U) hy;rw[<- hB];refine VC.imp (H:=[WK U Vs]) (H':=[kA y.q 3 [.bool y.remote],R]) (aj.perm (by simpa using hp)) ?_;refine ae ?_;obtain⟨pH,xm⟩:∃pH,pH=Vs.set v {y with remote:=true}:=⟨_,rfl⟩;refine VC.imp (H':=[WK U pH]) (aj.perm (by rw[xm];simpa using(hr true).symm)) ?_;have Th:pH[v]? =some {y with remote:=true}:=by rw[xm,Vl];simp[(Vh.1 hy).1]
  obtain⟨y2,Th,hyq2,hyu2,hya2⟩:∃y2,pH[v]? =some y2/\y2.q=y.q/\y2.unit=y.unit/\y2.arg=y.arg:=⟨_,Th,rfl,rfl,rfl⟩;have hvq2:pH.map au.q=Vs.map au.q:=by
   rw[xm,List.map_set];exact wt (by rw[Vi,hy];rfl)
  obtain⟨Nv,HS⟩:∃Nv:Nat->Bool,Nv=fun k=>st.rem k||decide (v=k):=⟨_,rfl⟩
  have Yo:∀k,(st.use i v).rem k=Nv k:=fun k=>by rw[l8,HS];simp[ho]
  have JK:cm st (lP st v []) Nv (fun k=>st.uses.length+(if k∈([]:List Nat)then 1 else 0)) U pH:=by
   rw[xm,HS];exact(cm.far hR hy).congr (fun k t=>AN st v k t) (fun k=>rfl) (fun k=>by simp)
  clear xm HS hr;exact zA0
 ·rw[show decide (x.own < 0)=false from Zf ho];refine ae ?_;obtain⟨pH,xm⟩:∃pH,pH=Vs:=⟨_,rfl⟩;rw[<- hB];refine VC.imp (H':=[WK U pH]) (aj.perm (by rw[xm])) ?_;obtain⟨y2,Th,hyq2,hyu2,hya2⟩:∃y2,pH[v]? =some y2/\y2.q=y.q/\y2.unit=y.unit/\y2.arg=y.arg:=⟨_,by rw[xm];exact hy,rfl,rfl,rfl⟩;have hvq2:pH.map au.q=Vs.map au.q:=by rw[xm]
  obtain⟨Nv,HS⟩:∃Nv:Nat->Bool,Nv=st.rem:=⟨_,rfl⟩;have Yo:∀k,(st.use i v).rem k=Nv k:=fun k=>by rw[l8,HS];simp[ho]
  have JK:cm st (lP st v []) Nv (fun k=>st.uses.length+(if k∈([]:List Nat)then 1 else 0)) U pH:=by
   rw[xm,HS];exact cm.congr hR (fun k t=>AN st v k t) (fun k=>rfl) (fun k=>by simp)
  clear xm HS;exact zA0
def mC(l:List Nat):List (Nat×Nat):=(List.range l.length).reverse.map fun i=>(i,l.getD i 0)
theorem mD(l:List Nat):(mC l).length=l.length:=by unfold mC;simp
theorem F1 {l:List Nat}{d k:Nat}(h:d+k+1=l.length):(mC l)[d]? =some (k,l.getD k 0):=by
 unfold mC;rw[Vi,List.getElem?_reverse (by rw[List.length_range];omega),List.length_range,List.getElem?_range Zo];have e:l.length - 1 - d=k:=by omega
 rw[e];rfl
theorem KI(q:Nat)(l:List Nat)(v:Value)(L:List kB)(hL:wX L v l)(hl:l.length < 1073741824):
 Iter Tryz.prog (.func (.func 210) #[] #[kE q]) (fun x:Nat×Nat=>[vi x.1,kE x.2]) [kA q 0 [v],L] [] (fun full=>full=mC l):=by
 intro y J SP hy A hA;obtain⟨a,c,rfl,hp⟩:=hL;refine dj.bX (first:=#[]) (cap:=#[kE q]) ?_;show ao Tryz.prog 210 [y,kE q] _ _;refine ao.intro low210 (by simp[n210]) ?_;simp only[aE];refine ae ?_;refine VC.loop (α:=Nat×List kB) (aW:=fun s=>[(0,y),(1,kE q),(3,.int .i64 ((l.length:Int) - 1 - s.1))]) (Hf:=fun s=>[kA q 0 [.slice a l.length c],L,s.2]) (I:=fun s=>s.1<=l.length/\J ((mC l).take s.1) s.2) (μ:=fun s=>l.length - s.1) (0,A) ⟨Qs _,by simpa using hA⟩ (by simp only[Int.natCast_zero,Int.sub_zero];exact Nh) ZI ?_
 rintro⟨d,A1⟩ ⟨hd,hJ⟩
 simp only at hd hJ;dsimp only;refine ae ?_;by_cases aI:d < l.length;rotate_left
 ·rw[show decide ((0:Int)<=(l.length:Int) - 1 - (d:Int))=false from Zf Zo];refine ae ?_;have xq:(mC l).take d=mC l:=Qc (by rw[mD];omega);rw[xq]at hJ;exact kG (Post:=[A1]) (.inl rfl) .nil ⟨rfl,.inl ⟨mC l,A1,rfl,hJ,rfl⟩⟩ ZI
 obtain⟨k,hk⟩:∃k,d+k+1=l.length:=⟨l.length - 1 - d,Zo⟩;have Z2:(l.length:Int) - 1 - (d:Int)=(k:Int):=by omega
 rw[Z2];rw[show decide ((0:Int)<=(k:Int))=true from Zt Zo];have hg:=F1 hk;obtain⟨x,hx⟩:∃x,l[k]? =some x:=⟨_,Zg Zo⟩;obtain⟨b,o,rfl,hc⟩:=hp k x hx;have hgx:l.getD k 0=x:=by rw[V8,hx];rfl
 rw[hgx]at hg;have hcc:kB.cell b (o+k) (kE x)∈L:=hc;refine ae ?_;have aN:OkC (fun full=>full=mC l) ((mC l).take d++[(k,x)]):=⟨(mC l).drop (d+1),by
  have hdl:d < (mC l).length:=by rw[mD];exact aI
  have e:=(Vh.1 hg).2;rw[vZ,QW,<- e,<- vh hdl,QZ]⟩
 refine dR Zr (hy ((mC l).take d) (k,x) A1 aN hJ) Zr ZP (fun v Post hv=>?_);rcases hv with⟨rfl,A',Uo,rfl⟩|⟨rfl,B',hB',rfl⟩
 ·simp only[aE];refine ae ?_;have ht:(mC l).take (d+1)=(mC l).take d++[(k,x)]:=by rw[QY,hg];rfl
  refine⟨(d+1,A'),⟨by show d+1<=l.length;omega,by simp only[ht];exact Uo⟩,by simp only;omega,by simp only;rw[show(l.length:Int) - 1 - ((d+1:Nat):Int)=(k:Int) - 1 by omega];exact Nh,ZI⟩
 ·exact zE3
theorem KJ(v:Value)(L:List kB)(hv:v.cells.toList=[v]):ao Tryz.prog 173 [v] [L] (fun r Post=>∃q,r=.func (.func 210) #[] #[kE q]/\Post=[kA q 0 [v],L]):=by
 refine ao.intro low173 (by simp[n173]) ?_;refine ae ?_;refine kW Zr (fun q=>?_);rw[hv];refine ae ?_;exact kG (Post:=[kA q 0 [v],L]) (.inr rfl) (.tmp Zr .nil) ⟨q,rfl,rfl⟩ ZI
set_option maxHeartbeats 6400000
theorem Jv(st:ah)(l:List Nat)(r:Bool):y8 st l r<=l.length:=Vu _ _
theorem Ea(st:ah)(i:Nat)(r:Bool):y8 st (st.ab i) r=(st.locals i r).length:=by unfold y8;rw[pY]
theorem Pt(st:ah)(xl:Ph st)(U:List UC)(Vs:List au)(i:Nat)(hR:eP st i U Vs)(u:UC)(hu:U[i]? =some u)(hb:st.vars.length<=1048576/\st.outer.length<=1048576/\∀j,st.args.getD j 0<=1048576):
 ao Tryz.prog 114 [kE u.q] [WK U Vs] (fun r Post=>∃U' nM,(r=.tuple #[]/\eP st (i+1) U' nM/\U'.map UC.q=U.map UC.q/\U'.map UC.body=U.map UC.body/\nM.map au.q=Vs.map au.q)/\Post=[WK U' nM]):=by
 obtain⟨hbv,ZL,hba⟩:=hb;have cf:i < st.outer.length:=by have:=(Vh.1 hu).1;rw[hR.ul]at this;exact this
 obtain⟨htm,bh⟩:=hR.tm i u hu;obtain⟨n1,n2,n3,n4,n5⟩:=hR.nl i u hu (Qj _);obtain⟨mm,t1,t2,t3,t4⟩:=hR.nd i u hu;obtain⟨tp,X7⟩:∃l,l=st.ab i:=⟨_,rfl⟩;have tI:u.ab.length=tp.length:=by rw[htm,Vv,X7]
 have htb:tp.length<=1048576:=by
  rw[X7];unfold ah.ab;have h1:=Vu (fun v=>decide (st.af v=i)&&decide (st.bD v < 0)) (List.range st.vars.length);rw[List.length_range]at h1;omega
 have hpt:=gY rfl bh;obtain⟨ta,tc,bu⟩:=bh.form;obtain⟨U1,La⟩:∃U1:Nat->List UC,U1=fun j=>U.set i {u with locals:=y8 st (tp.take j) false,ay:=y8 st (tp.take j) true}:=⟨_,rfl⟩
 obtain⟨V1,hV1⟩:∃V1:Nat->List au,V1=fun j=>I2 st Vs (tp.take j):=⟨_,rfl⟩
 have hU0:U1 0=U:=by
  rw[La];simp only[Qd];have e:({u with locals:=y8 st [] false,ay:=y8 st [] true}:UC)=u:=by
   cases u;simp only at n1 n2;subst n1;subst n2;rfl
  rw[e];exact wt hu
 have hV0:V1 0=Vs:=by
  rw[hV1];simp only[Qd];exact Xm st Vs
 have hUi:∀j,(U1 j)[i]? =some {u with locals:=y8 st (tp.take j) false,ay:=y8 st (tp.take j) true}:=fun j=>by
  rw[La];simp only;rw[Vl,if_pos rfl,if_pos (Vh.1 hu).1]
 refine ao.intro low114 (by simp[n114]) ?_;refine VC.join (α:=Nat) (aW:=fun q=>[(1,kE q)]) (Hf:=fun q=>[kA q 0 [kE u.q],WK (U1 0) (V1 0)]) (I:=fun _=>True) ?_ (fun q1 _=>?_)
 ·refine ae ?_;refine kW Zr (fun q=>?_);simp only[Value.cells];refine ae ?_;exact⟨q,trivial,ZU,by rw[hU0,hV0];exact bE⟩
 refine VC.scope ?_;refine VC.join (α:=Unit) (aW:=fun _=>[(1,kE q1)]) (Hf:=fun _=>[kA q1 0 [kE u.q],WK (U1 tp.length) (V1 tp.length)]) (I:=fun _=>True) ?_ (fun _ _=>?_)
 ·have k5:kB.cell u.q 5 (.slice ta tp.length tc)∈WK (U1 0) (V1 0):=by
   rw[hU0,hV0];exact za hu _ (QA _ (Zw _ (kH.2 ⟨5,_,by unfold UC.row;rw[bu,tI];rfl,rfl⟩)))
  refine ae ?_;refine VC.loop (α:=Nat) (aW:=fun j=>[(1,kE q1),(13,.slice ta tp.length tc),(14,vi tp.length),(15,vi j)]) (Hf:=fun j=>[kA q1 0 [kE u.q],WK (U1 j) (V1 j)]) (I:=fun j=>j<=tp.length) (μ:=fun j=>tp.length - j) 0 (Qs _) ZU ZI ?_;intro j hj;refine ae ?_;by_cases aI:j < tp.length;rotate_left
  ·rw[show decide ((j:Int) < (tp.length:Int))=false from Zf Zo];obtain rfl:j=tp.length:=by omega
   exact zCH
  rw[show decide ((j:Int) < (tp.length:Int))=true from Zt Zo];obtain⟨v,hv⟩:∃v,tp[j]? =some v:=⟨_,Zg aI⟩;have hvm:v∈st.ab i:=X7 ▸ Zv hv;have CR:=yJ hvm;obtain⟨y,hy⟩:∃y,Vs[v]? =some y:=⟨_,Zg (by rw[hR.vl];exact CR)⟩;obtain⟨x,hx⟩:∃x,st.vars[v]? =some x:=⟨_,Zg CR⟩;obtain⟨_,_,dD,_⟩:=hR.vn v x y hx hy;obtain⟨y1,Nq,UW,hy1r⟩:∃y1,(V1 j)[v]? =some y1/\y1.q=y.q/\y1.remote=st.rem v:=⟨{y with slot:=if v∈tp.take j then(st.bN v).toNat else y.slot},by rw[hV1];exact fQ hy,rfl,dD⟩;obtain⟨R,hp,hr⟩:=wk_lay (hUi j) Nq;simp only at hp hr;rw[UW]at hp;have hpp:=hp;rw[<- vZ]at hpp;have hqj:u.ab[j]? =some y.q:=by
   rw[htm,<- X7,Vi,hv];show some (Vs.getD v yM).q=_;rw[V8,hy];rfl
  obtain⟨ta',tc',tJ,hpt'⟩:=hpt;rw[bu]at tJ;simp only[Value.slice.injEq]at tJ;obtain⟨tb,to,hta,htc⟩:=hpt' j y.q hqj;rw[<- tJ.1]at hta;subst hta;have k1:kB.cell tb (to+j) (kL (some y.q))∈R:=fW hpp (za (hUi j) _ (QA _ (Q8 _ (Zw _ htc)))) (by simp[kA,kL]);have k1:kB.cell tb (to+j) (kE y.q)∈R:=k1;have k3:kB.cell y.q 3 (.bool (st.rem v))∈R:=fW hpp (iU Nq _ (kH.2 ⟨3,_,by unfold au.row;rw[hy1r];rfl,by rw[UW]⟩)) Jo;have hso:st.bN v=(y8 st (tp.take j) (st.rem v):Int):=by
   have:=Ko (X7 ▸ hv);rw[this,X7];rfl
  have hUs:∀l n,(U1 j).set i {u with locals:=l,ay:=n}=U.set i {u with locals:=l,ay:=n}:=fun l n=>by
   rw[La];simp only[List.set_set]
  have hVn:(V1 j).set v {y1 with slot:=(st.bN v).toNat}=V1 (j+1):=by
   have e:tp.take (j+1)=tp.take j++[v]:=by rw[QY,hv];rfl
   rw[hV1];simp only;rw[e];exact Xn hy (by rw[<- Nq,hV1])
  have Lm:=Jv st (tp.take j) true;have dz:=Jv st (tp.take j) false;have oN:=List.length_take_le j tp;have nS:=AM st hv true;have nT:=AM st hv false;have hUn:U1 (j+1)=U.set i {u with locals:=y8 st (tp.take (j+1)) false,ay:=y8 st (tp.take (j+1)) true}:=by rw[La]
  refine VC.imp (H':=[kA q1 0 [kE u.q],kA y.q 4 [.int .i64 y1.slot],kA u.q 1 [.int .i64 (y8 st (tp.take j) false),.int .i64 (y8 st (tp.take j) true)],R]) (aj.perm (by simp only[V6,V7,vd];exact vU _ hp)) ?_;cases l8:st.rem v with
  |true=>
   rw[l8]at k3 hso;rw[l8]at nS nT;simp only[if_true,Bool.true_eq_false,if_false,Qh]at nS nT;refine ae ?_;refine⟨j+1,Zo,Zo,ZU,?_⟩;have ez:=hr (y8 st (tp.take j) false) (y8 st (tp.take j) true+1) (st.bN v).toNat;rw[hVn,hUs,UW]at ez;rw[hUn,nS,nT];refine aj.cut (M:=[kA q1 0 [kE u.q],kA y.q 4 [.int .i64 ((y8 st (tp.take j) true:Int))],kA u.q 1 [.int .i64 ((y8 st (tp.take j) false:Int)),.int .i64 ((y8 st (tp.take j) true:Int)+1)],R]) ZI (aj.perm ?_);simp only[V6,V7,vd];refine vU _ ?_;have e:((st.bN v).toNat:Int)=(y8 st (tp.take j) true:Int):=by omega
   rw[e]at ez;simp only[Int.natCast_add,Int.natCast_one]at ez;exact ez.symm
  |false=>
   rw[l8]at k3 hso;rw[l8]at nS nT;simp only[if_true,vJ,if_false,Qh]at nS nT;refine ae ?_;refine⟨j+1,Zo,Zo,ZU,?_⟩;have ez:=hr (y8 st (tp.take j) false+1) (y8 st (tp.take j) true) (st.bN v).toNat;rw[hVn,hUs,UW]at ez;rw[hUn,nS,nT];refine aj.cut (M:=[kA q1 0 [kE u.q],kA y.q 4 [.int .i64 ((y8 st (tp.take j) false:Int))],kA u.q 1 [.int .i64 ((y8 st (tp.take j) false:Int)+1),.int .i64 ((y8 st (tp.take j) true:Int))],R]) ZI (aj.perm ?_);simp only[V6,V7,vd];refine vU _ ?_;have e:((st.bN v).toNat:Int)=(y8 st (tp.take j) false:Int):=by omega
   rw[e]at ez;simp only[Int.natCast_add,Int.natCast_one]at ez;exact ez.symm
 obtain⟨U2,hU2⟩:∃U2,U2=U1 tp.length:=⟨_,rfl⟩;obtain⟨V2,hV2⟩:∃V2,V2=V1 tp.length:=⟨_,rfl⟩;rw[<- hU2,<- hV2];have fK:tp.take tp.length=tp:=Qa;have Ox:U2=U.set i {u with locals:=(st.locals i false).length,ay:=(st.locals i true).length}:=by
  rw[hU2,La];simp only;rw[fK,X7,Ea,Ea]
 have hV2e:V2=I2 st Vs (st.ab i):=by
  rw[hV2,hV1];simp only;rw[fK,X7]
 have l7:U2.map UC.q=U.map UC.q:=by rw[Ox];exact zD hu rfl
 have Yp:U2[i]? =some {u with locals:=(st.locals i false).length,ay:=(st.locals i true).length}:=by
  rw[Ox,Vl,if_pos rfl,if_pos (Vh.1 hu).1]
 clear La hV1 hU0 hV0 hUi hU2 hV2;have xn:∀x∈st.around i,x < i:=fun x hx=>by
  unfold ah.around at hx;have nP:=xl.wf.eZ i;rw[xl.wf.line Zo]at hx;simp only[List.drop_succ_cons,List.drop_zero]at hx;split at hx
  ·cases hx
  ·have:=xl.wf.ue _ Zo x hx;omega
 have aC:∀x∈st.around i,∃w,U2[x]? =some w/\U[x]? =some w/\w.q=qU U x:=fun x hx=>by
  have h1:=xn x hx;obtain⟨w,hw⟩:∃w,U[x]? =some w:=⟨_,Zg (by rw[hR.ul];omega)⟩;exact⟨w,by rw[Ox,Vl,if_neg Zo];exact hw,hw,(fp hw).symm⟩
 have ap:=uR st i;obtain⟨pt,ι⟩:∃pt,pt=(st.around i).map (qU U):=⟨_,rfl⟩;have ii:pt.length=(st.around i).length:=by rw[ι,Vv]
 refine jW ?_;refine VC.join (α:=Value×List Value) (aW:=fun s=>[(1,kE q1),(4,s.1)]) (Hf:=fun s=>[kA q1 0 [kE u.q],WK U2 V2,ai s.1 (pt.map fun b=>kL (some b)) s.2]) (I:=fun s=>kY 1 s.1 pt.length (pt.map fun b=>kL (some b)) s.2) ?_ ?_
 ·have k3:kB.cell u.q 3 (tB U (st.around i) 0)∈WK U2 V2:=by
   rw[<- hR.outerQ hu];exact za Yp _ (QA _ (Zw _ (kH.2 ⟨3,_,rfl,rfl⟩)))
  refine ae ?_;refine VC.loop (α:=Nat×Value×List Value) (aW:=fun s=>[(1,kE q1),(4,s.2.1),(5,tB U (st.around i) s.1)]) (Hf:=fun s=>[kA q1 0 [kE u.q],WK U2 V2,ai s.2.1 ((pt.take s.1).map fun b=>kL (some b)) s.2.2]) (I:=fun s=>s.1<=pt.length/\kY 1 s.2.1 s.1 ((pt.take s.1).map fun b=>kL (some b)) s.2.2) (μ:=fun s=>pt.length - s.1) (0,Nz,[]) ⟨Qs _,.nil⟩ ZU (aj.cut (M:=[kA q1 0 [kE u.q],WK U2 V2]) ZI (aj.perm (by simp[ai]))) ?_
  rintro⟨d,sv,sp⟩ ⟨hd,gO⟩
  simp only at hd gO;dsimp only;obtain⟨sa,sc,rfl⟩:=gO.form;by_cases aI:d < pt.length;rotate_left
  ·have he:tB U (st.around i) d=.pointer none:=by
    unfold tB;rw[Ve Zo]
   rw[he];have htk2:pt.take d=pt:=Qc Zo;have hde:d=pt.length:=by omega
   rw[htk2]at gO|-;refine ae ?_;exact⟨(.slice sa d sc,sp),by rw[<- hde];exact gO,ZU,ZI⟩
  obtain⟨x,hx⟩:∃x,(st.around i)[d]? =some x:=⟨_,Zg Zo⟩;obtain⟨w,hw2,hw,pD⟩:=aC x (Zv hx);have he:tB U (st.around i) d=kE w.q:=by
   unfold tB;rw[hx,pD]
  have Yl:=hR.outerN cf hx hw;have k4:kB.cell w.q 3 (tB U (st.around i) (d+1))∈WK U2 V2:=by
   rw[<- Yl];exact za hw2 _ (QA _ (Zw _ (kH.2 ⟨3,_,rfl,rfl⟩)))
  have hpd:pt[d]? =some w.q:=by rw[ι,Vi,hx,pD];rfl
  rw[he];obtain⟨nx,hnx⟩:∃nx,nx=tB U (st.around i) (d+1):=⟨_,rfl⟩;rw[<- hnx]at k4;refine ae ?_;refine kg (out:=[kE w.q]) Zr Zr (fun rr=>?_);refine ae ?_;refine j8 (k:=d) (m:=1) (xs:=(pt.take d).map fun b=>kL (some b)) (sp:=sp) (ys:=[kE w.q]) Zr Zr gO ZK Zr ?_ rfl Zr Zr Zd Zo (fun cq aY ax=>?_)
  ·exact AI
  have hfv:((pt.take d).map fun b=>kL (some b))++[kE w.q]=(pt.take (d+1)).map fun b=>kL (some b):=by
   rw[QY,hpd];simp[kL]
  rw[hfv]at ax|-;obtain⟨lF,lG,rfl⟩:=ax.form;refine ae ?_;exact⟨(d+1,.slice lF (d+1) lG,aY),⟨by simp only;omega,ax⟩,by simp only;omega,by simp only[<- hnx];exact Nh,ZI⟩
 rintro⟨sv,sp⟩ gO
 simp only at gO;dsimp only;have hpr:=gY rfl gO;obtain⟨sa,sc,rfl⟩:=gO.form;refine VC.seq (VC.label ?_);refine ae ?_;refine kI (KJ (.slice sa pt.length sc) (ai (.slice sa pt.length sc) (pt.map fun b=>kL (some b)) sp) rfl) Zr ZP (fun v Post hv=>?_);obtain⟨q2,rfl,rfl⟩:=hv;simp only[aE];refine ae ?_;obtain⟨u2,US⟩:∃u2:UC,u2={u with locals:=(st.locals i false).length,ay:=(st.locals i true).length}:=⟨_,rfl⟩;rw[<- US]at Yp Ox;have hu2q:u2.q=u.q:=by rw[US]
 have hu2n:u2.nb=u.nb/\u2.es=u.es/\u2.cl=u.cl/\u2.de=[]/\u2.cv=Nz/\u2.bZ=[]:=by rw[US];exact⟨rfl,rfl,rfl,n3,n4,n5⟩
 have Uz:∀de cv bZ,de=z4 U (st.copied i)->kY 2 cv de.length (de.flatMap jP) bZ->eP st (i+1) (U2.set i {u2 with de:=de,cv:=cv,bZ:=bZ}) V2/\(U2.set i {u2 with de:=de,cv:=cv,bZ:=bZ}).map UC.q=U.map UC.q/\(U2.set i {u2 with de:=de,cv:=cv,bZ:=bZ}).map UC.body=U.map UC.body/\V2.map au.q=Vs.map au.q:=fun de cv bZ hc hs=>by
  have e:U2.set i {u2 with de:=de,cv:=cv,bZ:=bZ}=U.set i {u with locals:=(st.locals i false).length,ay:=(st.locals i true).length,de:=z4 U (st.copied i),cv:=cv,bZ:=bZ}:=by
   rw[Ox,List.set_set,US,hc]
  rw[e,hV2e];subst hc;exact⟨hR.step hu hs,zD hu rfl,rX hu rfl,YK _ _ _⟩
 obtain⟨WF,hWF⟩:∃WF:List (Nat×Int)->Value->List Value->List kB,WF=fun c' v' p'=>WK (U2.set i {u2 with de:=c',cv:=v',bZ:=p'}) V2:=⟨_,rfl⟩
 have Lb:∀c' v' p',WK (U2.set i {u2 with de:=c',cv:=v',bZ:=p'}) V2=WF c' v' p':=fun c' v' p'=>by rw[hWF]
 refine VC.gp (α:=Nat×Nat) (enc:=fun x=>[vi x.1,kE x.2]) (fun d A=>∃cv bZ,kY 2 cv (z4 U (st.lO i d.length)).length ((z4 U (st.lO i d.length)).flatMap jP) bZ/\A=[kA q1 0 [kE u.q],WK (U2.set i {u2 with de:=z4 U (st.lO i d.length),cv:=cv,bZ:=bZ}) V2].flatten) ([kA q1 0 [kE u.q],WK U2 V2].flatten) Zr (KI q2 pt _ _ hpr Zo) (R:=[kA q1 0 [kE u.q],WK U2 V2]) ZP (aj.perm Zs) ?_ (fun _=>rfl) ?_ ?_
 ·refine⟨Nz,[],.nil,?_⟩;have e:({u2 with de:=z4 U (st.lO i 0),cv:=Nz,bZ:=[]}:UC)=u2:=by
   obtain⟨_,_,_,h1,h2,h3⟩:=hu2n;cases u2;simp only at h1 h2 h3;subst h1;subst h2;subst h3;rfl
  show _=[kA q1 0 [kE u.q],WK (U2.set i {u2 with de:=z4 U (st.lO i 0),cv:=Nz,bZ:=[]}) V2].flatten;rw[e,wt Yp]
 ·rintro c x A aN ⟨cv,bZ,Lg,rfl⟩
  obtain⟨rest,eX⟩:=aN;have pB:(mC pt)[c.length]? =some x:=by rw[<- eX];simp
  have hdl:c.length < pt.length:=by have:=(Vh.1 pB).1;rwa [mD]at this
  obtain⟨k,hk⟩:∃k,c.length+k+1=pt.length:=⟨pt.length - 1 - c.length,Zo⟩;obtain⟨o,ho⟩:∃o,(st.around i)[k]? =some o:=⟨_,Zg Zo⟩;obtain⟨w,hw2,hw,pD⟩:=aC o (Zv ho);have hoi:=xn o (Zv ho);have J6:x=(k,w.q):=by
   rw[F1 hk]at pB;rw[<- X0 pB,ι,V8,Vi,ho,pD];rfl
  subst J6;have η:(st.around i).reverse[c.length]? =some o:=by
   rw[List.getElem?_reverse Zo];have e:(st.around i).length - 1 - c.length=k:=by omega
   rw[e];exact ho
  have J4:=KM st η;have hwa:=(hR.ar o w hw).1;obtain⟨na,DC⟩:∃na,na=st.args.getD o 0:=⟨_,rfl⟩;have hnab:=hba o;rw[<- DC]at hwa hnab;obtain⟨CK,hCK⟩:∃CK:Nat->List (Nat×Int),CK=fun m=>z4 U (st.lO i c.length++((st.things o).take m).filter (st.bg i)):=⟨_,rfl⟩
  have hC0:CK 0=z4 U (st.lO i c.length):=by rw[hCK];simp
  have hCe:CK (na+1)=z4 U (st.lO i (c.length+1)):=by
   rw[hCK];simp only;rw[J4,Qc (by rw[pz];omega)]
  have hCl:∀m,(CK m).length<=1048577*1048577:=fun m=>by
   rw[hCK];simp only;unfold z4;rw[Vv,Vo];have h1:=Oa (st:=st) (u:=i) (k:=c.length) hba;have h2:=Vu (st.bg i) ((st.things o).take m);have h3:=List.length_take_le' m (st.things o);rw[pz,<- DC]at h3;omega
  have hCs:∀m,m < na+1->CK (m+1)=CK m++(if st.bg i (o,(m:Int) - 1)=true then [(w.q,(m:Int) - 1)]else []):=fun m hm=>by
   rw[hCK];simp only;rw[AS (Jd st (by rw[<- DC];exact hm)),<- vZ];unfold z4;rw[Q0]
   congr 1
   split
   ·simp[pD]
   ·rfl
  simp only[uT];refine VC.imp (H':=[kA q1 0 [kE u.q],WK (U2.set i {u2 with de:=z4 U (st.lO i c.length),cv:=cv,bZ:=bZ}) V2]) (aj.perm Zs) ?_;refine VC.lE ?_;refine ae ?_;refine⟨trivial,?_⟩;refine ae ?_;refine VC.loop (α:=Nat×Value×List Value) (aW:=fun s=>[(1,kE q1),(7,kE w.q),(8,.int .i64 ((s.1:Int) - 1))]) (Hf:=fun s=>[kA q1 0 [kE u.q],WK (U2.set i {u2 with de:=CK s.1,cv:=s.2.1,bZ:=s.2.2}) V2]) (I:=fun s=>s.1<=na+1/\kY 2 s.2.1 (CK s.1).length ((CK s.1).flatMap jP) s.2.2) (μ:=fun s=>na+1 - s.1) (0,cv,bZ) ⟨Qs _,by simp only[hC0];exact Lg⟩ (by simp only[Int.natCast_zero,Int.zero_sub];exact Nh) (by simp only[hC0];exact bE) ?_
  rintro⟨m,cv1,rG⟩ ⟨hm,Lh⟩
  simp only at hm Lh;dsimp only;obtain⟨ca,cc,rfl⟩:=Lh.form;have hu3:(U2.set i {u2 with de:=CK m,cv:=.slice ca (CK m).length cc,bZ:=rG})[i]? =some {u2 with de:=CK m,cv:=.slice ca (CK m).length cc,bZ:=rG}:=by
   rw[Vl,if_pos rfl,if_pos (Vh.1 Yp).1]
  obtain⟨R,hp,hr,hoth,EK,lW⟩:=XH (V:=V2) hu3;simp only[List.set_set]at hp hr;simp only[Lb]at hp hr;simp only[hu2q,hu2n.2.1,hu2n.2.2.1]at hp hr EK lW;have HK:∀(j:Nat) z,j≠i->U2[j]? =some z->∀a∈z.atoms,a∈R:=fun j z hj hz=>hoth j z hj (by rw[Vl,if_neg (fun e=>hj e.symm)];exact hz)
  have ka:kB.cell w.q 0 (.int .i64 na)∈R:=HK o w Zo hw2 _ (QA _ (Zw _ (kH.2 ⟨0,_,by unfold UC.row;rw[hwa];rfl,rfl⟩)));have km:kB.cell u.q 6 (.map (some u2.nb))∈R:=lW _ (kH.2 ⟨6,_,rfl,rfl⟩);have GN:∀(j:Nat) z,U2[j]? =some z->wO R z.q:=fun j z hz=>by
   by_cases e:j=i
   ·subst e;rw[Yp]at hz;obtain rfl:=X0 hz;rw[hu2q];exact⟨⟨9,EK⟩,⟨_,lW _ (kH.2 ⟨0,_,rfl,rfl⟩)⟩⟩
   ·exact⟨⟨9,HK j z e hz _ (QB ..)⟩,⟨_,HK j z e hz _ (QA _ (Zw _ (kH.2 ⟨0,_,rfl,rfl⟩)))⟩⟩
  have JU:=GN o w hw2;have hlm:∀p∈mm,wO R p.1.1:=fun p hp=>by
   obtain⟨⟨j,z,h1,h2⟩,_⟩:=t3 p hp;have hq:=Cr l7 j;rw[h1]at hq;obtain⟨z2,h3,h4⟩:=Qx.1 hq;rw[h2,<- h4];exact GN j z2 h3
  have hCm:=hCl m;refine VC.imp (H':=[kA q1 0 [kE u.q],[.obj u2.nb (.map u.es u.cl)],kA u.q 7 [.slice ca (CK m).length cc],ai (.slice ca (CK m).length cc) ((CK m).flatMap jP) rG,R]) (aj.perm (by simp only[V6,V7,vd];rw[Lb];exact vU _ hp)) ?_;refine ae ?_;by_cases re:m < na+1;rotate_left
  ·rw[show decide ((m:Int) - 1 < (na:Int))=false from Zf Zo];obtain rfl:m=na+1:=by omega
   refine ae ?_;refine⟨_,⟨.slice ca (CK (na+1)).length cc,rG,?_,rfl⟩,?_⟩
   ·rw[Vo,Vy,<- hCe];exact Lh
   ·rw[Vo,Vy,<- hCe];have h9:=hr (CK (na+1)) (.slice ca (CK (na+1)).length cc) rG;refine aj.cut (M:=[kA q1 0 [kE u.q],[.obj u2.nb (.map u.es u.cl)],kA u.q 7 [.slice ca (CK (na+1)).length cc],ai (.slice ca (CK (na+1)).length cc) ((CK (na+1)).flatMap jP) rG,R]) ZI (aj.perm ?_);simp only[V6,V7,vd];rw[Lb];exact vU _ h9.symm
  rw[show decide ((m:Int) - 1 < (na:Int))=true from Zt Zo];refine ae ?_;refine MX Zr (.there .here) t1.of ?_;refine ae ?_;by_cases Ye:mm=[]
  ·rw[show decide ((mm.length:Int)=0)=true from Zt (by rw[Ye];rfl)];have hz:∀o'∈st.around i,∀t∈st.things o',¬st.bg i t=true:=fun o' xw t ht hn=>by
    obtain⟨w',_,rT,_⟩:=aC o' xw;obtain⟨e1,_⟩:=iF.1 ht;have h1:=t4 o' w' t.2 rT;have e2:(o',t.2)=t:=by rw[<- e1]
    rw[e2]at h1;have:=h1.2 hn;rw[Ye]at this;cases this
   have hf0:∀o'∈st.around i,(st.things o').filter (st.bg i)=[]:=fun o' xw=>vr.2 (hz o' xw)
   have hc0:st.copied i=[]:=by
    unfold ah.copied;rw[List.flatMap_eq_nil_iff];exact fun o' xw=>hf0 o' (by unfold ah.around;simpa using xw)
   have tZ:CK m=[]:=by
    rw[hCK];simp only;have e1:st.lO i c.length=[]:=by
     unfold ah.lO;rw[List.flatMap_eq_nil_iff];exact fun o' xw=>hf0 o' (by have:=QF xw;simpa using this)
    have e2:((st.things o).take m).filter (st.bg i)=[]:=vr.2 fun t ht=>hz o (Zv ho) t (QF ht)
    rw[e1,e2];rfl
   obtain⟨h1,h2,h3,h4⟩:=Uz (CK m) _ _ (by rw[tZ,hc0];rfl) Lh;have h9:=hr (CK m) (.slice ca (CK m).length cc) rG;refine ae ?_;exact⟨(fun l h=>by cases h),kG (Post:=[WK (U2.set i {u2 with de:=CK m,cv:=.slice ca (CK m).length cc,bZ:=rG}) V2]) (.inl rfl) .nil ⟨_,_,⟨rfl,h1,h2,h3,h4⟩,rfl⟩ (by
    rw[Lb];refine aj.cut (M:=[[.obj u2.nb (.map u.es u.cl)],kA u.q 7 [.slice ca (CK m).length cc],ai (.slice ca (CK m).length cc) ((CK m).flatMap jP) rG,R]) ZI (aj.perm ?_);simp only[V6,V7,vd];exact h9.symm)⟩
  have hmm0:0 < mm.length:=by
   cases mm with
   |nil=>exact absurd rfl Ye
   |cons _ _=>simp
  rw[show decide ((mm.length:Int)=0)=false from Zf Zo];refine ae ?_;refine kM (fun q9=>?_);refine ae ?_;refine sr (k:=(w.q,(m:Int) - 1)) thP Zr Zr (.there (.there .here)) t1.of (JU.more (fun _ hx=>by simp[hx])) (fun p hp=>(hlm p hp).more (fun _ hx=>by simp[hx])) ?_;have CN:decide ((0:Int) < (ky (w.q,(m:Int) - 1) mm).getD 0)=st.bg i (o,(m:Int) - 1):=by
   have h1:=t4 o w ((m:Int) - 1) hw;cases e:ky (w.q,(m:Int) - 1) mm with
   |none=>
    rw[e]at h1;cases e2:st.bg i (o,(m:Int) - 1)with
    |false=>rfl
    |true=>have:=h1.2 e2;cases this
   |some z=>
    rw[e]at h1;rw[h1.1 rfl];have:=(t3 _ (xU e)).2.1;exact Zt this
  refine ae ?_;rw[CN];have Er:=hCs m re;cases Yg:st.bg i (o,(m:Int) - 1)with
  |false=>
   rw[Yg]at Er;simp only[vJ,if_false,vd]at Er;have h9:=hr (CK m) (.slice ca (CK m).length cc) rG;refine ae ?_;refine⟨(m+1,.slice ca (CK m).length cc,rG),⟨by simp only;omega,by simp only[Er];exact Lh⟩,by simp only;omega,by simp only;rw[show((m+1:Nat):Int) - 1=(m:Int) - 1+1 by omega];exact Nh,?_⟩;simp only[Er];rw[Lb];refine aj.cut (M:=[kA q1 0 [kE u.q],[.obj u2.nb (.map u.es u.cl)],kA u.q 7 [.slice ca (CK m).length cc],ai (.slice ca (CK m).length cc) ((CK m).flatMap jP) rG,R]) ZI (aj.perm ?_);exact zEJ
  |true=>
   rw[Yg]at Er;simp only[if_true]at Er;have A7:(CK m).flatMap jP++[kE w.q,.int .i64 ((m:Int) - 1)]=(CK (m+1)).flatMap jP:=by
    rw[Er,vx,V0];rfl
   have hcl1:(CK (m+1)).length=(CK m).length+1:=by rw[Er,Vo];rfl
   refine jW ?_;refine VC.draws ⟨?_,?_,?_,?_,?_,?_,?_,?_,?_,?_,?_,?_,?_,?_,?_,trivial⟩
   all_goals
    refine ae ?_;refine kg (out:=[kE w.q,.int .i64 ((m:Int) - 1)]) Zr Zr (fun rr=>?_);refine ae ?_;refine j8 (k:=(CK m).length) (m:=1) (xs:=(CK m).flatMap jP) (sp:=rG) (ys:=[kE w.q,.int .i64 ((m:Int) - 1)]) Zr Zr Lh ZK Zr ?_ rfl Zr Zr Zd Zo (fun cq aY ax=>?_)
    ·exact AI
    rw[A7,<- hcl1]at ax;rw[A7];obtain⟨lF,lG,rfl⟩:=ax.form;have h9:=hr (CK (m+1)) (.slice lF (CK (m+1)).length lG) aY;refine ae ?_;refine⟨(m+1,.slice lF (CK (m+1)).length lG,aY),⟨by simp only;omega,ax⟩,by simp only;omega,by simp only;rw[show((m+1:Nat):Int) - 1=(m:Int) - 1+1 by omega];exact Nh,?_⟩;simp only;rw[Lb];refine aj.cut (M:=[kA q1 0 [kE u.q],[.obj u2.nb (.map u.es u.cl)],kA u.q 7 [.slice lF (CK (m+1)).length lG],ai (.slice lF (CK (m+1)).length lG) ((CK (m+1)).flatMap jP) aY,R]) ZI (aj.perm ?_);exact zEJ
 ·rintro full A rfl ⟨cv,bZ,Lg,rfl⟩
  rw[mD,ii,Eb st i (Qj _)]at Lg;obtain⟨h1,h2,h3,h4⟩:=Uz _ _ _ rfl Lg;rw[mD,ii,Eb st i (Qj _)];exact⟨(fun l h=>by cases h),kG (Post:=[WK (U2.set i {u2 with de:=z4 U (st.copied i),cv:=cv,bZ:=bZ}) V2]) (.inl rfl) .nil ⟨_,_,⟨rfl,h1,h2,h3,h4⟩,rfl⟩ (aj.cut (M:=[kA q1 0 [kE u.q],WK (U2.set i {u2 with de:=z4 U (st.copied i),cv:=cv,bZ:=bZ}) V2]) (aj.perm Zs) ZI)⟩
set_option maxHeartbeats 3200000
theorem Ca(a l v c:Nat)(h:a < 1073741824/\l < 1073741824/\v < 1073741824/\c < 4398046511104):ao Tryz.prog 115 [.agg #[vi a,vi l,vi v],vi c] [] (fun r Post=>r=vi ((a+c+l+(if 0 < v then 1 else 0):Nat):Int)/\Post=[]):=by
 obtain⟨h1,h2,h3,h4⟩:=h;refine ao.intro low115 (by simp[n115]) ?_;refine ae ?_;refine kW Zr (fun q=>?_);simp only[Value.cells];refine ae ?_;by_cases hv:0 < v
 ·rw[show decide ((0:Int) < (v:Int))=true from Zt Zo,if_pos hv];refine ae ?_;refine kG (Post:=[]) (.inr rfl) (.tmp (v:=vi ((a+c+l+1:Nat):Int)) Zr .nil) ⟨rfl,rfl⟩ ZI
 ·rw[show decide ((0:Int) < (v:Int))=false from Zf Zo,if_neg hv];refine ae ?_;refine kG (Post:=[]) (.inr rfl) (.tmp (v:=vi ((a+c+l:Nat):Int)) Zr .nil) ⟨rfl,rfl⟩ ZI
theorem K2 {α:Type}[DecidableEq α]{l:List α}{k:α}(h:∀i x,i < l.length->l[i]? =some x->x≠k):l.findIdx? (fun y=>decide (y=k))=none:=by
 rw[List.findIdx?_eq_none_iff];intro x hx;obtain⟨i,hi⟩:=Vj hx;exact Zf (h i x (Vh.1 hi).1 hi)
theorem K3 {α:Type}[DecidableEq α]{l:List α}{k:α}{j:Nat}(hj:l[j]? =some k)(h:∀i x,i < j->l[i]? =some x->x≠k):l.findIdx? (fun y=>decide (y=k))=some j:=by
 have hl:=(Vh.1 hj).1;rw[List.findIdx?_eq_some_iff_getElem];refine⟨hl,?_,fun i hi=>?_⟩
 ·rw[Zg hl]at hj;exact Zt (X0 hj)
 ·have cf:i < l.length:=by omega
  simp only[Bool.not_eq_true,decide_eq_false_iff_not];exact h i _ hi (Zg cf)
theorem H5(B:List kB)(l:List (Nat×Int))(a:Option Addr)(c:Nat)(Ln:l.length < 4398046511104)(sO:∀(i:Nat) t,l[i]? =some t->∃b o,a=some ⟨b,o,none⟩/\∀y∈kA b (o+i*2) [kE t.1,.int .i64 t.2],y∈B)(hl:∀t∈l,wO B t.1)(k:Nat×Int)(hk:wO B k.1):
 ao Tryz.prog 174 [.slice a l.length c,fT k] [B] (fun v Post=>v=.int .i64 (mg l k)/\Post=[B]):=by
 refine ao.intro low174 (by simp[n174]) ?_;unfold fT;refine ae ?_;refine kW Zr (fun q=>?_);simp only[Value.cells];refine ae ?_;refine VC.loop (α:=Nat) (aW:=fun s=>[(0,.slice a l.length c),(3,kE q),(7,vi l.length),(8,vi s)]) (Hf:=fun _=>[kA q 0 [kE k.1,.int .i64 k.2],B]) (I:=fun s=>s<=l.length/\∀i x,i < s->l[i]? =some x->x≠k) (μ:=fun s=>l.length - s) 0 ⟨Qs _,fun i x h=>by omega⟩ ZU ZI ?_
 rintro j ⟨hj,bQ⟩
 refine ae ?_;by_cases aI:j < l.length;rotate_left
 ·rw[show decide ((j:Int) < (l.length:Int))=false from Zf Zo];refine ae ?_;refine kG (Post:=[B]) (.inr rfl) (.tmp Zr .nil) ⟨?_,rfl⟩ ZI;unfold mg;rw[K2 (fun i x hi hx=>bQ i x Zo hx)];rfl
 rw[show decide ((j:Int) < (l.length:Int))=true from Zt Zo];obtain⟨t,ht⟩:∃t,l[j]? =some t:=⟨_,Zg aI⟩;obtain⟨b,o,rfl,hm⟩:=sO j t ht;refine ae ?_;refine kS (us:=[kE t.1,.int .i64 t.2]) Zr (fun z hz=>by have h9:=hm z hz;simp[h9]) rfl ?_;refine ae ?_;refine Xt (k:=k) (j:=t) thP Zr Zr (hk.more (fun _ hx=>by simp[hx])) ((hl t (Zv ht)).more (fun _ hx=>by simp[hx])) ?_;refine ae ?_;by_cases he:k=t
 ·rw[Zt he];refine ae ?_;refine kG (Post:=[B]) (.inr rfl) (.tmp (v:=vi j) Zr .nil) ⟨?_,rfl⟩ ZI;unfold mg;rw[K3 (by rw[he];exact ht) (fun i x hi hx=>bQ i x hi hx)];rfl
 ·rw[Zf he];refine ae ?_;refine⟨j+1,⟨Zo,fun i x hi hx=>?_⟩,Zo,ZU,ZI⟩;by_cases Ll:i < j
  ·exact bQ i x Ll hx
  ·obtain rfl:i=j:=by omega
   rw[ht]at hx;rw[<- X0 hx];exact fun e=>he e.symm
end Go.Proofs.YtijnokbblmbpkaaGreatDoor
namespace Go.V
open Go
theorem UZ {α β:Type}[DecidableEq α][DecidableEq β]{f:α->β}{x:α}:∀{l:List α},(∀y∈l,f y=f x->y=x)->(l.map f).findIdx? (fun y=>decide (y=f x))=l.findIdx? fun y=>decide (y=x):=by
 intro l
 induction l with
 |nil=>intro _;rfl
 |cons y l ih=>
  intro h;rw[Q3,vw,vw,ih (fun z hz=>h z (by simp[hz]))];have e:decide (f y=f x)=decide (y=x):=decide_eq_decide.2 ⟨h y Zs,fun e=>by rw[e]⟩;rw[e]
theorem eP.RP {st:ah}{L:Nat}{U:List UC}{V:List au}(h:eP st L U V){i j:Nat}(hi:i < st.outer.length)(hj:j < st.outer.length)(e:qU U i=qU U j):i=j:=by
 obtain⟨u,hu⟩:∃u,U[i]? =some u:=⟨_,Zg (by rw[h.ul];exact hi)⟩;obtain⟨w,hw⟩:∃w,U[j]? =some w:=⟨_,Zg (by rw[h.ul];exact hj)⟩;rw[fp hu,fp hw]at e;have h1:(U.map UC.q)[i]? =some u.q:=by rw[Vi,hu];rfl
 have h2:(U.map UC.q)[j]? =some w.q:=by rw[Vi,hw];rfl
 rw[<- e]at h2;have Lm:=(Vh.1 h1).1;have dz:=(Vh.1 h2).1;have e1:(U.map UC.q)[i]=(U.map UC.q)[j]:=by
  rw[Zg Lm]at h1;rw[Zg dz]at h2;rw[X0 h1,X0 h2]
 have hp:=List.pairwise_iff_getElem.1 h.inj;rcases Nat.lt_trichotomy i j with c|c|c
 ·exact absurd e1 (hp i j Lm dz c)
 ·exact c
 ·exact absurd e1.symm (hp j i dz Lm c)
theorem eP.idx {st:ah}{L:Nat}{U:List UC}{V:List au}(h:eP st L U V)(hp:Ph st){i:Nat}(hi:i < st.outer.length){t:Nat×Int}(ht:t.1 < st.outer.length):
 (z4 U (st.copied i)).findIdx? (fun y=>decide (y=(qU U t.1,t.2)))=(st.copied i).findIdx? fun y=>decide (y=t):=by
 unfold z4;exact UZ (f:=fun t:Nat×Int=>(qU U t.1,t.2)) (x:=t) fun y hy e=>by
  have h1:=(hp.rF hi hy).2.2.1;simp only[X2]at e;exact Prod.ext (h.RP h1 ht e.1) e.2
theorem eP.cells {st:ah}{U:List UC}{V:List au}(h:eP st st.outer.length U V){i:Nat}{u:UC}(hu:U[i]? =some u):∃ca cc,u.cv=.slice ca (st.copied i).length cc/\u.args=st.args.getD i 0/\u.locals=(st.locals i false).length/\u.ay=(st.locals i true).length/\
 ∀(k:Nat) t,(z4 U (st.copied i))[k]? =some t->∃b o,ca=some ⟨b,o,none⟩/\∀y∈kA b (o+k*2) [kE t.1,.int .i64 t.2],y∈u.atoms:=by
 have cf:=(Vh.1 hu).1;rw[h.ul]at cf;obtain⟨h1,h2,h3,h4⟩:=h.la i u hu cf;have hlen:(z4 U (st.copied i)).length=(st.copied i).length:=Vv _;obtain⟨ca,cc,Ux⟩:=h4.form;rw[h3,hlen]at Ux;refine⟨ca,cc,Ux,(h.ar i u hu).1,h1,h2,fun k t hk=>?_⟩;have HF:=(Vh.1 hk).1;obtain⟨b,o,c,hv,_,hsa⟩:=A8 h4 (by rw[h3];omega);rw[Ux,Value.slice.injEq]at hv;refine⟨b,o,hv.1,fun y hy=>?_⟩;unfold UC.atoms;refine QA _ (Q8 _ (Q8 _ (Zw _ ?_)));rw[hsa,kd];refine Zw _ ?_;rw[h3,vz];exact eD (rows:=(z4 U (st.copied i)).map jP) (fun r hr=>by obtain⟨z,_,rfl⟩:=QE.1 hr;rfl) (by rw[Vi,hk];rfl) y hy
end Go.V
namespace Go.Proofs.YtijnokbblmbpkaaGreatDoor
open Go Go.V
set_option maxHeartbeats 6400000
set_option maxRecDepth 100000
structure DH (st:ah):Prop where
 v:st.vars.length<=1048576
 o:st.outer.length<=1048576
 a:∀j,st.args.getD j 0<=1048576
theorem DH.de {st:ah}(h:DH st)(u:Nat):(st.copied u).length<=1048576*(1048576+1):=by
 have h1:=Hh (st:=st) (u:=u) h.a;have h2:=uR st u;exact Ql h1 (Qo _ (Ql h2 h.o))
theorem DH.loc {st:ah}(h:DH st)(u:Nat)(r:Bool):(st.locals u r).length<=1048576:=by
 unfold ah.locals;have h1:=Vu (fun v=>decide (st.af v=u)&&decide (st.bD v < 0)&&decide (st.rem v=r)) (List.range st.vars.length);rw[List.length_range]at h1;have:=h.v;omega
theorem ya(st:ah)(xl:Ph st)(hB:DH st)(U:List UC)(Vs:List au)(hR:eP st st.outer.length U Vs)(i:Nat)(u:UC)(hu:U[i]? =some u)(t:Nat×Int)(ht:t.1 < st.outer.length)(hc:(t.1=i/\-1<=t.2/\t.2 < st.args.getD i 0/\(t.2 < 0->0 < (st.locals i true).length))∨(t.1≠i/\t∈st.copied i)):
 ao Tryz.prog 116 [kE u.q,fT (qU U t.1,t.2)] [WK U Vs] (fun v Post=>v=.int .i64 (st.place i t)/\Post=[WK U Vs]):=by
 have cf:i < st.outer.length:=by have:=(Vh.1 hu).1;rw[hR.ul]at this;exact this
 obtain⟨ca,cc,Ux,Yq,EP,huv,lW⟩:=hR.cells hu;obtain⟨w,hw⟩:∃w,U[t.1]? =some w:=⟨_,Zg (by rw[hR.ul];exact ht)⟩;have hqw:=fp hw;have hba:=hB.a i;have hbc:=hB.de i;have Ld:=hB.loc i false;have hbv:=hB.loc i true;have JU:wO (WK U Vs) w.q:=fV hw;have hlu:wO (WK U Vs) u.q:=fV hu;have EI:∀k∈z4 U (st.copied i),wO (WK U Vs) k.1:=fun k hk=>by
  obtain⟨s,hs,rfl⟩:=QE.1 hk;obtain⟨z,hz⟩:∃z,U[s.1]? =some z:=⟨_,Zg (by rw[hR.ul];exact(xl.rF cf hs).2.2.1)⟩;show wO _ (qU U s.1);rw[fp hz];exact fV hz
 have lA:∀(k:Nat) x,u.row[k]? =some x->kB.cell u.q k x∈WK U Vs:=fun k x hx=>za hu _ (QA _ (Zw _ (kH.2 ⟨k,x,hx,by rw[Qr]⟩)))
 have k0:kB.cell u.q 0 (.int .i64 (st.args.getD i 0))∈WK U Vs:=lA 0 _ (by unfold UC.row;rw[Yq];rfl);have k1:kB.cell u.q 1 (.int .i64 (st.locals i false).length)∈WK U Vs:=lA 1 _ (by unfold UC.row;rw[EP];rfl);have k2:kB.cell u.q 2 (.int .i64 (st.locals i true).length)∈WK U Vs:=lA 2 _ (by unfold UC.row;rw[huv];rfl);have k7:kB.cell u.q 7 (.slice ca (st.copied i).length cc)∈WK U Vs:=lA 7 _ (by unfold UC.row;rw[Ux];rfl);have pB:(z4 U (st.copied i)).length=(st.copied i).length:=Vv _;have UD:=H5 (WK U Vs) (z4 U (st.copied i)) ca cc (by rw[pB];omega) (fun k s hk=>by
  obtain⟨b,o,h1,h2⟩:=lW k s hk;exact⟨b,o,h1,fun y hy=>za hu _ (h2 y hy)⟩) EI (w.q,t.2) JU
 rw[pB]at UD;have ii:t.1≠i->st.place i t=st.args.getD i 0+mg (z4 U (st.copied i)) (w.q,t.2)/\0<=mg (z4 U (st.copied i)) (w.q,t.2)/\mg (z4 U (st.copied i)) (w.q,t.2) < (st.copied i).length:=fun hn=>by
  rcases hc with⟨h1,_⟩|⟨_,h1⟩
  ·exact absurd h1 hn
  obtain⟨k,tD,sL⟩:=sJ h1;unfold ah.place mg;rw[if_neg hn,<- hqw,hR.idx xl cf ht,sL];exact⟨rfl,by simp only;omega,by simp only;omega⟩
 generalize hix:mg (z4 U (st.copied i)) (w.q,t.2)=ix at UD ii;generalize hW:WK U Vs=B at JU hlu k0 k1 k2 k7 UD|-;rw[hqw];generalize DC:st.args.getD i 0=na at*;generalize δ:(st.copied i).length=nc at*;generalize Yh:(st.locals i false).length=nl at*;generalize hnv:(st.locals i true).length=nv at*;refine ao.intro low116 (by simp[n116]) ?_;refine VC.join (α:=Nat) (aW:=fun q=>[(0,kE u.q),(3,kE q)]) (Hf:=fun q=>[kA q 0 [kE w.q,.int .i64 t.2],B]) (I:=fun _=>True) ?_ (fun q3 _=>?_)
 ·unfold fT;refine ae ?_;exact zCU
 refine VC.join (α:=Unit) (aW:=fun _=>[(0,kE u.q),(3,kE q3)]) (Hf:=fun _=>[kA q3 0 [kE w.q,.int .i64 t.2],B]) (I:=fun _=>t.1=i/\t.2 < 0) ?_ (fun _ hI=>?_)
 ·refine ae ?_;refine Sk u124 CS CT Zr Zr (JU.more (fun _ hx=>by simp[hx])) (hlu.more (fun _ hx=>by simp[hx])) ?_;refine ae ?_;by_cases he:w.q=u.q
  ·have hti:t.1=i:=hR.RP ht cf (by rw[hqw,fp hu];exact he);rw[show decide (w.q=u.q)=true from Zt he];refine ae ?_;by_cases h0:0<=t.2
   ·rw[show decide ((0:Int)<=t.2)=true from Zt h0];refine ae ?_;exact kG (Post:=[B]) (.inr rfl) (.tmp Zr .nil) ⟨by unfold ah.place;rw[if_pos hti,if_pos h0];rfl,rfl⟩ ZI
   ·rw[show decide ((0:Int)<=t.2)=false from Zf h0];refine ae ?_;exact⟨(),⟨hti,Zo⟩,ZU,ZI⟩
  ·have hti:t.1≠i:=fun e=>he (by
    have:=fp hw;rw[e,fp hu]at this;exact this.symm)
   obtain⟨p1,p2,p3⟩:=ii hti;rw[show decide (w.q=u.q)=false from Zf he];refine jW ?_;refine VC.seq (VC.draws ⟨?_,?_,trivial⟩)
   all_goals
    refine ae ?_;refine kI UD Zr ZP (fun v Post hv=>?_);obtain⟨rfl,rfl⟩:=hv;simp only[aE];refine ae ?_;exact kG (Post:=[B]) (.inr rfl) (.tmp Zr .nil) ⟨by rw[p1];rfl,rfl⟩ ZI
 obtain⟨h1,h2⟩:=hI;have hv0:0 < nv:=by
  rcases hc with⟨_,_,_,c⟩|⟨c,_⟩
  ·exact c h2
  ·exact absurd h1 c
 refine ae ?_;refine kS (us:=[.int .i64 na,.int .i64 nl,.int .i64 nv]) Zr (fun z hz=>?_) rfl ?_
 ·obtain⟨j,x,hx,rfl⟩:=kH.1 hz;have hz3:j=0∨j=1∨j=2:=by
   exact zEK
  rcases hz3 with rfl|rfl|rfl
  ·obtain rfl:(.int .i64 na:Value)=x:=by simpa using hx
   simp[k0]
  ·obtain rfl:(.int .i64 nl:Value)=x:=by simpa using hx
   simp[k1]
  ·obtain rfl:(.int .i64 nv:Value)=x:=by simpa using hx
   simp[k2]
 refine ae ?_;refine kI (Ca na nl nv nc ⟨Zo,Zo,Zo,Zo⟩) Zr ZP (fun v Post hv=>?_);obtain⟨rfl,rfl⟩:=hv;rw[if_pos hv0];simp only[QJ];refine ae ?_;refine kG (Post:=[B]) (.inr rfl) (.tmp Zr .nil) ⟨?_,rfl⟩ ZI;unfold ah.place;rw[if_pos h1,if_neg Zo,DC,δ,Yh];show Value.int .i64 (((na+nc+nl+1:Nat):Int) - 1)=.int .i64 ((na:Int)+nc+nl)
 congr 1
 omega
theorem R1(st:ah)(xl:Ph st)(hB:DH st)(U:List UC)(Vs:List au)(hR:eP st st.outer.length U Vs)(i:Nat)(u:UC)(hu:U[i]? =some u)(vv:Nat)(y:au)(hy:Vs[vv]? =some y)(hv:oX st i vv=true):
 ao Tryz.prog 175 [kE u.q,kE y.q] [WK U Vs] (fun v Post=>v=.agg (jS (st.known i vv)).toArray/\Post=[WK U Vs]):=by
 have cf:i < st.outer.length:=by have:=(Vh.1 hu).1;rw[hR.ul]at this;exact this
 obtain⟨CR,Pa⟩:=xl.oX hv;obtain⟨w1,w2,w3⟩:=xl.wf.var CR;obtain⟨x,hx⟩:∃x,st.vars[vv]? =some x:=⟨_,Zg CR⟩;obtain⟨⟨w,hw,hyw⟩,hya,dD,tL⟩:=hR.vn vv x y hx hy;have hux:=nI hx;have Yn:=x9 hx;obtain⟨ca,cc,Ux,Yq,EP,huv,lW⟩:=hR.cells hu;have hqw:qU U (st.af vv)=w.q:=by rw[hux];exact fp hw
 have hba:=hB.a i;have hbc:=hB.de i;have lA:∀(k:Nat) x,u.row[k]? =some x->kB.cell u.q k x∈WK U Vs:=fun k x hx=>za hu _ (QA _ (Zw _ (kH.2 ⟨k,x,hx,by rw[Qr]⟩)))
 have k0:kB.cell u.q 0 (.int .i64 (st.args.getD i 0))∈WK U Vs:=lA 0 _ (by unfold UC.row;rw[Yq];rfl);have k7:kB.cell u.q 7 (.slice ca (st.copied i).length cc)∈WK U Vs:=lA 7 _ (by unfold UC.row;rw[Ux];rfl);have J5:∀(k:Nat) x,y.row[k]? =some x->kB.cell y.q k x∈WK U Vs:=fun k x hx=>iU hy _ (kH.2 ⟨k,x,hx,by rw[Qr]⟩)
 have y0:kB.cell y.q 0 (kE w.q)∈WK U Vs:=J5 0 _ (by unfold au.row;rw[hyw];rfl);have y1:kB.cell y.q 1 (.int .i64 x.own)∈WK U Vs:=J5 1 _ (by unfold au.row;rw[hya];rfl);have y3:kB.cell y.q 3 (.bool (st.rem vv))∈WK U Vs:=J5 3 _ (by unfold au.row;rw[dD];rfl);have y4:kB.cell y.q 4 (.int .i64 y.slot)∈WK U Vs:=J5 4 _ rfl;have bh:x.own < 0->(y.slot:Int)=st.bN vv:=fun h=>tL h (by rw[<- hux];exact w1)
 have X9:∀a:Int,(0<=x.own->a=x.own)->(x.own < 0->a=-1/\st.rem vv=true)->(st.af vv=i/\-1<=a/\a < st.args.getD i 0/\(a < 0->0 < (st.locals i true).length))∨(st.af vv≠i/\(st.af vv,a)∈st.copied i):=fun a ha hb=>by
  rw[Yn]at w2 w3;by_cases e:st.af vv=i
  ·refine .inl ⟨e,?_⟩;by_cases c:x.own < 0
   ·obtain⟨rfl,hr⟩:=hb c;exact⟨Zo,Zo,fun _=>List.length_pos_of_mem (xT.2 ⟨CR,e,by rw[Yn];exact c,hr⟩)⟩
   ·rw[ha Zo];exact⟨Zo,by rw[<- e];exact w3,fun c2=>absurd c2 c⟩
  ·rcases Pa with k|k
   ·exact absurd k e
   ·refine .inr ⟨e,?_⟩;rw[Yn]at k;by_cases c:x.own < 0
    ·obtain⟨rfl,_⟩:=hb c;have:x.own=-1:=by omega
     rw[<- this];exact k.1
    ·rw[ha Zo];exact k.1
 have l6:∀a:Int,((st.af vv=i/\-1<=a/\a < st.args.getD i 0/\(a < 0->0 < (st.locals i true).length))∨(st.af vv≠i/\(st.af vv,a)∈st.copied i))->ao Tryz.prog 116 [kE u.q,fT (w.q,a)] [WK U Vs] (fun v Post=>v=.int .i64 (st.place i (st.af vv,a))/\Post=[WK U Vs]):=fun a h=>by
  have:=ya st xl hB U Vs hR i u hu (st.af vv,a) w1 h
  rwa [hqw]at this
 generalize hW:WK U Vs=B at k0 k7 y0 y1 y3 y4 l6|-;refine ao.intro low175 (by simp[n175]) ?_;refine ae ?_;refine kM (fun q4=>?_);refine ae ?_;by_cases ho:0<=x.own
 ·rw[show decide ((0:Int)<=x.own)=true from Zt ho];have hp:=l6 x.own (X9 x.own (fun _=>rfl) (fun c=>by omega));have hk:st.known i vv=⟨5,st.place i (st.af vv,x.own),0,e0⟩:=by unfold ah.known;rw[Yn,if_pos ho]
  rw[hk];generalize st.place i (st.af vv,x.own)=pl at hp;unfold fT at hp;refine ae ?_;refine kI hp Zr ZP (fun v Post hv=>?_);obtain⟨rfl,rfl⟩:=hv;simp only[aE];refine ae ?_;exact⟨.inr rfl,_,[B],.aS (us:=jS ⟨5,pl,0,e0⟩) Zr Zr (fun y hy=>by simp only[V6,Q7];repeat (first|exact Or.inl hy|refine Or.inr ?_)) .nil,ZI,rfl,rfl⟩
 rw[show decide ((0:Int)<=x.own)=false from Zf ho];have hn:x.own < 0:=by omega
 refine ae ?_;cases l8:st.rem vv with
 |true=>
  rw[l8]at y3;have hp:=l6 (-1) (X9 (-1) (fun c=>by omega) (fun _=>⟨rfl,l8⟩));have hk:st.known i vv=⟨6,st.place i (st.af vv,-1),y.slot,e0⟩:=by
   unfold ah.known;rw[Yn,if_neg ho,if_pos l8,bh hn];unfold ah.bN;rw[l8]
  rw[hk];generalize st.place i (st.af vv,-1)=pl at hp;unfold fT at hp;refine jW ?_;refine VC.seq (VC.draws ⟨?_,?_,trivial⟩)
  all_goals
   refine ae ?_;refine kI hp Zr ZP (fun v Post hv=>?_);obtain⟨rfl,rfl⟩:=hv;simp only[aE];refine ae ?_;exact⟨.inr rfl,_,[B],.aS (us:=jS ⟨6,pl,y.slot,e0⟩) Zr Zr (fun y hy=>by simp only[V6,Q7];repeat (first|exact Or.inl hy|refine Or.inr ?_)) .nil,ZI,rfl,rfl⟩
 |false=>
  rw[l8]at y3;have hui:st.af vv=i:=by
   rcases Pa with k|k
   ·exact k
   ·have:=k.2 (by rw[Yn];exact hn);rw[l8]at this;cases this
  have hm:vv∈st.locals i false:=xT.2 ⟨CR,hui,by rw[Yn];exact hn,l8⟩;have Ld:=hB.loc i false;have hslb:=Pe hm;have UO:(y.slot:Int)=mg (st.locals i false) vv:=by
   rw[bh hn];unfold ah.bN;rw[l8,hui]
  have hk:st.known i vv=⟨5,st.args.getD i 0+(st.copied i).length+y.slot,0,e0⟩:=by
   unfold ah.known;rw[Yn,if_neg ho,if_neg (by rw[l8];simp),UO]
  rw[hk];rw[<- UO]at hslb;generalize DC:st.args.getD i 0=na at*;generalize δ:(st.copied i).length=nc at*;refine ae ?_;exact⟨.inr rfl,_,[B],.aS (us:=jS ⟨5,(na:Int)+nc+y.slot,0,e0⟩) Zr Zr (fun y hy=>by simp only[V6,Q7];repeat (first|exact Or.inl hy|refine Or.inr ?_)) .nil,ZI,rfl,rfl⟩
end Go.Proofs.YtijnokbblmbpkaaGreatDoor

/-
  A part whose names are places.
-/
import Derived.Test.YtijnokbblmbpkaaGreatDoorS19
import Derived.Test.YtijnokbblmbpkaaGreatDoorS18
import Derived.Test.YtijnokbblmbpkaaGreatDoorS16
import Derived.Test.YtijnokbblmbpkaaGreatDoorS7
import Derived.Test.YtijnokbblmbpkaaGreatDoorS15
import Derived.Test.YtijnokbblmbpkaaGreatDoorS9
import Derived.Shelf.SlMaps.Clone
import Derived.Shelf.Lay
import Derived.Test.YtijnokbblmbpkaaGreatDoorS17
set_option linter.all false
namespace Go.Proofs.YtijnokbblmbpkaaGreatDoor
open Go Go.V
set_option maxHeartbeats 12800000
set_option maxRecDepth 100000
theorem rQ(st:ah)(i:Nat):∀l:List PN,pH st i l=l.map (lT st i):=by
 intro l
 induction l with
 |nil=>rfl
 |cons x r ih=>rw[pH,ih];rfl
theorem HF(st:ah)(xp:Ph st)(hB:Hg st)(U:List UC)(Vs:List ax)(hR:eO st st.outer.length U Vs)(i:Nat)(u:UC)(hu:U[i]? =some u)(T:List kC):∀(N:Nat) (x:PN),PN.w x<=N->N<=1073741824->∀ws,uJ T (Vs.map ax.q) x ws->ec (oT st i) x=true->
 aq Tryz.prog 117 [kF u.q,.agg ws.toArray] [WK U Vs,T] (fun v Post=>∃ws' B,(v=.agg ws'.toArray/\Jg (T++B) (lT st i x) ws')/\Post=[WK U Vs,T,B]):=by
 intro N
 induction N with
 |zero=>intro x hx;have:=PN.mN x;omega
 |succ N ih=>
  intro x hx hN ws h NR;cases h with
  |@mk k nm lit refs unit iU kids lv rv vv a c bk o us hl hr hv ok hz ha hm hs=>
  simp only[PN.w]at hx;have Mu:=PN.Ou kids;simp only[ec,vF,vZ,vP]at NR;obtain⟨hraw1,hraw2⟩:=NR;have E3:=hr;have Z1:=hv;obtain⟨ra,rc,rfl,tZ⟩:=hr;obtain⟨va,vc,rfl,hvd⟩:=hv;have HV:=hl;obtain⟨y1,y2,y3,y4,y5,y6,y7,rfl⟩:∃(y1:Nat) (y2:Int) (y3:Nat) (y4:ByteArray) (y5:Option Addr) (y6 y7:Nat),lv=[.int .u8 y1,.int .i64 y2,.int .u64 y3,.string y4,.slice y5 y6 y7]:=by
   cases hl with
   |mk R5 HP rV dS=>exact⟨_,_,_,_,_,_,_,rfl⟩
  obtain⟨n1,K4⟩:∃n1,n1=(wz refs).length:=⟨_,rfl⟩;obtain⟨n2,CY⟩:∃n2,n2=((ed refs).map fun r=>(Vs.map ax.q).getD r.index.toNat 0).length:=⟨_,rfl⟩;rw[<- K4]at E3 hz|-;rw[<- CY]at Z1|-;simp only[aH];refine aq.intro aal (by simp[n117]) ?_;refine VC.join (α:=Nat×Nat×Nat) (bn:=fun q=>[(0,kF u.q),(3,kF q.1),(4,kF q.2.1)]) (Hf:=fun q=>[kA q.1 0 [.int .u8 k,.string nm,.int .u8 y1,.int .i64 y2,.int .u64 y3,.string y4,.slice y5 y6 y7,.slice ra n1 rc,.int .i64 unit,.bool iU,.slice none 0 0,.slice va n2 vc,.slice a kids.length c],kA q.2.1 0 (rP 0 e0 0 0 0 e0 none 0 0 none 0 0 0 false none 0 0),WK U Vs,T]) (I:=fun _=>True) ?_ ?_
  ·refine ae ?_;refine kY Zr (fun q3=>?_);simp only[Value.cells];refine kN (fun q4=>?_);refine ae ?_;exact⟨(q3,q4,0),trivial,ZU,by unfold e0;exact bQ⟩
  rintro⟨q3,q4,_⟩ _
  dsimp only;refine VC.join (α:=Nat) (bn:=fun q5=>[(0,kF u.q),(3,kF q3),(4,kF q4),(5,kF q5)]) (Hf:=fun q5=>[kA q5 0 (rP k nm y1 y2 y3 y4 y5 y6 y7 ra n1 rc unit iU none 0 0),kA q3 0 [.int .u8 k,.string nm,.int .u8 y1,.int .i64 y2,.int .u64 y3,.string y4,.slice y5 y6 y7,.slice ra n1 rc,.int .i64 unit,.bool iU,Nz,.slice va n2 vc,.slice a kids.length c],kA q4 0 (rP 0 e0 0 0 0 e0 none 0 0 none 0 0 0 false none 0 0),WK U Vs,T]) (I:=fun _=>True) ?_ (fun q5 _=>?_)
  ·refine ae ?_;refine kN (fun q5=>?_);refine ae ?_;exact⟨q5,trivial,ZU,ZI⟩
  refine VC.join (α:=Value×List kC) (bn:=fun _=>[(0,kF u.q),(3,kF q3),(4,kF q4),(5,kF q5)]) (Hf:=fun s=>[kA q5 0 [.int .u8 k,.string nm,.int .u8 y1,.int .i64 y2,.int .u64 y3,.string y4,.slice y5 y6 y7,s.1,.int .i64 unit,.bool iU,Nz],kA q3 0 [.int .u8 k,.string nm,.int .u8 y1,.int .i64 y2,.int .u64 y3,.string y4,.slice y5 y6 y7,.slice ra n1 rc,.int .i64 unit,.bool iU,Nz,.slice va n2 vc,.slice a kids.length c],kA q4 0 (rP 0 e0 0 0 0 e0 none 0 0 none 0 0 0 false none 0 0),WK U Vs,T,s.2]) (I:=fun s=>w8 (T++s.2) s.1 (refs.map (st.fix i))) ?_ ?_
  ·rcases ok.one with au|au
   rotate_left
   ·have pK:wz refs=refs:=V0.2 fun r hr=>Zt (au r hr)
    have hrw:ed refs=[]:=vz.2 fun r hr=>by simpa using au r hr
    rw[hrw]at CY;have hn20:n2=0:=by rw[CY];rfl
    subst hn20;have hfx:refs.map (st.fix i)=refs:=by
     conv=>rhs;rw[<- List.map_id refs]
     exact Q6 fun r hr=>by unfold ah.fix;rw[if_neg (au r hr)];rfl
    rw[pK]at E3;refine ae ?_;refine VC.loop (α:=Unit) (bn:=fun _=>[(0,kF u.q),(3,kF q3),(4,kF q4),(5,kF q5),(13,.slice va 0 vc),(14,vi 0),(15,vi 0)]) (Hf:=fun _=>[kA q5 0 (rP k nm y1 y2 y3 y4 y5 y6 y7 ra n1 rc unit iU none 0 0),kA q3 0 [.int .u8 k,.string nm,.int .u8 y1,.int .i64 y2,.int .u64 y3,.string y4,.slice y5 y6 y7,.slice ra n1 rc,.int .i64 unit,.bool iU,Nz,.slice va 0 vc,.slice a kids.length c],kA q4 0 (rP 0 e0 0 0 0 e0 none 0 0 none 0 0 0 false none 0 0),WK U Vs,T]) (I:=fun _=>True) (μ:=fun _=>0) () trivial ZU ZI ?_;intro _ _;refine ae ?_;rw[show decide ((0:Int) < 0)=false from rfl];refine ae ?_;exact⟨(.slice ra n1 rc,[]),by rw[hfx];exact E3.more (fun y hy=>Zw _ hy),ZU,ao.cut (M:=[kA q5 0 (rP k nm y1 y2 y3 y4 y5 y6 y7 ra n1 rc unit iU none 0 0),kA q3 0 [.int .u8 k,.string nm,.int .u8 y1,.int .i64 y2,.int .u64 y3,.string y4,.slice y5 y6 y7,.slice ra n1 rc,.int .i64 unit,.bool iU,Nz,.slice va 0 vc,.slice a kids.length c],kA q4 0 (rP 0 e0 0 0 0 e0 none 0 0 none 0 0 0 false none 0 0),WK U Vs,T]) ZI (ao.perm Zs)⟩
   have pK:wz refs=[]:=vz.2 fun r hr=>by simpa using au r hr
   have hrw:ed refs=refs:=V0.2 fun r hr=>Zt (au r hr)
   rw[hrw]at hvd CY;have hnr:n2=refs.length:=by rw[CY,Vz]
   subst hnr;have hz1:=hz pK;have hn10:n1=0:=by rw[K4,pK];rfl
   subst hn10;rw[Value.slice.injEq]at hz1;obtain⟨rfl,_,rfl⟩:=hz1;refine ae ?_;refine VC.loop (α:=Nat×Value×List Value) (bn:=fun s=>[(0,kF u.q),(3,kF q3),(4,kF q4),(5,kF q5),(13,.slice va refs.length vc),(14,vi refs.length),(15,vi s.1)]) (Hf:=fun s=>[kA q5 0 [.int .u8 k,.string nm,.int .u8 y1,.int .i64 y2,.int .u64 y3,.string y4,.slice y5 y6 y7,s.2.1,.int .i64 unit,.bool iU,Nz],ai s.2.1 ((((refs.take s.1).map (st.fix i))).flatMap jX) s.2.2,kA q3 0 [.int .u8 k,.string nm,.int .u8 y1,.int .i64 y2,.int .u64 y3,.string y4,.slice y5 y6 y7,Nz,.int .i64 unit,.bool iU,Nz,.slice va refs.length vc,.slice a kids.length c],kA q4 0 (rP 0 e0 0 0 0 e0 none 0 0 none 0 0 0 false none 0 0),WK U Vs,T]) (I:=fun s=>s.1<=refs.length/\jG 4 s.2.1 s.1 ((((refs.take s.1).map (st.fix i))).flatMap jX) s.2.2) (μ:=fun s=>refs.length - s.1) (0,Nz,[]) ⟨Qp _,.nil⟩ ZU (ao.cut (M:=[kA q5 0 (rP k nm y1 y2 y3 y4 y5 y6 y7 none 0 0 unit iU none 0 0),kA q3 0 [.int .u8 k,.string nm,.int .u8 y1,.int .i64 y2,.int .u64 y3,.string y4,.slice y5 y6 y7,Nz,.int .i64 unit,.bool iU,Nz,.slice va refs.length vc,.slice a kids.length c],kA q4 0 (rP 0 e0 0 0 0 e0 none 0 0 none 0 0 0 false none 0 0),WK U Vs,T]) ZI (ao.perm (by simp[ai]))) ?_
   rintro⟨j,sv,sp⟩ ⟨hj,gq⟩
   simp only at hj gq;dsimp only;obtain⟨sa,sc,rfl⟩:=gq.form;refine ae ?_;by_cases aO:j < refs.length;rotate_left
   ·rw[show decide ((j:Int) < (refs.length:Int))=false from Zf Zo];have Zu:j=refs.length:=by omega
    subst Zu;rw[List.take_length]at gq|-;refine ae ?_;refine⟨(.slice sa refs.length sc,ai (.slice sa refs.length sc) ((refs.map (st.fix i)).flatMap jX) sp),?_,ZU,ZI⟩;have:=B9 (B:=[]) (rs:=refs.map (st.fix i)) (by rw[Vz];exact gq);simp only[vg]at this;exact this.more fun y hy=>QB _ hy
   rw[show decide ((j:Int) < (refs.length:Int))=true from Zt Zo];obtain⟨r,hrj⟩:∃r,refs[j]? =some r:=⟨_,Zg aO⟩;obtain⟨v,G8,N7⟩:=ok.raw r (Zv hrj) (au r (Zv hrj));rw[Vz]at N7;obtain⟨y,hy⟩:∃y,Vs[v]? =some y:=⟨_,Zg N7⟩;have hokv:oT st i v=true:=by
    rcases hraw1 r (Zv hrj)with k|k
    ·rw[au r (Zv hrj)]at k;cases k
    ·rw[G8]at k;exact k
   obtain⟨vb,vo,rfl,hvc⟩:=hvd j y.q (by
    rw[Vn,hrj,G8];show some ((Vs.map ax.q).getD v 0)=_;rw[Vb,Vn,hy];rfl)
   have hvc:kC.cell vb (vo+j) (kF y.q)∈T:=hvc;have ZN:=Rl st xp hB U Vs hR i u hu v y hy hokv;have hfx:st.fix i r=st.known i v:=by
    rw[G8];show(if(99:Nat)=99 then st.known i ((v:Int)).toNat else _)=_;rw[if_pos rfl,vT]
   have cy:(refs.take (j+1)).map (st.fix i)=(refs.take j).map (st.fix i)++[st.known i v]:=by
    rw[QX,hrj,Q5];simp only[Option.toList_some,Q7,Q9,hfx]
   obtain⟨kr,hkr⟩:∃kr,kr=st.known i v:=⟨_,rfl⟩;rw[<- hkr]at ZN cy;unfold jX at ZN;refine ae ?_;refine VC.draws ⟨?_,?_,trivial⟩
   all_goals
    refine ae ?_;refine kJ ZN Zr ZP (fun v Post hv=>?_);obtain⟨rfl,rfl⟩:=hv;simp only[aH];refine ae ?_;refine jE (out:=[.int .u8 kr.kind,.int .i64 kr.index,.int .i64 kr.slot,.string kr.name]) Zr Zr (fun rr=>?_);refine ae ?_;refine jK (k:=j) (m:=1) (xs:=((refs.take j).map (st.fix i)).flatMap jX) (sp:=sp) (ys:=[.int .u8 kr.kind,.int .i64 kr.index,.int .i64 kr.slot,.string kr.name]) Zr Zr gq ZK Zr ?_ rfl Zr Zr Zd Zo (fun eK bE aR=>?_)
    ·exact Eg
    have fG:((refs.take j).map (st.fix i)).flatMap jX++([.int .u8 kr.kind,.int .i64 kr.index,.int .i64 kr.slot,.string kr.name]:List Value)=((refs.take (j+1)).map (st.fix i)).flatMap jX:=by
     rw[cy,V6,V7];rfl
    rw[fG]at aR|-;obtain⟨nE,nF,rfl⟩:=aR.form;refine ae ?_;exact⟨(j+1,.slice nE (j+1) nF,bE),⟨by simp only;omega,aR⟩,by simp only;omega,ZU,ZI⟩
  rintro⟨rv2,B1⟩ hrefs
  simp only at hrefs;dsimp only;obtain⟨rb,rn,T3⟩:∃rb rn,rv2=.slice rb (refs.map (st.fix i)).length rn:=let⟨e1,e2,e3,_⟩:=hrefs;⟨e1,e2,e3⟩;subst T3;generalize hnr:(refs.map (st.fix i)).length=nr at*;refine ae ?_;refine VC.loop (α:=Nat×Value×List (List Value)×List Value×List kC) (bn:=fun s=>[(0,kF u.q),(4,kF q4),(5,kF q5),(29,.slice a kids.length c),(30,vi kids.length),(31,vi s.1)]) (Hf:=fun s=>[kA q5 0 [.int .u8 k,.string nm,.int .u8 y1,.int .i64 y2,.int .u64 y3,.string y4,.slice y5 y6 y7,.slice rb nr rn,.int .i64 unit,.bool iU,s.2.1],ai s.2.1 s.2.2.1.flatten s.2.2.2.1,kA q4 0 (rP 0 e0 0 0 0 e0 none 0 0 none 0 0 0 false none 0 0),WK U Vs,T,B1,s.2.2.2.2]) (I:=fun s=>s.1<=kids.length/\jG 11 s.2.1 s.1 s.2.2.1.flatten s.2.2.2.1/\eN (T++(B1++s.2.2.2.2)) ((kids.take s.1).map (lT st i)) s.2.2.1) (μ:=fun s=>kids.length - s.1) (0,Nz,[],[],[]) ⟨Qp _,.nil,eN.nil _⟩ ZU (ao.cut (M:=[kA q5 0 (rP k nm y1 y2 y3 y4 y5 y6 y7 rb nr rn unit iU none 0 0),kA q4 0 (rP 0 e0 0 0 0 e0 none 0 0 none 0 0 0 false none 0 0),WK U Vs,T,B1]) ZI (ao.perm (by simp[ai]))) ?_
  rintro⟨j,sv,rows,sp,B2⟩ ⟨hj,gq,du⟩
  simp only at hj gq du;dsimp only;obtain⟨sa,sc,rfl⟩:=gq.form;refine ae ?_;by_cases aO:j < kids.length;rotate_left
  ·rw[show decide ((j:Int) < (kids.length:Int))=false from Zf Zo];have Zu:j=kids.length:=by omega
   subst Zu;rw[List.take_length,<- rQ]at du;have hlk:(pH st i kids).length=kids.length:=by rw[rQ,Vz]
   have Mz:=JZ (l:=pH st i kids) (by rw[hlk];exact gq) du;have iC:∀y∈T++B1,y∈T++(ai (.slice sa kids.length sc) rows.flatten sp++(B1++B2)):=fun y hy=>by
    rcases QA.1 hy with hy|hy
    ·exact Zw _ hy
    ·exact QB _ (QB _ (Zw _ hy))
   have G6:=p_made (T:=T++(ai (.slice sa kids.length sc) rows.flatten sp++(B1++B2))) (k:=k) (nm:=nm) (lit:=lit) (refs:=refs.map (st.fix i)) (unit:=unit) (iU:=iU) (kids:=pH st i kids) (HV.more fun y hy=>Zw _ hy) (hrefs.more iC) (Mz.more fun y hy=>by
    rcases QA.1 hy with hy|hy
    ·exact QB _ (Zw _ hy)
    ·rcases QA.1 hy with hy|hy
     ·exact Zw _ hy
     ·exact QB _ (QB _ hy))
   refine ae ?_;refine⟨.inr rfl,_,[WK U Vs,T,ai (.slice sa kids.length sc) rows.flatten sp++(B1++B2)],.aJ (us:=(rP k nm y1 y2 y3 y4 y5 y6 y7 rb nr rn unit iU sa kids.length sc)) Zr Zr (fun y hy=>by simp only[V9,QA];repeat (first|exact Or.inl hy|refine Or.inr ?_)) .nil,ao.cut (M:=[WK U Vs,T,ai (.slice sa kids.length sc) rows.flatten sp,B1,B2]) ZI (ao.perm Zs),⟨_,_,⟨rfl,?_⟩,rfl⟩⟩;rw[lT];exact G6
  rw[show decide ((j:Int) < (kids.length:Int))=true from Zt Zo];obtain rfl:=ha Zo;obtain⟨x,Z9⟩:∃x,kids[j]? =some x:=⟨_,Zg aO⟩;have hxm:=Zv Z9;have Mv:=hm j aO;have N3:=hs j x Z9;have aE:=ih x (by have:=PN.X2 hxm;omega) Zo _ N3 (pX hraw2 x hxm);generalize us j=uj at*;obtain⟨f1,f2,f3,f4,f5,f6,f7,r1,r2,r3,p1,p2,p3,k1,k2,k3,rfl⟩:=iK N3;have cy:(kids.take (j+1)).map (lT st i)=(kids.take j).map (lT st i)++[lT st i x]:=by
   rw[QX,Z9,Q5];rfl
  refine ae ?_;refine kX Zr (fun z hz=>by have h9:=Mv z hz;simp[h9]) rfl ?_;refine ae ?_;refine kN (fun q9=>?_);refine ae ?_;refine VC.draws ⟨?_,?_,trivial⟩
  all_goals
   refine ae ?_;refine kJ aE Zr ZP (fun v Post hv=>?_);obtain⟨ws',B3,⟨rfl,hp⟩,rfl⟩:=hv;simp only[aH];obtain⟨pn,Bf⟩:∃pn,pn=lT st i x:=⟨_,rfl⟩;rw[<- Bf]at hp cy;have sU:=hp;obtain⟨g1,g2,g3,g4,g5,g7,s1,s3,t1,t3,_,_,_,rfl,_⟩:=P6 sU;refine ae ?_;refine jE (out:=(rP pn.kind pn.name g1 g2 g3 g4 g5 pn.lit.items.length g7 s1 pn.refs.length s3 pn.unit pn.super t1 pn.kids.length t3)) Zr Zr (fun rr=>?_);refine ae ?_;refine jK (k:=j) (m:=1) (xs:=rows.flatten) (sp:=sp) (ys:=(rP pn.kind pn.name g1 g2 g3 g4 g5 pn.lit.items.length g7 s1 pn.refs.length s3 pn.unit pn.super t1 pn.kids.length t3)) Zr Zr gq ZK Zr ?_ rfl Zr Zr Zd Zo (fun eK bE aR=>?_)
   ·exact Eg
   have fG:rows.flatten++((rP pn.kind pn.name g1 g2 g3 g4 g5 pn.lit.items.length g7 s1 pn.refs.length s3 pn.unit pn.super t1 pn.kids.length t3):List Value)=(rows++[((rP pn.kind pn.name g1 g2 g3 g4 g5 pn.lit.items.length g7 s1 pn.refs.length s3 pn.unit pn.super t1 pn.kids.length t3):List Value)]).flatten:=by simp
   rw[fG]at aR|-;obtain⟨nE,nF,rfl⟩:=aR.form;refine ae ?_;refine⟨(j+1,.slice nE (j+1) nF,rows++[(rP pn.kind pn.name g1 g2 g3 g4 g5 pn.lit.items.length g7 s1 pn.refs.length s3 pn.unit pn.super t1 pn.kids.length t3)],bE,B2++B3),⟨by simp only;omega,aR,?_⟩,by simp only;omega,ZU,?_⟩
   ·show eN (T++(B1++(B2++B3))) ((kids.take (j+1)).map (lT st i)) _;rw[cy];refine(du.more fun y hy=>?_).snoc (hp.more fun y hy=>?_)
    ·simp only[QA]at hy|-;rcases hy with hy|hy|hy
     ·exact .inl hy
     ·exact .inr (.inl hy)
     ·exact .inr (.inr (.inl hy))
    ·simp only[QA]at hy|-;rcases hy with hy|hy
     ·exact .inl hy
     ·exact .inr (.inr (.inr hy))
   ·simp only;refine ao.cut (M:=[kA q5 0 (rP k nm y1 y2 y3 y4 y5 y6 y7 rb nr rn unit iU nE (j+1) nF),ai (.slice nE (j+1) nF) (rows++[((rP pn.kind pn.name g1 g2 g3 g4 g5 pn.lit.items.length g7 s1 pn.refs.length s3 pn.unit pn.super t1 pn.kids.length t3):List Value)]).flatten bE,kA q4 0 (rP 0 e0 0 0 0 e0 none 0 0 none 0 0 0 false none 0 0),WK U Vs,T,B1,B2,B3]) ZI (ao.perm Zs)
end Go.Proofs.YtijnokbblmbpkaaGreatDoor
namespace Go.V
open Go
def Cu {α:Type}(w:Nat)(Rd:α->List Value->Prop)(T:List kC)(v:Value)(l:List α):Prop:=∃(a:Option Addr) (c bk o:Nat) (us:Nat->List Value),v=.slice a l.length c/\(0 < l.length->a=some ⟨bk,o,none⟩)/\(∀i,i < l.length->∀y∈kA bk (o+i*w) (us i),y∈T)/\∀(i:Nat) x,l[i]? =some x->Rd x (us i)
structure gJ {α:Type}(w:Nat)(Rd:α->List Value->Prop)(l:List α)(rows:List (List Value)):Prop where
 len:rows.length=l.length
 w:∀r∈rows,r.length=w
 rd:∀(i:Nat) x r,l[i]? =some x->rows[i]? =some r->Rd x r
section
variable {α:Type} {w:Nat} {Rd Rd':α->List Value->Prop}
theorem gJ.nil:gJ w Rd [] []:=⟨rfl,Zs,fun i x r h=>by simp at h⟩
theorem gJ.imp {l:List α}{rows:List (List Value)}(h:gJ w Rd l rows)(hs:∀x r,Rd x r->Rd' x r):gJ w Rd' l rows:=⟨h.len,h.w,fun i x r hx hr=>hs _ _ (h.rd i x r hx hr)⟩
theorem gJ.snoc {l:List α}{rows:List (List Value)}{x:α}{r:List Value}(h:gJ w Rd l rows)(hw:r.length=w)(hx:Rd x r):gJ w Rd (l++[x]) (rows++[r]):=by
 refine⟨by simp[h.len],fun r' G7=>?_,fun i y s hy hs=>?_⟩
 ·rcases QA.1 G7 with h1|h1
  ·exact h.w r' h1
  ·rw[QK.1 h1];exact hw
 ·exact zAO
theorem Cu.nil(T:List kC):Cu w Rd T Nz []:=⟨none,0,0,0,fun _=>[],rfl,fun h=>absurd h Zs,fun i hi=>absurd hi Zs,fun i x h=>by simp at h⟩
theorem Cu.imp {T T':List kC}{v:Value}{l:List α}(h:Cu w Rd T v l)(hs:∀x∈T,x∈T')(hr:∀x r,Rd x r->Rd' x r):Cu w Rd' T' v l:=by
 obtain⟨a,c,bk,o,us,h1,h2,h3,h4⟩:=h;exact⟨a,c,bk,o,us,h1,h2,fun i hi y hy=>hs _ (h3 i hi y hy),fun i x hx=>hr _ _ (h4 i x hx)⟩
theorem WI {B:List kC}{l:List α}{sv:Value}{rows:List (List Value)}{sp:List Value}(bF:jG w sv l.length rows.flatten sp)(hr:gJ w Rd l rows):Cu w Rd (ai sv rows.flatten sp++B) sv l:=by
 have aA:∀i,i < l.length->rows[i]? =some (rows.getD i []):=fun i hi=>by
  exact zDY
 generalize hm:l.length=m at bF;generalize Hb:rows.flatten=xs at bF|-;cases bF with
 |@mk bk o _ c _ _ h1 h2 h3=>
  rw[<- hm];subst Hb;refine⟨_,c,bk,o,fun i=>rows.getD i [],rfl,fun _=>rfl,fun i hi y hy=>?_,fun i x hx=>?_⟩
  ·exact zD6
  ·have hi:=(Vm.1 hx).1;exact hr.rd i x _ hx (aA i hi)
 |nil=>
  have h0:l=[]:=vt hm;subst h0;exact Cu.nil _
end
def WY(x:yJ)(cv bv:Value):List Value:=[.int .i64 x.outer,.int .i64 x.args,cv,.int .i64 x.locals,.int .i64 x.aB,bv]
def Xd(T:List kC)(x:yJ)(vs:List Value):Prop:=∃cv bv,vs=WY x cv bv/\w8 T cv x.copied/\yY T bv x.body
theorem Xd.more {T T':List kC}(hs:∀x∈T,x∈T'){x:yJ}{vs:List Value}(h:Xd T x vs):Xd T' x vs:=by
 obtain⟨cv,bv,h1,h2,h3⟩:=h;exact⟨cv,bv,h1,h2.more hs,h3.more hs⟩
def MT(T:List kC)(v:Value)(l:List yJ):Prop:=Cu 6 (Xd T) T v l
end Go.V
namespace Go.Proofs.YtijnokbblmbpkaaGreatDoor
open Go Go.V
set_option maxHeartbeats 3200000
set_option maxRecDepth 100000
theorem sE(st:ah)(U:List UC)(Vs:List ax)(hR:cA st U Vs)(i:Nat)(u:UC)(hu:U[i]? =some u)(fx:Bool)(hb:st.vars.length < 1073741824):
 aq Tryz.prog 111 [kF u.q,.bool fx] [WK U Vs] (fun r Post=>∃U' y,(r=kF y.q/\(∀nm,cA (st.aX ⟨nm,i,fx,-1⟩) U' (Vs++[y]))/\U'.map UC.q=U.map UC.q/\U'.map UC.body=U.map UC.body)/\Post=[WK U' (Vs++[y])]):=by
 obtain⟨T9,bF⟩:=hR.tm i u hu;have N4:u.ab.length<=st.vars.length:=by
  rw[T9,Vz];exact Qj (Vy _ _) Zs
 obtain⟨R,hp,hr⟩:=R9 (V:=Vs) hu;refine aq.intro aaf (by simp[n111]) ?_;refine VC.imp (H':=[kA u.q 5 [u.tv],ai u.tv (u.ab.map fun b=>kM (some b)) u.ig,R]) (ao.perm (by simpa using hp)) ?_;have hlen:u.ab.length=(u.ab.map fun b=>kM (some b)).length:=by simp
 obtain⟨ta,tc,bG⟩:=bF.form;refine ae ?_;refine kY Zr (fun q=>?_);simp only[Value.cells];refine ae ?_;refine jE (out:=[kF q]) Zr Zr (fun q2=>?_);rw[bG]at bF|-;refine jK (k:=u.ab.length) (m:=1) (xs:=u.ab.map fun b=>kM (some b)) (sp:=u.ig) (ys:=[kF q]) Zr Zr bF ZK Zr ?_ rfl Zr Zr Zd Zo (fun eK bE aR=>?_)
 ·exact Eg
 obtain⟨a',c',rfl⟩:=aR.form;have fG:(u.ab.map fun b=>kM (some b))++[kF q]=(u.ab++[q]).map fun b=>kM (some b):=by simp[kM]
 rw[fG]at aR|-;refine ae ?_;refine kG (Post:=[WK (U.set i {u with ab:=u.ab++[q],tv:=.slice a' (u.ab.length+1) c',ig:=bE}) (Vs++[⟨q,u.q,-1,fx,false,0⟩])]) (.inr rfl) (.tmp (v:=kF q) Zr .nil) ⟨U.set i {u with ab:=u.ab++[q],tv:=.slice a' (u.ab.length+1) c',ig:=bE},⟨q,u.q,-1,fx,false,0⟩,⟨rfl,fun nm=>?_,zS hu rfl,se hu rfl⟩,rfl⟩ ?_
 ·exact cr.aX hR rfl hu (by simp only;omega) ⟨rfl,rfl,rfl,rfl,rfl⟩ rfl rfl (by rw[if_pos (show(-1:Int) < 0 by decide)]) (by simpa using aR)
 ·refine ao.cut (M:=[kA q 0 [kF u.q,.int .i64 (-1),.bool fx,.bool false,.int .i64 0],kA u.q 5 [.slice a' (u.ab.length+1) c'],ai (.slice a' (u.ab.length+1) c') ((u.ab++[q]).map fun b=>kM (some b)) bE,R]) ZI (ao.perm ?_);have h1:=GL (U.set i {u with ab:=u.ab++[q],tv:=.slice a' (u.ab.length+1) c',ig:=bE}) Vs ⟨q,u.q,-1,fx,false,0⟩;have h2:=hr (u.ab++[q]) (.slice a' (u.ab.length+1) c') bE;simp only[V9,VV,vg];refine List.Perm.trans ?_ h1.symm;refine vV _ ?_;rw[<- vf];exact h2.symm
end Go.Proofs.YtijnokbblmbpkaaGreatDoor
namespace Go.Proofs
open Go.Shelf
shelf_lay_g SlLaysW.n5 Slmc 5 at Tryz 171 as Tryz.slcl1
end Go.Proofs
namespace Go.Proofs.YtijnokbblmbpkaaGreatDoor
open Go Go.V
set_option maxHeartbeats 3200000
set_option maxRecDepth 100000
theorem Ht(b:Nat)(es:Array MapEntry)(c:Nat):aq Tryz.prog 171 [.map (some b)] [[.obj b (.map es c)]] (fun v Post=>∃b',v=.map (some b')/\Post=[[.obj b (.map es c)],[.obj b' (.map es c)]]):=by
 refine⟨by kernel_rfl,fun F w hs=>?_⟩;have hb:w.heap[b]? =some (.map es c):=(hs.obj (b:=b) (o:=.map es c) Zs).1;refine(AnyW.maps_Clone Tryz.slcl1 b es c w hb).mono ?_;exact zBA
def EI(q:Nat):Value:=.iface 80 (kF q)
def oH(q:Nat):List PanicEntry:=[{v:=EI q,recovered:=false}]
def O0:ByteArray:=⟨#[82,101,115,111,108,118,101]⟩
def j9(q:Nat)(e:Nat)(p:Int):List kC:=kA q 0 [.string O0,.int .i64 p,.iface 44 (.int .i64 e)]
theorem cW(e:Nat)(p:Int):jf Tryz.prog 113 [vi e,.int .i64 p] [] (fun _ _=>False) (fun ch Post=>∃q,ch=oH q/\Post=[j9 q e p]):=by
 refine jf.intro aah (by simp[n113]) ?_;refine ae ?_;refine kY Zr (fun q=>?_);simp only[Value.cells];refine ae ?_;refine RD Zr ?_;refine⟨[j9 q e p],?_,q,rfl,rfl⟩;unfold j9 O0;exact bQ
set_option maxHeartbeats 12800000
theorem Kl {st:ah}(hf:st.f=none)(h1:st.outer.length<=255)(h2:∀i,i < st.outer.length->(st.aL i).Yw=false):st.answer=((List.range st.outer.length).map st.aL,0,0):=by
 unfold ah.answer;rw[hf];simp only;rw[if_neg Zo,if_neg];rw[Bool.not_eq_true,List.any_eq_false];intro x hx;obtain⟨i,hi,rfl⟩:=QH.1 hx;rw[h2 i (QJ.1 hi)];simp
theorem uO {st:ah}(hf:st.f=none){i:Nat}(hi:i < st.outer.length)(h:(st.aL i).Yw=true):st.answer=([],183,0):=by
 unfold ah.answer;rw[hf];simp only;split
 ·rfl
 ·rw[if_pos];rw[ve];exact⟨_,QH.2 ⟨i,QJ.2 hi,rfl⟩,h⟩
theorem Ek {st:ah}(hf:st.f=none)(h:255 < st.outer.length):st.answer=([],183,0):=by
 unfold ah.answer;rw[hf];simp only;rw[if_pos h]
structure Bnds (st:ah):Prop where
 b:Hg st
 w:∀l∈st.aj,PN.ws l<=4194304
theorem IS(st:ah)(xp:Ph st)(hBs:Bnds st)(hf:st.f=none)(U:List UC)(Vs:List ax)(hR:eO st 0 U Vs)(us:Value)(bz:List Value)(bF:jG 1 us U.length (U.map fun u=>kM (some u.q)) bz)(T:List kC)(HQ:∀(i:Nat) u,U[i]? =some u->tx T (Vs.map ax.q) u.body (st.aj.getD i []))
 (wq:Nat) (fv gv av tv bv:Value) (aP:ByteArray) (az:Int):
 jf Tryz.prog 50 [kF wq,.agg #[.string aP,av,tv,.int .i64 az,bv]] [kA wq 0 [fv,gv,us],ai us (U.map fun u=>kM (some u.q)) bz,WK U Vs,T]
  (fun v Post=>∃D5 B,(st.answer=((List.range st.outer.length).map st.aL,0,0)/\v=.agg #[.string aP,.int .i64 az,D5]/\MT B D5 ((List.range st.outer.length).map st.aL))/\Post=[B])
  (fun ch Post=>∃q,st.answer=([],183,0)/\ch=oH q/\Post=[j9 q 183 0]):=by
 obtain⟨hB,hBw⟩:=hBs;have N4:=hR.ul;have Tj:=hB.o;have hpt:wp (ai us ((U.map UC.q).map fun b=>kM (some b)) bz) us (U.map UC.q):=gZ (by rw[Vz]) (by rw[Q8];exact bF);have Sv:((U.map UC.q).map fun b=>kM (some b))=U.map fun u=>kM (some u.q):=by rw[Q8];rfl
 rw[Sv]at hpt;obtain⟨ua,uc,rfl⟩:=bF.form;obtain⟨ua',uc',XE,hptr⟩:=hpt;rw[Value.slice.injEq]at XE;obtain⟨rfl,_,rfl⟩:=XE;refine jf.intro low50 (by simp[n50]) ?_;have aA:∀(k:Nat) w,U[k]? =some w->∃b o,ua=some ⟨b,o,none⟩/\kC.cell b (o+k) (kF w.q)∈ai (.slice ua U.length uc) (U.map fun u=>kM (some u.q)) bz:=fun k w hw=>by
  obtain⟨b,o,h1,h2⟩:=hptr k w.q (by rw[Vn,hw];rfl);exact⟨b,o,h1,h2⟩
 refine ae ?_;refine kY Zr (fun q3=>?_);simp only[Value.cells];refine kN (fun q4=>?_);refine ae ?_;refine kN (fun q5=>?_);refine jD ?_;refine VC.join (α:=Unit) (bn:=fun _=>[(0,kF wq),(4,kF q4),(5,kF q5)]) (Hf:=fun _=>[kA q5 0 [.string aP,.int .i64 az,Nz],kA q4 0 [.string e0,.int .i64 0,Nz],kA wq 0 [fv,gv,.slice ua U.length uc],ai (.slice ua U.length uc) (U.map fun u=>kM (some u.q)) bz,WK U Vs,T]) (I:=fun _=>st.outer.length<=255) ?_ (fun _ tK=>?_)
 ·refine ae ?_;by_cases hc:255 < U.length
  ·rw[show decide ((255:Int) < (U.length:Int))=true from Zt Zo];refine ae ?_;refine kL (cW 183 0) Zr ZP (fun v Post hv=>False.elim hv) (fun ch Post hz=>?_);obtain⟨q1,rfl,rfl⟩:=hz;exact⟨[j9 q1 183 0],ZI,q1,Ek hf Zo,rfl,rfl⟩
  ·rw[show decide ((255:Int) < (U.length:Int))=false from Zf Zo];refine ae ?_;exact⟨(),by show st.outer.length<=255;omega,ZU,by unfold e0;exact bQ⟩
 refine VC.join (α:=List UC×List ax) (bn:=fun _=>[(0,kF wq),(4,kF q4),(5,kF q5)]) (Hf:=fun s=>[kA q5 0 [.string aP,.int .i64 az,Nz],kA q4 0 [.string e0,.int .i64 0,Nz],kA wq 0 [fv,gv,.slice ua U.length uc],ai (.slice ua U.length uc) (U.map fun u=>kM (some u.q)) bz,WK s.1 s.2,T]) (I:=fun s=>eO st st.outer.length s.1 s.2/\s.1.map UC.q=U.map UC.q/\s.1.map UC.body=U.map UC.body/\s.2.map ax.q=Vs.map ax.q) ?_ ?_
 ·refine ae ?_;refine VC.loop (α:=Nat×List UC×List ax) (bn:=fun s=>[(0,kF wq),(4,kF q4),(5,kF q5),(30,.slice ua U.length uc),(31,vi U.length),(32,vi s.1)]) (Hf:=fun s=>[kA q5 0 [.string aP,.int .i64 az,Nz],kA q4 0 [.string e0,.int .i64 0,Nz],kA wq 0 [fv,gv,.slice ua U.length uc],ai (.slice ua U.length uc) (U.map fun u=>kM (some u.q)) bz,WK s.2.1 s.2.2,T]) (I:=fun s=>s.1<=U.length/\eO st s.1 s.2.1 s.2.2/\s.2.1.map UC.q=U.map UC.q/\s.2.1.map UC.body=U.map UC.body/\s.2.2.map ax.q=Vs.map ax.q) (μ:=fun s=>U.length - s.1) (0,U,Vs) ⟨Qp _,hR,rfl,rfl,rfl⟩ ZU ZI ?_
  rintro⟨k,Uk,Vk⟩ ⟨hk,hRk,D4,im,H0⟩
  simp only at hk hRk D4 im H0;dsimp only;refine ae ?_;by_cases aO:k < U.length;rotate_left
  ·rw[show decide ((k:Int) < (U.length:Int))=false from Zf Zo];have Zx:k=st.outer.length:=by omega
   rw[Zx]at hRk;refine ae ?_;exact⟨(Uk,Vk),⟨hRk,D4,im,H0⟩,ZU,ZI⟩
  rw[show decide ((k:Int) < (U.length:Int))=true from Zt Zo];obtain⟨w,hw⟩:∃w,Uk[k]? =some w:=⟨_,Zg (by rw[hRk.ul];omega)⟩;obtain⟨w0,Z3⟩:∃w0,U[k]? =some w0:=⟨_,Zg aO⟩;have po:w0.q=w.q:=by
   have:=CN D4 k;rw[hw,Z3]at this;exact(Qx this).symm
  obtain⟨ub,uo,hub,huc⟩:=aA k w0 Z3;subst hub;rw[po]at huc;have hlay:=Ot st xp Uk Vk k hRk w hw ⟨hB.v,hB.o,hB.a⟩;refine ae ?_;refine kJ hlay Zr ZP (fun v Post hv=>?_);obtain⟨U',V',⟨rfl,h1,h2,h3,h4⟩,rfl⟩:=hv;simp only[aH];refine ae ?_;exact⟨(k+1,U',V'),⟨by simp only;omega,h1,h2.trans D4,h3.trans im,h4.trans H0⟩,by simp only;omega,ZU,ZI⟩
 rintro⟨Uf,Vf⟩ ⟨Sk,D4,im,H0⟩
 simp only at Sk D4 im H0;dsimp only;have hgetf:∀k,k < st.outer.length->∃w,Uf[k]? =some w/\∃b o,ua=some ⟨b,o,none⟩/\kC.cell b (o+k) (kF w.q)∈ai (.slice ua U.length uc) (U.map fun u=>kM (some u.q)) bz:=fun k hk=>by
  obtain⟨w,hw⟩:∃w,Uf[k]? =some w:=⟨_,Zg (by rw[Sk.ul];omega)⟩;obtain⟨w0,Z3⟩:∃w0,U[k]? =some w0:=⟨_,Zg Zo⟩;have po:w0.q=w.q:=by
   have:=CN D4 k;rw[hw,Z3]at this;exact(Qx this).symm
  obtain⟨b,o,h1,h2⟩:=aA k w0 Z3;exact⟨w,hw,b,o,h1,po ▸ h2⟩
 have hbodf:∀(k:Nat) w,Uf[k]? =some w->tx T (Vf.map ax.q) w.body (st.aj.getD k []):=fun k w hw=>by
  have h1:(U.map UC.body)[k]? =some w.body:=by rw[<- im,Vn,hw];rfl
  rw[Vn]at h1;obtain⟨w0,Z3,he⟩:=Qu.1 h1;rw[H0,<- he];exact HQ k w0 Z3
 clear hR D4 im H0 aA HQ;refine jD ?_;refine VC.join (α:=Value×List (List Value)×List Value×List kC) (bn:=fun _=>[(4,kF q4),(5,kF q5)]) (Hf:=fun s=>[kA q5 0 [.string aP,.int .i64 az,s.1],ai (s.1) s.2.1.flatten s.2.2.1,kA q4 0 [.string e0,.int .i64 0,Nz],ai (.slice ua U.length uc) (U.map fun u=>kM (some u.q)) bz,WK Uf Vf,T,s.2.2.2]) (I:=fun s=>st.answer=((List.range st.outer.length).map st.aL,0,0)/\jG 6 s.1 st.outer.length s.2.1.flatten s.2.2.1/\gJ 6 (Xd (T++s.2.2.2)) ((List.range st.outer.length).map st.aL) s.2.1) ?_ ?_
 ·refine ae ?_;refine VC.loop (α:=Nat×Value×List (List Value)×List Value×List kC) (bn:=fun s=>[(4,kF q4),(5,kF q5),(42,.slice ua U.length uc),(43,vi U.length),(44,vi s.1)]) (Hf:=fun s=>[kA q5 0 [.string aP,.int .i64 az,s.2.1],ai (s.2.1) s.2.2.1.flatten s.2.2.2.1,kA q4 0 [.string e0,.int .i64 0,Nz],ai (.slice ua U.length uc) (U.map fun u=>kM (some u.q)) bz,WK Uf Vf,T,s.2.2.2.2]) (I:=fun s=>s.1<=U.length/\(∀i,i < s.1->(st.aL i).Yw=false)/\jG 6 s.2.1 s.1 s.2.2.1.flatten s.2.2.2.1/\gJ 6 (Xd (T++s.2.2.2.2)) ((List.range s.1).map st.aL) s.2.2.1) (μ:=fun s=>U.length - s.1) (0,Nz,[],[],[]) ⟨Qp _,(fun i h=>by omega),.nil,gJ.nil⟩ ZU (ao.cut (M:=[kA q5 0 [.string aP,.int .i64 az,Nz],kA q4 0 [.string e0,.int .i64 0,Nz],ai (.slice ua U.length uc) (U.map fun u=>kM (some u.q)) bz,WK Uf Vf,T]) ZI (ao.perm (by simp[ai]))) ?_
  rintro⟨j,sv,rows,sp,B⟩ ⟨hj,hnb,gq,du⟩
  simp only at hj hnb gq du;dsimp only;obtain⟨sa,sc,rfl⟩:=gq.form;refine ae ?_;by_cases aO:j < U.length;rotate_left
  ·rw[show decide ((j:Int) < (U.length:Int))=false from Zf Zo];have Zu:j=st.outer.length:=by omega
   rw[Zu]at gq du hnb|-;refine ae ?_;exact⟨(.slice sa st.outer.length sc,rows,sp,B),⟨Kl hf tK hnb,gq,du⟩,ZU,ZI⟩
  rw[show decide ((j:Int) < (U.length:Int))=true from Zt Zo];have Ba:j < st.outer.length:=by omega
  obtain⟨u,hu,ub,uo,hub,huc⟩:=hgetf j Ba;subst hub;obtain⟨ca,cc,Tp,XE,hulc,huv,lX⟩:=Sk.cells hu;have hba:=hB.a j;have hbc:=hB.da j;have KT:=hB.loc j false;have hbv:=hB.loc j true;have nS:∀(k:Nat) x,u.row[k]? =some x->kC.cell u.q k x∈WK Uf Vf:=fun k x hx=>zp hu _ (QD _ (Zw _ (kI.2 ⟨k,x,hx,by rw[Qo]⟩)))
  have k0:kC.cell u.q 0 (.int .i64 (st.args.getD j 0))∈WK Uf Vf:=nS 0 _ (by unfold UC.row;rw[XE];rfl);have k1:kC.cell u.q 1 (.int .i64 (st.locals j false).length)∈WK Uf Vf:=nS 1 _ (by unfold UC.row;rw[hulc];rfl);have k2:kC.cell u.q 2 (.int .i64 (st.locals j true).length)∈WK Uf Vf:=nS 2 _ (by unfold UC.row;rw[huv];rfl);have k3:kC.cell u.q 3 (kM u.outer)∈WK Uf Vf:=nS 3 _ rfl;have k7:kC.cell u.q 7 (.slice ca (st.copied j).length cc)∈WK Uf Vf:=nS 7 _ (by unfold UC.row;rw[Tp];rfl);have k8:kC.cell u.q 8 u.body∈WK Uf Vf:=nS 8 _ rfl;have eo:(st.aL j).Yw=(decide (63 < (((st.args.getD j 0+(st.copied j).length+(st.locals j false).length+(if 0 < (st.locals j true).length then 1 else 0):Nat):Int)))||decide (63 < ((st.locals j true).length:Int))):=by
   unfold yJ.Yw;rw[GH]
   congr 1
   unfold ah.frame;exact decide_eq_decide.2 (by split <;> omega)
  obtain⟨na,D0⟩:∃na,na=st.args.getD j 0:=⟨_,rfl⟩;obtain⟨nc,hnc⟩:∃nc,nc=(st.copied j).length:=⟨_,rfl⟩;obtain⟨nl,ZD⟩:∃nl,nl=(st.locals j false).length:=⟨_,rfl⟩;obtain⟨nv,hnv⟩:∃nv,nv=(st.locals j true).length:=⟨_,rfl⟩;rw[<- D0]at hba k0 eo;rw[<- hnc]at hbc k7 eo;rw[<- ZD]at KT k1 eo;rw[<- hnv]at hbv k2 eo;have hW3:∀z∈kA u.q 0 [.int .i64 na,.int .i64 nl,.int .i64 nv],z∈WK Uf Vf:=fun z hz=>by
   obtain⟨jj,x,hx,rfl⟩:=kI.1 hz;have hz3:jj=0∨jj=1∨jj=2:=by
    exact zEO
   rcases hz3 with rfl|rfl|rfl
   ·obtain rfl:(.int .i64 na:Value)=x:=by simpa using hx
    exact k0
   ·obtain rfl:(.int .i64 nl:Value)=x:=by simpa using hx
    exact k1
   ·obtain rfl:(.int .i64 nv:Value)=x:=by simpa using hx
    exact k2
  refine jD ?_;refine VC.join (α:=Unit) (bn:=fun _=>[(4,kF q4),(5,kF q5),(9,kF u.q),(42,.slice (some ⟨ub,uo,none⟩) U.length uc),(43,vi U.length),(44,vi j)]) (Hf:=fun _=>[kA q5 0 [.string aP,.int .i64 az,.slice sa j sc],ai (.slice sa j sc) rows.flatten sp,kA q4 0 [.string e0,.int .i64 0,Nz],ai (.slice (some ⟨ub,uo,none⟩) U.length uc) (U.map fun u=>kM (some u.q)) bz,WK Uf Vf,T,B]) (I:=fun _=>(st.aL j).Yw=false) ?_ (fun _ hnbj=>?_)
  ·refine ae ?_;refine kX (us:=[.int .i64 na,.int .i64 nl,.int .i64 nv]) Zr (fun z hz=>by have h9:=hW3 z hz;simp[h9]) rfl ?_;refine ae ?_;refine kJ (Cj na nl nv nc ⟨Zo,Zo,Zo,Zo⟩) Zr ZP (fun v Post hv=>?_);obtain⟨rfl,rfl⟩:=hv;simp only[QL];refine ae ?_;by_cases c1:(63:Int) < ((na+nc+nl+(if 0 < nv then 1 else 0):Nat):Int)
   ·rw[Zt c1];refine ae ?_;refine kL (cW 183 0) Zr ZP (fun v Post hv=>False.elim hv) (fun ch Post hz=>?_);obtain⟨q1,rfl,rfl⟩:=hz;exact⟨[j9 q1 183 0],ZI,q1,uO hf Ba (by rw[eo,Zt c1];rfl),rfl,rfl⟩
   rw[Zf c1];refine ae ?_;by_cases c2:(63:Int) < (nv:Int)
   ·rw[Zt c2];refine ae ?_;refine kL (cW 183 0) Zr ZP (fun v Post hv=>False.elim hv) (fun ch Post hz=>?_);obtain⟨q1,rfl,rfl⟩:=hz;exact⟨[j9 q1 183 0],ZI,q1,uO hf Ba (by rw[eo,Zt c2,Bool.or_true]),rfl,rfl⟩
   rw[Zf c2];refine ae ?_;exact⟨(),by rw[eo,Zf c1,Zf c2];rfl,ZU,ZI⟩
  refine VC.join (α:=Nat) (bn:=fun nW=>[(4,kF q4),(5,kF q5),(9,kF u.q),(10,kF nW),(42,.slice (some ⟨ub,uo,none⟩) U.length uc),(43,vi U.length),(44,vi j)]) (Hf:=fun nW=>[kA nW 0 [.int .i64 (-1),.int .i64 na,Nz,.int .i64 nl,.int .i64 nv,Nz],kA q5 0 [.string aP,.int .i64 az,.slice sa j sc],ai (.slice sa j sc) rows.flatten sp,kA q4 0 [.string e0,.int .i64 0,Nz],ai (.slice (some ⟨ub,uo,none⟩) U.length uc) (U.map fun u=>kM (some u.q)) bz,WK Uf Vf,T,B]) (I:=fun _=>True) ?_ (fun nW _=>?_)
  ·refine ae ?_;refine kN (fun nW=>?_);refine ae ?_;exact⟨nW,trivial,ZU,ZI⟩
  refine VC.join (α:=Unit) (bn:=fun _=>[(4,kF q4),(5,kF q5),(9,kF u.q),(10,kF nW),(42,.slice (some ⟨ub,uo,none⟩) U.length uc),(43,vi U.length),(44,vi j)]) (Hf:=fun _=>[kA nW 0 [.int .i64 (st.outer.getD j (-1)),.int .i64 na,Nz,.int .i64 nl,.int .i64 nv,Nz],kA q5 0 [.string aP,.int .i64 az,.slice sa j sc],ai (.slice sa j sc) rows.flatten sp,kA q4 0 [.string e0,.int .i64 0,Nz],ai (.slice (some ⟨ub,uo,none⟩) U.length uc) (U.map fun u=>kM (some u.q)) bz,WK Uf Vf,T,B]) (I:=fun _=>True) ?_ (fun _ _=>?_)
  ·have My:=Sk.ou j u hu;have tN:=xp.wf.ff j;by_cases hn:st.outer.getD j (-1) < 0
   ·rw[if_pos hn]at My;rw[My]at k3;have yV:st.outer.getD j (-1)=-1:=by
     have e:st.outer[j]? =some st.outer[j]:=Zg Ba;have h1:=xp.wf.low j _ e;have h2:st.outer.getD j (-1)=st.outer[j]:=by rw[Vb,e];rfl
     omega
    rw[yV];have k3:kC.cell u.q 3 (.pointer none)∈WK Uf Vf:=k3;exact W8
   ·rw[if_neg hn]at My;obtain⟨w,hw⟩:∃w,Uf[(st.outer.getD j (-1)).toNat]? =some w:=⟨_,Zg (by rw[Sk.ul];omega)⟩;rw[hw]at My;rw[My]at k3;have k3:kC.cell u.q 3 (kF w.q)∈WK Uf Vf:=k3;have hwn:=(Sk.ar _ w hw).2;have k4:kC.cell w.q 4 (.int .i64 (st.outer.getD j (-1)))∈WK Uf Vf:=zp hw _ (QD _ (Zw _ (kI.2 ⟨4,_,by unfold UC.row;rw[hwn,show(((st.outer.getD j (-1)).toNat:Nat):Int)=st.outer.getD j (-1) by omega];rfl,rfl⟩)));exact W8
  refine VC.join (α:=Value×List kC) (bn:=fun _=>[(4,kF q4),(5,kF q5),(9,kF u.q),(10,kF nW),(42,.slice (some ⟨ub,uo,none⟩) U.length uc),(43,vi U.length),(44,vi j)]) (Hf:=fun s=>[kA nW 0 [.int .i64 (st.outer.getD j (-1)),.int .i64 na,s.1,.int .i64 nl,.int .i64 nv,Nz],s.2,kA q5 0 [.string aP,.int .i64 az,.slice sa j sc],ai (.slice sa j sc) rows.flatten sp,kA q4 0 [.string e0,.int .i64 0,Nz],ai (.slice (some ⟨ub,uo,none⟩) U.length uc) (U.map fun u=>kM (some u.q)) bz,WK Uf Vf,T,B]) (I:=fun s=>w8 s.2 s.1 (st.aL j).copied) ?_ ?_
  ·refine ae ?_;refine VC.loop (α:=Nat×Value×List Value) (bn:=fun s=>[(4,kF q4),(5,kF q5),(9,kF u.q),(10,kF nW),(42,.slice (some ⟨ub,uo,none⟩) U.length uc),(43,vi U.length),(44,vi j),(100,.slice ca nc cc),(101,vi nc),(102,vi s.1)]) (Hf:=fun s=>[kA nW 0 [.int .i64 (st.outer.getD j (-1)),.int .i64 na,s.2.1,.int .i64 nl,.int .i64 nv,Nz],ai s.2.1 ((((st.aL j).copied).take s.1).flatMap jX) s.2.2,kA q5 0 [.string aP,.int .i64 az,.slice sa j sc],ai (.slice sa j sc) rows.flatten sp,kA q4 0 [.string e0,.int .i64 0,Nz],ai (.slice (some ⟨ub,uo,none⟩) U.length uc) (U.map fun u=>kM (some u.q)) bz,WK Uf Vf,T,B]) (I:=fun s=>s.1<=nc/\jG 4 s.2.1 s.1 ((((st.aL j).copied).take s.1).flatMap jX) s.2.2) (μ:=fun s=>nc - s.1) (0,Nz,[]) ⟨Qp _,.nil⟩ ZU (ao.cut (M:=[kA nW 0 [.int .i64 (st.outer.getD j (-1)),.int .i64 na,Nz,.int .i64 nl,.int .i64 nv,Nz],kA q5 0 [.string aP,.int .i64 az,.slice sa j sc],ai (.slice sa j sc) rows.flatten sp,kA q4 0 [.string e0,.int .i64 0,Nz],ai (.slice (some ⟨ub,uo,none⟩) U.length uc) (U.map fun u=>kM (some u.q)) bz,WK Uf Vf,T,B]) ZI (ao.perm (by simp[ai]))) ?_;have hcpl:(st.aL j).copied.length=nc:=by rw[hnc];exact Vz _
   rintro⟨k,rv,rsp⟩ ⟨hk,G8⟩
   simp only at hk G8;dsimp only;obtain⟨ra,rc,rfl⟩:=G8.form;refine ae ?_;by_cases Mu:k < nc;rotate_left
   ·rw[show decide ((k:Int) < (nc:Int))=false from Zf Zo];have Zx:nc=k:=by omega
    subst Zx;have cy:(st.aL j).copied.take nc=(st.aL j).copied:=QZ Zo;rw[cy]at G8|-;refine ae ?_;refine⟨(.slice ra nc rc,ai (.slice ra nc rc) ((st.aL j).copied.flatMap jX) rsp),?_,ZU,ZI⟩;have:=B9 (B:=[]) (rs:=(st.aL j).copied) (by rw[hcpl];exact G8);simpa only[vg]using this
   rw[show decide ((k:Int) < (nc:Int))=true from Zt Zo];obtain⟨t,ht⟩:∃t,(st.copied j)[k]? =some t:=⟨_,Zg Zo⟩;have T9:=Zv ht;obtain⟨o0,o1,o2,o3,o4,o5⟩:=xp.rH Ba T9;have tN:=xp.wf.ff j;obtain⟨w,hw⟩:∃w,Uf[(st.outer.getD j (-1)).toNat]? =some w:=⟨_,Zg (by rw[Sk.ul];omega)⟩;have My:=Sk.ou j u hu;rw[if_neg Zo,hw]at My;rw[My]at k3;have k3:kC.cell u.q 3 (kF w.q)∈WK Uf Vf:=k3;have l6:=ye st xp hB Uf Vf Sk _ w hw t o2 (by
    by_cases e:t.1=(st.outer.getD j (-1)).toNat
    ·exact .inl ⟨e,o4,by rw[<- e];exact o5,fun c=>by rw[<- e];exact xp.R1 T9 c⟩
    ·rcases o1 with c|c
     ·exact absurd c e
     ·exact .inr ⟨e,c⟩)
   obtain⟨cb,co,rfl,HR⟩:=lX k (qU Uf t.1,t.2) (by unfold zM;rw[Vn,ht];rfl);have hcm:∀z∈kA cb (co+k*2) [kF (qU Uf t.1),.int .i64 t.2],z∈WK Uf Vf:=fun z hz=>zp hu _ (HR z hz)
   have hrk:(st.aL j).copied[k]? =some ⟨5,st.place (st.outer.getD j (-1)).toNat t,0,e0⟩:=by
    show((st.copied j).map _)[k]? =_;rw[Vn,ht];rfl
   obtain⟨pl,pK⟩:∃pl,pl=st.place (st.outer.getD j (-1)).toNat t:=⟨_,rfl⟩;rw[<- pK]at l6 hrk;have cy:(st.aL j).copied.take (k+1)=(st.aL j).copied.take k++[⟨5,pl,0,e0⟩]:=by rw[QX,hrk];rfl
   generalize hqt:qU Uf t.1=qt at l6 hcm;unfold fY at l6;refine ae ?_;refine kX (us:=[kF qt,.int .i64 t.2]) Zr (fun z hz=>by have h9:=hcm z hz;simp[h9]) rfl ?_;refine ae ?_;refine kN (fun eF=>?_);refine ae ?_;refine VC.draws ⟨?_,?_,trivial⟩
   all_goals
    refine ae ?_;refine kJ l6 Zr ZP (fun v Post hv=>?_);obtain⟨rfl,rfl⟩:=hv;simp only[aH];refine ae ?_;refine jE (out:=[.int .u8 5,.int .i64 pl,.int .i64 0,.string e0]) Zr Zr (fun rr=>?_);refine ae ?_;refine jK (k:=k) (m:=1) (xs:=((st.aL j).copied.take k).flatMap jX) (sp:=rsp) (ys:=[.int .u8 5,.int .i64 pl,.int .i64 0,.string e0]) Zr Zr G8 ZK Zr ?_ rfl Zr Zr Zd Zo (fun eK bE aR=>?_)
    ·exact Eg
    have fG:((st.aL j).copied.take k).flatMap jX++([.int .u8 5,.int .i64 pl,.int .i64 0,.string e0]:List Value)=((st.aL j).copied.take (k+1)).flatMap jX:=by
     rw[cy,V6,V7];rfl
    rw[fG]at aR|-;obtain⟨nE,nF,rfl⟩:=aR.form;refine ae ?_;exact⟨(k+1,.slice nE (k+1) nF,bE),⟨by simp only;omega,aR⟩,by simp only;omega,ZU,ZI⟩
  rintro⟨cv,Bc⟩ To
  simp only at To;dsimp only;obtain⟨Hv,Hw,hcve⟩:∃Hv Hw,cv=.slice Hv (st.aL j).copied.length Hw:=let⟨e1,e2,e3,_⟩:=To;⟨e1,e2,e3⟩;subst hcve;obtain⟨Ix,hncp⟩:∃Ix,Ix=(st.aL j).copied.length:=⟨_,rfl⟩;rw[<- hncp]at To|-;have hbj:=hbodf j u hu;obtain⟨l,hl⟩:∃l,l=st.aj.getD j []:=⟨_,rfl⟩;rw[<- hl]at hbj;have ND:st.aj[j]? =some l:=by
   rw[hl,Vb,Zg (by rw[xp.wf.bl];exact Ba)];rfl
  have hlraw:=xp.bd j l ND;have JG:=hBw l (Zv ND);have K2:=PN.Ou l;have hub:(st.aL j).body=l.map (lT st j):=by
   show pH st j (st.aj.getD j [])=_;rw[<- hl,rQ]
  obtain⟨ba,bc,bk,bo,bus,hbv2,hba2,hbm,hbr⟩:=hbj;rw[hbv2]at k8;refine VC.join (α:=Value×List kC) (bn:=fun _=>[(4,kF q4),(5,kF q5),(9,kF u.q),(10,kF nW),(42,.slice (some ⟨ub,uo,none⟩) U.length uc),(43,vi U.length),(44,vi j)]) (Hf:=fun s=>[kA nW 0 [.int .i64 (st.outer.getD j (-1)),.int .i64 na,.slice Hv Ix Hw,.int .i64 nl,.int .i64 nv,s.1],Bc,s.2,kA q5 0 [.string aP,.int .i64 az,.slice sa j sc],ai (.slice sa j sc) rows.flatten sp,kA q4 0 [.string e0,.int .i64 0,Nz],ai (.slice (some ⟨ub,uo,none⟩) U.length uc) (U.map fun u=>kM (some u.q)) bz,WK Uf Vf,T,B]) (I:=fun s=>yY (T++s.2) s.1 (st.aL j).body) ?_ ?_
  ·refine ae ?_;refine VC.loop (α:=Nat×Value×List (List Value)×List Value×List kC) (bn:=fun s=>[(4,kF q4),(5,kF q5),(9,kF u.q),(10,kF nW),(42,.slice (some ⟨ub,uo,none⟩) U.length uc),(43,vi U.length),(44,vi j),(122,.slice ba l.length bc),(123,vi l.length),(124,vi s.1)]) (Hf:=fun s=>[kA nW 0 [.int .i64 (st.outer.getD j (-1)),.int .i64 na,.slice Hv Ix Hw,.int .i64 nl,.int .i64 nv,s.2.1],ai s.2.1 s.2.2.1.flatten s.2.2.2.1,Bc,s.2.2.2.2,kA q5 0 [.string aP,.int .i64 az,.slice sa j sc],ai (.slice sa j sc) rows.flatten sp,kA q4 0 [.string e0,.int .i64 0,Nz],ai (.slice (some ⟨ub,uo,none⟩) U.length uc) (U.map fun u=>kM (some u.q)) bz,WK Uf Vf,T,B]) (I:=fun s=>s.1<=l.length/\jG 11 s.2.1 s.1 s.2.2.1.flatten s.2.2.2.1/\eN (T++s.2.2.2.2) ((l.take s.1).map (lT st j)) s.2.2.1) (μ:=fun s=>l.length - s.1) (0,Nz,[],[],[]) ⟨Qp _,.nil,eN.nil _⟩ ZU (ao.cut (M:=[kA nW 0 [.int .i64 (st.outer.getD j (-1)),.int .i64 na,.slice Hv Ix Hw,.int .i64 nl,.int .i64 nv,Nz],Bc,kA q5 0 [.string aP,.int .i64 az,.slice sa j sc],ai (.slice sa j sc) rows.flatten sp,kA q4 0 [.string e0,.int .i64 0,Nz],ai (.slice (some ⟨ub,uo,none⟩) U.length uc) (U.map fun u=>kM (some u.q)) bz,WK Uf Vf,T,B]) ZI (ao.perm (by simp[ai]))) ?_
   rintro⟨k,pv,s9,psp,Bb⟩ ⟨hk,hpv,C1⟩
   simp only at hk hpv C1;dsimp only;obtain⟨pa,pc,rfl⟩:=hpv.form;refine ae ?_;by_cases Mu:k < l.length;rotate_left
   ·rw[show decide ((k:Int) < (l.length:Int))=false from Zf Zo];have Zx:k=l.length:=by omega
    subst Zx;rw[List.take_length,<- hub]at C1;have hlk:(st.aL j).body.length=l.length:=by rw[hub,Vz]
    have Mz:=JZ (l:=(st.aL j).body) (by rw[hlk];exact hpv) C1;refine ae ?_;refine⟨(.slice pa l.length pc,ai (.slice pa l.length pc) s9.flatten psp++Bb),?_,ZU,ao.cut (M:=[kA nW 0 [.int .i64 (st.outer.getD j (-1)),.int .i64 na,.slice Hv Ix Hw,.int .i64 nl,.int .i64 nv,.slice pa l.length pc],ai (.slice pa l.length pc) s9.flatten psp,Bc,Bb,kA q5 0 [.string aP,.int .i64 az,.slice sa j sc],ai (.slice sa j sc) rows.flatten sp,kA q4 0 [.string e0,.int .i64 0,Nz],ai (.slice (some ⟨ub,uo,none⟩) U.length uc) (U.map fun u=>kM (some u.q)) bz,WK Uf Vf,T,B]) ZI (ao.perm ?_)⟩
    ·refine Mz.more fun y hy=>?_
     simp only[QA]at hy|-;rcases hy with hy|hy|hy
     ·exact .inr (.inl hy)
     ·exact .inl hy
     ·exact .inr (.inr hy)
    ·simp only[V9,VV,vg];refine vV _ ?_;generalize ai (.slice pa l.length pc) s9.flatten psp=P;rw[vf];refine(QR P Bc _).trans ?_;exact vX _
   rw[show decide ((k:Int) < (l.length:Int))=true from Zt Zo];obtain rfl:=hba2 Zo;obtain⟨x,Z9⟩:∃x,l[k]? =some x:=⟨_,Zg Mu⟩;have hxm:=Zv Z9;have Mv:=hbm k Mu;have N3:=hbr k x Z9;have aE:=HF st xp hB Uf Vf Sk j u hu T _ x (Qh _) (by have:=PN.X2 hxm;omega) _ N3 (pX hlraw x hxm);generalize bus k=uj at*;obtain⟨f1,f2,f3,f4,f5,f6,f7,r1,r2,r3,p1,p2,p3,k1,k2,k3,rfl⟩:=iK N3;have cy:(l.take (k+1)).map (lT st j)=(l.take k).map (lT st j)++[lT st j x]:=by
    rw[QX,Z9,Q5];rfl
   refine ae ?_;refine kX Zr (fun z hz=>by have h9:=Mv z hz;simp[h9]) rfl ?_;refine ae ?_;refine kN (fun q14=>?_);refine ae ?_;refine VC.draws ⟨?_,?_,trivial⟩
   all_goals
    refine ae ?_;refine kJ aE Zr ZP (fun v Post hv=>?_);obtain⟨ws',B3,⟨rfl,hp⟩,rfl⟩:=hv;simp only[aH];obtain⟨pn,Bf⟩:∃pn,pn=lT st j x:=⟨_,rfl⟩;rw[<- Bf]at hp cy;have sU:=hp;obtain⟨g1,g2,g3,g4,g5,g7,s1,s3,t1,t3,_,_,_,rfl,_⟩:=P6 sU;refine ae ?_;refine jE (out:=(rP pn.kind pn.name g1 g2 g3 g4 g5 pn.lit.items.length g7 s1 pn.refs.length s3 pn.unit pn.super t1 pn.kids.length t3)) Zr Zr (fun rr=>?_);refine ae ?_;refine jK (k:=k) (m:=1) (xs:=s9.flatten) (sp:=psp) (ys:=(rP pn.kind pn.name g1 g2 g3 g4 g5 pn.lit.items.length g7 s1 pn.refs.length s3 pn.unit pn.super t1 pn.kids.length t3)) Zr Zr hpv ZK Zr ?_ rfl Zr Zr Zd Zo (fun eK bE aR=>?_)
    ·exact Eg
    have fG:s9.flatten++((rP pn.kind pn.name g1 g2 g3 g4 g5 pn.lit.items.length g7 s1 pn.refs.length s3 pn.unit pn.super t1 pn.kids.length t3):List Value)=(s9++[((rP pn.kind pn.name g1 g2 g3 g4 g5 pn.lit.items.length g7 s1 pn.refs.length s3 pn.unit pn.super t1 pn.kids.length t3):List Value)]).flatten:=by simp
    rw[fG]at aR|-;obtain⟨nE,nF,rfl⟩:=aR.form;refine ae ?_;refine⟨(k+1,.slice nE (k+1) nF,s9++[(rP pn.kind pn.name g1 g2 g3 g4 g5 pn.lit.items.length g7 s1 pn.refs.length s3 pn.unit pn.super t1 pn.kids.length t3)],bE,Bb++B3),⟨by simp only;omega,aR,?_⟩,by simp only;omega,ZU,?_⟩
    ·show eN (T++(Bb++B3)) ((l.take (k+1)).map (lT st j)) _;rw[cy];refine(C1.more fun y hy=>?_).snoc (hp.more fun y hy=>?_)
     ·simp only[QA]at hy|-;exact hy.elim .inl fun h=>.inr (.inl h)
     ·simp only[QA]at hy|-;exact hy.elim .inl fun h=>.inr (.inr h)
    ·simp only;refine ao.cut (M:=[kA nW 0 [.int .i64 (st.outer.getD j (-1)),.int .i64 na,.slice Hv Ix Hw,.int .i64 nl,.int .i64 nv,.slice nE (k+1) nF],ai (.slice nE (k+1) nF) (s9++[((rP pn.kind pn.name g1 g2 g3 g4 g5 pn.lit.items.length g7 s1 pn.refs.length s3 pn.unit pn.super t1 pn.kids.length t3):List Value)]).flatten bE,Bc,Bb,B3,kA q5 0 [.string aP,.int .i64 az,.slice sa j sc],ai (.slice sa j sc) rows.flatten sp,kA q4 0 [.string e0,.int .i64 0,Nz],ai (.slice (some ⟨ub,uo,none⟩) U.length uc) (U.map fun u=>kM (some u.q)) bz,WK Uf Vf,T,B]) ZI (ao.perm Zs)
  rintro⟨bv2,Bb⟩ xu
  simp only at xu;dsimp only;obtain⟨xa,xc,hbv3⟩:∃xa xc,bv2=.slice xa (st.aL j).body.length xc:=let⟨e1,e2,_,_,_,e3,_⟩:=xu;⟨e1,e2,e3⟩;subst hbv3;obtain⟨nb,hnb2⟩:∃nb,nb=(st.aL j).body.length:=⟨_,rfl⟩;rw[<- hnb2]at xu|-;have hurow:Xd (T++(B++(Bc++Bb))) (st.aL j) [.int .i64 (st.outer.getD j (-1)),.int .i64 na,.slice Hv Ix Hw,.int .i64 nl,.int .i64 nv,.slice xa nb xc]:=by
   refine⟨.slice Hv Ix Hw,.slice xa nb xc,?_,To.more fun y hy=>?_,xu.more fun y hy=>?_⟩
   ·rw[D0,ZD,hnv];rfl
   ·simp only[QA];exact .inr (.inr (.inl hy))
   ·simp only[QA]at hy|-;exact hy.elim .inl fun h=>.inr (.inr (.inr h))
  have hrg:(List.range (j+1)).map st.aL=(List.range j).map st.aL++[st.aL j]:=by rw[List.range_succ,Q5];rfl
  refine ae ?_;refine jE (out:=[.int .i64 (st.outer.getD j (-1)),.int .i64 na,.slice Hv Ix Hw,.int .i64 nl,.int .i64 nv,.slice xa nb xc]) Zr Zr (fun rr=>?_);refine ae ?_;refine jK (k:=j) (m:=1) (xs:=rows.flatten) (sp:=sp) (ys:=[.int .i64 (st.outer.getD j (-1)),.int .i64 na,.slice Hv Ix Hw,.int .i64 nl,.int .i64 nv,.slice xa nb xc]) Zr Zr gq ZK Zr ?_ rfl Zr Zr Zd Zo (fun eK bE aR=>?_)
  ·exact Eg
  have fG:rows.flatten++([.int .i64 (st.outer.getD j (-1)),.int .i64 na,.slice Hv Ix Hw,.int .i64 nl,.int .i64 nv,.slice xa nb xc]:List Value)=(rows++[([.int .i64 (st.outer.getD j (-1)),.int .i64 na,.slice Hv Ix Hw,.int .i64 nl,.int .i64 nv,.slice xa nb xc]:List Value)]).flatten:=by simp
  rw[fG]at aR|-;obtain⟨nE,nF,rfl⟩:=aR.form;refine ae ?_;refine⟨(j+1,.slice nE (j+1) nF,rows++[[.int .i64 (st.outer.getD j (-1)),.int .i64 na,.slice Hv Ix Hw,.int .i64 nl,.int .i64 nv,.slice xa nb xc]],bE,B++(Bc++Bb)),⟨by simp only;omega,?_,aR,?_⟩,by simp only;omega,ZU,?_⟩
  ·intro i hi;by_cases e:i=j
   ·subst e;exact hnbj
   ·exact hnb i (by simp only at hi;omega)
  ·show gJ 6 (Xd (T++(B++(Bc++Bb)))) ((List.range (j+1)).map st.aL) _;rw[hrg];refine(du.imp fun x r hx=>hx.more fun y hy=>?_).snoc rfl hurow;simp only[QA]at hy|-;exact hy.elim .inl fun h=>.inr (.inl h)
  ·simp only;refine ao.cut (M:=[kA q5 0 [.string aP,.int .i64 az,.slice nE (j+1) nF],ai (.slice nE (j+1) nF) (rows++[([.int .i64 (st.outer.getD j (-1)),.int .i64 na,.slice Hv Ix Hw,.int .i64 nl,.int .i64 nv,.slice xa nb xc]:List Value)]).flatten bE,kA q4 0 [.string e0,.int .i64 0,Nz],ai (.slice (some ⟨ub,uo,none⟩) U.length uc) (U.map fun u=>kM (some u.q)) bz,WK Uf Vf,T,B,Bc,Bb]) ZI (ao.perm Zs)
 rintro⟨D5,rows,sp,B⟩ ⟨CQ,Z0,N5⟩
 simp only at CQ Z0 N5;dsimp only;have K3:((List.range st.outer.length).map st.aL).length=st.outer.length:=by simp
 have Ub:MT (ai D5 rows.flatten sp++(T++B)) D5 ((List.range st.outer.length).map st.aL):=Cu.imp (WI (B:=T++B) (by rw[K3];exact Z0) N5) (fun _ h=>h) fun x r hx=>hx.more fun y hy=>QB _ hy
 obtain⟨na,nc,rfl⟩:=Z0.form;refine ae ?_;refine jM ⟨.inr rfl,_,[ai (.slice na st.outer.length nc) rows.flatten sp++(T++B)],.aJ (us:=[.string aP,.int .i64 az,.slice na st.outer.length nc]) Zr Zr (fun y hy=>by simp only[V9,QA];repeat (first|exact Or.inl hy|refine Or.inr ?_)) .nil,ao.cut (M:=[ai (.slice na st.outer.length nc) rows.flatten sp,T,B]) ZI (ao.perm Zs),⟨_,_,⟨CQ,rfl,Ub⟩,rfl⟩⟩
set_option maxHeartbeats 3200000
def MQ(qs:List Nat)(unit fS:Nat)(arg own:Bool)(fv:Value)(len:Nat)(J:List Nat->List kC->Prop):Prop:=
 ∀(st:ah) U Vs ps A (k:Nat),cA st U Vs->U.map UC.q=qs->unit < st.outer.length->st.args.getD unit 0=fS->st.vars.length < 1073741824->J ps A->ps.length=k->k < len->
  dk Tryz.prog fv [vi k] [A,WK U Vs] (fun r Post=>∃U' y A',(r=kF y.q/\(∀nm,cA (st.aX ⟨nm,unit,arg,if arg&&own then k else -1⟩) U' (Vs++[y]))/\U'.map UC.q=U.map UC.q/\U'.map UC.body=U.map UC.body/\J (ps++[y.q]) A')/\Post=[A',WK U' (Vs++[y])])
theorem rJ(unit:Nat)(arg own:Bool)(p:Int)(l:List ByteArray)(i:Nat)(st:ah)(env:List Nat){e:Nat×Int}(h:st.f=some e):(kQ unit arg own p l i st env).1.f=some e:=(zT unit arg own p l i st env).f e h
theorem Kt(unit:Nat)(arg own:Bool)(p:Int)(nm:ByteArray)(r:List ByteArray)(i:Nat)(st:ah)(env:List Nat)(h:w9 st.vars env nm=none):
 kQ unit arg own p (nm::r) i st env=kQ unit arg own p r (i+1) (st.aX ⟨nm,unit,arg,if arg&&own then i else -1⟩) (env++[st.vars.length]):=by
 rw[kQ,h];rfl
theorem Nb(unit:Nat)(arg own:Bool)(p:Int)(nm:ByteArray)(r:List ByteArray)(i:Nat)(st:ah)(env:List Nat){v:Nat}(h:w9 st.vars env nm=some v)(hf:st.f=none):
 (kQ unit arg own p (nm::r) i st env).1.f=some (180,p):=by
 rw[kQ,h];refine rJ _ _ _ _ _ _ _ _ ?_;simp only[Option.isSome_some,if_true,ah.wrong,hf,Option.isNone_none]
theorem nL(S:List kC)(unit fS:Nat)(arg own:Bool)(p:Int)(l:List ByteArray)(lv:Value)(hl:eg S lv l)(fv:Value)(J:List Nat->List kC->Prop)
 (st:ah) (U:List UC) (Vs:List ax) (hmk:MQ (U.map UC.q) unit fS arg own fv l.length J) (hR:cA st U Vs) (hun:unit < st.outer.length) (D0:st.args.getD unit 0=fS) (hf:st.f=none) (hb:st.vars.length+l.length < 1073741824) (A:List kC) (hJ:J [] A) (env:List Nat) (b:Nat) (es:Array MapEntry) (c:Nat) (hs:z7 st Vs env es c):
 jf Tryz.prog 108 [.map (some b),.int .i64 p,lv,fv] [A,WK U Vs,[.obj b (.map es c)],S]
  (fun v Post=>∃b' cw c' U' nN A',((kQ unit arg own p l 0 st env).1.f=none/\v=.map (some b')/\cA (kQ unit arg own p l 0 st env).1 U' nN/\U'.map UC.q=U.map UC.q/\U'.map UC.body=U.map UC.body/\Vs.map ax.q <+:nN.map ax.q/\z7 (kQ unit arg own p l 0 st env).1 nN (kQ unit arg own p l 0 st env).2 cw c'/\
    J ((nN.map ax.q).drop Vs.length) A')/\Post=[A',WK U' nN,[.obj b' (.map cw c')],[.obj b (.map es c)],S])
  (fun ch Post=>(kQ unit arg own p l 0 st env).1.f=some (180,p)/\∃q,ch=oH q/\Post=[S,j9 q 180 p]):=by
 obtain⟨la,lc,rfl,Tv,fE⟩:=hl;refine jf.intro aab (by simp[n108]) ?_;refine ae ?_;refine kJ (Ht b es c) Zr ZP (fun v Post hv=>?_);obtain⟨b',rfl,rfl⟩:=hv;simp only[aH];refine ae ?_;refine VC.loop (α:=Nat×ah×List Nat×List UC×List ax×List kC×Array MapEntry×Nat) (bn:=fun s=>[(1,.int .i64 p),(3,fv),(9,.map (some b')),(14,.slice la l.length lc),(15,vi l.length),(16,vi s.1)])
  (Hf:=fun s=>[s.2.2.2.2.2.1,WK s.2.2.2.1 s.2.2.2.2.1,[.obj b' (.map s.2.2.2.2.2.2.1 s.2.2.2.2.2.2.2)],[.obj b (.map es c)],S])
  (I:=fun s=>s.1<=l.length/\kQ unit arg own p l 0 st env=kQ unit arg own p (l.drop s.1) s.1 s.2.1 s.2.2.1/\cA s.2.1 s.2.2.2.1 s.2.2.2.2.1/\s.2.1.f=none/\s.2.1.outer=st.outer/\s.2.1.args=st.args/\s.2.1.vars.length=st.vars.length+s.1/\s.2.2.2.1.map UC.q=U.map UC.q/\s.2.2.2.1.map UC.body=U.map UC.body/\Vs.map ax.q <+:s.2.2.2.2.1.map ax.q/\
    z7 s.2.1 s.2.2.2.2.1 s.2.2.1 s.2.2.2.2.2.2.1 s.2.2.2.2.2.2.2/\J ((s.2.2.2.2.1.map ax.q).drop Vs.length) s.2.2.2.2.2.1) (μ:=fun s=>l.length - s.1) (0,st,env,U,Vs,A,es,c)
  ⟨Qp _,rfl,hR,hf,rfl,rfl,rfl,rfl,rfl,QV _,hs,by simpa[vq]using hJ⟩ ZU ZI ?_
 have hvl0:=hR.vl;clear hR hf hs hJ
 rintro⟨j,bN,Ad,U1,Vs1,A1,es1,c1⟩ ⟨hj,hd,hR,hf,ho,ha,C6,hq,hqb,C0,hs,hJ⟩
 simp only at hj hd hR hf ho ha C6 hq hqb C0 hs hJ;dsimp only;refine ae ?_;by_cases aO:j < l.length;rotate_left
 ·rw[show decide ((j:Int) < (l.length:Int))=false from Zf Zo];have Ba:j=l.length:=by omega
  rw[Ba,List.drop_length,kQ]at hd;refine ae ?_;refine jM (kG (Post:=[A1,WK U1 Vs1,[.obj b' (.map es1 c1)],[.obj b (.map es c)],S]) (.inr rfl) (.tmp (v:=.map (some b')) Zr .nil) ⟨b',es1,c1,U1,Vs1,A1,⟨?_,rfl,?_,hq,hqb,C0,?_,hJ⟩,rfl⟩ ZI)
  ·rw[hd];exact hf
  ·rw[hd];exact hR
  ·rw[hd];exact hs
 rw[show decide ((j:Int) < (l.length:Int))=true from Zt Zo];obtain⟨nm,K5⟩:∃nm,l[j]? =some nm:=⟨_,Zg aO⟩;obtain⟨lb,lo,rfl,hm,Xu⟩:=fE j nm K5;have NH:l.drop j=nm::l.drop (j+1):=by
  rw[vp aO]
  congr 1
  rw[Zg aO]at K5;exact Qx K5
 rw[NH]at hd;obtain⟨hg1,hg2⟩:=hs.find nm;refine ae ?_;refine wx (E:=yC) (V:=fun b=>kM (some b)) (k:=nm) Zr Zr rfl (.there (.there .here)) hs.is ?_;rw[hg1];cases HT:w9 bN.vars Ad nm with
 |some v=>
  have gp:=Nb unit arg own p nm (l.drop (j+1)) j bN Ad HT hf;rw[<- hd]at gp;simp only[mh,Qw,kM,if_false,vK];refine ae ?_;refine kL (cW 180 p) Zr ZP (fun v Post hv=>hv.elim) (fun ch Post hz=>?_);obtain⟨q,rfl,rfl⟩:=hz;exact⟨[S,j9 q 180 p],ZI,gp,q,rfl,rfl⟩
 |none=>
  have lF:=Kt unit arg own p nm (l.drop (j+1)) j bN Ad HT;rw[lF]at hd;simp only[mh,Qv,if_false,vK];refine ae ?_;refine dN Zr (hmk bN U1 Vs1 _ A1 j hR hq (by rw[ho];exact hun) (by rw[ha];exact D0) Zo hJ (by rw[Vv,Vz,hR.vl,C6,hvl0];omega) aO) Zr ZP (fun v Post hv=>?_);obtain⟨U2,y,A2,⟨rfl,JC,im,hqb2,hJ2⟩,rfl⟩:=hv;simp only[aH];refine ae ?_;refine ww (E:=yC) (V:=fun b=>kM (some b)) (k:=nm) (v:=y.q) Zr Zr Zr rfl ZK hs.is (fun DU c2 xw=>?_);refine ae ?_;have pK:Vs.length<=Vs1.length:=by
   obtain⟨r,hr⟩:=C0;have:=congrArg List.length hr;simp only[Vt,Vz]at this;omega
  refine⟨(j+1,bN.aX ⟨nm,unit,arg,if arg&&own then j else -1⟩,Ad++[bN.vars.length],U2,Vs1++[y],A2,DU,c2),⟨by simp only;omega,hd,JC nm,hf,ho,ha,?_,im.trans hq,hqb2.trans hqb,?_,hs.add hR.vl HT xw,?_⟩,by simp only;omega,ZU,ZI⟩
  ·show(bN.vars++[_]).length=_;rw[Vt,C6];rfl
  ·simp only[Q5];exact C0.trans (QU _ _)
  ·simp only[Q5,Q7,Q9];rw[List.drop_append_of_le_length (by rw[Vz];exact pK)];exact hJ2
theorem iW {qs:List Nat}{U:List UC}(h:U.map UC.q=qs){unit uq:Nat}(hq:qs[unit]? =some uq):∃u,U[unit]? =some u/\u.q=uq:=by
 rw[<- h,Vn]at hq;obtain⟨u,h1,h2⟩:=Qu.1 hq;exact⟨u,h1,h2⟩
theorem abH(qs:List Nat)(unit fS uq k:Nat)(hq:qs[unit]? =some uq)(hn:fS < 1073741824):MQ qs unit fS true true (.func (.func 109) #[] #[kF k]) fS (fun _ A=>A=kA k 0 [kF uq]):=by
 intro st U Vs ps A j hR T0 hun D0 hb hJ Mz hj;subst hJ;obtain⟨u,hu,rfl⟩:=iW T0 hq;have hf:aq Tryz.prog 109 [vi j,kF k] [kA k 0 [kF u.q],WK U Vs] (fun r Post=>∃U' y A',(r=kF y.q/\(∀nm,cA (st.aX ⟨nm,unit,true,if true&&true then j else -1⟩) U' (Vs++[y]))/\U'.map UC.q=U.map UC.q/\U'.map UC.body=U.map UC.body/\A'=kA k 0 [kF u.q])/\Post=[A',WK U' (Vs++[y])]):=by
  refine aq.intro aad (by simp[n109]) ?_;refine ae ?_;refine kY Zr (fun q=>?_);simp only[Value.cells];refine ae ?_;refine kG (Post:=[kA k 0 [kF u.q],WK U (Vs++[⟨q,u.q,j,true,false,0⟩])]) (.inr rfl) (.tmp (v:=kF q) Zr .nil) ⟨U,⟨q,u.q,j,true,false,0⟩,kA k 0 [kF u.q],⟨rfl,fun nm=>?_,rfl,rfl,rfl⟩,rfl⟩ ?_
  ·refine cr.aX (u':=u) hR rfl hu (by simp only[Bool.and_self,if_true];omega) ⟨rfl,rfl,rfl,rfl,rfl⟩ (zE hu).symm rfl ?_ ?_
   ·rw[if_neg (by simp only[Bool.and_self,if_true];omega),vg]
   ·exact(hR.tm unit u hu).2
  ·refine ao.cut (M:=[kA k 0 [kF u.q],kA q 0 [kF u.q,.int .i64 j,.bool true,.bool false,.int .i64 0],WK U Vs]) ZI (ao.perm ?_);simp only[V9,VV,vg];exact vV _ (GL U Vs ⟨q,u.q,j,true,false,0⟩).symm
 exact dk.bY (first:=#[]) (cap:=#[kF k]) hf
theorem Uz(qs:List Nat)(unit fS uq k len:Nat)(hq:qs[unit]? =some uq):MQ qs unit fS false true (.func (.func 110) #[] #[kF k]) len (fun _ A=>A=kA k 0 [kF uq]):=by
 intro st U Vs ps A j hR T0 hun D0 hb hJ Mz hj;subst hJ;obtain⟨u,hu,rfl⟩:=iW T0 hq;have hf:aq Tryz.prog 110 [vi j,kF k] [kA k 0 [kF u.q],WK U Vs] (fun r Post=>∃U' y A',(r=kF y.q/\(∀nm,cA (st.aX ⟨nm,unit,false,if false&&true then j else -1⟩) U' (Vs++[y]))/\U'.map UC.q=U.map UC.q/\U'.map UC.body=U.map UC.body/\A'=kA k 0 [kF u.q])/\Post=[A',WK U' (Vs++[y])]):=by
  refine aq.intro aae (by simp[n110]) ?_;refine ae ?_;refine kJ (sE st U Vs hR unit u hu false hb) Zr ZP (fun v Post hv=>?_);obtain⟨U',y,⟨rfl,h1,h2,h2b⟩,rfl⟩:=hv;simp only[aH];refine ae ?_;exact kG (Post:=[kA k 0 [kF u.q],WK U' (Vs++[y])]) (.inr rfl) (.tmp (v:=kF y.q) Zr .nil) ⟨U',y,_,⟨rfl,h1,h2,h2b,rfl⟩,rfl⟩ ZI
 exact dk.bY (first:=#[]) (cap:=#[kF k]) hf
def cz(ps:List Nat):Value:=match ps.getLast? with|some q=>kF q|none=>.pointer none
theorem OQ(qs:List Nat)(unit fS uq k k2 len:Nat)(hq:qs[unit]? =some uq):MQ qs unit fS true false (.func (.func 251) #[] #[kF k,kF k2]) len (fun ps A=>A=kA k 0 [kF uq]++kA k2 0 [cz ps]):=by
 intro st U Vs ps A j hR T0 hun D0 hb hJ Mz hj;subst hJ;obtain⟨u,hu,rfl⟩:=iW T0 hq;have hf:aq Tryz.prog 251 [vi j,kF k,kF k2] [kA k 0 [kF u.q]++kA k2 0 [cz ps],WK U Vs] (fun r Post=>∃U' y A',(r=kF y.q/\(∀nm,cA (st.aX ⟨nm,unit,true,if true&&false then j else -1⟩) U' (Vs++[y]))/\U'.map UC.q=U.map UC.q/\U'.map UC.body=U.map UC.body/\A'=kA k 0 [kF u.q]++kA k2 0 [cz (ps++[y.q])])/\Post=[A',WK U' (Vs++[y])]):=by
  refine aq.intro abx (by simp[n251]) ?_;refine VC.imp (H':=[kA k 0 [kF u.q],kA k2 0 [cz ps],WK U Vs]) (ao.perm Zs) ?_;refine ae ?_;refine kJ (sE st U Vs hR unit u hu true hb) Zr ZP (fun v Post hv=>?_);obtain⟨U',y,⟨rfl,h1,h2,h2b⟩,rfl⟩:=hv;simp only[aH];refine ae ?_;refine kG (Post:=[kA k 0 [kF u.q]++kA k2 0 [cz (ps++[y.q])],WK U' (Vs++[y])]) (.inr rfl) (.tmp (v:=kF y.q) Zr .nil) ⟨U',y,_,⟨rfl,h1,h2,h2b,rfl⟩,rfl⟩ ?_;have e:cz (ps++[y.q])=kF y.q:=by unfold cz;simp
  rw[e];exact ao.cut (M:=[kA k 0 [kF u.q],kA k2 0 [kF y.q],WK U' (Vs++[y])]) ZI (ao.perm Zs)
 exact dk.bY (first:=#[]) (cap:=#[kF k,kF k2]) hf
def jk(tv kv:Value):List Value:=[cv 14,.string e0,cv 0,.int .i64 0,.int .u64 0,.string e0,Nz,Nz,.int .i64 0,.bool false,Nz,tv,kv]
def MJ(uq k k2:Nat)(ps:List Nat)(A:List kC):Prop:=∃tv ig,jG 1 tv ps.length (ps.map fun b=>kM (some b)) ig/\A=kA k 0 [kF uq]++(kA k2 0 (jk tv Nz)++ai tv (ps.map fun b=>kM (some b)) ig)
theorem Uy(qs:List Nat)(unit fS uq k k2 len:Nat)(hq:qs[unit]? =some uq)(hlen:len < 1073741824):MQ qs unit fS false false (.func (.func 252) #[] #[kF k,kF k2]) len (MJ uq k k2):=by
 intro st U Vs ps A j hR T0 hun D0 hb hJ Mz hj;obtain⟨tv,ig,bF,rfl⟩:=hJ;obtain⟨u,hu,rfl⟩:=iW T0 hq;obtain⟨ta,tc,rfl⟩:=bF.form;have hf:aq Tryz.prog 252 [vi j,kF k,kF k2] [kA k 0 [kF u.q]++(kA k2 0 (jk (.slice ta ps.length tc) Nz)++ai (.slice ta ps.length tc) (ps.map fun b=>kM (some b)) ig),WK U Vs] (fun r Post=>∃U' y A',(r=kF y.q/\(∀nm,cA (st.aX ⟨nm,unit,false,if false&&false then j else -1⟩) U' (Vs++[y]))/\U'.map UC.q=U.map UC.q/\U'.map UC.body=U.map UC.body/\MJ u.q k k2 (ps++[y.q]) A')/\Post=[A',WK U' (Vs++[y])]):=by
  refine aq.intro aby (by simp[n252]) ?_;refine VC.imp (H':=[kA k 0 [kF u.q],kA k2 0 (jk (.slice ta ps.length tc) Nz),ai (.slice ta ps.length tc) (ps.map fun b=>kM (some b)) ig,WK U Vs]) (ao.perm Zs) ?_;unfold jk;refine ae ?_;refine kJ (sE st U Vs hR unit u hu false hb) Zr ZP (fun v Post hv=>?_);obtain⟨U',y,⟨rfl,h1,h2,h2b⟩,rfl⟩:=hv;simp only[aH];refine ae ?_;refine jE (out:=[kF y.q]) Zr Zr (fun q2=>?_);refine jK (k:=ps.length) (m:=1) (xs:=ps.map fun b=>kM (some b)) (sp:=ig) (ys:=[kF y.q]) Zr Zr bF ZK Zr ?_ rfl Zr Zr Zd Zo (fun eK bE aR=>?_)
  ·exact Eg
  obtain⟨a',c',rfl⟩:=aR.form;have fG:(ps.map fun b=>kM (some b))++[kF y.q]=(ps++[y.q]).map fun b=>kM (some b):=by simp[kM]
  rw[fG]at aR|-;refine ae ?_;refine kG (Post:=[kA k 0 [kF u.q]++(kA k2 0 (jk (.slice a' (ps.length+1) c') (.slice none 0 0))++ai (.slice a' (ps.length+1) c') ((ps++[y.q]).map fun b=>kM (some b)) bE),WK U' (Vs++[y])]) (.inr rfl) (.tmp (v:=kF y.q) Zr .nil) ⟨U',y,_,⟨rfl,h1,h2,h2b,.slice a' (ps.length+1) c',bE,by simpa using aR,rfl⟩,rfl⟩ ?_;unfold jk;exact ao.cut (M:=[kA k 0 [kF u.q],kA k2 0 (jk (.slice a' (ps.length+1) c') (.slice none 0 0)),ai (.slice a' (ps.length+1) c') ((ps++[y.q]).map fun b=>kM (some b)) bE,WK U' (Vs++[y])]) (by unfold jk;exact bQ) (ao.perm (by simp[jk]))
 exact dk.bY (first:=#[]) (cap:=#[kF k,kF k2]) hf
end Go.Proofs.YtijnokbblmbpkaaGreatDoor

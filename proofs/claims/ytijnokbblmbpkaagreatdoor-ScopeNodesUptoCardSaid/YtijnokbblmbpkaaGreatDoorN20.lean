/-
  A part whose names are places.
-/
import Derived.Test.YtijnokbblmbpkaaGreatDoorN19
import Derived.Test.YtijnokbblmbpkaaGreatDoorN18
import Derived.Test.YtijnokbblmbpkaaGreatDoorN16
import Derived.Test.YtijnokbblmbpkaaGreatDoorN7
import Derived.Test.YtijnokbblmbpkaaGreatDoorN15
import Derived.Test.YtijnokbblmbpkaaGreatDoorN9
import Derived.Shelf.SlMaps.Clone
import Derived.Shelf.Lay
import Derived.Test.YtijnokbblmbpkaaGreatDoorN17
set_option linter.all false
namespace Go.Proofs.YtijnokbblmbpkaaGreatDoor
open Go Go.V
set_option maxHeartbeats 12800000
set_option maxRecDepth 100000
theorem rM(st:ah)(i:Nat):∀l:List PN,pM st i l=l.map (lR st i):=by
 intro l
 induction l with
 |nil=>rfl
 |cons x r ih=>rw[pM,ih];rfl
theorem Hp(st:ah)(xl:Ph st)(hB:DH st)(U:List UC)(Vs:List au)(hR:eP st st.outer.length U Vs)(i:Nat)(u:UC)(hu:U[i]? =some u)(T:List kB):∀(N:Nat) (x:PN),PN.w x<=N->N<=1073741824->∀ws,uJ T (Vs.map au.q) x ws->ep (oX st i) x=true->
 ao Tryz.prog 117 [kE u.q,.agg ws.toArray] [WK U Vs,T] (fun v Post=>∃ws' B,(v=.agg ws'.toArray/\Jm (T++B) (lR st i x) ws')/\Post=[WK U Vs,T,B]):=by
 intro N
 induction N with
 |zero=>intro x hx;have:=PN.fw x;omega
 |succ N ih=>
  intro x hx hN ws h OX;cases h with
  |@mk k nm lit refs unit iQ kids lv rv vv a c bk o us hl hr hv ok hz ha hm hs=>
  simp only[PN.w]at hx;have HF:=PN.Pv kids;simp only[ep,vF,vX,vO]at OX;obtain⟨hraw1,hraw2⟩:=OX;have ud:=hr;have hv0:=hv;obtain⟨ra,rc,rfl,sO⟩:=hr;obtain⟨va,vc,rfl,hvd⟩:=hv;have AY:=hl;obtain⟨y1,y2,y3,y4,y5,y6,y7,rfl⟩:∃(y1:Nat) (y2:Int) (y3:Nat) (y4:ByteArray) (y5:Option Addr) (y6 y7:Nat),lv=[.int .u8 y1,.int .i64 y2,.int .u64 y3,.string y4,.slice y5 y6 y7]:=by
   cases hl with
   |mk Nw GL pC ez=>exact⟨_,_,_,_,_,_,_,rfl⟩
  obtain⟨n1,Nl⟩:∃n1,n1=(wg refs).length:=⟨_,rfl⟩;obtain⟨n2,JY⟩:∃n2,n2=((et refs).map fun r=>(Vs.map au.q).getD r.index.toNat 0).length:=⟨_,rfl⟩;rw[<- Nl]at ud hz|-;rw[<- JY]at hv0|-;simp only[aE];refine ao.intro low117 (by simp[n117]) ?_;refine VC.join (α:=Nat×Nat×Nat) (aW:=fun q=>[(0,kE u.q),(3,kE q.1),(4,kE q.2.1)]) (Hf:=fun q=>[kA q.1 0 [.int .u8 k,.string nm,.int .u8 y1,.int .i64 y2,.int .u64 y3,.string y4,.slice y5 y6 y7,.slice ra n1 rc,.int .i64 unit,.bool iQ,.slice none 0 0,.slice va n2 vc,.slice a kids.length c],kA q.2.1 0 (rP 0 e0 0 0 0 e0 none 0 0 none 0 0 0 false none 0 0),WK U Vs,T]) (I:=fun _=>True) ?_ ?_
  ·refine ae ?_;refine kW Zr (fun q3=>?_);simp only[Value.cells];refine kM (fun q4=>?_);refine ae ?_;exact⟨(q3,q4,0),trivial,ZU,by unfold e0;exact bE⟩
  rintro⟨q3,q4,_⟩ _
  dsimp only;refine VC.join (α:=Nat) (aW:=fun q5=>[(0,kE u.q),(3,kE q3),(4,kE q4),(5,kE q5)]) (Hf:=fun q5=>[kA q5 0 (rP k nm y1 y2 y3 y4 y5 y6 y7 ra n1 rc unit iQ none 0 0),kA q3 0 [.int .u8 k,.string nm,.int .u8 y1,.int .i64 y2,.int .u64 y3,.string y4,.slice y5 y6 y7,.slice ra n1 rc,.int .i64 unit,.bool iQ,Nz,.slice va n2 vc,.slice a kids.length c],kA q4 0 (rP 0 e0 0 0 0 e0 none 0 0 none 0 0 0 false none 0 0),WK U Vs,T]) (I:=fun _=>True) ?_ (fun q5 _=>?_)
  ·refine ae ?_;refine kM (fun q5=>?_);refine ae ?_;exact⟨q5,trivial,ZU,ZI⟩
  refine VC.join (α:=Value×List kB) (aW:=fun _=>[(0,kE u.q),(3,kE q3),(4,kE q4),(5,kE q5)]) (Hf:=fun s=>[kA q5 0 [.int .u8 k,.string nm,.int .u8 y1,.int .i64 y2,.int .u64 y3,.string y4,.slice y5 y6 y7,s.1,.int .i64 unit,.bool iQ,Nz],kA q3 0 [.int .u8 k,.string nm,.int .u8 y1,.int .i64 y2,.int .u64 y3,.string y4,.slice y5 y6 y7,.slice ra n1 rc,.int .i64 unit,.bool iQ,Nz,.slice va n2 vc,.slice a kids.length c],kA q4 0 (rP 0 e0 0 0 0 e0 none 0 0 none 0 0 0 false none 0 0),WK U Vs,T,s.2]) (I:=fun s=>js (T++s.2) s.1 (refs.map (st.fix i))) ?_ ?_
  ·rcases ok.one with ap|ap
   rotate_left
   ·have ii:wg refs=refs:=vt.2 fun r hr=>Zt (ap r hr)
    have hrw:et refs=[]:=vr.2 fun r hr=>by simpa using ap r hr
    rw[hrw]at JY;have hn20:n2=0:=by rw[JY];rfl
    subst hn20;have hfx:refs.map (st.fix i)=refs:=by
     conv=>rhs;rw[<- List.map_id refs]
     exact Q1 fun r hr=>by unfold ah.fix;rw[if_neg (ap r hr)];rfl
    rw[ii]at ud;refine ae ?_;refine VC.loop (α:=Unit) (aW:=fun _=>[(0,kE u.q),(3,kE q3),(4,kE q4),(5,kE q5),(13,.slice va 0 vc),(14,vi 0),(15,vi 0)]) (Hf:=fun _=>[kA q5 0 (rP k nm y1 y2 y3 y4 y5 y6 y7 ra n1 rc unit iQ none 0 0),kA q3 0 [.int .u8 k,.string nm,.int .u8 y1,.int .i64 y2,.int .u64 y3,.string y4,.slice y5 y6 y7,.slice ra n1 rc,.int .i64 unit,.bool iQ,Nz,.slice va 0 vc,.slice a kids.length c],kA q4 0 (rP 0 e0 0 0 0 e0 none 0 0 none 0 0 0 false none 0 0),WK U Vs,T]) (I:=fun _=>True) (μ:=fun _=>0) () trivial ZU ZI ?_;intro _ _;refine ae ?_;rw[show decide ((0:Int) < 0)=false from rfl];refine ae ?_;exact⟨(.slice ra n1 rc,[]),by rw[hfx];exact ud.more (fun y hy=>Zw _ hy),ZU,aj.cut (M:=[kA q5 0 (rP k nm y1 y2 y3 y4 y5 y6 y7 ra n1 rc unit iQ none 0 0),kA q3 0 [.int .u8 k,.string nm,.int .u8 y1,.int .i64 y2,.int .u64 y3,.string y4,.slice y5 y6 y7,.slice ra n1 rc,.int .i64 unit,.bool iQ,Nz,.slice va 0 vc,.slice a kids.length c],kA q4 0 (rP 0 e0 0 0 0 e0 none 0 0 none 0 0 0 false none 0 0),WK U Vs,T]) ZI (aj.perm Zs)⟩
   have ii:wg refs=[]:=vr.2 fun r hr=>by simpa using ap r hr
   have hrw:et refs=refs:=vt.2 fun r hr=>Zt (ap r hr)
   rw[hrw]at hvd JY;have hnr:n2=refs.length:=by rw[JY,Vv]
   subst hnr;have hz1:=hz ii;have hn10:n1=0:=by rw[Nl,ii];rfl
   subst hn10;rw[Value.slice.injEq]at hz1;obtain⟨rfl,_,rfl⟩:=hz1;refine ae ?_;refine VC.loop (α:=Nat×Value×List Value) (aW:=fun s=>[(0,kE u.q),(3,kE q3),(4,kE q4),(5,kE q5),(13,.slice va refs.length vc),(14,vi refs.length),(15,vi s.1)]) (Hf:=fun s=>[kA q5 0 [.int .u8 k,.string nm,.int .u8 y1,.int .i64 y2,.int .u64 y3,.string y4,.slice y5 y6 y7,s.2.1,.int .i64 unit,.bool iQ,Nz],ai s.2.1 ((((refs.take s.1).map (st.fix i))).flatMap jS) s.2.2,kA q3 0 [.int .u8 k,.string nm,.int .u8 y1,.int .i64 y2,.int .u64 y3,.string y4,.slice y5 y6 y7,Nz,.int .i64 unit,.bool iQ,Nz,.slice va refs.length vc,.slice a kids.length c],kA q4 0 (rP 0 e0 0 0 0 e0 none 0 0 none 0 0 0 false none 0 0),WK U Vs,T]) (I:=fun s=>s.1<=refs.length/\kY 4 s.2.1 s.1 ((((refs.take s.1).map (st.fix i))).flatMap jS) s.2.2) (μ:=fun s=>refs.length - s.1) (0,Nz,[]) ⟨Qs _,.nil⟩ ZU (aj.cut (M:=[kA q5 0 (rP k nm y1 y2 y3 y4 y5 y6 y7 none 0 0 unit iQ none 0 0),kA q3 0 [.int .u8 k,.string nm,.int .u8 y1,.int .i64 y2,.int .u64 y3,.string y4,.slice y5 y6 y7,Nz,.int .i64 unit,.bool iQ,Nz,.slice va refs.length vc,.slice a kids.length c],kA q4 0 (rP 0 e0 0 0 0 e0 none 0 0 none 0 0 0 false none 0 0),WK U Vs,T]) ZI (aj.perm (by simp[ai]))) ?_
   rintro⟨j,sv,sp⟩ ⟨hj,gO⟩
   simp only at hj gO;dsimp only;obtain⟨sa,sc,rfl⟩:=gO.form;refine ae ?_;by_cases aI:j < refs.length;rotate_left
   ·rw[show decide ((j:Int) < (refs.length:Int))=false from Zf Zo];have Z1:j=refs.length:=by omega
    subst Z1;rw[Qa]at gO|-;refine ae ?_;refine⟨(.slice sa refs.length sc,ai (.slice sa refs.length sc) ((refs.map (st.fix i)).flatMap jS) sp),?_,ZU,ZI⟩;have:=Bu (B:=[]) (rs:=refs.map (st.fix i)) (by rw[Vv];exact gO);simp only[vd]at this;exact this.more fun y hy=>Q8 _ hy
   rw[show decide ((j:Int) < (refs.length:Int))=true from Zt Zo];obtain⟨r,hrj⟩:∃r,refs[j]? =some r:=⟨_,Zg aI⟩;obtain⟨v,GU,O8⟩:=ok.raw r (Zv hrj) (ap r (Zv hrj));rw[Vv]at O8;obtain⟨y,hy⟩:∃y,Vs[v]? =some y:=⟨_,Zg O8⟩;have hokv:oX st i v=true:=by
    rcases hraw1 r (Zv hrj)with k|k
    ·rw[ap r (Zv hrj)]at k;cases k
    ·rw[GU]at k;exact k
   obtain⟨vb,vo,rfl,hvc⟩:=hvd j y.q (by
    rw[Vi,hrj,GU];show some ((Vs.map au.q).getD v 0)=_;rw[V8,Vi,hy];rfl)
   have hvc:kB.cell vb (vo+j) (kE y.q)∈T:=hvc;have ν:=R1 st xl hB U Vs hR i u hu v y hy hokv;have hfx:st.fix i r=st.known i v:=by
    rw[GU];show(if(99:Nat)=99 then st.known i ((v:Int)).toNat else _)=_;rw[if_pos rfl,vS]
   have fK:(refs.take (j+1)).map (st.fix i)=(refs.take j).map (st.fix i)++[st.known i v]:=by
    rw[QY,hrj,Q0];simp only[Option.toList_some,Q3,Q6,hfx]
   obtain⟨kr,hkr⟩:∃kr,kr=st.known i v:=⟨_,rfl⟩;rw[<- hkr]at ν fK;unfold jS at ν;refine ae ?_;refine VC.draws ⟨?_,?_,trivial⟩
   all_goals
    refine ae ?_;refine kI ν Zr ZP (fun v Post hv=>?_);obtain⟨rfl,rfl⟩:=hv;simp only[aE];refine ae ?_;refine kg (out:=[.int .u8 kr.kind,.int .i64 kr.index,.int .i64 kr.slot,.string kr.name]) Zr Zr (fun rr=>?_);refine ae ?_;refine j8 (k:=j) (m:=1) (xs:=((refs.take j).map (st.fix i)).flatMap jS) (sp:=sp) (ys:=[.int .u8 kr.kind,.int .i64 kr.index,.int .i64 kr.slot,.string kr.name]) Zr Zr gO ZK Zr ?_ rfl Zr Zr Zd Zo (fun cq aY ax=>?_)
    ·exact AI
    have fJ:((refs.take j).map (st.fix i)).flatMap jS++([.int .u8 kr.kind,.int .i64 kr.index,.int .i64 kr.slot,.string kr.name]:List Value)=((refs.take (j+1)).map (st.fix i)).flatMap jS:=by
     rw[fK,vx,V0];rfl
    rw[fJ]at ax|-;obtain⟨lF,lG,rfl⟩:=ax.form;refine ae ?_;exact⟨(j+1,.slice lF (j+1) lG,aY),⟨by simp only;omega,ax⟩,by simp only;omega,ZU,ZI⟩
  rintro⟨rv2,B1⟩ hrefs
  simp only at hrefs;dsimp only;obtain⟨rb,rn,UN⟩:∃rb rn,rv2=.slice rb (refs.map (st.fix i)).length rn:=let⟨e1,e2,e3,_⟩:=hrefs;⟨e1,e2,e3⟩;subst UN;generalize hnr:(refs.map (st.fix i)).length=nr at*;refine ae ?_;refine VC.loop (α:=Nat×Value×List (List Value)×List Value×List kB) (aW:=fun s=>[(0,kE u.q),(4,kE q4),(5,kE q5),(29,.slice a kids.length c),(30,vi kids.length),(31,vi s.1)]) (Hf:=fun s=>[kA q5 0 [.int .u8 k,.string nm,.int .u8 y1,.int .i64 y2,.int .u64 y3,.string y4,.slice y5 y6 y7,.slice rb nr rn,.int .i64 unit,.bool iQ,s.2.1],ai s.2.1 s.2.2.1.flatten s.2.2.2.1,kA q4 0 (rP 0 e0 0 0 0 e0 none 0 0 none 0 0 0 false none 0 0),WK U Vs,T,B1,s.2.2.2.2]) (I:=fun s=>s.1<=kids.length/\kY 11 s.2.1 s.1 s.2.2.1.flatten s.2.2.2.1/\eO (T++(B1++s.2.2.2.2)) ((kids.take s.1).map (lR st i)) s.2.2.1) (μ:=fun s=>kids.length - s.1) (0,Nz,[],[],[]) ⟨Qs _,.nil,eO.nil _⟩ ZU (aj.cut (M:=[kA q5 0 (rP k nm y1 y2 y3 y4 y5 y6 y7 rb nr rn unit iQ none 0 0),kA q4 0 (rP 0 e0 0 0 0 e0 none 0 0 none 0 0 0 false none 0 0),WK U Vs,T,B1]) ZI (aj.perm (by simp[ai]))) ?_
  rintro⟨j,sv,rows,sp,B2⟩ ⟨hj,gO,dB⟩
  simp only at hj gO dB;dsimp only;obtain⟨sa,sc,rfl⟩:=gO.form;refine ae ?_;by_cases aI:j < kids.length;rotate_left
  ·rw[show decide ((j:Int) < (kids.length:Int))=false from Zf Zo];have Z1:j=kids.length:=by omega
   subst Z1;rw[Qa,<- rM]at dB;have Yd:(pM st i kids).length=kids.length:=by rw[rM,Vv]
   have GQ:=Kh (l:=pM st i kids) (by rw[Yd];exact gO) dB;have eA:∀y∈T++B1,y∈T++(ai (.slice sa kids.length sc) rows.flatten sp++(B1++B2)):=fun y hy=>by
    rcases Q7.1 hy with hy|hy
    ·exact Zw _ hy
    ·exact Q8 _ (Q8 _ (Zw _ hy))
   have AZ:=p_made (T:=T++(ai (.slice sa kids.length sc) rows.flatten sp++(B1++B2))) (k:=k) (nm:=nm) (lit:=lit) (refs:=refs.map (st.fix i)) (unit:=unit) (iQ:=iQ) (kids:=pM st i kids) (AY.more fun y hy=>Zw _ hy) (hrefs.more eA) (GQ.more fun y hy=>by
    rcases Q7.1 hy with hy|hy
    ·exact Q8 _ (Zw _ hy)
    ·rcases Q7.1 hy with hy|hy
     ·exact Zw _ hy
     ·exact Q8 _ (Q8 _ hy))
   refine ae ?_;refine⟨.inr rfl,_,[WK U Vs,T,ai (.slice sa kids.length sc) rows.flatten sp++(B1++B2)],.aS (us:=(rP k nm y1 y2 y3 y4 y5 y6 y7 rb nr rn unit iQ sa kids.length sc)) Zr Zr (fun y hy=>by simp only[V6,Q7];repeat (first|exact Or.inl hy|refine Or.inr ?_)) .nil,aj.cut (M:=[WK U Vs,T,ai (.slice sa kids.length sc) rows.flatten sp,B1,B2]) ZI (aj.perm Zs),⟨_,_,⟨rfl,?_⟩,rfl⟩⟩;rw[lR];exact AZ
  rw[show decide ((j:Int) < (kids.length:Int))=true from Zt Zo];obtain rfl:=ha Zo;obtain⟨x,hxj⟩:∃x,kids[j]? =some x:=⟨_,Zg aI⟩;have hxm:=Zv hxj;have Tb:=hm j aI;have O5:=hs j x hxj;have aU:=ih x (by have:=PN.YM hxm;omega) Zo _ O5 (p7 hraw2 x hxm);generalize us j=uj at*;obtain⟨f1,f2,f3,f4,f5,f6,f7,r1,r2,r3,p1,p2,p3,k1,k2,k3,rfl⟩:=iG O5;have fK:(kids.take (j+1)).map (lR st i)=(kids.take j).map (lR st i)++[lR st i x]:=by
   rw[QY,hxj,Q0];rfl
  refine ae ?_;refine kS Zr (fun z hz=>by have h9:=Tb z hz;simp[h9]) rfl ?_;refine ae ?_;refine kM (fun q9=>?_);refine ae ?_;refine VC.draws ⟨?_,?_,trivial⟩
  all_goals
   refine ae ?_;refine kI aU Zr ZP (fun v Post hv=>?_);obtain⟨ws',B3,⟨rfl,hp⟩,rfl⟩:=hv;simp only[aE];obtain⟨pn,sM⟩:∃pn,pn=lR st i x:=⟨_,rfl⟩;rw[<- sM]at hp fK;have rh:=hp;obtain⟨g1,g2,g3,g4,g5,g7,s1,s3,t1,t3,_,_,_,rfl,_⟩:=RG rh;refine ae ?_;refine kg (out:=(rP pn.kind pn.name g1 g2 g3 g4 g5 pn.lit.items.length g7 s1 pn.refs.length s3 pn.unit pn.super t1 pn.kids.length t3)) Zr Zr (fun rr=>?_);refine ae ?_;refine j8 (k:=j) (m:=1) (xs:=rows.flatten) (sp:=sp) (ys:=(rP pn.kind pn.name g1 g2 g3 g4 g5 pn.lit.items.length g7 s1 pn.refs.length s3 pn.unit pn.super t1 pn.kids.length t3)) Zr Zr gO ZK Zr ?_ rfl Zr Zr Zd Zo (fun cq aY ax=>?_)
   ·exact AI
   have fJ:rows.flatten++((rP pn.kind pn.name g1 g2 g3 g4 g5 pn.lit.items.length g7 s1 pn.refs.length s3 pn.unit pn.super t1 pn.kids.length t3):List Value)=(rows++[((rP pn.kind pn.name g1 g2 g3 g4 g5 pn.lit.items.length g7 s1 pn.refs.length s3 pn.unit pn.super t1 pn.kids.length t3):List Value)]).flatten:=by simp
   rw[fJ]at ax|-;obtain⟨lF,lG,rfl⟩:=ax.form;refine ae ?_;refine⟨(j+1,.slice lF (j+1) lG,rows++[(rP pn.kind pn.name g1 g2 g3 g4 g5 pn.lit.items.length g7 s1 pn.refs.length s3 pn.unit pn.super t1 pn.kids.length t3)],aY,B2++B3),⟨by simp only;omega,ax,?_⟩,by simp only;omega,ZU,?_⟩
   ·show eO (T++(B1++(B2++B3))) ((kids.take (j+1)).map (lR st i)) _;rw[fK];refine(dB.more fun y hy=>?_).snoc (hp.more fun y hy=>?_)
    ·simp only[Q7]at hy|-;rcases hy with hy|hy|hy
     ·exact .inl hy
     ·exact .inr (.inl hy)
     ·exact .inr (.inr (.inl hy))
    ·simp only[Q7]at hy|-;rcases hy with hy|hy
     ·exact .inl hy
     ·exact .inr (.inr (.inr hy))
   ·simp only;refine aj.cut (M:=[kA q5 0 (rP k nm y1 y2 y3 y4 y5 y6 y7 rb nr rn unit iQ lF (j+1) lG),ai (.slice lF (j+1) lG) (rows++[((rP pn.kind pn.name g1 g2 g3 g4 g5 pn.lit.items.length g7 s1 pn.refs.length s3 pn.unit pn.super t1 pn.kids.length t3):List Value)]).flatten aY,kA q4 0 (rP 0 e0 0 0 0 e0 none 0 0 none 0 0 0 false none 0 0),WK U Vs,T,B1,B2,B3]) ZI (aj.perm Zs)
end Go.Proofs.YtijnokbblmbpkaaGreatDoor
namespace Go.V
open Go
def Ck {α:Type}(w:Nat)(Rd:α->List Value->Prop)(T:List kB)(v:Value)(l:List α):Prop:=∃(a:Option Addr) (c bk o:Nat) (us:Nat->List Value),v=.slice a l.length c/\(0 < l.length->a=some ⟨bk,o,none⟩)/\(∀i,i < l.length->∀y∈kA bk (o+i*w) (us i),y∈T)/\∀(i:Nat) x,l[i]? =some x->Rd x (us i)
structure gA {α:Type}(w:Nat)(Rd:α->List Value->Prop)(l:List α)(rows:List (List Value)):Prop where
 len:rows.length=l.length
 w:∀r∈rows,r.length=w
 rd:∀(i:Nat) x r,l[i]? =some x->rows[i]? =some r->Rd x r
section
variable {α:Type} {w:Nat} {Rd Rd':α->List Value->Prop}
theorem gA.nil:gA w Rd [] []:=⟨rfl,Zs,fun i x r h=>by simp at h⟩
theorem gA.imp {l:List α}{rows:List (List Value)}(h:gA w Rd l rows)(hs:∀x r,Rd x r->Rd' x r):gA w Rd' l rows:=⟨h.len,h.w,fun i x r hx hr=>hs _ _ (h.rd i x r hx hr)⟩
theorem gA.snoc {l:List α}{rows:List (List Value)}{x:α}{r:List Value}(h:gA w Rd l rows)(hw:r.length=w)(hx:Rd x r):gA w Rd (l++[x]) (rows++[r]):=by
 refine⟨by simp[h.len],fun r' sN=>?_,fun i y s hy hs=>?_⟩
 ·rcases Q7.1 sN with h1|h1
  ·exact h.w r' h1
  ·rw[QI.1 h1];exact hw
 ·exact zAR
theorem Ck.nil(T:List kB):Ck w Rd T Nz []:=⟨none,0,0,0,fun _=>[],rfl,fun h=>absurd h Zs,fun i hi=>absurd hi Zs,fun i x h=>by simp at h⟩
theorem Ck.imp {T T':List kB}{v:Value}{l:List α}(h:Ck w Rd T v l)(hs:∀x∈T,x∈T')(hr:∀x r,Rd x r->Rd' x r):Ck w Rd' T' v l:=by
 obtain⟨a,c,bk,o,us,h1,h2,h3,h4⟩:=h;exact⟨a,c,bk,o,us,h1,h2,fun i hi y hy=>hs _ (h3 i hi y hy),fun i x hx=>hr _ _ (h4 i x hx)⟩
theorem Xo {B:List kB}{l:List α}{sv:Value}{rows:List (List Value)}{sp:List Value}(bh:kY w sv l.length rows.flatten sp)(hr:gA w Rd l rows):Ck w Rd (ai sv rows.flatten sp++B) sv l:=by
 have aC:∀i,i < l.length->rows[i]? =some (rows.getD i []):=fun i hi=>by
  exact zDZ
 generalize hm:l.length=m at bh;generalize A7:rows.flatten=xs at bh|-;cases bh with
 |@mk bk o _ c _ _ h1 h2 h3=>
  rw[<- hm];subst A7;refine⟨_,c,bk,o,fun i=>rows.getD i [],rfl,fun _=>rfl,fun i hi y hy=>?_,fun i x hx=>?_⟩
  ·exact zD7
  ·have hi:=(Vh.1 hx).1;exact hr.rd i x _ hx (aC i hi)
 |nil=>
  have h0:l=[]:=vj hm;subst h0;exact Ck.nil _
end
def Xz(x:yA)(cv bv:Value):List Value:=[.int .i64 x.outer,.int .i64 x.args,cv,.int .i64 x.locals,.int .i64 x.ay,bv]
def XO(T:List kB)(x:yA)(vs:List Value):Prop:=∃cv bv,vs=Xz x cv bv/\js T cv x.copied/\uK T bv x.body
theorem XO.more {T T':List kB}(hs:∀x∈T,x∈T'){x:yA}{vs:List Value}(h:XO T x vs):XO T' x vs:=by
 obtain⟨cv,bv,h1,h2,h3⟩:=h;exact⟨cv,bv,h1,h2.more hs,h3.more hs⟩
def NP(T:List kB)(v:Value)(l:List yA):Prop:=Ck 6 (XO T) T v l
end Go.V
namespace Go.Proofs.YtijnokbblmbpkaaGreatDoor
open Go Go.V
set_option maxHeartbeats 3200000
set_option maxRecDepth 100000
theorem ss(st:ah)(U:List UC)(Vs:List au)(hR:cy st U Vs)(i:Nat)(u:UC)(hu:U[i]? =some u)(fx:Bool)(hb:st.vars.length < 1073741824):
 ao Tryz.prog 111 [kE u.q,.bool fx] [WK U Vs] (fun r Post=>∃U' y,(r=kE y.q/\(∀nm,cy (st.aZ ⟨nm,i,fx,-1⟩) U' (Vs++[y]))/\U'.map UC.q=U.map UC.q/\U'.map UC.body=U.map UC.body)/\Post=[WK U' (Vs++[y])]):=by
 obtain⟨htm,bh⟩:=hR.tm i u hu;have EP:u.ab.length<=st.vars.length:=by
  rw[htm,Vv];exact Ql (Vu _ _) Zs
 obtain⟨R,hp,hr⟩:=SU (V:=Vs) hu;refine ao.intro low111 (by simp[n111]) ?_;refine VC.imp (H':=[kA u.q 5 [u.tv],ai u.tv (u.ab.map fun b=>kL (some b)) u.ic,R]) (aj.perm (by simpa using hp)) ?_;have hlen:u.ab.length=(u.ab.map fun b=>kL (some b)).length:=by simp
 obtain⟨ta,tc,bu⟩:=bh.form;refine ae ?_;refine kW Zr (fun q=>?_);simp only[Value.cells];refine ae ?_;refine kg (out:=[kE q]) Zr Zr (fun q2=>?_);rw[bu]at bh|-;refine j8 (k:=u.ab.length) (m:=1) (xs:=u.ab.map fun b=>kL (some b)) (sp:=u.ic) (ys:=[kE q]) Zr Zr bh ZK Zr ?_ rfl Zr Zr Zd Zo (fun cq aY ax=>?_)
 ·exact AI
 obtain⟨a',c',rfl⟩:=ax.form;have fJ:(u.ab.map fun b=>kL (some b))++[kE q]=(u.ab++[q]).map fun b=>kL (some b):=by simp[kL]
 rw[fJ]at ax|-;refine ae ?_;refine kG (Post:=[WK (U.set i {u with ab:=u.ab++[q],tv:=.slice a' (u.ab.length+1) c',ic:=aY}) (Vs++[⟨q,u.q,-1,fx,false,0⟩])]) (.inr rfl) (.tmp (v:=kE q) Zr .nil) ⟨U.set i {u with ab:=u.ab++[q],tv:=.slice a' (u.ab.length+1) c',ic:=aY},⟨q,u.q,-1,fx,false,0⟩,⟨rfl,fun nm=>?_,zD hu rfl,rX hu rfl⟩,rfl⟩ ?_
 ·exact cm.aZ hR rfl hu (by simp only;omega) ⟨rfl,rfl,rfl,rfl,rfl⟩ rfl rfl (by rw[if_pos (show(-1:Int) < 0 by decide)]) (by simpa using ax)
 ·refine aj.cut (M:=[kA q 0 [kE u.q,.int .i64 (-1),.bool fx,.bool false,.int .i64 0],kA u.q 5 [.slice a' (u.ab.length+1) c'],ai (.slice a' (u.ab.length+1) c') ((u.ab++[q]).map fun b=>kL (some b)) aY,R]) ZI (aj.perm ?_);have h1:=Gx (U.set i {u with ab:=u.ab++[q],tv:=.slice a' (u.ab.length+1) c',ic:=aY}) Vs ⟨q,u.q,-1,fx,false,0⟩;have h2:=hr (u.ab++[q]) (.slice a' (u.ab.length+1) c') aY;simp only[V6,V7,vd];refine List.Perm.trans ?_ h1.symm;refine vU _ ?_;rw[<- vZ];exact h2.symm
end Go.Proofs.YtijnokbblmbpkaaGreatDoor
namespace Go.Proofs
open Go.Shelf
shelf_lay_g SlLaysW.n5 Slmc 5 at Tryz 171 as Tryz.slcl1
end Go.Proofs
namespace Go.Proofs.YtijnokbblmbpkaaGreatDoor
open Go Go.V
set_option maxHeartbeats 3200000
set_option maxRecDepth 100000
theorem Hg(b:Nat)(es:Array MapEntry)(c:Nat):ao Tryz.prog 171 [.map (some b)] [[.obj b (.map es c)]] (fun v Post=>∃b',v=.map (some b')/\Post=[[.obj b (.map es c)],[.obj b' (.map es c)]]):=by
 refine⟨by kernel_rfl,fun F w hs=>?_⟩;have hb:w.heap[b]? =some (.map es c):=(hs.obj (b:=b) (o:=.map es c) Zs).1;refine(AnyW.maps_Clone Tryz.slcl1 b es c w hb).mono ?_;exact zBC
def Ej(q:Nat):Value:=.iface 80 (kE q)
def oI(q:Nat):List PanicEntry:=[{v:=Ej q,recovered:=false}]
def Ra:ByteArray:=⟨#[82,101,115,111,108,118,101]⟩
def jL(q:Nat)(e:Nat)(p:Int):List kB:=kA q 0 [.string Ra,.int .i64 p,.iface 44 (.int .i64 e)]
theorem cX(e:Nat)(p:Int):jb Tryz.prog 113 [vi e,.int .i64 p] [] (fun _ _=>False) (fun ch Post=>∃q,ch=oI q/\Post=[jL q e p]):=by
 refine jb.intro low113 (by simp[n113]) ?_;refine ae ?_;refine kW Zr (fun q=>?_);simp only[Value.cells];refine ae ?_;refine Sl Zr ?_;refine⟨[jL q e p],?_,q,rfl,rfl⟩;unfold jL Ra;exact bE
set_option maxHeartbeats 12800000
theorem KG {st:ah}(hf:st.f=none)(h1:st.outer.length<=255)(h2:∀i,i < st.outer.length->(st.aK i).Za=false):st.answer=((List.range st.outer.length).map st.aK,0,0):=by
 unfold ah.answer;rw[hf];simp only;rw[if_neg Zo,if_neg];rw[Bool.not_eq_true,List.any_eq_false];intro x hx;obtain⟨i,hi,rfl⟩:=QE.1 hx;rw[h2 i (QG.1 hi)];simp
theorem uQ {st:ah}(hf:st.f=none){i:Nat}(hi:i < st.outer.length)(h:(st.aK i).Za=true):st.answer=([],183,0):=by
 unfold ah.answer;rw[hf];simp only;split
 ·rfl
 ·rw[if_pos];rw[vY];exact⟨_,QE.2 ⟨i,QG.2 hi,rfl⟩,h⟩
theorem DT {st:ah}(hf:st.f=none)(h:255 < st.outer.length):st.answer=([],183,0):=by
 unfold ah.answer;rw[hf];simp only;rw[if_pos h]
structure Bnds (st:ah):Prop where
 b:DH st
 w:∀l∈st.bodies,PN.ws l<=4194304
theorem IY(st:ah)(xl:Ph st)(hBs:Bnds st)(hf:st.f=none)(U:List UC)(Vs:List au)(hR:eP st 0 U Vs)(us:Value)(bC:List Value)(bh:kY 1 us U.length (U.map fun u=>kL (some u.q)) bC)(T:List kB)(Hx:∀(i:Nat) u,U[i]? =some u->th T (Vs.map au.q) u.body (st.bodies.getD i []))
 (wq:Nat) (fv gv av tv bv:Value) (aQ:ByteArray) (aL:Int):
 jb Tryz.prog 50 [kE wq,.agg #[.string aQ,av,tv,.int .i64 aL,bv]] [kA wq 0 [fv,gv,us],ai us (U.map fun u=>kL (some u.q)) bC,WK U Vs,T]
  (fun v Post=>∃Gv B,(st.answer=((List.range st.outer.length).map st.aK,0,0)/\v=.agg #[.string aQ,.int .i64 aL,Gv]/\NP B Gv ((List.range st.outer.length).map st.aK))/\Post=[B])
  (fun ch Post=>∃q,st.answer=([],183,0)/\ch=oI q/\Post=[jL q 183 0]):=by
 obtain⟨hB,hBw⟩:=hBs;have EP:=hR.ul;have ZL:=hB.o;have hpt:wX (ai us ((U.map UC.q).map fun b=>kL (some b)) bC) us (U.map UC.q):=gY (by rw[Vv]) (by rw[Q5];exact bh);have Ye:((U.map UC.q).map fun b=>kL (some b))=U.map fun u=>kL (some u.q):=by rw[Q5];rfl
 rw[Ye]at hpt;obtain⟨ua,uc,rfl⟩:=bh.form;obtain⟨ua',uc',Yq,hptr⟩:=hpt;rw[Value.slice.injEq]at Yq;obtain⟨rfl,_,rfl⟩:=Yq;refine jb.intro low50 (by simp[n50]) ?_;have aC:∀(k:Nat) w,U[k]? =some w->∃b o,ua=some ⟨b,o,none⟩/\kB.cell b (o+k) (kE w.q)∈ai (.slice ua U.length uc) (U.map fun u=>kL (some u.q)) bC:=fun k w hw=>by
  obtain⟨b,o,h1,h2⟩:=hptr k w.q (by rw[Vi,hw];rfl);exact⟨b,o,h1,h2⟩
 refine ae ?_;refine kW Zr (fun q3=>?_);simp only[Value.cells];refine kM (fun q4=>?_);refine ae ?_;refine kM (fun q5=>?_);refine jW ?_;refine VC.join (α:=Unit) (aW:=fun _=>[(0,kE wq),(4,kE q4),(5,kE q5)]) (Hf:=fun _=>[kA q5 0 [.string aQ,.int .i64 aL,Nz],kA q4 0 [.string e0,.int .i64 0,Nz],kA wq 0 [fv,gv,.slice ua U.length uc],ai (.slice ua U.length uc) (U.map fun u=>kL (some u.q)) bC,WK U Vs,T]) (I:=fun _=>st.outer.length<=255) ?_ (fun _ Ep=>?_)
 ·refine ae ?_;by_cases hc:255 < U.length
  ·rw[show decide ((255:Int) < (U.length:Int))=true from Zt Zo];refine ae ?_;refine kK (cX 183 0) Zr ZP (fun v Post hv=>False.elim hv) (fun ch Post hz=>?_);obtain⟨q1,rfl,rfl⟩:=hz;exact⟨[jL q1 183 0],ZI,q1,DT hf Zo,rfl,rfl⟩
  ·rw[show decide ((255:Int) < (U.length:Int))=false from Zf Zo];refine ae ?_;exact⟨(),by show st.outer.length<=255;omega,ZU,by unfold e0;exact bE⟩
 refine VC.join (α:=List UC×List au) (aW:=fun _=>[(0,kE wq),(4,kE q4),(5,kE q5)]) (Hf:=fun s=>[kA q5 0 [.string aQ,.int .i64 aL,Nz],kA q4 0 [.string e0,.int .i64 0,Nz],kA wq 0 [fv,gv,.slice ua U.length uc],ai (.slice ua U.length uc) (U.map fun u=>kL (some u.q)) bC,WK s.1 s.2,T]) (I:=fun s=>eP st st.outer.length s.1 s.2/\s.1.map UC.q=U.map UC.q/\s.1.map UC.body=U.map UC.body/\s.2.map au.q=Vs.map au.q) ?_ ?_
 ·refine ae ?_;refine VC.loop (α:=Nat×List UC×List au) (aW:=fun s=>[(0,kE wq),(4,kE q4),(5,kE q5),(30,.slice ua U.length uc),(31,vi U.length),(32,vi s.1)]) (Hf:=fun s=>[kA q5 0 [.string aQ,.int .i64 aL,Nz],kA q4 0 [.string e0,.int .i64 0,Nz],kA wq 0 [fv,gv,.slice ua U.length uc],ai (.slice ua U.length uc) (U.map fun u=>kL (some u.q)) bC,WK s.2.1 s.2.2,T]) (I:=fun s=>s.1<=U.length/\eP st s.1 s.2.1 s.2.2/\s.2.1.map UC.q=U.map UC.q/\s.2.1.map UC.body=U.map UC.body/\s.2.2.map au.q=Vs.map au.q) (μ:=fun s=>U.length - s.1) (0,U,Vs) ⟨Qs _,hR,rfl,rfl,rfl⟩ ZU ZI ?_
  rintro⟨k,Uk,Vk⟩ ⟨hk,hRk,HP,l7,HQ⟩
  simp only at hk hRk HP l7 HQ;dsimp only;refine ae ?_;by_cases aI:k < U.length;rotate_left
  ·rw[show decide ((k:Int) < (U.length:Int))=false from Zf Zo];have Z2:k=st.outer.length:=by omega
   rw[Z2]at hRk;refine ae ?_;exact⟨(Uk,Vk),⟨hRk,HP,l7,HQ⟩,ZU,ZI⟩
  rw[show decide ((k:Int) < (U.length:Int))=true from Zt Zo];obtain⟨w,hw⟩:∃w,Uk[k]? =some w:=⟨_,Zg (by rw[hRk.ul];omega)⟩;obtain⟨w0,hw0⟩:∃w0,U[k]? =some w0:=⟨_,Zg aI⟩;have pD:w0.q=w.q:=by
   have:=Cr HP k;rw[hw,hw0]at this;exact(X0 this).symm
  obtain⟨ub,uo,hub,huc⟩:=aC k w0 hw0;subst hub;rw[pD]at huc;have hlay:=Pt st xl Uk Vk k hRk w hw ⟨hB.v,hB.o,hB.a⟩;refine ae ?_;refine kI hlay Zr ZP (fun v Post hv=>?_);obtain⟨U',V',⟨rfl,h1,h2,h3,h4⟩,rfl⟩:=hv;simp only[aE];refine ae ?_;exact⟨(k+1,U',V'),⟨by simp only;omega,h1,h2.trans HP,h3.trans l7,h4.trans HQ⟩,by simp only;omega,ZU,ZI⟩
 rintro⟨Uf,Vf⟩ ⟨S4,HP,l7,HQ⟩
 simp only at S4 HP l7 HQ;dsimp only;have hgetf:∀k,k < st.outer.length->∃w,Uf[k]? =some w/\∃b o,ua=some ⟨b,o,none⟩/\kB.cell b (o+k) (kE w.q)∈ai (.slice ua U.length uc) (U.map fun u=>kL (some u.q)) bC:=fun k hk=>by
  obtain⟨w,hw⟩:∃w,Uf[k]? =some w:=⟨_,Zg (by rw[S4.ul];omega)⟩;obtain⟨w0,hw0⟩:∃w0,U[k]? =some w0:=⟨_,Zg Zo⟩;have pD:w0.q=w.q:=by
   have:=Cr HP k;rw[hw,hw0]at this;exact(X0 this).symm
  obtain⟨b,o,h1,h2⟩:=aC k w0 hw0;exact⟨w,hw,b,o,h1,pD ▸ h2⟩
 have hbodf:∀(k:Nat) w,Uf[k]? =some w->th T (Vf.map au.q) w.body (st.bodies.getD k []):=fun k w hw=>by
  have h1:(U.map UC.body)[k]? =some w.body:=by rw[<- l7,Vi,hw];rfl
  rw[Vi]at h1;obtain⟨w0,hw0,he⟩:=Qx.1 h1;rw[HQ,<- he];exact Hx k w0 hw0
 clear hR HP l7 HQ aC Hx;refine jW ?_;refine VC.join (α:=Value×List (List Value)×List Value×List kB) (aW:=fun _=>[(4,kE q4),(5,kE q5)]) (Hf:=fun s=>[kA q5 0 [.string aQ,.int .i64 aL,s.1],ai (s.1) s.2.1.flatten s.2.2.1,kA q4 0 [.string e0,.int .i64 0,Nz],ai (.slice ua U.length uc) (U.map fun u=>kL (some u.q)) bC,WK Uf Vf,T,s.2.2.2]) (I:=fun s=>st.answer=((List.range st.outer.length).map st.aK,0,0)/\kY 6 s.1 st.outer.length s.2.1.flatten s.2.2.1/\gA 6 (XO (T++s.2.2.2)) ((List.range st.outer.length).map st.aK) s.2.1) ?_ ?_
 ·refine ae ?_;refine VC.loop (α:=Nat×Value×List (List Value)×List Value×List kB) (aW:=fun s=>[(4,kE q4),(5,kE q5),(42,.slice ua U.length uc),(43,vi U.length),(44,vi s.1)]) (Hf:=fun s=>[kA q5 0 [.string aQ,.int .i64 aL,s.2.1],ai (s.2.1) s.2.2.1.flatten s.2.2.2.1,kA q4 0 [.string e0,.int .i64 0,Nz],ai (.slice ua U.length uc) (U.map fun u=>kL (some u.q)) bC,WK Uf Vf,T,s.2.2.2.2]) (I:=fun s=>s.1<=U.length/\(∀i,i < s.1->(st.aK i).Za=false)/\kY 6 s.2.1 s.1 s.2.2.1.flatten s.2.2.2.1/\gA 6 (XO (T++s.2.2.2.2)) ((List.range s.1).map st.aK) s.2.2.1) (μ:=fun s=>U.length - s.1) (0,Nz,[],[],[]) ⟨Qs _,(fun i h=>by omega),.nil,gA.nil⟩ ZU (aj.cut (M:=[kA q5 0 [.string aQ,.int .i64 aL,Nz],kA q4 0 [.string e0,.int .i64 0,Nz],ai (.slice ua U.length uc) (U.map fun u=>kL (some u.q)) bC,WK Uf Vf,T]) ZI (aj.perm (by simp[ai]))) ?_
  rintro⟨j,sv,rows,sp,B⟩ ⟨hj,hnb,gO,dB⟩
  simp only at hj hnb gO dB;dsimp only;obtain⟨sa,sc,rfl⟩:=gO.form;refine ae ?_;by_cases aI:j < U.length;rotate_left
  ·rw[show decide ((j:Int) < (U.length:Int))=false from Zf Zo];have Z1:j=st.outer.length:=by omega
   rw[Z1]at gO dB hnb|-;refine ae ?_;exact⟨(.slice sa st.outer.length sc,rows,sp,B),⟨KG hf Ep hnb,gO,dB⟩,ZU,ZI⟩
  rw[show decide ((j:Int) < (U.length:Int))=true from Zt Zo];have tC:j < st.outer.length:=by omega
  obtain⟨u,hu,ub,uo,hub,huc⟩:=hgetf j tC;subst hub;obtain⟨ca,cc,Ux,Yq,hulc,huv,lW⟩:=S4.cells hu;have hba:=hB.a j;have hbc:=hB.de j;have Ld:=hB.loc j false;have hbv:=hB.loc j true;have lA:∀(k:Nat) x,u.row[k]? =some x->kB.cell u.q k x∈WK Uf Vf:=fun k x hx=>za hu _ (QA _ (Zw _ (kH.2 ⟨k,x,hx,by rw[Qr]⟩)))
  have k0:kB.cell u.q 0 (.int .i64 (st.args.getD j 0))∈WK Uf Vf:=lA 0 _ (by unfold UC.row;rw[Yq];rfl);have k1:kB.cell u.q 1 (.int .i64 (st.locals j false).length)∈WK Uf Vf:=lA 1 _ (by unfold UC.row;rw[hulc];rfl);have k2:kB.cell u.q 2 (.int .i64 (st.locals j true).length)∈WK Uf Vf:=lA 2 _ (by unfold UC.row;rw[huv];rfl);have k3:kB.cell u.q 3 (kL u.outer)∈WK Uf Vf:=lA 3 _ rfl;have k7:kB.cell u.q 7 (.slice ca (st.copied j).length cc)∈WK Uf Vf:=lA 7 _ (by unfold UC.row;rw[Ux];rfl);have k8:kB.cell u.q 8 u.body∈WK Uf Vf:=lA 8 _ rfl;have ew:(st.aK j).Za=(decide (63 < (((st.args.getD j 0+(st.copied j).length+(st.locals j false).length+(if 0 < (st.locals j true).length then 1 else 0):Nat):Int)))||decide (63 < ((st.locals j true).length:Int))):=by
   unfold yA.Za;rw[Gt]
   congr 1
   unfold ah.frame;exact decide_eq_decide.2 (by split <;> omega)
  obtain⟨na,DC⟩:∃na,na=st.args.getD j 0:=⟨_,rfl⟩;obtain⟨nc,δ⟩:∃nc,nc=(st.copied j).length:=⟨_,rfl⟩;obtain⟨nl,Yh⟩:∃nl,nl=(st.locals j false).length:=⟨_,rfl⟩;obtain⟨nv,hnv⟩:∃nv,nv=(st.locals j true).length:=⟨_,rfl⟩;rw[<- DC]at hba k0 ew;rw[<- δ]at hbc k7 ew;rw[<- Yh]at Ld k1 ew;rw[<- hnv]at hbv k2 ew;have hW3:∀z∈kA u.q 0 [.int .i64 na,.int .i64 nl,.int .i64 nv],z∈WK Uf Vf:=fun z hz=>by
   obtain⟨jj,x,hx,rfl⟩:=kH.1 hz;have hz3:jj=0∨jj=1∨jj=2:=by
    exact zEK
   rcases hz3 with rfl|rfl|rfl
   ·obtain rfl:(.int .i64 na:Value)=x:=by simpa using hx
    exact k0
   ·obtain rfl:(.int .i64 nl:Value)=x:=by simpa using hx
    exact k1
   ·obtain rfl:(.int .i64 nv:Value)=x:=by simpa using hx
    exact k2
  refine jW ?_;refine VC.join (α:=Unit) (aW:=fun _=>[(4,kE q4),(5,kE q5),(9,kE u.q),(42,.slice (some ⟨ub,uo,none⟩) U.length uc),(43,vi U.length),(44,vi j)]) (Hf:=fun _=>[kA q5 0 [.string aQ,.int .i64 aL,.slice sa j sc],ai (.slice sa j sc) rows.flatten sp,kA q4 0 [.string e0,.int .i64 0,Nz],ai (.slice (some ⟨ub,uo,none⟩) U.length uc) (U.map fun u=>kL (some u.q)) bC,WK Uf Vf,T,B]) (I:=fun _=>(st.aK j).Za=false) ?_ (fun _ hnbj=>?_)
  ·refine ae ?_;refine kS (us:=[.int .i64 na,.int .i64 nl,.int .i64 nv]) Zr (fun z hz=>by have h9:=hW3 z hz;simp[h9]) rfl ?_;refine ae ?_;refine kI (Ca na nl nv nc ⟨Zo,Zo,Zo,Zo⟩) Zr ZP (fun v Post hv=>?_);obtain⟨rfl,rfl⟩:=hv;simp only[QJ];refine ae ?_;by_cases c1:(63:Int) < ((na+nc+nl+(if 0 < nv then 1 else 0):Nat):Int)
   ·rw[Zt c1];refine ae ?_;refine kK (cX 183 0) Zr ZP (fun v Post hv=>False.elim hv) (fun ch Post hz=>?_);obtain⟨q1,rfl,rfl⟩:=hz;exact⟨[jL q1 183 0],ZI,q1,uQ hf tC (by rw[ew,Zt c1];rfl),rfl,rfl⟩
   rw[Zf c1];refine ae ?_;by_cases c2:(63:Int) < (nv:Int)
   ·rw[Zt c2];refine ae ?_;refine kK (cX 183 0) Zr ZP (fun v Post hv=>False.elim hv) (fun ch Post hz=>?_);obtain⟨q1,rfl,rfl⟩:=hz;exact⟨[jL q1 183 0],ZI,q1,uQ hf tC (by rw[ew,Zt c2,Bool.or_true]),rfl,rfl⟩
   rw[Zf c2];refine ae ?_;exact⟨(),by rw[ew,Zf c1,Zf c2];rfl,ZU,ZI⟩
  refine VC.join (α:=Nat) (aW:=fun nV=>[(4,kE q4),(5,kE q5),(9,kE u.q),(10,kE nV),(42,.slice (some ⟨ub,uo,none⟩) U.length uc),(43,vi U.length),(44,vi j)]) (Hf:=fun nV=>[kA nV 0 [.int .i64 (-1),.int .i64 na,Nz,.int .i64 nl,.int .i64 nv,Nz],kA q5 0 [.string aQ,.int .i64 aL,.slice sa j sc],ai (.slice sa j sc) rows.flatten sp,kA q4 0 [.string e0,.int .i64 0,Nz],ai (.slice (some ⟨ub,uo,none⟩) U.length uc) (U.map fun u=>kL (some u.q)) bC,WK Uf Vf,T,B]) (I:=fun _=>True) ?_ (fun nV _=>?_)
  ·refine ae ?_;refine kM (fun nV=>?_);refine ae ?_;exact⟨nV,trivial,ZU,ZI⟩
  refine VC.join (α:=Unit) (aW:=fun _=>[(4,kE q4),(5,kE q5),(9,kE u.q),(10,kE nV),(42,.slice (some ⟨ub,uo,none⟩) U.length uc),(43,vi U.length),(44,vi j)]) (Hf:=fun _=>[kA nV 0 [.int .i64 (st.outer.getD j (-1)),.int .i64 na,Nz,.int .i64 nl,.int .i64 nv,Nz],kA q5 0 [.string aQ,.int .i64 aL,.slice sa j sc],ai (.slice sa j sc) rows.flatten sp,kA q4 0 [.string e0,.int .i64 0,Nz],ai (.slice (some ⟨ub,uo,none⟩) U.length uc) (U.map fun u=>kL (some u.q)) bC,WK Uf Vf,T,B]) (I:=fun _=>True) ?_ (fun _ _=>?_)
  ·have No:=S4.ou j u hu;have nP:=xl.wf.eZ j;by_cases hn:st.outer.getD j (-1) < 0
   ·rw[if_pos hn]at No;rw[No]at k3;have re:st.outer.getD j (-1)=-1:=by
     have e:st.outer[j]? =some st.outer[j]:=Zg tC;have h1:=xl.wf.low j _ e;have h2:st.outer.getD j (-1)=st.outer[j]:=by rw[V8,e];rfl
     omega
    rw[re];have k3:kB.cell u.q 3 (.pointer none)∈WK Uf Vf:=k3;exact zCH
   ·rw[if_neg hn]at No;obtain⟨w,hw⟩:∃w,Uf[(st.outer.getD j (-1)).toNat]? =some w:=⟨_,Zg (by rw[S4.ul];omega)⟩;rw[hw]at No;rw[No]at k3;have k3:kB.cell u.q 3 (kE w.q)∈WK Uf Vf:=k3;have hwn:=(S4.ar _ w hw).2;have k4:kB.cell w.q 4 (.int .i64 (st.outer.getD j (-1)))∈WK Uf Vf:=za hw _ (QA _ (Zw _ (kH.2 ⟨4,_,by unfold UC.row;rw[hwn,show(((st.outer.getD j (-1)).toNat:Nat):Int)=st.outer.getD j (-1) by omega];rfl,rfl⟩)));exact zCH
  refine VC.join (α:=Value×List kB) (aW:=fun _=>[(4,kE q4),(5,kE q5),(9,kE u.q),(10,kE nV),(42,.slice (some ⟨ub,uo,none⟩) U.length uc),(43,vi U.length),(44,vi j)]) (Hf:=fun s=>[kA nV 0 [.int .i64 (st.outer.getD j (-1)),.int .i64 na,s.1,.int .i64 nl,.int .i64 nv,Nz],s.2,kA q5 0 [.string aQ,.int .i64 aL,.slice sa j sc],ai (.slice sa j sc) rows.flatten sp,kA q4 0 [.string e0,.int .i64 0,Nz],ai (.slice (some ⟨ub,uo,none⟩) U.length uc) (U.map fun u=>kL (some u.q)) bC,WK Uf Vf,T,B]) (I:=fun s=>js s.2 s.1 (st.aK j).copied) ?_ ?_
  ·refine ae ?_;refine VC.loop (α:=Nat×Value×List Value) (aW:=fun s=>[(4,kE q4),(5,kE q5),(9,kE u.q),(10,kE nV),(42,.slice (some ⟨ub,uo,none⟩) U.length uc),(43,vi U.length),(44,vi j),(100,.slice ca nc cc),(101,vi nc),(102,vi s.1)]) (Hf:=fun s=>[kA nV 0 [.int .i64 (st.outer.getD j (-1)),.int .i64 na,s.2.1,.int .i64 nl,.int .i64 nv,Nz],ai s.2.1 ((((st.aK j).copied).take s.1).flatMap jS) s.2.2,kA q5 0 [.string aQ,.int .i64 aL,.slice sa j sc],ai (.slice sa j sc) rows.flatten sp,kA q4 0 [.string e0,.int .i64 0,Nz],ai (.slice (some ⟨ub,uo,none⟩) U.length uc) (U.map fun u=>kL (some u.q)) bC,WK Uf Vf,T,B]) (I:=fun s=>s.1<=nc/\kY 4 s.2.1 s.1 ((((st.aK j).copied).take s.1).flatMap jS) s.2.2) (μ:=fun s=>nc - s.1) (0,Nz,[]) ⟨Qs _,.nil⟩ ZU (aj.cut (M:=[kA nV 0 [.int .i64 (st.outer.getD j (-1)),.int .i64 na,Nz,.int .i64 nl,.int .i64 nv,Nz],kA q5 0 [.string aQ,.int .i64 aL,.slice sa j sc],ai (.slice sa j sc) rows.flatten sp,kA q4 0 [.string e0,.int .i64 0,Nz],ai (.slice (some ⟨ub,uo,none⟩) U.length uc) (U.map fun u=>kL (some u.q)) bC,WK Uf Vf,T,B]) ZI (aj.perm (by simp[ai]))) ?_;have hcpl:(st.aK j).copied.length=nc:=by rw[δ];exact Vv _
   rintro⟨k,rv,rsp⟩ ⟨hk,GU⟩
   simp only at hk GU;dsimp only;obtain⟨ra,rc,rfl⟩:=GU.form;refine ae ?_;by_cases HF:k < nc;rotate_left
   ·rw[show decide ((k:Int) < (nc:Int))=false from Zf Zo];have Z2:nc=k:=by omega
    subst Z2;have fK:(st.aK j).copied.take nc=(st.aK j).copied:=Qc Zo;rw[fK]at GU|-;refine ae ?_;refine⟨(.slice ra nc rc,ai (.slice ra nc rc) ((st.aK j).copied.flatMap jS) rsp),?_,ZU,ZI⟩;have:=Bu (B:=[]) (rs:=(st.aK j).copied) (by rw[hcpl];exact GU);simpa only[vd]using this
   rw[show decide ((k:Int) < (nc:Int))=true from Zt Zo];obtain⟨t,ht⟩:∃t,(st.copied j)[k]? =some t:=⟨_,Zg Zo⟩;have htm:=Zv ht;obtain⟨o0,o1,o2,o3,o4,o5⟩:=xl.rF tC htm;have nP:=xl.wf.eZ j;obtain⟨w,hw⟩:∃w,Uf[(st.outer.getD j (-1)).toNat]? =some w:=⟨_,Zg (by rw[S4.ul];omega)⟩;have No:=S4.ou j u hu;rw[if_neg Zo,hw]at No;rw[No]at k3;have k3:kB.cell u.q 3 (kE w.q)∈WK Uf Vf:=k3;have l6:=ya st xl hB Uf Vf S4 _ w hw t o2 (by
    by_cases e:t.1=(st.outer.getD j (-1)).toNat
    ·exact .inl ⟨e,o4,by rw[<- e];exact o5,fun c=>by rw[<- e];exact xl.SM htm c⟩
    ·rcases o1 with c|c
     ·exact absurd c e
     ·exact .inr ⟨e,c⟩)
   obtain⟨cb,co,rfl,Hz⟩:=lW k (qU Uf t.1,t.2) (by unfold z4;rw[Vi,ht];rfl);have hcm:∀z∈kA cb (co+k*2) [kE (qU Uf t.1),.int .i64 t.2],z∈WK Uf Vf:=fun z hz=>za hu _ (Hz z hz)
   have hrk:(st.aK j).copied[k]? =some ⟨5,st.place (st.outer.getD j (-1)).toNat t,0,e0⟩:=by
    show((st.copied j).map _)[k]? =_;rw[Vi,ht];rfl
   obtain⟨pl,ii⟩:∃pl,pl=st.place (st.outer.getD j (-1)).toNat t:=⟨_,rfl⟩;rw[<- ii]at l6 hrk;have fK:(st.aK j).copied.take (k+1)=(st.aK j).copied.take k++[⟨5,pl,0,e0⟩]:=by rw[QY,hrk];rfl
   generalize hqt:qU Uf t.1=qt at l6 hcm;unfold fT at l6;refine ae ?_;refine kS (us:=[kE qt,.int .i64 t.2]) Zr (fun z hz=>by have h9:=hcm z hz;simp[h9]) rfl ?_;refine ae ?_;refine kM (fun fB=>?_);refine ae ?_;refine VC.draws ⟨?_,?_,trivial⟩
   all_goals
    refine ae ?_;refine kI l6 Zr ZP (fun v Post hv=>?_);obtain⟨rfl,rfl⟩:=hv;simp only[aE];refine ae ?_;refine kg (out:=[.int .u8 5,.int .i64 pl,.int .i64 0,.string e0]) Zr Zr (fun rr=>?_);refine ae ?_;refine j8 (k:=k) (m:=1) (xs:=((st.aK j).copied.take k).flatMap jS) (sp:=rsp) (ys:=[.int .u8 5,.int .i64 pl,.int .i64 0,.string e0]) Zr Zr GU ZK Zr ?_ rfl Zr Zr Zd Zo (fun cq aY ax=>?_)
    ·exact AI
    have fJ:((st.aK j).copied.take k).flatMap jS++([.int .u8 5,.int .i64 pl,.int .i64 0,.string e0]:List Value)=((st.aK j).copied.take (k+1)).flatMap jS:=by
     rw[fK,vx,V0];rfl
    rw[fJ]at ax|-;obtain⟨lF,lG,rfl⟩:=ax.form;refine ae ?_;exact⟨(k+1,.slice lF (k+1) lG,aY),⟨by simp only;omega,ax⟩,by simp only;omega,ZU,ZI⟩
  rintro⟨cv,Bc⟩ Uw
  simp only at Uw;dsimp only;obtain⟨Hi,Hj,hcve⟩:∃Hi Hj,cv=.slice Hi (st.aK j).copied.length Hj:=let⟨e1,e2,e3,_⟩:=Uw;⟨e1,e2,e3⟩;subst hcve;obtain⟨Iv,hncp⟩:∃Iv,Iv=(st.aK j).copied.length:=⟨_,rfl⟩;rw[<- hncp]at Uw|-;have hbj:=hbodf j u hu;obtain⟨l,hl⟩:∃l,l=st.bodies.getD j []:=⟨_,rfl⟩;rw[<- hl]at hbj;have OL:st.bodies[j]? =some l:=by
   rw[hl,V8,Zg (by rw[xl.wf.bl];exact tC)];rfl
  have hlraw:=xl.bd j l OL;have JU:=hBw l (Zv OL);have Ln:=PN.Pv l;have hub:(st.aK j).body=l.map (lR st j):=by
   show pM st j (st.bodies.getD j [])=_;rw[<- hl,rM]
  obtain⟨ba,bc,bk,bo,bus,hbv2,hba2,hbm,hbr⟩:=hbj;rw[hbv2]at k8;refine VC.join (α:=Value×List kB) (aW:=fun _=>[(4,kE q4),(5,kE q5),(9,kE u.q),(10,kE nV),(42,.slice (some ⟨ub,uo,none⟩) U.length uc),(43,vi U.length),(44,vi j)]) (Hf:=fun s=>[kA nV 0 [.int .i64 (st.outer.getD j (-1)),.int .i64 na,.slice Hi Iv Hj,.int .i64 nl,.int .i64 nv,s.1],Bc,s.2,kA q5 0 [.string aQ,.int .i64 aL,.slice sa j sc],ai (.slice sa j sc) rows.flatten sp,kA q4 0 [.string e0,.int .i64 0,Nz],ai (.slice (some ⟨ub,uo,none⟩) U.length uc) (U.map fun u=>kL (some u.q)) bC,WK Uf Vf,T,B]) (I:=fun s=>uK (T++s.2) s.1 (st.aK j).body) ?_ ?_
  ·refine ae ?_;refine VC.loop (α:=Nat×Value×List (List Value)×List Value×List kB) (aW:=fun s=>[(4,kE q4),(5,kE q5),(9,kE u.q),(10,kE nV),(42,.slice (some ⟨ub,uo,none⟩) U.length uc),(43,vi U.length),(44,vi j),(122,.slice ba l.length bc),(123,vi l.length),(124,vi s.1)]) (Hf:=fun s=>[kA nV 0 [.int .i64 (st.outer.getD j (-1)),.int .i64 na,.slice Hi Iv Hj,.int .i64 nl,.int .i64 nv,s.2.1],ai s.2.1 s.2.2.1.flatten s.2.2.2.1,Bc,s.2.2.2.2,kA q5 0 [.string aQ,.int .i64 aL,.slice sa j sc],ai (.slice sa j sc) rows.flatten sp,kA q4 0 [.string e0,.int .i64 0,Nz],ai (.slice (some ⟨ub,uo,none⟩) U.length uc) (U.map fun u=>kL (some u.q)) bC,WK Uf Vf,T,B]) (I:=fun s=>s.1<=l.length/\kY 11 s.2.1 s.1 s.2.2.1.flatten s.2.2.2.1/\eO (T++s.2.2.2.2) ((l.take s.1).map (lR st j)) s.2.2.1) (μ:=fun s=>l.length - s.1) (0,Nz,[],[],[]) ⟨Qs _,.nil,eO.nil _⟩ ZU (aj.cut (M:=[kA nV 0 [.int .i64 (st.outer.getD j (-1)),.int .i64 na,.slice Hi Iv Hj,.int .i64 nl,.int .i64 nv,Nz],Bc,kA q5 0 [.string aQ,.int .i64 aL,.slice sa j sc],ai (.slice sa j sc) rows.flatten sp,kA q4 0 [.string e0,.int .i64 0,Nz],ai (.slice (some ⟨ub,uo,none⟩) U.length uc) (U.map fun u=>kL (some u.q)) bC,WK Uf Vf,T,B]) ZI (aj.perm (by simp[ai]))) ?_
   rintro⟨k,pv,aD,IL,Bb⟩ ⟨hk,Td,CQ⟩
   simp only at hk Td CQ;dsimp only;obtain⟨pa,pc,rfl⟩:=Td.form;refine ae ?_;by_cases HF:k < l.length;rotate_left
   ·rw[show decide ((k:Int) < (l.length:Int))=false from Zf Zo];have Z2:k=l.length:=by omega
    subst Z2;rw[Qa,<- hub]at CQ;have Yd:(st.aK j).body.length=l.length:=by rw[hub,Vv]
    have GQ:=Kh (l:=(st.aK j).body) (by rw[Yd];exact Td) CQ;refine ae ?_;refine⟨(.slice pa l.length pc,ai (.slice pa l.length pc) aD.flatten IL++Bb),?_,ZU,aj.cut (M:=[kA nV 0 [.int .i64 (st.outer.getD j (-1)),.int .i64 na,.slice Hi Iv Hj,.int .i64 nl,.int .i64 nv,.slice pa l.length pc],ai (.slice pa l.length pc) aD.flatten IL,Bc,Bb,kA q5 0 [.string aQ,.int .i64 aL,.slice sa j sc],ai (.slice sa j sc) rows.flatten sp,kA q4 0 [.string e0,.int .i64 0,Nz],ai (.slice (some ⟨ub,uo,none⟩) U.length uc) (U.map fun u=>kL (some u.q)) bC,WK Uf Vf,T,B]) ZI (aj.perm ?_)⟩
    ·refine GQ.more fun y hy=>?_
     simp only[Q7]at hy|-;rcases hy with hy|hy|hy
     ·exact .inr (.inl hy)
     ·exact .inl hy
     ·exact .inr (.inr hy)
    ·simp only[V6,V7,vd];refine vU _ ?_;generalize ai (.slice pa l.length pc) aD.flatten IL=P;rw[vZ];refine(QO P Bc _).trans ?_;exact vW _
   rw[show decide ((k:Int) < (l.length:Int))=true from Zt Zo];obtain rfl:=hba2 Zo;obtain⟨x,hxj⟩:∃x,l[k]? =some x:=⟨_,Zg HF⟩;have hxm:=Zv hxj;have Tb:=hbm k HF;have O5:=hbr k x hxj;have aU:=Hp st xl hB Uf Vf S4 j u hu T _ x (Qj _) (by have:=PN.YM hxm;omega) _ O5 (p7 hlraw x hxm);generalize bus k=uj at*;obtain⟨f1,f2,f3,f4,f5,f6,f7,r1,r2,r3,p1,p2,p3,k1,k2,k3,rfl⟩:=iG O5;have fK:(l.take (k+1)).map (lR st j)=(l.take k).map (lR st j)++[lR st j x]:=by
    rw[QY,hxj,Q0];rfl
   refine ae ?_;refine kS Zr (fun z hz=>by have h9:=Tb z hz;simp[h9]) rfl ?_;refine ae ?_;refine kM (fun q14=>?_);refine ae ?_;refine VC.draws ⟨?_,?_,trivial⟩
   all_goals
    refine ae ?_;refine kI aU Zr ZP (fun v Post hv=>?_);obtain⟨ws',B3,⟨rfl,hp⟩,rfl⟩:=hv;simp only[aE];obtain⟨pn,sM⟩:∃pn,pn=lR st j x:=⟨_,rfl⟩;rw[<- sM]at hp fK;have rh:=hp;obtain⟨g1,g2,g3,g4,g5,g7,s1,s3,t1,t3,_,_,_,rfl,_⟩:=RG rh;refine ae ?_;refine kg (out:=(rP pn.kind pn.name g1 g2 g3 g4 g5 pn.lit.items.length g7 s1 pn.refs.length s3 pn.unit pn.super t1 pn.kids.length t3)) Zr Zr (fun rr=>?_);refine ae ?_;refine j8 (k:=k) (m:=1) (xs:=aD.flatten) (sp:=IL) (ys:=(rP pn.kind pn.name g1 g2 g3 g4 g5 pn.lit.items.length g7 s1 pn.refs.length s3 pn.unit pn.super t1 pn.kids.length t3)) Zr Zr Td ZK Zr ?_ rfl Zr Zr Zd Zo (fun cq aY ax=>?_)
    ·exact AI
    have fJ:aD.flatten++((rP pn.kind pn.name g1 g2 g3 g4 g5 pn.lit.items.length g7 s1 pn.refs.length s3 pn.unit pn.super t1 pn.kids.length t3):List Value)=(aD++[((rP pn.kind pn.name g1 g2 g3 g4 g5 pn.lit.items.length g7 s1 pn.refs.length s3 pn.unit pn.super t1 pn.kids.length t3):List Value)]).flatten:=by simp
    rw[fJ]at ax|-;obtain⟨lF,lG,rfl⟩:=ax.form;refine ae ?_;refine⟨(k+1,.slice lF (k+1) lG,aD++[(rP pn.kind pn.name g1 g2 g3 g4 g5 pn.lit.items.length g7 s1 pn.refs.length s3 pn.unit pn.super t1 pn.kids.length t3)],aY,Bb++B3),⟨by simp only;omega,ax,?_⟩,by simp only;omega,ZU,?_⟩
    ·show eO (T++(Bb++B3)) ((l.take (k+1)).map (lR st j)) _;rw[fK];refine(CQ.more fun y hy=>?_).snoc (hp.more fun y hy=>?_)
     ·simp only[Q7]at hy|-;exact hy.elim .inl fun h=>.inr (.inl h)
     ·simp only[Q7]at hy|-;exact hy.elim .inl fun h=>.inr (.inr h)
    ·simp only;refine aj.cut (M:=[kA nV 0 [.int .i64 (st.outer.getD j (-1)),.int .i64 na,.slice Hi Iv Hj,.int .i64 nl,.int .i64 nv,.slice lF (k+1) lG],ai (.slice lF (k+1) lG) (aD++[((rP pn.kind pn.name g1 g2 g3 g4 g5 pn.lit.items.length g7 s1 pn.refs.length s3 pn.unit pn.super t1 pn.kids.length t3):List Value)]).flatten aY,Bc,Bb,B3,kA q5 0 [.string aQ,.int .i64 aL,.slice sa j sc],ai (.slice sa j sc) rows.flatten sp,kA q4 0 [.string e0,.int .i64 0,Nz],ai (.slice (some ⟨ub,uo,none⟩) U.length uc) (U.map fun u=>kL (some u.q)) bC,WK Uf Vf,T,B]) ZI (aj.perm Zs)
  rintro⟨bv2,Bb⟩ JM
  simp only at JM;dsimp only;obtain⟨xa,xc,hbv3⟩:∃xa xc,bv2=.slice xa (st.aK j).body.length xc:=let⟨e1,e2,_,_,_,e3,_⟩:=JM;⟨e1,e2,e3⟩;subst hbv3;obtain⟨nb,hnb2⟩:∃nb,nb=(st.aK j).body.length:=⟨_,rfl⟩;rw[<- hnb2]at JM|-;have hurow:XO (T++(B++(Bc++Bb))) (st.aK j) [.int .i64 (st.outer.getD j (-1)),.int .i64 na,.slice Hi Iv Hj,.int .i64 nl,.int .i64 nv,.slice xa nb xc]:=by
   refine⟨.slice Hi Iv Hj,.slice xa nb xc,?_,Uw.more fun y hy=>?_,JM.more fun y hy=>?_⟩
   ·rw[DC,Yh,hnv];rfl
   ·simp only[Q7];exact .inr (.inr (.inl hy))
   ·simp only[Q7]at hy|-;exact hy.elim .inl fun h=>.inr (.inr (.inr h))
  have hrg:(List.range (j+1)).map st.aK=(List.range j).map st.aK++[st.aK j]:=by rw[List.range_succ,Q0];rfl
  refine ae ?_;refine kg (out:=[.int .i64 (st.outer.getD j (-1)),.int .i64 na,.slice Hi Iv Hj,.int .i64 nl,.int .i64 nv,.slice xa nb xc]) Zr Zr (fun rr=>?_);refine ae ?_;refine j8 (k:=j) (m:=1) (xs:=rows.flatten) (sp:=sp) (ys:=[.int .i64 (st.outer.getD j (-1)),.int .i64 na,.slice Hi Iv Hj,.int .i64 nl,.int .i64 nv,.slice xa nb xc]) Zr Zr gO ZK Zr ?_ rfl Zr Zr Zd Zo (fun cq aY ax=>?_)
  ·exact AI
  have fJ:rows.flatten++([.int .i64 (st.outer.getD j (-1)),.int .i64 na,.slice Hi Iv Hj,.int .i64 nl,.int .i64 nv,.slice xa nb xc]:List Value)=(rows++[([.int .i64 (st.outer.getD j (-1)),.int .i64 na,.slice Hi Iv Hj,.int .i64 nl,.int .i64 nv,.slice xa nb xc]:List Value)]).flatten:=by simp
  rw[fJ]at ax|-;obtain⟨lF,lG,rfl⟩:=ax.form;refine ae ?_;refine⟨(j+1,.slice lF (j+1) lG,rows++[[.int .i64 (st.outer.getD j (-1)),.int .i64 na,.slice Hi Iv Hj,.int .i64 nl,.int .i64 nv,.slice xa nb xc]],aY,B++(Bc++Bb)),⟨by simp only;omega,?_,ax,?_⟩,by simp only;omega,ZU,?_⟩
  ·intro i hi;by_cases e:i=j
   ·subst e;exact hnbj
   ·exact hnb i (by simp only at hi;omega)
  ·show gA 6 (XO (T++(B++(Bc++Bb)))) ((List.range (j+1)).map st.aK) _;rw[hrg];refine(dB.imp fun x r hx=>hx.more fun y hy=>?_).snoc rfl hurow;simp only[Q7]at hy|-;exact hy.elim .inl fun h=>.inr (.inl h)
  ·simp only;refine aj.cut (M:=[kA q5 0 [.string aQ,.int .i64 aL,.slice lF (j+1) lG],ai (.slice lF (j+1) lG) (rows++[([.int .i64 (st.outer.getD j (-1)),.int .i64 na,.slice Hi Iv Hj,.int .i64 nl,.int .i64 nv,.slice xa nb xc]:List Value)]).flatten aY,kA q4 0 [.string e0,.int .i64 0,Nz],ai (.slice (some ⟨ub,uo,none⟩) U.length uc) (U.map fun u=>kL (some u.q)) bC,WK Uf Vf,T,B,Bc,Bb]) ZI (aj.perm Zs)
 rintro⟨Gv,rows,sp,B⟩ ⟨Lc,husl,O6⟩
 simp only at Lc husl O6;dsimp only;have Lo:((List.range st.outer.length).map st.aK).length=st.outer.length:=by simp
 have UT:NP (ai Gv rows.flatten sp++(T++B)) Gv ((List.range st.outer.length).map st.aK):=Ck.imp (Xo (B:=T++B) (by rw[Lo];exact husl) O6) (fun _ h=>h) fun x r hx=>hx.more fun y hy=>Q8 _ hy
 obtain⟨na,nc,rfl⟩:=husl.form;refine ae ?_;refine jJ ⟨.inr rfl,_,[ai (.slice na st.outer.length nc) rows.flatten sp++(T++B)],.aS (us:=[.string aQ,.int .i64 aL,.slice na st.outer.length nc]) Zr Zr (fun y hy=>by simp only[V6,Q7];repeat (first|exact Or.inl hy|refine Or.inr ?_)) .nil,aj.cut (M:=[ai (.slice na st.outer.length nc) rows.flatten sp,T,B]) ZI (aj.perm Zs),⟨_,_,⟨Lc,rfl,UT⟩,rfl⟩⟩
set_option maxHeartbeats 3200000
def NM(qs:List Nat)(unit fM:Nat)(arg own:Bool)(fv:Value)(len:Nat)(J:List Nat->List kB->Prop):Prop:=
 ∀(st:ah) U Vs ps A (k:Nat),cy st U Vs->U.map UC.q=qs->unit < st.outer.length->st.args.getD unit 0=fM->st.vars.length < 1073741824->J ps A->ps.length=k->k < len->
  dj Tryz.prog fv [vi k] [A,WK U Vs] (fun r Post=>∃U' y A',(r=kE y.q/\(∀nm,cy (st.aZ ⟨nm,unit,arg,if arg&&own then k else -1⟩) U' (Vs++[y]))/\U'.map UC.q=U.map UC.q/\U'.map UC.body=U.map UC.body/\J (ps++[y.q]) A')/\Post=[A',WK U' (Vs++[y])])
theorem rH(unit:Nat)(arg own:Bool)(p:Int)(l:List ByteArray)(i:Nat)(st:ah)(env:List Nat){e:Nat×Int}(h:st.f=some e):(kO unit arg own p l i st env).1.f=some e:=(zE unit arg own p l i st env).f e h
theorem KN(unit:Nat)(arg own:Bool)(p:Int)(nm:ByteArray)(r:List ByteArray)(i:Nat)(st:ah)(env:List Nat)(h:jt st.vars env nm=none):
 kO unit arg own p (nm::r) i st env=kO unit arg own p r (i+1) (st.aZ ⟨nm,unit,arg,if arg&&own then i else -1⟩) (env++[st.vars.length]):=by
 rw[kO,h];rfl
theorem Oc(unit:Nat)(arg own:Bool)(p:Int)(nm:ByteArray)(r:List ByteArray)(i:Nat)(st:ah)(env:List Nat){v:Nat}(h:jt st.vars env nm=some v)(hf:st.f=none):
 (kO unit arg own p (nm::r) i st env).1.f=some (180,p):=by
 rw[kO,h];refine rH _ _ _ _ _ _ _ _ ?_;simp only[Option.isSome_some,if_true,ah.wrong,hf,Option.isNone_none]
theorem nK(S:List kB)(unit fM:Nat)(arg own:Bool)(p:Int)(l:List ByteArray)(lv:Value)(hl:du S lv l)(fv:Value)(J:List Nat->List kB->Prop)
 (st:ah) (U:List UC) (Vs:List au) (hmk:NM (U.map UC.q) unit fM arg own fv l.length J) (hR:cy st U Vs) (hun:unit < st.outer.length) (DC:st.args.getD unit 0=fM) (hf:st.f=none) (hb:st.vars.length+l.length < 1073741824) (A:List kB) (hJ:J [] A) (env:List Nat) (b:Nat) (es:Array MapEntry) (c:Nat) (hs:wn st Vs env es c):
 jb Tryz.prog 108 [.map (some b),.int .i64 p,lv,fv] [A,WK U Vs,[.obj b (.map es c)],S]
  (fun v Post=>∃b' cp c' U' nM A',((kO unit arg own p l 0 st env).1.f=none/\v=.map (some b')/\cy (kO unit arg own p l 0 st env).1 U' nM/\U'.map UC.q=U.map UC.q/\U'.map UC.body=U.map UC.body/\Vs.map au.q <+:nM.map au.q/\wn (kO unit arg own p l 0 st env).1 nM (kO unit arg own p l 0 st env).2 cp c'/\
    J ((nM.map au.q).drop Vs.length) A')/\Post=[A',WK U' nM,[.obj b' (.map cp c')],[.obj b (.map es c)],S])
  (fun ch Post=>(kO unit arg own p l 0 st env).1.f=some (180,p)/\∃q,ch=oI q/\Post=[S,jL q 180 p]):=by
 obtain⟨la,lc,rfl,Lm,dz⟩:=hl;refine jb.intro low108 (by simp[n108]) ?_;refine ae ?_;refine kI (Hg b es c) Zr ZP (fun v Post hv=>?_);obtain⟨b',rfl,rfl⟩:=hv;simp only[aE];refine ae ?_;refine VC.loop (α:=Nat×ah×List Nat×List UC×List au×List kB×Array MapEntry×Nat) (aW:=fun s=>[(1,.int .i64 p),(3,fv),(9,.map (some b')),(14,.slice la l.length lc),(15,vi l.length),(16,vi s.1)])
  (Hf:=fun s=>[s.2.2.2.2.2.1,WK s.2.2.2.1 s.2.2.2.2.1,[.obj b' (.map s.2.2.2.2.2.2.1 s.2.2.2.2.2.2.2)],[.obj b (.map es c)],S])
  (I:=fun s=>s.1<=l.length/\kO unit arg own p l 0 st env=kO unit arg own p (l.drop s.1) s.1 s.2.1 s.2.2.1/\cy s.2.1 s.2.2.2.1 s.2.2.2.2.1/\s.2.1.f=none/\s.2.1.outer=st.outer/\s.2.1.args=st.args/\s.2.1.vars.length=st.vars.length+s.1/\s.2.2.2.1.map UC.q=U.map UC.q/\s.2.2.2.1.map UC.body=U.map UC.body/\Vs.map au.q <+:s.2.2.2.2.1.map au.q/\
    wn s.2.1 s.2.2.2.2.1 s.2.2.1 s.2.2.2.2.2.2.1 s.2.2.2.2.2.2.2/\J ((s.2.2.2.2.1.map au.q).drop Vs.length) s.2.2.2.2.2.1) (μ:=fun s=>l.length - s.1) (0,st,env,U,Vs,A,es,c)
  ⟨Qs _,rfl,hR,hf,rfl,rfl,rfl,rfl,rfl,QT _,hs,by simpa[List.drop_eq_nil_of_le]using hJ⟩ ZU ZI ?_
 have hvl0:=hR.vl;clear hR hf hs hJ
 rintro⟨j,bJ,Aa,U1,Vs1,A1,es1,c1⟩ ⟨hj,hd,hR,hf,ho,ha,CR,hq,hqb,CP,hs,hJ⟩
 simp only at hj hd hR hf ho ha CR hq hqb CP hs hJ;dsimp only;refine ae ?_;by_cases aI:j < l.length;rotate_left
 ·rw[show decide ((j:Int) < (l.length:Int))=false from Zf Zo];have tC:j=l.length:=by omega
  rw[tC,List.drop_length,kO]at hd;refine ae ?_;refine jJ (kG (Post:=[A1,WK U1 Vs1,[.obj b' (.map es1 c1)],[.obj b (.map es c)],S]) (.inr rfl) (.tmp (v:=.map (some b')) Zr .nil) ⟨b',es1,c1,U1,Vs1,A1,⟨?_,rfl,?_,hq,hqb,CP,?_,hJ⟩,rfl⟩ ZI)
  ·rw[hd];exact hf
  ·rw[hd];exact hR
  ·rw[hd];exact hs
 rw[show decide ((j:Int) < (l.length:Int))=true from Zt Zo];obtain⟨nm,Tc⟩:∃nm,l[j]? =some nm:=⟨_,Zg aI⟩;obtain⟨lb,lo,rfl,hm,JW⟩:=dz j nm Tc;have OO:l.drop j=nm::l.drop (j+1):=by
  rw[vh aI]
  congr 1
  rw[Zg aI]at Tc;exact X0 Tc
 rw[OO]at hd;obtain⟨hg1,hg2⟩:=hs.find nm;refine ae ?_;refine wd (E:=zw) (V:=fun b=>kL (some b)) (k:=nm) Zr Zr rfl (.there (.there .here)) hs.is ?_;rw[hg1];cases HC:jt bJ.vars Aa nm with
 |some v=>
  have iw:=Oc unit arg own p nm (l.drop (j+1)) j bJ Aa HC hf;rw[<- hd]at iw;simp only[mo,Qz,kL,if_false,vJ];refine ae ?_;refine kK (cX 180 p) Zr ZP (fun v Post hv=>hv.elim) (fun ch Post hz=>?_);obtain⟨q,rfl,rfl⟩:=hz;exact⟨[S,jL q 180 p],ZI,iw,q,rfl,rfl⟩
 |none=>
  have DF:=KN unit arg own p nm (l.drop (j+1)) j bJ Aa HC;rw[DF]at hd;simp only[mo,Qy,if_false,vJ];refine ae ?_;refine dR Zr (hmk bJ U1 Vs1 _ A1 j hR hq (by rw[ho];exact hun) (by rw[ha];exact DC) Zo hJ (by rw[Vr,Vv,hR.vl,CR,hvl0];omega) aI) Zr ZP (fun v Post hv=>?_);obtain⟨U2,y,A2,⟨rfl,JK,l7,hqb2,hJ2⟩,rfl⟩:=hv;simp only[aE];refine ae ?_;refine wa (E:=zw) (V:=fun b=>kL (some b)) (k:=nm) (v:=y.q) Zr Zr Zr rfl ZK hs.is (fun Dx c2 xp=>?_);refine ae ?_;have ii:Vs.length<=Vs1.length:=by
   obtain⟨r,hr⟩:=CP;have:=congrArg List.length hr;simp only[Vo,Vv]at this;omega
  refine⟨(j+1,bJ.aZ ⟨nm,unit,arg,if arg&&own then j else -1⟩,Aa++[bJ.vars.length],U2,Vs1++[y],A2,Dx,c2),⟨by simp only;omega,hd,JK nm,hf,ho,ha,?_,l7.trans hq,hqb2.trans hqb,?_,hs.add hR.vl HC xp,?_⟩,by simp only;omega,ZU,ZI⟩
  ·show(bJ.vars++[_]).length=_;rw[Vo,CR];rfl
  ·simp only[Q0];exact CP.trans (QS _ _)
  ·simp only[Q0,Q3,Q6];rw[List.drop_append_of_le_length (by rw[Vv];exact ii)];exact hJ2
theorem iS {qs:List Nat}{U:List UC}(h:U.map UC.q=qs){unit uq:Nat}(hq:qs[unit]? =some uq):∃u,U[unit]? =some u/\u.q=uq:=by
 rw[<- h,Vi]at hq;obtain⟨u,h1,h2⟩:=Qx.1 hq;exact⟨u,h1,h2⟩
theorem mk_arg(qs:List Nat)(unit fM uq k:Nat)(hq:qs[unit]? =some uq)(hn:fM < 1073741824):NM qs unit fM true true (.func (.func 109) #[] #[kE k]) fM (fun _ A=>A=kA k 0 [kE uq]):=by
 intro st U Vs ps A j hR UK hun DC hb hJ GQ hj;subst hJ;obtain⟨u,hu,rfl⟩:=iS UK hq;have hf:ao Tryz.prog 109 [vi j,kE k] [kA k 0 [kE u.q],WK U Vs] (fun r Post=>∃U' y A',(r=kE y.q/\(∀nm,cy (st.aZ ⟨nm,unit,true,if true&&true then j else -1⟩) U' (Vs++[y]))/\U'.map UC.q=U.map UC.q/\U'.map UC.body=U.map UC.body/\A'=kA k 0 [kE u.q])/\Post=[A',WK U' (Vs++[y])]):=by
  refine ao.intro low109 (by simp[n109]) ?_;refine ae ?_;refine kW Zr (fun q=>?_);simp only[Value.cells];refine ae ?_;refine kG (Post:=[kA k 0 [kE u.q],WK U (Vs++[⟨q,u.q,j,true,false,0⟩])]) (.inr rfl) (.tmp (v:=kE q) Zr .nil) ⟨U,⟨q,u.q,j,true,false,0⟩,kA k 0 [kE u.q],⟨rfl,fun nm=>?_,rfl,rfl,rfl⟩,rfl⟩ ?_
  ·refine cm.aZ (u':=u) hR rfl hu (by simp only[Bool.and_self,if_true];omega) ⟨rfl,rfl,rfl,rfl,rfl⟩ (wt hu).symm rfl ?_ ?_
   ·rw[if_neg (by simp only[Bool.and_self,if_true];omega),vd]
   ·exact(hR.tm unit u hu).2
  ·refine aj.cut (M:=[kA k 0 [kE u.q],kA q 0 [kE u.q,.int .i64 j,.bool true,.bool false,.int .i64 0],WK U Vs]) ZI (aj.perm ?_);simp only[V6,V7,vd];exact vU _ (Gx U Vs ⟨q,u.q,j,true,false,0⟩).symm
 exact dj.bX (first:=#[]) (cap:=#[kE k]) hf
theorem Wj(qs:List Nat)(unit fM uq k len:Nat)(hq:qs[unit]? =some uq):NM qs unit fM false true (.func (.func 110) #[] #[kE k]) len (fun _ A=>A=kA k 0 [kE uq]):=by
 intro st U Vs ps A j hR UK hun DC hb hJ GQ hj;subst hJ;obtain⟨u,hu,rfl⟩:=iS UK hq;have hf:ao Tryz.prog 110 [vi j,kE k] [kA k 0 [kE u.q],WK U Vs] (fun r Post=>∃U' y A',(r=kE y.q/\(∀nm,cy (st.aZ ⟨nm,unit,false,if false&&true then j else -1⟩) U' (Vs++[y]))/\U'.map UC.q=U.map UC.q/\U'.map UC.body=U.map UC.body/\A'=kA k 0 [kE u.q])/\Post=[A',WK U' (Vs++[y])]):=by
  refine ao.intro low110 (by simp[n110]) ?_;refine ae ?_;refine kI (ss st U Vs hR unit u hu false hb) Zr ZP (fun v Post hv=>?_);obtain⟨U',y,⟨rfl,h1,h2,h2b⟩,rfl⟩:=hv;simp only[aE];refine ae ?_;exact kG (Post:=[kA k 0 [kE u.q],WK U' (Vs++[y])]) (.inr rfl) (.tmp (v:=kE y.q) Zr .nil) ⟨U',y,_,⟨rfl,h1,h2,h2b,rfl⟩,rfl⟩ ZI
 exact dj.bX (first:=#[]) (cap:=#[kE k]) hf
def cw(ps:List Nat):Value:=match ps.getLast? with|some q=>kE q|none=>.pointer none
theorem P4(qs:List Nat)(unit fM uq k k2 len:Nat)(hq:qs[unit]? =some uq):NM qs unit fM true false (.func (.func 251) #[] #[kE k,kE k2]) len (fun ps A=>A=kA k 0 [kE uq]++kA k2 0 [cw ps]):=by
 intro st U Vs ps A j hR UK hun DC hb hJ GQ hj;subst hJ;obtain⟨u,hu,rfl⟩:=iS UK hq;have hf:ao Tryz.prog 251 [vi j,kE k,kE k2] [kA k 0 [kE u.q]++kA k2 0 [cw ps],WK U Vs] (fun r Post=>∃U' y A',(r=kE y.q/\(∀nm,cy (st.aZ ⟨nm,unit,true,if true&&false then j else -1⟩) U' (Vs++[y]))/\U'.map UC.q=U.map UC.q/\U'.map UC.body=U.map UC.body/\A'=kA k 0 [kE u.q]++kA k2 0 [cw (ps++[y.q])])/\Post=[A',WK U' (Vs++[y])]):=by
  refine ao.intro low251 (by simp[n251]) ?_;refine VC.imp (H':=[kA k 0 [kE u.q],kA k2 0 [cw ps],WK U Vs]) (aj.perm Zs) ?_;refine ae ?_;refine kI (ss st U Vs hR unit u hu true hb) Zr ZP (fun v Post hv=>?_);obtain⟨U',y,⟨rfl,h1,h2,h2b⟩,rfl⟩:=hv;simp only[aE];refine ae ?_;refine kG (Post:=[kA k 0 [kE u.q]++kA k2 0 [cw (ps++[y.q])],WK U' (Vs++[y])]) (.inr rfl) (.tmp (v:=kE y.q) Zr .nil) ⟨U',y,_,⟨rfl,h1,h2,h2b,rfl⟩,rfl⟩ ?_;have e:cw (ps++[y.q])=kE y.q:=by unfold cw;simp
  rw[e];exact aj.cut (M:=[kA k 0 [kE u.q],kA k2 0 [kE y.q],WK U' (Vs++[y])]) ZI (aj.perm Zs)
 exact dj.bX (first:=#[]) (cap:=#[kE k,kE k2]) hf
def jf(tv kv:Value):List Value:=[cv 14,.string e0,cv 0,.int .i64 0,.int .u64 0,.string e0,Nz,Nz,.int .i64 0,.bool false,Nz,tv,kv]
def NF(uq k k2:Nat)(ps:List Nat)(A:List kB):Prop:=∃tv ic,kY 1 tv ps.length (ps.map fun b=>kL (some b)) ic/\A=kA k 0 [kE uq]++(kA k2 0 (jf tv Nz)++ai tv (ps.map fun b=>kL (some b)) ic)
theorem Wi(qs:List Nat)(unit fM uq k k2 len:Nat)(hq:qs[unit]? =some uq)(hlen:len < 1073741824):NM qs unit fM false false (.func (.func 252) #[] #[kE k,kE k2]) len (NF uq k k2):=by
 intro st U Vs ps A j hR UK hun DC hb hJ GQ hj;obtain⟨tv,ic,bh,rfl⟩:=hJ;obtain⟨u,hu,rfl⟩:=iS UK hq;obtain⟨ta,tc,rfl⟩:=bh.form;have hf:ao Tryz.prog 252 [vi j,kE k,kE k2] [kA k 0 [kE u.q]++(kA k2 0 (jf (.slice ta ps.length tc) Nz)++ai (.slice ta ps.length tc) (ps.map fun b=>kL (some b)) ic),WK U Vs] (fun r Post=>∃U' y A',(r=kE y.q/\(∀nm,cy (st.aZ ⟨nm,unit,false,if false&&false then j else -1⟩) U' (Vs++[y]))/\U'.map UC.q=U.map UC.q/\U'.map UC.body=U.map UC.body/\NF u.q k k2 (ps++[y.q]) A')/\Post=[A',WK U' (Vs++[y])]):=by
  refine ao.intro low252 (by simp[n252]) ?_;refine VC.imp (H':=[kA k 0 [kE u.q],kA k2 0 (jf (.slice ta ps.length tc) Nz),ai (.slice ta ps.length tc) (ps.map fun b=>kL (some b)) ic,WK U Vs]) (aj.perm Zs) ?_;unfold jf;refine ae ?_;refine kI (ss st U Vs hR unit u hu false hb) Zr ZP (fun v Post hv=>?_);obtain⟨U',y,⟨rfl,h1,h2,h2b⟩,rfl⟩:=hv;simp only[aE];refine ae ?_;refine kg (out:=[kE y.q]) Zr Zr (fun q2=>?_);refine j8 (k:=ps.length) (m:=1) (xs:=ps.map fun b=>kL (some b)) (sp:=ic) (ys:=[kE y.q]) Zr Zr bh ZK Zr ?_ rfl Zr Zr Zd Zo (fun cq aY ax=>?_)
  ·exact AI
  obtain⟨a',c',rfl⟩:=ax.form;have fJ:(ps.map fun b=>kL (some b))++[kE y.q]=(ps++[y.q]).map fun b=>kL (some b):=by simp[kL]
  rw[fJ]at ax|-;refine ae ?_;refine kG (Post:=[kA k 0 [kE u.q]++(kA k2 0 (jf (.slice a' (ps.length+1) c') (.slice none 0 0))++ai (.slice a' (ps.length+1) c') ((ps++[y.q]).map fun b=>kL (some b)) aY),WK U' (Vs++[y])]) (.inr rfl) (.tmp (v:=kE y.q) Zr .nil) ⟨U',y,_,⟨rfl,h1,h2,h2b,.slice a' (ps.length+1) c',aY,by simpa using ax,rfl⟩,rfl⟩ ?_;unfold jf;exact aj.cut (M:=[kA k 0 [kE u.q],kA k2 0 (jf (.slice a' (ps.length+1) c') (.slice none 0 0)),ai (.slice a' (ps.length+1) c') ((ps++[y.q]).map fun b=>kL (some b)) aY,WK U' (Vs++[y])]) (by unfold jf;exact bE) (aj.perm (by simp[jf]))
 exact dj.bX (first:=#[]) (cap:=#[kE k,kE k2]) hf
end Go.Proofs.YtijnokbblmbpkaaGreatDoor

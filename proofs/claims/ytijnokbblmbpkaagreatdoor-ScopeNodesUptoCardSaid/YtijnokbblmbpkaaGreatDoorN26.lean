/-
  ownNames: lists that came out are their owner's alone.
-/
import Derived.Test.YtijnokbblmbpkaaGreatDoorN25
import Derived.Test.YtijnokbblmbpkaaGreatDoorN6
import Derived.Test.YtijnokbblmbpkaaGreatDoorN11
import Derived.Test.YtijnokbblmbpkaaGreatDoorN7
import Derived.Test.YtijnokbblmbpkaaGreatDoorN22
import Derived.Test.YtijnokbblmbpkaaGreatDoorN24
set_option linter.all false
namespace Go.Proofs.YtijnokbblmbpkaaGreatDoor
open Go Go.V
set_option maxHeartbeats 6400000
set_option maxRecDepth 100000
theorem E9(s:ByteArray):zF .neq (.string s) (.string s)=some (.bool false):=by simp[zF,I7]
theorem Al(lv:Value)(ps:List pF)(lsp:List Value)(hl:kY 1 lv ps.length (ps.map (·.v)) lsp)(GQ:∀p∈ps,OkR 1 p)(hN:ps.length<=1073741824):
 ao Tryz.prog 79 [lv] [ai lv (ps.map (·.v)) lsp,ps.flatMap IF] (fun v Post=>v=.bool true/\Post=[]):=by
 obtain⟨MK,hMK⟩:∃MK:Nat->Nat->Value,MK=fun i k=>.string (zj (zR i k)):=⟨_,rfl⟩
 have hMKe:∀i k,MK i k=.string (zj (zR i k)):=fun i k=>by rw[hMK]
 obtain⟨MB,hMB⟩:∃MB:Nat->Nat->Value,MB=fun i k=>.string (zj (rC i k)):=⟨_,rfl⟩
 have hMBe:∀i k,MB i k=.string (zj (rC i k)):=fun i k=>by rw[hMB]
 obtain⟨ZR,hZR⟩:∃ZR:List Value,ZR=[.string ⟨#[]⟩]:=⟨_,rfl⟩;have hZl:ZR.length=1:=by rw[hZR];rfl
 refine ao.intro low79 (by simp[n79]) ?_;obtain⟨la,lc,hle⟩:=hl.form;have sO:=hl.rd;rw[hle]at sO|-;generalize ai (.slice la ps.length lc) (ps.map (·.v)) lsp=L at sO|-;refine GO ?_;refine VC.loop (α:=Nat) (aW:=fun i=>[(0,.slice la ps.length lc),(3,.slice none 0 0),(4,vi i)]) (Hf:=fun i=>[L,(IH MK 0 i ps).flatMap IF]) (I:=fun i=>i<=ps.length) (μ:=fun i=>ps.length - i) 0 (Qs _) ZU (by rw[RL];exact bE) ?_;intro i hi;refine GO ?_;by_cases aI:i < ps.length
 ·obtain⟨⟨pv,aD,IL⟩,hp⟩:∃p,ps[i]? =some p:=⟨ps[i],Zg aI⟩;have AZ:=Zv hp;obtain⟨HL,ii,sM⟩:=GQ _ AZ;simp only at HL ii sM;obtain⟨b,o,c,Tf,m1⟩:=(show yB 1 L (.slice la ps.length lc) ps.length (ps.map fun q=>q.v)from sO).cell hp;simp only[Value.slice.injEq,true_and]at Tf;obtain⟨rfl,rfl⟩:=Tf;have hg:=nB (mk:=MK) (f:=0) (i:=i) hp;rw[if_neg Zo]at hg;obtain⟨rest,hr1,ez⟩:=K7 (f:=IF) hg;have hr3:=ez ⟨pv,w8 (MK i) 0 aD.length aD,IL⟩;rw[<- RJ hp]at hr3;obtain⟨pa,pc,Td⟩:=HL.form;simp only[Td]at m1;rw[show decide ((i:Int) < (ps.length:Int))=true from Zt Zo];refine GO ?_;refine VC.loop (α:=Nat) (aW:=fun k=>[(0,.slice (some ⟨b,o,none⟩) ps.length lc),(3,Nz),(4,vi i),(5,vi k)]) (Hf:=fun k=>[L,ai (.slice pa aD.length pc) (w8 (MK i) 0 k aD).flatten IL,rest]) (I:=fun k=>k<=aD.length) (μ:=fun k=>aD.length - k) 0 (Qs _) ZU
   (aj.perm (by rw[Io];simp only[V6,V7,vd];refine vU _ ?_;simpa[IF,Td]using hr1)) ?_
  intro k hk;refine GO ?_;by_cases Yd:k < aD.length;rotate_left
  ·obtain rfl:k=aD.length:=by omega
   rw[show decide ((aD.length:Int) < (aD.length:Int))=false from Zf Zo];refine GO ?_;refine⟨i+1,Zo,Zo,ZU,aj.perm ?_⟩;simp only[V6,V7,vd];refine vU _ ?_;simpa[IF,Td]using hr3.symm
  rw[show decide ((k:Int) < (aD.length:Int))=true from Zt Zo];have fJ:=zu (gT (mk:=MK i) (f:=0) (k:=k) ii);rw[zk]at fJ;have JW:=LK (mk:=MK i) (f:=0) (k:=k) Zo ii Yd;rw[Td]at HL;obtain⟨b2,o2,c2,hpe,_,_⟩:=HL.some Zo;simp only[Value.slice.injEq,true_and]at hpe;obtain⟨rfl,rfl⟩:=hpe;have hu:iY [kA b2 o2 ((w8 (MK i) 0 k aD).flatten++IL),L,rest] b2 (o2+k) [MK i k] [kA b2 o2 ((w8 (MK i) 0 (k+1) aD).flatten++IL),L,rest]:=by
   rw[JW,<- List.set_append_left _ _ Zo];exact iY.IZ Zo (by rw[Vo];omega)
  rw[hMKe]at hu;refine GO ?_;refine VC.draws ⟨?_,?_,?_,trivial⟩
  all_goals
   refine GO ?_;refine kQ (sq i k Zo Zo) Zr ?_;refine GO ?_;refine kQ (gU (zR i k) (by unfold zR;omega) (by unfold zR;omega)) Zr ?_;refine GO ?_;refine VO.imp (H':=[kA b2 o2 ((w8 (MK i) 0 k aD).flatten++IL),L,rest]) (aj.perm (by simp only[ai,V6,V7];exact ju _ _ _)) ?_;refine jk (us:=[.string (zj (zR i k))]) Zr Zr Zr Zr Zr hu ?_;refine GO ?_;exact⟨k+1,Zo,Zo,ZU,aj.cut (M:=[L,kA b2 o2 ((w8 (MK i) 0 (k+1) aD).flatten++IL),rest]) ZI (by simp only[ai];exact aj.refl _)⟩
 obtain rfl:i=ps.length:=by omega
 rw[show decide ((ps.length:Int) < (ps.length:Int))=false from Zf Zo];refine GO ?_;refine VC.loop (α:=Nat×Value×List Value×List Value×List kB) (aW:=fun s=>[(0,.slice la ps.length lc),(3,s.2.1),(6,vi s.1)]) (Hf:=fun s=>[L,ai s.2.1 s.2.2.1 s.2.2.2.1,s.2.2.2.2,((IH MK 0 ps.length ps).drop s.1).flatMap IF])
  (I:=fun s=>s.1<=ps.length/\s.2.2.1.length=s.1/\kY 1 s.2.1 s.1 s.2.2.1 s.2.2.2.1/\∀j p,j < s.1->ps[j]? =some p->yB 1 s.2.2.2.2 p.v p.rows.length (w8 (MK j) 0 p.rows.length p.rows).flatten/\∃xv,s.2.2.1[j]? =some xv/\yB 1 s.2.2.2.2 xv (p.rows.length+8) ((w8 (MK j) 0 p.rows.length p.rows).flatten++(tU (MB j) ZR 0 8).flatten)) (μ:=fun s=>ps.length - s.1) (0,Nz,[],[],[]) ⟨Qs _,rfl,.nil,fun j p h=>by omega⟩ ZU
  (aj.perm (by simp[ai])) ?_
 rintro⟨i,lv2,ws,U9,D⟩ ⟨hi,GX,dz,hD⟩
 simp only at hi GX dz hD;obtain⟨ma,mc,rfl⟩:=dz.form;refine GO ?_;by_cases aI:i < ps.length
 ·obtain⟨⟨pv,aD,IL⟩,hp⟩:∃p,ps[i]? =some p:=⟨ps[i],Zg aI⟩;have AZ:=Zv hp;obtain⟨HL,ii,sM⟩:=GQ _ AZ;simp only at HL ii sM;obtain⟨b,o,c,Tf,m1⟩:=(show yB 1 L (.slice la ps.length lc) ps.length (ps.map fun q=>q.v)from sO).cell hp;simp only[Value.slice.injEq,true_and]at Tf;obtain⟨rfl,rfl⟩:=Tf;obtain⟨pa,pc,Td⟩:=HL.form;have OV:=zu (gT (mk:=MK i) (f:=0) (k:=aD.length) ii);rw[zk]at OV;obtain⟨ms,JW⟩:∃ms,ms=(w8 (MK i) 0 aD.length aD).flatten:=⟨_,rfl⟩;have hpo2:kY 1 pv aD.length ms IL:=by
   rw[<- JW]at OV;have Yk:=HL.len;generalize hpf:aD.flatten=pf at HL Yk;generalize aD.length=pn at*;cases HL with
   |mk q1 q2 q3=>exact .mk OV Zo q3
   |nil=>
    have:ms=[]:=List.length_eq_zero_iff.1 Zo;rw[this];exact .nil
  rw[W2 hp];simp only[<- JW]at OV|-;simp only at m1;have hms2:(w8 (MK i) 0 aD.length aD).flatten=ms:=JW.symm;generalize hpnn:aD.length=pn at*;rw[show decide ((i:Int) < (ps.length:Int))=true from Zt Zo];refine GO ?_;refine VC.loop (α:=Nat×Value×List Value×List kB) (aW:=fun s=>[(0,.slice (some ⟨b,o,none⟩) ps.length lc),(3,.slice ma i mc),(6,vi i),(7,s.2.1),(8,vi s.1)]) (Hf:=fun s=>[L,ai (.slice ma i mc) ws U9,D,ai s.2.1 (ms++(tU (MB i) ZR 0 s.1).flatten) s.2.2.1,s.2.2.2,((IH MK 0 ps.length ps).drop (i+1)).flatMap IF])
   (I:=fun s=>s.1<=8/\kY 1 s.2.1 (pn+s.1) (ms++(tU (MB i) ZR 0 s.1).flatten) s.2.2.1/\Kept 1 s.2.2.2 pv pn ms s.2.1 (pn+s.1)) (μ:=fun s=>8 - s.1) (0,pv,IL,[]) ⟨Qs _,by simpa[tU]using hpo2,Kept.start hpo2⟩ ZU
   (aj.perm (by simp[tU])) ?_
  rintro⟨k,xv,GH,E⟩ ⟨hk,hxv,hE⟩
  simp only at hk hxv hE;obtain⟨xa,xc,rfl⟩:=hxv.form;by_cases X4:k < 8
  ·refine GO ?_;simp only[show(k:Int) < 8 by omega,decide_true];refine GO ?_;refine kQ (DV i k Zo Zo) Zr ?_;refine GO ?_;refine kQ (gU (rC i k) (by unfold rC;omega) (by unfold rC;omega)) Zr ?_;refine GO ?_;have lA:(tU (MB i) ZR 0 (k+1)).flatten=(tU (MB i) ZR 0 k).flatten++ZR.set 0 (.string (zj (rC i k))):=by rw[N3,hMBe];simp
   refine kg (out:=ZR.set 0 (.string (zj (rC i k)))) Zr (by rw[hZR];rfl) (fun q3=>?_);have J4:=lA;refine I5 (k:=pn+k) (m:=1) (xs:=ms++(tU (MB i) ZR 0 k).flatten) (sp:=GH) (ys:=ZR.set 0 (.string (zj (rC i k)))) Zr Zr hxv ZK Zr ?_ (by rw[hZR];rfl) (by rw[hZR];rfl) Zr Zd Zo ?_ ?_
   ·exact⟨by rw[Vx,hZl],fun a ha=>by simp only[V6,Q7];exact .inl ha⟩
   ·intro b3 o3 c3 aY hxe ax;rw[vZ,<- J4]at ax|-;simp only[Value.slice.injEq,true_and]at hxe;obtain⟨rfl,rfl⟩:=hxe;refine GO ?_;refine⟨(k+1,.slice (some ⟨b3,o3,none⟩) (pn+k+1) xc,aY,E),⟨by show k+1<=8;omega,ax,?_⟩,by simp only;omega,ZU,ZI⟩;rcases hE with h|⟨h1,b4,o4,c4,h2,h3⟩
    ·exact .inl h
    ·simp only[Value.slice.injEq,X1,Addr.mk.injEq,and_true]at h3;obtain⟨⟨rfl,rfl⟩,_,rfl⟩:=h3;exact .inr ⟨h1,_,_,_,h2,rfl⟩
   ·intro cq aY ax;rw[vZ,<- J4]at ax|-;obtain⟨a',c',rfl⟩:=ax.form;refine GO ?_;exact⟨(k+1,.slice a' (pn+k+1) c',aY,ai (.slice xa (pn+k) xc) (ms++(tU (MB i) ZR 0 k).flatten) GH++E),⟨by show k+1<=8;omega,ax,hE.moved hxv OV Zo⟩,by simp only;omega,ZU,aj.cut (M:=[L,ai (.slice ma i mc) ws U9,D,ai (.slice a' (pn+k+1) c') (ms++(tU (MB i) ZR 0 (k+1)).flatten) aY,ai (.slice xa (pn+k) xc) (ms++(tU (MB i) ZR 0 k).flatten) GH,E,((IH MK 0 ps.length ps).drop (i+1)).flatMap IF]) ZI (aj.perm Zs)⟩
  ·obtain rfl:k=8:=by omega
   refine GO ?_;refine kg (out:=[.slice xa (pn+8) xc]) Zr Zr (fun q3=>?_);refine GO ?_;refine j8 (k:=i) (m:=1) (xs:=ws) (sp:=U9) (ys:=[.slice xa (pn+8) xc]) Zr Zr dz ZK Zr ?_ rfl Zr Zr Zd Zo (fun cq aY ax=>?_)
   ·exact AI
   obtain⟨a',c',rfl⟩:=ax.form;refine GO ?_;have hdone:=hE.done hxv OV Zo;have hx16:yB 1 (ai (.slice xa (pn+8) xc) (ms++(tU (MB i) ZR 0 8).flatten) GH++E) (.slice xa (pn+8) xc) (pn+8) (ms++(tU (MB i) ZR 0 8).flatten):=hxv.rd.mono (fun a ha=>Zw _ ha);refine⟨(i+1,.slice a' (i+1) c',ws++[.slice xa (pn+8) xc],aY,D++(ai (.slice xa (pn+8) xc) (ms++(tU (MB i) ZR 0 8).flatten) GH++E)),⟨by show i+1<=ps.length;omega,by simp[GX],ax,fun j p hj hpj=>?_⟩,by simp only;omega,ZU,aj.cut (M:=[L,ai (.slice a' (i+1) c') (ws++[.slice xa (pn+8) xc]) aY,D,ai (.slice xa (pn+8) xc) (ms++(tU (MB i) ZR 0 8).flatten) GH,E,((IH MK 0 ps.length ps).drop (i+1)).flatMap IF]) ZI (aj.perm Zs)⟩;simp only at hj|-;by_cases JR:j < i
   ·obtain⟨d1,yv,d2,d3⟩:=hD j p JR hpj;exact⟨d1.mono (fun a ha=>Zw _ ha),yv,by rw[VV Zo];exact d2,d3.mono (fun a ha=>Zw _ ha)⟩
   ·obtain rfl:j=i:=by omega
    rw[hp]at hpj;cases hpj;simp only[hpnn,hms2];exact⟨hdone.mono (fun a ha=>Q8 _ ha),_,by rw[Va Zo,GX];simp,hx16.mono (fun a ha=>Q8 _ ha)⟩
 obtain rfl:i=ps.length:=by omega
 have HR:=dz.rd;generalize ai (.slice ma ps.length mc) ws U9=L2 at HR|-;generalize ((IH MK 0 ps.length ps).drop ps.length).flatMap IF=D0;rw[show decide ((ps.length:Int) < (ps.length:Int))=false from Zf Zo];refine GO ?_;refine VC.loop (α:=Nat) (aW:=fun i=>[(0,.slice la ps.length lc),(3,.slice ma ps.length mc),(9,vi i)]) (Hf:=fun i=>[L,L2,D]) (I:=fun i=>i<=ps.length) (μ:=fun i=>ps.length - i) 0 (Qs _) ZU ZI ?_;intro i hi;refine GO ?_;by_cases aI:i < ps.length;rotate_left
 ·skip
  rw[show decide ((i:Int) < (ps.length:Int))=false from Zf Zo];exact zBA
 obtain⟨⟨pv,aD,IL⟩,hp⟩:∃p,ps[i]? =some p:=⟨ps[i],Zg aI⟩;obtain⟨HL,ii,sM⟩:=GQ _ (Zv hp);obtain⟨d1,xv,d2,d3⟩:=hD i _ aI hp;simp only at ii sM d1 d3;obtain⟨b,o,c,Tf,m1⟩:=(show yB 1 L (.slice la ps.length lc) ps.length (ps.map fun q=>q.v)from sO).cell hp;simp only[Value.slice.injEq,true_and]at Tf;obtain⟨rfl,rfl⟩:=Tf;have hwm:yB 1 L2 (.slice ma ws.length mc) ws.length (ws.map fun q=>q):=by rw[List.map_id',GX];exact HR
 obtain⟨b2,o2,c2,hve2,m2⟩:=hwm.cell d2;simp only[Value.slice.injEq,true_and]at hve2;obtain⟨rfl,rfl⟩:=hve2;obtain⟨pa,pc,rfl⟩:=d1.form;obtain⟨xa,xc,rfl⟩:=d3.form;simp only at m1;have OV:=zu (gT (mk:=MK i) (f:=0) (k:=aD.length) ii);rw[zk]at OV;have Hy:∀k,k < aD.length->(w8 (MK i) 0 aD.length aD).flatten[k*1+0]? =some (.string (zj (zR i k))):=fun k hk=>by rw[LJ Zo ii hk hk,hMKe]
 have AU:∀k,k < 8->((w8 (MK i) 0 aD.length aD).flatten++(tU (MB i) ZR 0 8).flatten)[(aD.length+k)*1+0]? =some (.string (zj (rC i k))):=fun k hk=>by
  rw[Va (by rw[OV,Qf];omega),OV,show(aD.length+k)*1+0 - aD.length*1=k*1+0 by rw[Qf];omega];rw[En Zo (fun r hr=>by rw[T3 r hr,hZl]) (T5 hk),List.getElem?_set_self Zo,hMBe]
 have hc3:∀k,k < aD.length->((w8 (MK i) 0 aD.length aD).flatten++(tU (MB i) ZR 0 8).flatten)[k*1+0]? =some (.string (zj (zR i k))):=fun k hk=>by
  have:=Hy k hk;rw[VV (Vh.1 this).1];exact this
 generalize (w8 (MK i) 0 aD.length aD).flatten++(tU (MB i) ZR 0 8).flatten=ms2 at d3 AU hc3;generalize (w8 (MK i) 0 aD.length aD).flatten=ms at d1 Hy;generalize hpnn:aD.length=pn at*;rw[show decide ((i:Int) < (ps.length:Int))=true from Zt Zo];refine GO ?_;refine VC.loop (α:=Nat) (aW:=fun k=>[(0,.slice (some ⟨b,o,none⟩) ps.length lc),(3,.slice (some ⟨b2,o2,none⟩) ps.length mc),(9,vi i),(10,vi pn),(11,vi k)]) (Hf:=fun i=>[L,L2,D]) (I:=fun k=>k<=pn) (μ:=fun k=>pn - k) 0 (Qs _) ZU ZI ?_;intro k hk;refine GO ?_;by_cases Yd:k < pn
 ·obtain⟨b3,o3,c3,hve3,e1⟩:=d1.part (Hy k Yd) Zo;obtain⟨b4,o4,c4,O7,e2⟩:=d3.part (hc3 k Yd) Zo;simp only[Value.slice.injEq,true_and]at hve3 O7;obtain⟨rfl,rfl⟩:=hve3;obtain⟨rfl,rfl⟩:=O7;rw[show decide ((k:Int) < (pn:Int))=true from Zt Zo];refine GO ?_;rw[Nat.mul_one,Qh]at e1 e2;refine VC.seq (VC.free 26 (fun i' v B=>match i' with
   |0=>v=.slice (some ⟨b,o,none⟩) ps.length lc/\B=[]
   |1=>v=vi i/\B=[]
   |2=>v=.pointer (some ⟨b,o+i,none⟩)/\B=[]
   |3=>v=.slice (some ⟨b3,o3,none⟩) pn pc/\B=[]
   |4=>v=vi k/\B=[]
   |5=>v=.pointer (some ⟨b3,o3+k,none⟩)/\B=[]
   |6=>v=.string (zj (zR i k))/\B=[]
   |7=>v=vi i/\B=[]
   |8=>v=vi k/\B=[]
   |9=>v=vi (zR i k)/\B=[]
   |10=>v=.string (zj (zR i k))/\B=[]
   |11=>v=.bool false/\B=[]
   |12=>v=.bool false/\B=[]
   |13=>v=.slice (some ⟨b2,o2,none⟩) ps.length mc/\B=[]
   |14=>v=vi i/\B=[]
   |15=>v=.pointer (some ⟨b2,o2+i,none⟩)/\B=[]
   |16=>v=.slice (some ⟨b4,o4,none⟩) (pn+8) xc/\B=[]
   |17=>v=vi k/\B=[]
   |18=>v=.pointer (some ⟨b4,o4+k,none⟩)/\B=[]
   |19=>v=.string (zj (zR i k))/\B=[]
   |20=>v=vi i/\B=[]
   |21=>v=vi k/\B=[]
   |22=>v=vi (zR i k)/\B=[]
   |23=>v=.string (zj (zR i k))/\B=[]
   |24=>v=.bool false/\B=[]
   |25=>v=.bool false/\B=[]
   |_=>True) Zd Zd Zd ?_ ?_)
  ·intro i' bO vv hg aw hh qY
   match i',bO with
   |0,_=>
    show VO _ _ [⟨some 79,none,.mv (.tmp 0)⟩] _ _ _ _;exact zq (qY 0 _ rfl Zd) lH
   |1,_=>
    show VO _ _ [⟨some 80,none,.mv (.tmp 9)⟩] _ _ _ _;exact zq (qY 9 _ rfl Zd) lH
   |2,_=>
    show VO _ _ [⟨some 81,none,.xA 1 (.tmp 79) (.tmp 80)⟩] _ _ _ _;have e:=hh 0 Zd 79 rfl;rw[(hg 0 Zd).1]at e;have e2:=hh 1 Zd 80 rfl;rw[(hg 1 Zd).1]at e2;exact dh (o':=o+i) e e2 ⟨Zo,Zo⟩ Zs (VO.nil ⟨_,[],rfl,⟨rfl,rfl⟩,aj.perm Zs⟩)
   |3,_=>
    show VO _ _ [⟨some 82,none,.cj (.tmp 81)⟩] _ _ _ _;have e:=hh 2 Zd 81 rfl;rw[(hg 2 Zd).1]at e;exact jI e Zm lH
   |4,_=>
    show VO _ _ [⟨some 83,none,.mv (.tmp 11)⟩] _ _ _ _;exact zq (qY 11 _ rfl Zd) lH
   |5,_=>
    show VO _ _ [⟨some 84,none,.xA 1 (.tmp 82) (.tmp 83)⟩] _ _ _ _;have e:=hh 3 Zd 82 rfl;rw[(hg 3 Zd).1]at e;have e2:=hh 4 Zd 83 rfl;rw[(hg 4 Zd).1]at e2;exact dh (o':=o3+k) e e2 ⟨Zo,Zo⟩ Zs (VO.nil ⟨_,[],rfl,⟨rfl,rfl⟩,aj.perm Zs⟩)
   |6,_=>
    show VO _ _ [⟨some 85,none,.cj (.tmp 84)⟩] _ _ _ _;have e:=hh 5 Zd 84 rfl;rw[(hg 5 Zd).1]at e;exact jI e Zm lH
   |7,_=>
    show VO _ _ [⟨some 86,none,.mv (.tmp 9)⟩] _ _ _ _;exact zq (qY 9 _ rfl Zd) lH
   |8,_=>
    show VO _ _ [⟨some 87,none,.mv (.tmp 11)⟩] _ _ _ _;exact zq (qY 11 _ rfl Zd) lH
   |9,_=>
    show VO _ _ [⟨some 88,none,.call 122 [.tmp 86,.tmp 87]⟩] _ _ _ _;have e:=hh 7 Zd 86 rfl;rw[(hg 7 Zd).1]at e;have e2:=hh 8 Zd 87 rfl;rw[(hg 8 Zd).1]at e2;exact kQ (sq i k Zo Zo) (by simp only[V.gN,V.ev,e,e2]) lH
   |10,_=>
    show VO _ _ [⟨some 89,none,.call 140 [.tmp 88]⟩] _ _ _ _;have e:=hh 9 Zd 88 rfl;rw[(hg 9 Zd).1]at e;exact kQ (gU (zR i k) (by unfold zR;omega) (by unfold zR;omega)) (by simp only[V.gN,V.ev,e]) lH
   |11,_=>
    show VO _ _ [⟨some 90,none,.bin .neq (.tmp 85) (.tmp 89)⟩] _ _ _ _;have e:=hh 6 Zd 85 rfl;rw[(hg 6 Zd).1]at e;have e2:=hh 10 Zd 89 rfl;rw[(hg 10 Zd).1]at e2;exact ec e e2 (E9 _) (VO.nil ⟨_,[],rfl,⟨rfl,rfl⟩,aj.perm Zs⟩)
   |12,_=>
    show VO _ _ [⟨some 91,none,.mv (.tmp 90)⟩] _ _ _ _;have e:=hh 11 Zd 90 rfl;rw[(hg 11 Zd).1]at e;exact zq e lH
   |13,_=>
    show VO _ _ [⟨some 92,some (91,false),.mv (.tmp 3)⟩] _ _ _ _;have lf:=hh 12 Zd 91 rfl;rw[(hg 12 Zd).1]at lf;exact zG lf (zq (qY 3 _ rfl Zd) lH)
   |14,_=>
    show VO _ _ [⟨some 93,some (91,false),.mv (.tmp 9)⟩] _ _ _ _;have lf:=hh 12 Zd 91 rfl;rw[(hg 12 Zd).1]at lf;exact zG lf (zq (qY 9 _ rfl Zd) lH)
   |15,_=>
    show VO _ _ [⟨some 94,some (91,false),.xA 1 (.tmp 92) (.tmp 93)⟩] _ _ _ _;have lf:=hh 12 Zd 91 rfl;rw[(hg 12 Zd).1]at lf;have e:=hh 13 Zd 92 rfl;rw[(hg 13 Zd).1]at e;have e2:=hh 14 Zd 93 rfl;rw[(hg 14 Zd).1]at e2;exact zG lf (dh (o':=o2+i) e e2 ⟨Zo,Zo⟩ Zs (VO.nil ⟨_,[],rfl,⟨rfl,rfl⟩,aj.perm Zs⟩))
   |16,_=>
    show VO _ _ [⟨some 95,some (91,false),.cj (.tmp 94)⟩] _ _ _ _;have lf:=hh 12 Zd 91 rfl;rw[(hg 12 Zd).1]at lf;have e:=hh 15 Zd 94 rfl;rw[(hg 15 Zd).1]at e;exact zG lf (jI e Zm lH)
   |17,_=>
    show VO _ _ [⟨some 96,some (91,false),.mv (.tmp 11)⟩] _ _ _ _;have lf:=hh 12 Zd 91 rfl;rw[(hg 12 Zd).1]at lf;exact zG lf (zq (qY 11 _ rfl Zd) lH)
   |18,_=>
    show VO _ _ [⟨some 97,some (91,false),.xA 1 (.tmp 95) (.tmp 96)⟩] _ _ _ _;have lf:=hh 12 Zd 91 rfl;rw[(hg 12 Zd).1]at lf;have e:=hh 16 Zd 95 rfl;rw[(hg 16 Zd).1]at e;have e2:=hh 17 Zd 96 rfl;rw[(hg 17 Zd).1]at e2;exact zG lf (dh (o':=o4+k) e e2 ⟨Zo,Zo⟩ Zs (VO.nil ⟨_,[],rfl,⟨rfl,rfl⟩,aj.perm Zs⟩))
   |19,_=>
    show VO _ _ [⟨some 98,some (91,false),.cj (.tmp 97)⟩] _ _ _ _;have lf:=hh 12 Zd 91 rfl;rw[(hg 12 Zd).1]at lf;have e:=hh 18 Zd 97 rfl;rw[(hg 18 Zd).1]at e;exact zG lf (jI e Zm lH)
   |20,_=>
    show VO _ _ [⟨some 99,some (91,false),.mv (.tmp 9)⟩] _ _ _ _;have lf:=hh 12 Zd 91 rfl;rw[(hg 12 Zd).1]at lf;exact zG lf (zq (qY 9 _ rfl Zd) lH)
   |21,_=>
    show VO _ _ [⟨some 100,some (91,false),.mv (.tmp 11)⟩] _ _ _ _;have lf:=hh 12 Zd 91 rfl;rw[(hg 12 Zd).1]at lf;exact zG lf (zq (qY 11 _ rfl Zd) lH)
   |22,_=>
    show VO _ _ [⟨some 101,some (91,false),.call 122 [.tmp 99,.tmp 100]⟩] _ _ _ _;have lf:=hh 12 Zd 91 rfl;rw[(hg 12 Zd).1]at lf;have e:=hh 20 Zd 99 rfl;rw[(hg 20 Zd).1]at e;have e2:=hh 21 Zd 100 rfl;rw[(hg 21 Zd).1]at e2;exact zG lf (kQ (sq i k Zo Zo) (by simp only[V.gN,V.ev,e,e2]) lH)
   |23,_=>
    show VO _ _ [⟨some 102,some (91,false),.call 140 [.tmp 101]⟩] _ _ _ _;have lf:=hh 12 Zd 91 rfl;rw[(hg 12 Zd).1]at lf;have e:=hh 22 Zd 101 rfl;rw[(hg 22 Zd).1]at e;exact zG lf (kQ (gU (zR i k) (by unfold zR;omega) (by unfold zR;omega)) (by simp only[V.gN,V.ev,e]) lH)
   |24,_=>
    show VO _ _ [⟨some 103,some (91,false),.bin .neq (.tmp 98) (.tmp 102)⟩] _ _ _ _;have lf:=hh 12 Zd 91 rfl;rw[(hg 12 Zd).1]at lf;have e:=hh 19 Zd 98 rfl;rw[(hg 19 Zd).1]at e;have e2:=hh 23 Zd 102 rfl;rw[(hg 23 Zd).1]at e2;exact zG lf (ec e e2 (E9 _) (VO.nil ⟨_,[],rfl,⟨rfl,rfl⟩,aj.perm Zs⟩))
   |25,_=>
    show VO _ _ [⟨some 104,none,.pick (.tmp 91) (.const (.bool true)) (.tmp 103)⟩] _ _ _ _;have lf:=hh 12 Zd 91 rfl;rw[(hg 12 Zd).1]at lf;have e:=hh 24 Zd 103 rfl;rw[(hg 24 Zd).1]at e;exact cS lf e lH
   |n+26,h=>exact absurd h Zo
  ·intro vv hg aw hh qY;show VO _ _ _ _ [(vv 0).2,(vv 1).2,(vv 2).2,(vv 3).2,(vv 4).2,(vv 5).2,(vv 6).2,(vv 7).2,(vv 8).2,(vv 9).2,(vv 10).2,(vv 11).2,(vv 12).2,(vv 13).2,(vv 14).2,(vv 15).2,(vv 16).2,(vv 17).2,(vv 18).2,(vv 19).2,(vv 20).2,(vv 21).2,(vv 22).2,(vv 23).2,(vv 24).2,(vv 25).2,L,L2,D] _ _;refine VO.imp (H':=[L,L2,D]) ZI ?_;have s104:=hh 25 Zd 104 rfl;rw[(hg 25 Zo).1]at s104;refine VO.sub (Δ:=[(0,.slice (some ⟨b,o,none⟩) ps.length lc),(3,.slice (some ⟨b2,o2,none⟩) ps.length mc),(9,vi i),(10,vi pn),(11,vi k),(104,.bool false)]) (Sub.cons (qY 0 _ rfl Zd) (Sub.cons (qY 3 _ rfl Zd) (Sub.cons (qY 9 _ rfl Zd) (Sub.cons (qY 10 _ rfl Zd) (Sub.cons (qY 11 _ rfl Zd) (Sub.cons s104 Sub.nil)))))) ?_;refine GO ?_;exact⟨k+1,Zo,Zo,ZU,ZI⟩
 rw[show decide ((k:Int) < (pn:Int))=false from Zf Zo];refine GO ?_;refine VC.loop (α:=Nat) (aW:=fun k=>[(0,.slice (some ⟨b,o,none⟩) ps.length lc),(3,.slice (some ⟨b2,o2,none⟩) ps.length mc),(9,vi i),(10,vi pn),(12,vi k)]) (Hf:=fun _=>[L,L2,D]) (I:=fun k=>k<=8) (μ:=fun k=>8 - k) 0 (Qs _) ZU ZI ?_;intro k hk;by_cases X4:k < 8
 ·refine GO ?_;simp only[show(k:Int) < 8 by omega,decide_true];obtain⟨b4,o4,c4,O7,e1⟩:=d3.part (AU k X4) Zo;rw[Nat.mul_one,Qh]at e1;simp only[Value.slice.injEq,true_and]at O7;obtain⟨rfl,rfl⟩:=O7;refine GO ?_;refine VC.B7 (α:=Unit) (fun _=>[(0,.slice (some ⟨b,o,none⟩) ps.length lc),(3,.slice (some ⟨b2,o2,none⟩) ps.length mc),(9,vi i),(10,vi pn),(12,vi k),(122,.bool false)]) (fun _=>[L,L2,D]) (fun _=>True) ⟨?_,?_,?_,?_,?_,?_,trivial⟩ (fun _ _=>?_)
  all_goals first
   |(refine GO ?_
     refine kQ (DV i k Zo Zo) Zr ?_;refine GO ?_;refine kQ (gU (rC i k) (by unfold rC;omega) (by unfold rC;omega)) Zr ?_;refine GO ?_
     (try simp only[eq_self,decide_true,Bool.not_true])
     (try refine GO ?_)
     exact⟨(),trivial,ZU,ZI⟩)
   |skip
  refine GO ?_;exact⟨k+1,Zo,Zo,ZU,ZI⟩
 ·obtain rfl:k=8:=by omega
  refine GO ?_;exact⟨i+1,Zo,Zo,ZU,ZI⟩
set_option maxHeartbeats 3200000
theorem Am:ao Tryz.prog 76 [Nz] [] (fun v Post=>v=.bool true/\Post=[]):=by
 refine ao.intro low76 (by simp[n76]) ?_;exact zAF
theorem Fl:ao Tryz.prog 77 [Nz] [] (fun v Post=>v=.bool true/\Post=[]):=by
 refine ao.intro low77 (by simp[n77]) ?_;exact zAF
theorem Dc:ao Tryz.prog 78 [Nz] [] (fun v Post=>v=.bool true/\Post=[]):=by
 refine ao.intro low78 (by simp[n78]) ?_;exact zAF
theorem uM(p:Nat)(tv lv nv xv:Value)(k:Nat)(vs sp:List Value)(bh:kY 1 xv k vs sp)(hk:k<=274877906944)(a:Option Addr)(m c:Nat):
 ao Tryz.prog 30 [kE p,.slice a m c] [kA p 0 [tv,lv,nv,xv],ai xv vs sp] (fun v Post=>v=.tuple #[]/\∃xv' aY,kY 1 xv' (k+1) (vs++[.slice a m c]) aY/\Post=[kA p 0 [tv,lv,nv,xv'],ai xv' (vs++[.slice a m c]) aY]):=by
 obtain⟨xa,xc,rfl⟩:=bh.form;refine ao.intro low30 (by simp[n30]) ?_;refine ae ?_;refine kg (out:=[.slice a m c]) Zr Zr (fun r=>?_);refine j8 (k:=k) (m:=1) (xs:=vs) (sp:=sp) (ys:=[.slice a m c]) Zr Zr bh ZK Zr ?_ rfl Zr Zr Zd Zo (fun cq aY ax=>?_)
 ·exact AI
 obtain⟨xa',xc',rfl⟩:=ax.form;refine ae ?_;exact kG (Post:=[kA p 0 [tv,lv,nv,.slice xa' (k+1) xc'],ai (.slice xa' (k+1) xc') (vs++[.slice a m c]) aY]) (.inl rfl) .nil ⟨rfl,_,_,ax,rfl⟩ ZI
theorem KF(p:Nat)(xv:Value)(xs:List pF)(GH:List Value)(hx:kY 1 xv xs.length (xs.map (·.v)) GH)(A7:∀q∈xs,OkR 1 q)(hxn:xs.length<=1073741824):
 ao Tryz.prog 31 [kE p] [kA p 0 [Nz,Nz,Nz,xv],ai xv (xs.map (·.v)) GH,xs.flatMap IF] (fun v Post=>v=.bool true/\Post=[]):=by
 have h3:=Al xv xs GH hx A7 hxn;obtain⟨xa,xc,rfl⟩:=hx.form;refine ao.intro low31 (by simp[n31]) ?_;generalize ai (.slice xa xs.length xc) (xs.map (·.v)) GH=A5 at h3|-;generalize xs.flatMap IF=A6 at h3|-;refine ae ?_;refine kI Am Zr ZP (fun v Post hv=>?_);obtain⟨rfl,rfl⟩:=hv;simp only[aE];refine ae ?_;refine kI Fl Zr ZP (fun v Post hv=>?_);obtain⟨rfl,rfl⟩:=hv;simp only[aE];refine ae ?_;refine kI Dc Zr ZP (fun v Post hv=>?_);obtain⟨rfl,rfl⟩:=hv;simp only[aE];refine ae ?_;refine kI h3 Zr ZP (fun v Post hv=>?_);obtain⟨rfl,rfl⟩:=hv;simp only[aE];refine ae ?_;exact kG (Post:=[]) (.inr rfl) (.tmp Zr .nil) ⟨rfl,rfl⟩ aj.nil
def IT(l:List ByteArray):List (List Value):=l.map fun s=>[.string s]
theorem sj(l:List ByteArray):(IT l).flatten=l.map .string:=by
 induction l with
 |nil=>rfl
 |cons s l ih=>simp only[IT,Q3,V6]at ih|-;rw[ih];rfl
theorem qG(l:List ByteArray):(IT l).length=l.length:=by simp[IT]
theorem F4(l:List ByteArray):∀r∈IT l,r.length=1:=by
 intro r hr;obtain⟨s,_,rfl⟩:=QE.1 hr;rfl
end Go.Proofs.YtijnokbblmbpkaaGreatDoor
namespace Go.V
open Go
def qF:ByteArray:=⟨#[114,111,111,109]⟩
def sT:ByteArray:=⟨#[109,111,114,101]⟩
def fE(A:List kB)(v:Value)(l:List ByteArray):Prop:=∃b c,v=.slice (some ⟨b,0,none⟩) l.length c/\l.length+2<=c/\l.length<=1099511627776/\(∀(i:Nat) t,l[i]? =some t->kB.cell b i (.string t)∈A/\t.size<=140737488355328)/\kB.cell b l.length (.string qF)∈A/\kB.cell b (l.length+1) (.string sT)∈A
theorem fE.rd {A:List kB}{v:Value}{l:List ByteArray}(h:fE A v l):du A v l:=by
 obtain⟨b,c,h1,h2,h3,h4,_⟩:=h;exact⟨_,_,h1,h3,fun i t e=>⟨b,0,rfl,by rw[Qr];exact(h4 i t e).1,(h4 i t e).2⟩⟩
theorem fE.more {A B:List kB}(hs:∀x∈A,x∈B){v:Value}{l:List ByteArray}(h:fE A v l):fE B v l:=by
 obtain⟨b,c,h1,h2,h3,h4,h5,h6⟩:=h;exact⟨b,c,h1,h2,h3,fun i t e=>⟨hs _ (h4 i t e).1,(h4 i t e).2⟩,hs _ h5,hs _ h6⟩
inductive yD (A:List kB):Lt->List Value->Prop
 |mk {k:Nat} {n:Int} {b:Nat} {t:ByteArray} {items:List Lt} {c bk:Nat} {us:Nat->List Value} (wf:DM k n b t items.length)
   (hm:∀i,i < items.length->∀y∈kA bk (i*5) (us i),y∈A) (hr:∀i x,items[i]? =some x->yD A x (us i)) (bm:kB.cell bk (items.length*5+1) (vi (-771))∈A) (hc:items.length+1<=c):yD A (.mk k n b t items) [cv k,vi n,uv b,.string t,.slice (some ⟨bk,0,none⟩) items.length c]
inductive dk (A:List kB):Nd->List Value->Prop
 |mk {k:Nat} {s:ByteArray} {lit:Lt} {args ab:List ByteArray} {kids:List Nd} {p:Int} {lv:List Value} {av tv:Value} {c bk:Nat} {us:Nat->List Value} (wf:G5 k s kids.length p) (hl:yD A lit lv) (bB:fE A av args) (bu:fE A tv ab)
   (hm:∀i,i < kids.length->∀y∈kA bk (i*11) (us i),y∈A) (hr:∀i x,kids[i]? =some x->dk A x (us i)) (bm:kB.cell bk (kids.length*11+10) (vi (-771))∈A) (hc:kids.length+1<=c):dk A (.mk k s lit args ab kids p) ([cv k,.string s]++lv++[av,tv,.slice (some ⟨bk,0,none⟩) kids.length c,vi p])
theorem yD.rd {A:List kB}{x:Lt}{vs:List Value}(h:yD A x vs):zN A x vs:=by
 induction h with
 |mk wf hm hr bm hc ih=>exact .mk wf (fun _=>rfl) (fun i hi y hy=>hm i hi y (by rwa [Qr]at hy)) ih
theorem dk.rd {A:List kB}{x:Nd}{vs:List Value}(h:dk A x vs):j7 A x vs:=by
 induction h with
 |mk wf hl bB bu hm hr bm hc ih=>exact .mk wf hl.rd bB.rd bu.rd (fun _=>rfl) (fun i hi y hy=>hm i hi y (by rwa [Qr]at hy)) ih Zo
theorem yD.more {A B:List kB}(hs:∀x∈A,x∈B){x:Lt}{vs:List Value}(h:yD A x vs):yD B x vs:=by
 induction h with
 |mk wf hm hr bm hc ih=>exact .mk wf (fun i hi y hy=>hs _ (hm i hi y hy)) ih (hs _ bm) hc
theorem dk.more {A B:List kB}(hs:∀x∈A,x∈B){x:Nd}{vs:List Value}(h:dk A x vs):dk B x vs:=by
 induction h with
 |mk wf hl bB bu hm hr bm hc ih=>exact .mk wf (hl.more hs) (bB.more hs) (bu.more hs) (fun i hi y hy=>hs _ (hm i hi y hy)) ih (hs _ bm) hc
theorem yD.len {A:List kB}{x:Lt}{vs:List Value}(h:yD A x vs):vs.length=5:=h.rd.len
theorem dk.len {A:List kB}{x:Nd}{vs:List Value}(h:dk A x vs):vs.length=11:=h.rd.len
theorem Kl {sz j:Nat}{rows:List (List Value)}{row tl:List Value}(hr:rows.flatten.length=j*sz)(hl:row.length=sz):(rows.flatten++tl).take (j*sz)++row++(rows.flatten++tl).drop (j*sz+row.length)=(rows++[row]).flatten++tl.drop sz:=by
 rw[List.take_append_of_le_length Zo,Qc Zo,List.drop_append,List.drop_of_length_le Zo,hr,hl,Qg];simp
theorem Kn {b sz n f:Nat}{rows:List (List Value)}{tl:List Value}{u:Value}(hl:∀r∈rows,r.length=sz)(hn:rows.length=n){i:Nat}{r:List Value}(hi:rows[i]? =some r):∀y∈kA b (i*sz) r,y∈kA b 0 ((rows.flatten++tl).set (n*sz+f) u):=by
 intro y hy;obtain⟨k,v,hk,rfl⟩:=kH.1 hy;have cf:=(Vh.1 hi).1;have HF:=(Vh.1 hk).1;have hrl:=hl r (Zv hi);have h1:kB.cell b (i*sz+k) v∈kA b 0 rows.flatten:=eD hl hi _ (by rw[Qr];exact kH.2 ⟨k,v,hk,rfl⟩);obtain⟨m,w,hm,he⟩:=kH.1 h1;simp only[kB.cell.injEq,true_and,Qr]at he;obtain⟨rfl,rfl⟩:=he;have aI:i*sz+k < n*sz:=by
  have h2:(i+1)*sz<=n*sz:=Qo _ Zo;rw[Qf]at h2;omega
 refine kH.2 ⟨i*sz+k,v,?_,by rw[Qr]⟩;rw[List.getElem?_set_ne Zo,VV (by have:=(Vh.1 hm).1;omega)];exact hm
theorem Gb {b m:Nat}{l:List Value}{u:Value}(h:m < l.length):kB.cell b m u∈kA b 0 (l.set m u):=
 kH.2 ⟨m,u,by rw[List.getElem?_set_self h],by rw[Qr]⟩
def cZ(l:List Lt)(rows:List (List Value))(K:List kB):Prop:=rows.length=l.length/\(∀r∈rows,r.length=5)/\∀(i:Nat) x r,l[i]? =some x->rows[i]? =some r->yD K x r
def da(l:List Nd)(rows:List (List Value))(K:List kB):Prop:=rows.length=l.length/\(∀r∈rows,r.length=11)/\∀(i:Nat) x r,l[i]? =some x->rows[i]? =some r->dk K x r
theorem cZ.nil:cZ [] [] []:=⟨rfl,fun r hr=>(by cases hr),fun i x r h=>(by simp at h)⟩
theorem da.nil:da [] [] []:=⟨rfl,fun r hr=>(by cases hr),fun i x r h=>(by simp at h)⟩
theorem cZ.snoc {l:List Lt}{rows:List (List Value)}{K:List kB}(h:cZ l rows K){x:Lt}{r:List Value}{L:List kB}(hx:yD L x r):cZ (l++[x]) (rows++[r]) (K++L):=by
 exact zAX
theorem da.snoc {l:List Nd}{rows:List (List Value)}{K:List kB}(h:da l rows K){x:Nd}{r:List Value}{L:List kB}(hx:dk L x r):da (l++[x]) (rows++[r]) (K++L):=by
 exact zAX
theorem cZ.row {l:List Lt}{rows:List (List Value)}{K:List kB}(h:cZ l rows K){i:Nat}(hi:i < l.length):rows[i]? =some (rows.getD i []):=by
 rw[V8,Zg (by rw[h.1];exact hi)];rfl
theorem da.row {l:List Nd}{rows:List (List Value)}{K:List kB}(h:da l rows K){i:Nat}(hi:i < l.length):rows[i]? =some (rows.getD i []):=by
 rw[V8,Zg (by rw[h.1];exact hi)];rfl
theorem yD.of {k:Nat}{n:Int}{b:Nat}{t:ByteArray}{items:List Lt}{rows:List (List Value)}{tl:List Value}{K:List kB}{bk c:Nat}(h:cZ items rows K)(wf:DM k n b t items.length)(ht:5<=tl.length)(hc:items.length+1<=c):
 yD (kA bk 0 ((rows.flatten++tl).set (items.length*5+1) (vi (-771)))++K) (.mk k n b t items) [cv k,vi n,uv b,.string t,.slice (some ⟨bk,0,none⟩) items.length c]:=by
 have hlen:=zu h.2.1;refine .mk (us:=fun i=>rows.getD i []) wf (fun i hi y hy=>?_) (fun i x hx=>?_) ?_ hc
 ·exact Zw _ (Kn h.2.1 h.1 (h.row hi) y hy)
 ·have hi:=(Vh.1 hx).1;exact(h.2.2 i x _ hx (h.row hi)).more fun _ ha=>Q8 _ ha
 ·exact Zw _ (Gb (by rw[Vo,hlen,h.1];omega))
theorem dk.of {k:Nat}{s:ByteArray}{lit:Lt}{args ab:List ByteArray}{kids:List Nd}{p:Int}{lv:List Value}{av tv:Value}{rows:List (List Value)}{tl:List Value}{K L1 L2 L3:List kB}{bk c:Nat}(h:da kids rows K)(wf:G5 k s kids.length p)(hl:yD L1 lit lv)(bB:fE L2 av args)(bu:fE L3 tv ab)(ht:11<=tl.length)(hc:kids.length+1<=c):
 dk (kA bk 0 ((rows.flatten++tl).set (kids.length*11+10) (vi (-771)))++(K++(L1++(L2++L3)))) (.mk k s lit args ab kids p) ([cv k,.string s]++lv++[av,tv,.slice (some ⟨bk,0,none⟩) kids.length c,vi p]):=by
 have hlen:=zu h.2.1;refine .mk (us:=fun i=>rows.getD i []) wf (hl.more fun _ ha=>?_) (bB.more fun _ ha=>?_) (bu.more fun _ ha=>?_) (fun i hi y hy=>?_) (fun i x hx=>?_) ?_ hc
 ·exact Q8 _ (Q8 _ (Zw _ ha))
 ·exact Q8 _ (Q8 _ (Q8 _ (Zw _ ha)))
 ·exact Q8 _ (Q8 _ (Q8 _ (Q8 _ ha)))
 ·exact Zw _ (Kn h.2.1 h.1 (h.row hi) y hy)
 ·have hi:=(Vh.1 hx).1;exact(h.2.2 i x _ hx (h.row hi)).more fun _ ha=>Q8 _ (Zw _ ha)
 ·exact Zw _ (Gb (by rw[Vo,hlen,h.1];omega))
end Go.V
namespace Go.Proofs.YtijnokbblmbpkaaGreatDoor
open Go Go.V
set_option maxHeartbeats 3200000
set_option maxRecDepth 100000
set_option maxHeartbeats 1600000
theorem Sz {l:List ByteArray}{tl:List Value}{b:Nat}(ht:tl.length=2)(hl:l.length<=1099511627776)(gh:∀t∈l,t.size<=140737488355328):fE (kA b 0 (((l.map Value.string++tl).set l.length (.string qF)).set (l.length+1) (.string sT))) (.slice (some ⟨b,0,none⟩) l.length (l.length+2)) l:=by
 refine⟨b,_,rfl,Qj _,hl,fun i t hi=>⟨?_,gh t (Zv hi)⟩,?_,?_⟩
 ·have cf:=(Vh.1 hi).1;refine kH.2 ⟨i,_,?_,by rw[Qr]⟩;rw[List.getElem?_set_ne Zo,List.getElem?_set_ne Zo,VV (by simpa using cf),Vi,hi];rfl
 ·refine kH.2 ⟨l.length,_,?_,by rw[Qr]⟩;rw[List.getElem?_set_ne Zo,List.getElem?_set_self (by simp[ht])]
 ·refine kH.2 ⟨l.length+1,_,?_,by rw[Qr]⟩;rw[List.getElem?_set_self (by simp[ht])]
theorem SA {l:List ByteArray}{tl:List Value}{b:Nat}(ht:tl.length=2)(hl:l.length<=1099511627776)(gh:∀t∈l,t.size<=140737488355328):ed (.slice (some ⟨b,0,none⟩) l.length (l.length+2)) l (kA b 0 (((l.map Value.string++tl).set l.length (.string qF)).set (l.length+1) (.string sT))):=by
 obtain⟨u,w,rfl⟩:∃u w,tl=[u,w]:=by
  rcases tl with _|⟨u,_|⟨w,_|⟨z,r⟩⟩⟩
  ·simp at ht
  ·simp at ht
  ·exact⟨u,w,rfl⟩
  ·simp at ht
 have e:((l.map Value.string++[u,w]).set l.length (.string qF)).set (l.length+1) (.string sT)=l.map Value.string++[.string qF,.string sT]:=by
  rw[QU _ _ Zs,Vv,Qp,QU _ _ Zs,Vv,Qg];rfl
 refine⟨[.string qF,.string sT],.mk Zs Zs Zo,?_,hl,gh⟩;rw[e];rfl
theorem mn(A:List kB)(av:Value)(l:List ByteArray)(h:du A av l)(Ln:l.length<=1099511627776):ao Tryz.prog 43 [av] [A] (fun v Post=>∃B,(fE B v l/\ed v l B)/\Post=[A,B]):=by
 obtain⟨a,c,rfl,hl,hr⟩:=h;have gh:∀t∈l,t.size<=140737488355328:=fun t ht=>by
  obtain⟨i,hi⟩:=Vj ht;obtain⟨_,_,_,_,h⟩:=hr i t hi;exact h
 refine ao.intro low43 (by simp[n43]) ?_;refine ae ?_;refine pg (li:=(l.length:Int)+2) (ci:=(l.length:Int)+2) Zr Zr Zo Zr (fun db=>?_);rw[show((l.length:Int)+2).toNat=l.length+2 by omega];have hz:=zm (l.length+2) [Value.string ⟨#[]⟩];generalize kX (l.length+2) [Value.string ⟨#[]⟩]=tl0 at hz|-;simp only[Vy,Nat.mul_one]at hz;refine ae ?_;refine VC.loop (α:=Nat×List Value) (aW:=fun z=>[(0,.slice a l.length c),(3,.slice (some ⟨db,0,none⟩) (l.length+2) (l.length+2)),(4,vi z.1)]) (Hf:=fun z=>[A,kA db 0 ((l.take z.1).map Value.string++z.2)]) (I:=fun z=>z.1<=l.length/\z.2.length=l.length+2 - z.1) (μ:=fun z=>l.length - z.1) (0,tl0) ⟨Qs _,hz⟩ ZU (by simp only[Qd,Q6,QJ];exact bE) ?_
 rintro⟨j,tl⟩ ⟨i1,i2⟩
 simp only at i1 i2;dsimp only;refine ae ?_;by_cases hj:j < l.length;rotate_left
 ·rw[Qc Zo];rw[show decide ((j:Int) < (l.length:Int))=false from Zf Zo];refine ae ?_;have hlen:(l.map Value.string++tl).length=l.length+2:=by rw[Vo,Vv];omega
  generalize hL:l.map Value.string++tl=L at hlen|-;refine jk Zr Zr Zr Zr Zr (iY.there (iY.IZ (i:=l.length) (Qr _) Zo)) ?_;have OT:(L.set l.length (.string qF)).length=l.length+2:=by rw[Vx];exact hlen
  have bP:=And.intro (Sz (l:=l) (tl:=tl) (b:=db) Zo hl gh) (SA (l:=l) (tl:=tl) (b:=db) Zo hl gh);rw[hL]at bP;change VO _ _ _ _ [A,kA db 0 (L.set l.length (.string qF))] _ _;generalize L.set l.length (.string qF)=L2 at OT bP|-;refine ae ?_;refine jk Zr Zr Zr Zr Zr (iY.there (iY.IZ (i:=l.length+1) (Qr _) Zo)) ?_;change VO _ _ _ _ [A,kA db 0 (L2.set (l.length+1) (.string sT))] _ _;generalize L2.set (l.length+1) (.string sT)=L3 at bP|-;refine ae ?_;refine nG (l:=0) (h:=l.length) (o':=0) Zr .Jx (.num Zr) ⟨Zo,Zo⟩ (by split <;> omega) ?_;refine ae ?_;exact kG (Post:=[A,kA db 0 L3]) (.inr rfl) (.tmp Zr .nil) ⟨_,bP,rfl⟩ ZI
 rw[show decide ((j:Int) < (l.length:Int))=true from Zt Zo];obtain⟨t,ht⟩:∃t,l[j]? =some t:=⟨_,Zg hj⟩;obtain⟨b,o,rfl,hm,hts⟩:=hr j t ht;have fK:l.take (j+1)=l.take j++[t]:=by rw[QY,ht];rfl
 have hlj:((l.take j).map Value.string).length=j:=by simp;omega
 have xz:(((l.take j).map Value.string)++tl).set j (.string t)=(l.take (j+1)).map Value.string++tl.drop 1:=by
  rw[QU _ _ Zo,hlj,Qp,fK,Q0,vZ];cases tl with
  |nil=>simp at i2;omega
  |cons u tl=>simp
 refine ae ?_;refine jk Zr Zr Zr Zr Zr (iY.there (iY.IZ (i:=j) (Qr _) (by rw[Vo,hlj];omega))) ?_;rw[xz];refine ae ?_;exact⟨(j+1,tl.drop 1),⟨by simp only;omega,by simp only[Vr];omega⟩,by simp only;omega,ZU,ZI⟩
theorem lr(A:List kB)(av:Value)(l:List ByteArray)(h:fE A av l):ao Tryz.prog 54 [av] [A] (fun v Post=>v=.bool true/\Post=[A]):=by
 obtain⟨b,c,rfl,h1,h2,h3,h4,h5⟩:=h;refine ao.intro low54 (by simp[n54]) ?_;refine ae ?_;refine nG (l:=0) (h:=l.length+2) (o':=0) Zr .Jx (.num Zr) ⟨Zo,Zo⟩ (by split <;> omega) ?_;refine ae ?_;exact kG (Post:=[A]) (.inr rfl) (.tmp Zr .nil) ⟨rfl,rfl⟩ ZI
theorem Il {k:Nat}{n:Int}{b:Nat}{t:ByteArray}{items:List Lt}{rows:List (List Value)}{tl:List Value}{K:List kB}{db:Nat}(h:dT items rows K)(wf:DM k n b t items.length)(ht:tl.length=5):
 yC (.mk k n b t items) [cv k,vi n,uv b,.string t,.slice (some ⟨db,0,none⟩) items.length (items.length+1)] (kA db 0 ((rows.flatten++tl).set (items.length*5+1) (vi (-771)))++K):=by
 have hl:=zu h.2.1;rw[h.1]at hl;have bh:kY 5 (.slice (some ⟨db,0,none⟩) items.length (items.length+1)) items.length rows.flatten (tl.set 1 (vi (-771))):=.mk hl (by rw[Vx];omega) Zo;have bP:=yC.of bh h wf;have e:(rows.flatten++tl).set (items.length*5+1) (vi (-771))=rows.flatten++tl.set 1 (vi (-771)):=by
  rw[QU _ _ Zo,hl,Qg]
 rw[e];exact bP
theorem Ci(A:List kB):∀(N:Nat) (x:Lt),x.size<=N->x.size<=274877906944->∀vs,zN A x vs->ao Tryz.prog 69 [.agg vs.toArray] [A] (fun v Post=>∃ws B,v=.agg ws.toArray/\(yD B x ws/\yC x ws B)/\Post=[A,B]):=by
 intro N
 induction N with
 |zero=>intro x hx;have:=x.size_pos;omega
 |succ N ih=>
  intro x hx hb vs h;cases h with
  |@mk k n b t items a c bk o us wf ha hm hr=>
  simp only[Lt.size]at hx hb;have GM:=Gd items;refine ao.intro low69 (by simp[n69]) ?_;refine ae ?_;refine kW Zr (fun q=>?_);refine kM (fun q2=>?_);simp only[Value.cells];refine ae ?_;refine pg (li:=(items.length:Int)+1) (ci:=(items.length:Int)+1) Zr Zr Zo Zr (fun db=>?_);rw[show((items.length:Int)+1).toNat=items.length+1 by omega];have hz:=zm (items.length+1) [Value.int .u8 0,.int .i64 0,.int .u64 0,.string ⟨#[]⟩,Nz];generalize kX (items.length+1) [Value.int .u8 0,.int .i64 0,.int .u64 0,.string ⟨#[]⟩,Nz]=tl0 at hz|-;simp only[Vp,Vw,Qr,Nat.reduceAdd]at hz;refine ae ?_;refine VC.loop (α:=Nat×List (List Value)×List Value×List kB) (aW:=fun z=>[(1,kE q),(2,kE q2),(3,.slice (some ⟨db,0,none⟩) (items.length+1) (items.length+1)),(4,vi z.1)]) (Hf:=fun z=>[A,kA q 0 [cv k,vi n,uv b,.string t,.slice a items.length c],kA q2 0 [.int .u8 0,.int .i64 0,.int .u64 0,.string ⟨#[]⟩,Nz],kA db 0 (z.2.1.flatten++z.2.2.1),z.2.2.2])
   (I:=fun z=>z.1<=items.length/\cZ (items.take z.1) z.2.1 z.2.2.2/\z.2.2.1.length=(items.length+1 - z.1)*5/\dT (items.take z.1) z.2.1 z.2.2.2) (μ:=fun z=>items.length - z.1) (0,[],tl0,[]) ⟨Qs _,cZ.nil,by simpa using hz,dT.nil⟩ ZU (aj.cut (M:=[A,kA q 0 [cv k,vi n,uv b,.string t,.slice a items.length c],kA q2 0 [.int .u8 0,.int .i64 0,.int .u64 0,.string ⟨#[]⟩,Nz],kA db 0 tl0]) ZI (aj.perm Zs)) ?_
  rintro⟨j,rows,tl,K⟩ ⟨i1,i2,i3,i4⟩
  simp only at i1 i2 i3 i4;dsimp only;have hrl:rows.length=j:=by rw[i2.1,Vz];omega
  have fJ:=zu i2.2.1;rw[hrl]at fJ;refine ae ?_;by_cases hj:j < items.length;rotate_left
  ·obtain rfl:j=items.length:=by omega
   rw[Qa]at i2 i4;have bP:=And.intro (yD.of (tl:=tl) (bk:=db) (c:=items.length+1) i2 wf Zo (Qj _)) (Il (tl:=tl) (db:=db) i4 wf Zo);have hlen:(rows.flatten++tl).length=items.length*5+5:=by rw[Vo];omega
   generalize rows.flatten++tl=L at bP hlen|-;rw[show decide ((items.length:Int) < (items.length:Int))=false from Zf Zo];refine ae ?_;refine jk Zr Zr Zr Zr Zr (iY.there (iY.there (iY.there (iY.IZ (i:=items.length*5+1) (Qr _) Zo)))) ?_;change VO _ _ _ _ [A,_,_,kA db 0 (L.set (items.length*5+1) (vi (-771))),K] _ _;generalize L.set (items.length*5+1) (vi (-771))=L2 at bP|-;refine ae ?_;refine nG (l:=0) (h:=items.length) (o':=0) Zr .Jx (.num Zr) ⟨Zo,Zo⟩ (by split <;> omega) ?_;refine ae ?_;exact⟨.inr rfl,[.agg #[cv k,vi n,uv b,.string t,.slice (some ⟨db,0,none⟩) items.length (items.length+1)]],[A,kA db 0 L2++K],.aS (us:=[cv k,vi n,uv b,.string t,.slice (some ⟨db,0,none⟩) items.length (items.length+1)]) Zr Zr (fun y hy=>by simp only[V6,Q7];first|exact .inl hy|exact .inr (.inl hy)|exact .inr (.inr (.inl hy))|exact .inr (.inr (.inr (.inl hy)))|exact .inr (.inr (.inr (.inr (.inl hy))))) .nil,aj.cut (M:=[A,kA db 0 L2,K]) ZI (aj.perm Zs),⟨_,_,rfl,bP,rfl⟩⟩
  obtain rfl:=ha Zo;rw[show decide ((j:Int) < (items.length:Int))=true from Zt Zo];obtain⟨y,hy⟩:∃y,items[j]? =some y:=⟨_,Zg hj⟩;have lh:=hm j hj;have dD:=hr j y hy;have h1:=Lt.aH (Zv hy);have aU:=ih y Zo Zo _ dD;have yR:=dD.len;generalize us j=uj at*;refine ae ?_;refine kS Zr NR yR ?_;refine ae ?_;refine kI aU Zr ZP (fun v Post hv=>?_);obtain⟨ws,B2,rfl,hw,rfl⟩:=hv;simp only[aE];have hwl:=hw.1.len;have J3:=i2.snoc hw.1;have O2:=i4.snoc hw.2;rw[show items.take j++[y]=items.take (j+1) by rw[QY,hy];rfl]at J3 O2;obtain⟨e2,c2,hwe⟩:=mZ hw.1.rd;have hupd:=Kl (tl:=tl) fJ hwl;refine ae ?_;refine jk (us:=ws) Zr Zr Zr hwl (by rw[hwe];rfl) (iY.there (iY.there (iY.there (iY.there (iY.cells (k:=j*5) (o:=0) (vs:=rows.flatten++tl) (us:=ws) (Qs _) (by rw[Vo];omega) hupd))))) ?_;refine ae ?_;refine⟨(j+1,rows++[ws],tl.drop 5,K++B2),⟨by simp only;omega,J3,by simp only[Vr];omega,O2⟩,by simp only;omega,ZU,?_⟩;simp only;refine aj.cut (M:=[A,kA q 0 [cv k,vi n,uv b,.string t,.slice (some ⟨bk,o,none⟩) items.length c],kA q2 0 [.int .u8 0,.int .i64 0,.int .u64 0,.string ⟨#[]⟩,Nz],kA db 0 ((rows++[ws]).flatten++tl.drop 5),K,B2]) ZI (aj.perm Zs)
theorem Di(A:List kB):∀(N:Nat) (x:Lt),x.size<=N->∀vs,yD A x vs->ao Tryz.prog 120 [.agg vs.toArray] [A] (fun v Post=>v=.bool true/\Post=[A]):=by
 intro N
 induction N with
 |zero=>intro x hx;have:=x.size_pos;omega
 |succ N ih=>
  intro x hx vs h;cases h with
  |@mk k n b t items c bk us wf hm hr bm hc=>
  simp only[Lt.size]at hx;have bL:=wf.many;refine ao.intro low120 (by simp[n120]) ?_;refine ae ?_;refine kW Zr (fun q=>?_);simp only[Value.cells];refine ae ?_;refine nG (l:=0) (h:=items.length+1) (o':=0) Zr .Jx (.num Zr) ⟨Zo,Zo⟩ (by split <;> omega) ?_;refine ae ?_;refine VC.loop (α:=Nat) (aW:=fun j=>[(1,kE q),(4,.bool true),(5,vi j)]) (Hf:=fun _=>[A,kA q 0 [cv k,vi n,uv b,.string t,.slice (some ⟨bk,0,none⟩) items.length c]]) (I:=fun j=>j<=items.length) (μ:=fun j=>items.length - j) 0 (Qs _) ZU ZI ?_
  rintro j i1
  refine ae ?_;by_cases hj:j < items.length;rotate_left
  ·skip
   rw[show decide ((j:Int) < (items.length:Int))=false from Zf Zo];exact zB4
  rw[show decide ((j:Int) < (items.length:Int))=true from Zt Zo];obtain⟨y,hy⟩:∃y,items[j]? =some y:=⟨_,Zg hj⟩;have lh:=hm j hj;have dD:=hr j y hy;have h1:=Lt.aH (Zv hy);exact zC2
set_option maxHeartbeats 3200000
theorem VO.sub {P:Program}{n:Nat}{rs:List RO}{Γ Δ:Env}{H:SH}{Z:List PanicEntry->Env->SH->Prop}{K:Env->SH->Prop}(hs:V.Sub Γ Δ)(h:VO P n rs Δ H Z K):VO P n rs Γ H Z K:=
 fun l hl a w F ZZ Q ha fC hq hz=>h l hl a w F ZZ Q ⟨ha.size,fun t v e=>ha.slots t v (hs t v e)⟩ fC hq hz
theorem Ix {k:Nat}{s:ByteArray}{lit:Lt}{args ab:List ByteArray}{kids:List Nd}{p:Int}{lv:List Value}{av tv:Value}{rows:List (List Value)}{tl:List Value}{K L1 L2 L3:List kB}{db:Nat}(h:ik kids rows K)(wf:G5 k s kids.length p)(hl:yC lit lv L1)(bB:ed av args L2)(bu:ed tv ab L3)(ht:tl.length=11):
 dt (.mk k s lit args ab kids p) ([cv k,.string s]++lv++[av,tv,.slice (some ⟨db,0,none⟩) kids.length (kids.length+1),vi p]) (kA db 0 ((rows.flatten++tl).set (kids.length*11+10) (vi (-771)))++(K++(L1++(L2++L3)))):=by
 have hlen:=zu h.2.1;rw[h.1]at hlen;have bh:kY 11 (.slice (some ⟨db,0,none⟩) kids.length (kids.length+1)) kids.length rows.flatten (tl.set 10 (vi (-771))):=.mk hlen (by rw[Vx];omega) Zo;have bP:=dt.of (p:=p) (k:=k) (s:=s) bh h wf hl bB bu;have e:(rows.flatten++tl).set (kids.length*11+10) (vi (-771))=rows.flatten++tl.set 10 (vi (-771)):=by
  rw[QU _ _ Zo,hlen,Qg]
 rw[e];refine bP.perm ?_;change ((kA db 0 (rows.flatten++tl.set 10 (vi (-771))))++(K++(L1++(L2++L3)))).Perm (L1++(L2++(L3++(kA db 0 (rows.flatten++tl.set 10 (vi (-771)))++K))));generalize kA db 0 (rows.flatten++tl.set 10 (vi (-771)))=S;rw[show S++(K++(L1++(L2++L3)))=(S++K)++(L1++(L2++L3)) by simp,show L1++(L2++(L3++(S++K)))=(L1++(L2++L3))++(S++K) by simp];exact QN
theorem permL(A B C D S K:List kB):(A++(B++(C++(D++(S++K))))).Perm (A++(S++(K++(B++(C++D))))):=by
 refine vU A ?_;rw[show B++(C++(D++(S++K)))=(B++(C++D))++(S++K) by simp,show S++(K++(B++(C++D)))=(S++K)++(B++(C++D)) by simp];exact QN
theorem yU(A:List kB):∀(N:Nat) (x:Nd),x.w<=N->x.w<=274877906944->∀vs,j7 A x vs->ao Tryz.prog 25 [.agg vs.toArray] [A] (fun v Post=>∃ws B,v=.agg ws.toArray/\(dk B x ws/\dt x ws B)/\Post=[A,B]):=by
 intro N
 induction N with
 |zero=>intro x hx;have:=x.fw;omega
 |succ N ih=>
  intro x hx hb vs h;cases h with
  |@mk k s lit args ab kids p lv av tv a c bk o us wf hl bB bu ha hm hr tX=>
  simp only[Nd.w]at hx hb;have GM:=ws_ge kids;have EK:=Ci A _ lit (Qj _) Zo lv hl;have hca:=mn A av args bB Zo;have hct:=mn A tv ab bu Zo;have dz:=hl;cases dz with
  |@mk lk ln aX lt items la lc Ns lo Nu Tp Tj Tl Tm=>
  obtain⟨aa,ac,rfl,xn,iv⟩:=bB;obtain⟨ta,tc,rfl,tI,Np⟩:=bu;refine ao.intro low25 (by simp[n25]) ?_;simp only[aE];refine ae ?_;refine kW Zr (fun q=>?_);refine kM (fun q2=>?_);simp only[Value.cells];refine ae ?_;refine pg (li:=(kids.length:Int)+1) (ci:=(kids.length:Int)+1) Zr Zr Zo Zr (fun db=>?_);rw[show((kids.length:Int)+1).toNat=kids.length+1 by omega];have hz:=zm (kids.length+1) [Value.int .u8 0,.string ⟨#[]⟩,.int .u8 0,.int .i64 0,.int .u64 0,.string ⟨#[]⟩,Nz,Nz,Nz,Nz,.int .i64 0];generalize kX (kids.length+1) [Value.int .u8 0,.string ⟨#[]⟩,.int .u8 0,.int .i64 0,.int .u64 0,.string ⟨#[]⟩,Nz,Nz,Nz,Nz,.int .i64 0]=tl0 at hz|-;simp only[Vp,Vw,Qr,Nat.reduceAdd]at hz;refine ae ?_;refine VC.loop (α:=Nat×List (List Value)×List Value×List kB) (aW:=fun z=>[(1,kE q),(2,kE q2),(3,.slice (some ⟨db,0,none⟩) (kids.length+1) (kids.length+1)),(4,vi z.1)]) (Hf:=fun z=>[A,kA q 0 (rA k s lk ln aX lt la items.length lc aa args.length ac ta ab.length tc a kids.length c p),kA q2 0 [.int .u8 0,.string ⟨#[]⟩,.int .u8 0,.int .i64 0,.int .u64 0,.string ⟨#[]⟩,Nz,Nz,Nz,Nz,.int .i64 0],kA db 0 (z.2.1.flatten++z.2.2.1),z.2.2.2])
   (I:=fun z=>z.1<=kids.length/\da (kids.take z.1) z.2.1 z.2.2.2/\z.2.2.1.length=(kids.length+1 - z.1)*11/\ik (kids.take z.1) z.2.1 z.2.2.2) (μ:=fun z=>kids.length - z.1) (0,[],tl0,[]) ⟨Qs _,da.nil,by simpa using hz,ik.nil⟩ ZU (aj.cut (M:=[A,kA q 0 (rA k s lk ln aX lt la items.length lc aa args.length ac ta ab.length tc a kids.length c p),kA q2 0 [.int .u8 0,.string ⟨#[]⟩,.int .u8 0,.int .i64 0,.int .u64 0,.string ⟨#[]⟩,Nz,Nz,Nz,Nz,.int .i64 0],kA db 0 tl0]) ZI (aj.perm Zs)) ?_
  rintro⟨j,rows,tl,K⟩ ⟨i1,i2,i3,i4⟩
  simp only at i1 i2 i3 i4;dsimp only;have hrl:rows.length=j:=by rw[i2.1,Vz];omega
  have fJ:=zu i2.2.1;rw[hrl]at fJ;refine ae ?_;by_cases hj:j < kids.length
  ·obtain rfl:=ha Zo;rw[show decide ((j:Int) < (kids.length:Int))=true from Zt Zo];obtain⟨y,hy⟩:∃y,kids[j]? =some y:=⟨_,Zg hj⟩;have lh:=hm j hj;have dD:=hr j y hy;have h1:=Nd.bY (Zv hy);have aU:=ih y Zo Zo _ dD;have yR:=dD.len;generalize us j=uj at*;refine ae ?_;refine kS Zr NR yR ?_;refine ae ?_;refine kI aU Zr ZP (fun v Post hv=>?_);obtain⟨ws,B2,rfl,hw,rfl⟩:=hv;simp only[aE];have hwl:=hw.1.len;have J3:=i2.snoc hw.1;have O2:=i4.snoc hw.2;rw[show kids.take j++[y]=kids.take (j+1) by rw[QY,hy];rfl]at J3 O2;obtain⟨f1,f2,f3,f4,f5,f6,f7,f8,f9,f10,f11,f12,f13,f14,f15,f16,f17,hwe,_,_⟩:=zv hw.1.rd;have hupd:=Kl (tl:=tl) fJ hwl;refine ae ?_;refine jk (us:=ws) Zr Zr Zr hwl (by rw[hwe];rfl) (iY.there (iY.there (iY.there (iY.there (iY.cells (k:=j*11) (o:=0) (vs:=rows.flatten++tl) (us:=ws) (Qs _) (by rw[Vo];omega) hupd))))) ?_;refine ae ?_;refine⟨(j+1,rows++[ws],tl.drop 11,K++B2),⟨by simp only;omega,J3,by simp only[Vr];omega,O2⟩,by simp only;omega,ZU,?_⟩;simp only;refine aj.cut (M:=[A,kA q 0 [cv k,.string s,cv lk,vi ln,uv aX,.string lt,.slice la items.length lc,.slice aa args.length ac,.slice ta ab.length tc,(.slice (some ⟨bk,o,none⟩) kids.length c),vi p],kA q2 0 [.int .u8 0,.string ⟨#[]⟩,.int .u8 0,.int .i64 0,.int .u64 0,.string ⟨#[]⟩,Nz,Nz,Nz,Nz,.int .i64 0],kA db 0 ((rows++[ws]).flatten++tl.drop 11),K,B2]) ZI (aj.perm Zs)
  obtain rfl:j=kids.length:=by omega
  rw[Qa]at i2 i4;have HH:=fun(L1 L2 L3:List kB) (lv av tv) h1 h2 h3=>Ix (tl:=tl) (db:=db) (L1:=L1) (L2:=L2) (L3:=L3) (lv:=lv) (av:=av) (tv:=tv) (lit:=.mk lk ln aX lt items) (args:=args) (ab:=ab) i4 wf h1 h2 h3 Zo
  have bP:=fun(L1 L2 L3:List kB) (lv av tv) h1 h2 h3=>dk.of (tl:=tl) (bk:=db) (c:=kids.length+1) (L1:=L1) (L2:=L2) (L3:=L3) (lv:=lv) (av:=av) (tv:=tv) (lit:=.mk lk ln aX lt items) (args:=args) (ab:=ab) i2 wf h1 h2 h3 Zo (Qj _)
  have hlen:(rows.flatten++tl).length=kids.length*11+11:=by rw[Vo];omega
  generalize rows.flatten++tl=L at bP HH hlen|-;rw[show decide ((kids.length:Int) < (kids.length:Int))=false from Zf Zo];refine ae ?_;refine jk Zr Zr Zr Zr Zr (iY.there (iY.there (iY.there (iY.IZ (i:=kids.length*11+10) (Qr _) Zo)))) ?_;change VO _ _ _ _ [A,_,_,kA db 0 (L.set (kids.length*11+10) (vi (-771))),K] _ _;generalize hSL:kA db 0 (L.set (kids.length*11+10) (vi (-771)))=SL at bP HH|-;refine ae ?_;refine VC.imp (H':=[kA q 0 (rA k s lk ln aX lt la items.length lc aa args.length ac ta ab.length tc a kids.length c p),kA q2 0 [.int .u8 0,.string ⟨#[]⟩,.int .u8 0,.int .i64 0,.int .u64 0,.string ⟨#[]⟩,.slice none 0 0,.slice none 0 0,.slice none 0 0,.slice none 0 0,.int .i64 0],SL,K,A]) ZI ?_;refine VC.seq (VC.free 20 (fun i v B=>match i with
   |0=>v=.pointer (some ⟨q,0,none⟩)/\B=[]
   |1=>v=cv k/\B=[]
   |2=>v=.pointer (some ⟨q,1,none⟩)/\B=[]
   |3=>v=.string s/\B=[]
   |4=>v=.pointer (some ⟨q,2,none⟩)/\B=[]
   |5=>v=.agg [cv lk,vi ln,uv aX,.string lt,.slice la items.length lc].toArray/\B=[]
   |6=>∃ws,v=.agg ws.toArray/\(yD B (.mk lk ln aX lt items) ws/\yC (.mk lk ln aX lt items) ws B)
   |7=>v=.pointer (some ⟨q,7,none⟩)/\B=[]
   |8=>v=.slice aa args.length ac/\B=[]
   |9=>fE B v args/\ed v args B
   |10=>v=.pointer (some ⟨q,8,none⟩)/\B=[]
   |11=>v=.slice ta ab.length tc/\B=[]
   |12=>fE B v ab/\ed v ab B
   |13=>v=.slice (some ⟨db,0,none⟩) (kids.length+1) (kids.length+1)/\B=[]
   |14=>v=.pointer (some ⟨q,9,none⟩)/\B=[]
   |15=>v=.slice a kids.length c/\B=[]
   |16=>v=vi kids.length/\B=[]
   |17=>v=.slice (some ⟨db,0,none⟩) kids.length (kids.length+1)/\B=[]
   |18=>v=.pointer (some ⟨q,10,none⟩)/\B=[]
   |19=>v=vi p/\B=[]
   |_=>True) Zd Zd Zd ?_ ?_)
  ·intro i hi vv hg aw hh qY
   match i,hi with
   |0,_=>
    show VO _ _ [⟨some 32,none,.JF 0 (.tmp 1)⟩] _ _ _ _;exact zL (qY 1 _ rfl Zd) rfl lH
   |1,_=>
    show VO _ _ [⟨some 33,none,.cj (.tmp 32)⟩] _ _ _ _;have e:=hh 0 Zd 32 rfl;rw[(hg 0 Zd).1]at e;exact jI e Zh lH
   |2,_=>
    show VO _ _ [⟨some 34,none,.JF 1 (.tmp 1)⟩] _ _ _ _;exact zL (qY 1 _ rfl Zd) rfl lH
   |3,_=>
    show VO _ _ [⟨some 35,none,.cj (.tmp 34)⟩] _ _ _ _;have e:=hh 2 Zd 34 rfl;rw[(hg 2 Zd).1]at e;exact jI e Zh lH
   |4,_=>
    show VO _ _ [⟨some 36,none,.JF 2 (.tmp 1)⟩] _ _ _ _;exact zL (qY 1 _ rfl Zd) rfl lH
   |5,_=>
    show VO _ _ [⟨some 37,none,.gS 5 (.tmp 36)⟩] _ _ _ _;have e:=hh 4 Zd 36 rfl;rw[(hg 4 Zd).1]at e;exact zQ e SZ lH
   |6,_=>
    show VO _ _ [⟨some 38,none,.call 69 [.tmp 37]⟩] _ _ _ _;have e:=hh 5 Zd 37 rfl;rw[(hg 5 Zd).1]at e;refine kI EK (by simp only[V.gN,V.ev,e]) ZP (fun v Post hv=>?_);obtain⟨ws,B,rfl,hw,rfl⟩:=hv;exact VO.nil ⟨_,B,rfl,⟨ws,rfl,hw⟩,by simp only[aE];exact bE⟩
   |7,_=>
    show VO _ _ [⟨some 39,none,.JF 7 (.tmp 1)⟩] _ _ _ _;exact zL (qY 1 _ rfl Zd) rfl lH
   |8,_=>
    show VO _ _ [⟨some 40,none,.cj (.tmp 39)⟩] _ _ _ _;have e:=hh 7 Zd 39 rfl;rw[(hg 7 Zd).1]at e;exact jI e Zh lH
   |9,_=>
    show VO _ _ [⟨some 41,none,.call 43 [.tmp 40]⟩] _ _ _ _;have e:=hh 8 Zd 40 rfl;rw[(hg 8 Zd).1]at e;refine kI hca (by simp only[V.gN,V.ev,e]) ZP (fun v Post hv=>?_);obtain⟨B,hw,rfl⟩:=hv;exact VO.nil ⟨_,B,rfl,hw,by simp only[aE];exact bE⟩
   |10,_=>
    show VO _ _ [⟨some 42,none,.JF 8 (.tmp 1)⟩] _ _ _ _;exact zL (qY 1 _ rfl Zd) rfl lH
   |11,_=>
    show VO _ _ [⟨some 43,none,.cj (.tmp 42)⟩] _ _ _ _;have e:=hh 10 Zd 42 rfl;rw[(hg 10 Zd).1]at e;exact jI e Zh lH
   |12,_=>
    show VO _ _ [⟨some 44,none,.call 43 [.tmp 43]⟩] _ _ _ _;have e:=hh 11 Zd 43 rfl;rw[(hg 11 Zd).1]at e;refine kI hct (by simp only[V.gN,V.ev,e]) ZP (fun v Post hv=>?_);obtain⟨B,hw,rfl⟩:=hv;exact VO.nil ⟨_,B,rfl,hw,by simp only[aE];exact bE⟩
   |13,_=>
    show VO _ _ [⟨some 45,none,.mv (.tmp 3)⟩] _ _ _ _;exact zq (qY 3 _ rfl Zd) lH
   |14,_=>
    show VO _ _ [⟨some 46,none,.JF 9 (.tmp 1)⟩] _ _ _ _;exact zL (qY 1 _ rfl Zd) rfl lH
   |15,_=>
    show VO _ _ [⟨some 47,none,.cj (.tmp 46)⟩] _ _ _ _;have e:=hh 14 Zd 46 rfl;rw[(hg 14 Zd).1]at e;exact jI e Zh lH
   |16,_=>
    show VO _ _ [⟨some 48,none,.EW (.tmp 47)⟩] _ _ _ _;have e:=hh 15 Zd 47 rfl;rw[(hg 15 Zd).1]at e;exact Kq e (VO.nil ⟨_,[],rfl,⟨rfl,rfl⟩,aj.perm Zs⟩)
   |17,_=>
    show VO _ _ [⟨some 49,none,.nW 11 (.tmp 45) none (some (.tmp 48)) none⟩] _ _ _ _;have e:=hh 13 Zd 45 rfl;rw[(hg 13 Zd).1]at e;have e2:=hh 16 Zd 48 rfl;rw[(hg 16 Zd).1]at e2;exact nG (l:=0) (h:=kids.length) (o':=0) e .Jx (.num e2) ⟨Zo,Zo⟩ (by split <;> omega) (VO.nil ⟨_,[],rfl,⟨rfl,rfl⟩,aj.perm Zs⟩)
   |18,_=>
    show VO _ _ [⟨some 50,none,.JF 10 (.tmp 1)⟩] _ _ _ _;exact zL (qY 1 _ rfl Zd) rfl lH
   |19,_=>
    show VO _ _ [⟨some 51,none,.cj (.tmp 50)⟩] _ _ _ _;have e:=hh 18 Zd 50 rfl;rw[(hg 18 Zd).1]at e;exact jI e Zh lH
   |n+20,h=>exact absurd h Zo
  ·intro vv hg aw hh qY;show VO _ _ _ _ [(vv 0).2,(vv 1).2,(vv 2).2,(vv 3).2,(vv 4).2,(vv 5).2,(vv 6).2,(vv 7).2,(vv 8).2,(vv 9).2,(vv 10).2,(vv 11).2,(vv 12).2,(vv 13).2,(vv 14).2,(vv 15).2,(vv 16).2,(vv 17).2,(vv 18).2,(vv 19).2,kA q 0 (rA k s lk ln aX lt la items.length lc aa args.length ac ta ab.length tc a kids.length c p),kA q2 0 [.int .u8 0,.string ⟨#[]⟩,.int .u8 0,.int .i64 0,.int .u64 0,.string ⟨#[]⟩,Nz,Nz,Nz,Nz,.int .i64 0],SL,K,A] _ _;refine VO.imp (H':=[kA q2 0 [.int .u8 0,.string ⟨#[]⟩,.int .u8 0,.int .i64 0,.int .u64 0,.string ⟨#[]⟩,Nz,Nz,Nz,Nz,.int .i64 0],A,(vv 6).2,(vv 9).2,(vv 12).2,SL,K]) ZI ?_;obtain⟨ws,e6,h6⟩:=hg 6 Zo;have h9:=hg 9 Zo;have Nj:=hg 12 Zo;have s22:=hh 1 Zd 33 rfl;have s24:=hh 3 Zd 35 rfl;have s27:=hh 6 Zd 38 rfl;have s30:=hh 9 Zd 41 rfl;have s33:=hh 12 Zd 44 rfl;have s34:=hh 17 Zd 49 rfl;have s36:=hh 19 Zd 51 rfl;rw[(hg 1 Zo).1]at s22;rw[(hg 3 Zo).1]at s24;rw[e6]at s27;rw[(hg 17 Zo).1]at s34;rw[(hg 19 Zo).1]at s36;have s2:=qY 2 _ rfl Zd;clear hg hh qY;simp only at h9 Nj;generalize (vv 6).2=B6 at*;generalize vv 9=p9 at*;generalize vv 12=p12 at*;obtain⟨v9,B9⟩:=p9;obtain⟨v12,B12⟩:=p12;simp only at*;have bP:=And.intro (bP _ _ _ _ _ _ h6.1 h9.1 Nj.1) (HH _ _ _ _ _ _ h6.2 h9.2 Nj.2);have h6r:=h6.1.rd;obtain⟨a9,c9,rfl,_,_⟩:=h9.1.rd;obtain⟨a12,c12,rfl,_,_⟩:=Nj.1.rd;obtain⟨e1,c1,rfl⟩:=mZ h6r;simp only[Lt.kind,Lt.n,Lt.bits,Lt.text,Lt.items]at*;refine VO.sub (Δ:=[(2,kE q2),(33,cv k),(35,.string s),(38,.agg #[cv lk,vi ln,uv aX,.string lt,.slice e1 items.length c1]),(41,.slice a9 args.length c9),(44,.slice a12 ab.length c12),(49,.slice (some ⟨db,0,none⟩) kids.length (kids.length+1)),(51,vi p)]) (Sub.cons s2 (Sub.cons s22 (Sub.cons s24 (Sub.cons s27 (Sub.cons s30 (Sub.cons s33 (Sub.cons s34 (Sub.cons s36 Sub.nil)))))))) ?_;refine ae ?_;exact⟨.inr rfl,[.agg #[cv k,.string s,cv lk,vi ln,uv aX,.string lt,.slice e1 items.length c1,.slice a9 args.length c9,.slice a12 ab.length c12,.slice (some ⟨db,0,none⟩) kids.length (kids.length+1),vi p]],[A,SL++(K++(B6++(B9++B12)))],.aS (us:=(rA k s lk ln aX lt e1 items.length c1 a9 args.length c9 a12 ab.length c12 (some ⟨db,0,none⟩) kids.length (kids.length+1) p)) Zr Zr Zak .nil,
    aj.cut (M:=[A,B6,B9,B12,SL,K]) ZI (aj.perm (by simp only[V6,V7,vd];exact(permL A B6 B9 B12 SL K))),⟨_,_,rfl,bP,rfl⟩⟩
end Go.Proofs.YtijnokbblmbpkaaGreatDoor

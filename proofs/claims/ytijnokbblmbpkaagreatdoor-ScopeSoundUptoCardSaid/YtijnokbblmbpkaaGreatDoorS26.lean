/-
  Which kids of a send that is inlined are its blocks.
-/
import Derived.Test.YtijnokbblmbpkaaGreatDoorS25
import Derived.Test.YtijnokbblmbpkaaGreatDoorS7
import Derived.Test.YtijnokbblmbpkaaGreatDoorS13
import Derived.Test.YtijnokbblmbpkaaGreatDoorS6
import Derived.Test.YtijnokbblmbpkaaGreatDoorS12
import Derived.Test.YtijnokbblmbpkaaGreatDoorS20
set_option linter.unusedSimpArgs false
set_option linter.unusedVariables false
namespace Go.Proofs.YtijnokbblmbpkaaGreatDoor
open Go Go.V
set_option maxHeartbeats 12800000
set_option maxRecDepth 100000
theorem wplain_spec(S:List kC)(x:Nd)(vs:List Value)(h:jQ S x vs):Fun Tryz.prog 136 [.agg vs.toArray] [S] (fun v Post=>v=.bool (jg x)/\Post=[S]):=by
 obtain⟨e1,e2,e3,e4,e5,e6,e7,a1,c1,a2,c2,a3,c3,bk,o,us,rfl,_⟩:=nd_openK h;refine Fun.intro low136 (by simp[n136]) ?_;refine GOH ?_;refine kd Zr (fun q=>?_);simp only[Value.cells];unfold jg;refine GOH ?_;by_cases hk:x.kind=7
 ·rw[show decide ((x.kind:Int)=7)=true from Zt Zo,Zt hk,vR];refine GOH ?_;rw[show decide ((x.args.length:Int)=0)=decide (x.args.length=0)from decide_eq_decide.2 Zo];exact zCZ
 ·rw[show decide ((x.kind:Int)=7)=false from Zf Zo,Zf hk,vH];exact zCZ
theorem blocks_spec(S:List kC)(x:Nd)(vs:List Value)(h:jQ S x vs):Fun Tryz.prog 70 [.agg vs.toArray] [S] (fun v Post=>(∃f t:Nat,v=.tuple #[vi f,vi t,.bool (inlN x)]/\(inlN x=true->f=jB (jM x.name)/\t=toK (jM x.name)))/\Post=[S]):=by
 obtain⟨e1,e2,e3,e4,e5,e6,e7,a1,c1,a2,c2,a3,c3,bk,o,us,rfl,hlit,hav,htv,hk8,ha,hm,hr,hcp⟩:=nd_openK h;have hno:∀b:Bool,b=false->inlN x=b->∃f t:Nat,(Value.tuple #[vi 0,vi 0,.bool false]:Value)=.tuple #[vi f,vi t,.bool (inlN x)]/\(inlN x=true->f=jB (jM x.name)/\t=toK (jM x.name)):=fun b hb h'=>⟨0,0,by rw[h',hb];rfl,fun h2=>by rw[h',hb]at h2;cases h2⟩
 refine Fun.intro low70 (by simp[n70]) ?_;refine VC.join (α:=Nat) (Γf:=fun q=>[(1,kE q)]) (Hf:=fun q=>[kA q 0 [.int .u8 x.kind,.string x.name,.int .u8 e1,.int .i64 e2,.int .u64 e3,.string e4,.slice e5 e6 e7,.slice a1 x.args.length c1,.slice a2 x.temps.length c2,.slice a3 x.kids.length c3,.int .i64 x.at_],S]) (I:=fun _=>True) ?_ (fun q _=>?_)
 ·exact zDQ
 refine VC.join (α:=Unit) (Γf:=fun _=>[(1,kE q)]) (Hf:=fun _=>[kA q 0 [.int .u8 x.kind,.string x.name,.int .u8 e1,.int .i64 e2,.int .u64 e3,.string e4,.slice e5 e6 e7,.slice a1 x.args.length c1,.slice a2 x.temps.length c2,.slice a3 x.kids.length c3,.int .i64 x.at_],S]) (I:=fun _=>x.kind=4/\0 < x.kids.length/\jS x.kids=false) ?_ (fun _ hI=>?_)
 ·refine GOH ?_;by_cases hk:x.kind=4;rotate_left
  ·rw[show decide ((x.kind:Int)=4)=false from Zf Zo];refine GOH ?_;exact kG (Post:=[S]) (.inr rfl) (.tmp Zr (.tmp Zr (.tmp Zr .nil))) ⟨hno _ rfl (by unfold inlN inlP;simp[hk]),rfl⟩ ZI
  rw[show decide ((x.kind:Int)=4)=true from Zt Zo];refine GOH ?_;by_cases hl0:x.kids.length=0
  ·rw[show decide ((x.kids.length:Int)=0)=true from Zt Zo];refine GOH ?_;have hnil:x.kids=[]:=vj hl0;refine kG (Post:=[S]) (.inr rfl) (.tmp Zr (.tmp Zr (.tmp Zr .nil))) ⟨hno _ rfl ?_,rfl⟩ ZI;unfold inlN inlP;rw[hnil];have:fitK (jM x.name) []=false:=by unfold fitK;split <;> rfl
   rw[this];simp
  obtain rfl:=ha Zo;rw[show decide ((x.kids.length:Int)=0)=false from Zf Zo];obtain⟨r,hr0⟩:∃r,x.kids[0]? =some r:=⟨_,Zg Zo⟩;obtain⟨r1,r2,r3,r4,r5,r6,r7,p1,d1,p2,d2,p3,d3,bk2,o2,us2,hus0,_⟩:=nd_openK (hr 0 r hr0);have f0:kC.cell bk o (.int .u8 r.kind)∈S:=hm 0 Zo _ (by rw[hus0];exact kI.2 ⟨0,_,rfl,Zs⟩);have f1:kC.cell bk (o+1) (.string r.name)∈S:=hm 0 Zo _ (by rw[hus0];exact kI.2 ⟨1,_,rfl,Zs⟩);have hsk:jS x.kids=wh r:=by
   exact zD6
  refine GOH ?_;by_cases hr2k:r.kind=2
  ·rw[show decide ((r.kind:Int)=2)=true from Zt Zo];refine GOH ?_;by_cases hrn:r.name=⟨#[115,117,112,101,114]⟩
   ·rw[Zt hrn];refine GOH ?_;refine kG (Post:=[S]) (.inr rfl) (.tmp Zr (.tmp Zr (.tmp Zr .nil))) ⟨hno _ rfl ?_,rfl⟩ ZI;have:wh r=true:=by unfold wh;rw[Zt hr2k,Zt (super_name.2 hrn)];rfl
    unfold inlN inlP;rw[hsk,this];simp
   rw[Zf hrn];have hsr:wh r=false:=by unfold wh;rw[Zf (fun e=>hrn (super_name.1 e))];simp
   refine GOH ?_;exact⟨(),⟨hk,Zo,by rw[hsk];exact hsr⟩,ZU,ZI⟩
  ·rw[show decide ((r.kind:Int)=2)=false from Zf Zo];have hsr:wh r=false:=by unfold wh;rw[Zf hr2k];rfl
   refine GOH ?_;exact⟨(),⟨hk,Zo,by rw[hsk];exact hsr⟩,ZU,ZI⟩
 obtain⟨hk,hl0,hsk⟩:=hI;obtain rfl:=ha hl0;refine VC.join (α:=Unit) (Γf:=fun _=>[(1,kE q),(5,vi 1),(6,vi 2)]) (Hf:=fun _=>[kA q 0 [.int .u8 x.kind,.string x.name,.int .u8 e1,.int .i64 e2,.int .u64 e3,.string e4,.slice e5 e6 e7,.slice a1 x.args.length c1,.slice a2 x.temps.length c2,.slice (some ⟨bk,o,none⟩) x.kids.length c3,.int .i64 x.at_],S]) (I:=fun _=>True) ?_ (fun _ _=>?_)
 ·exact zAP
 refine VC.join (α:=Nat) (Γf:=fun n=>[(1,kE q),(5,vi (jB n)),(6,vi (toK n))]) (Hf:=fun _=>[kA q 0 [.int .u8 x.kind,.string x.name,.int .u8 e1,.int .i64 e2,.int .u64 e3,.string e4,.slice e5 e6 e7,.slice a1 x.args.length c1,.slice a2 x.temps.length c2,.slice (some ⟨bk,o,none⟩) x.kids.length c3,.int .i64 x.at_],S]) (I:=fun n=>jM x.name=n/\(n=1∨n=2∨n=3∨n=4)) ?_ (fun n hn=>?_)
 ·refine GOH ?_;by_cases g0:x.name=⟨#[105,102,84,114,117,101,58]⟩
  ·rw[Zt g0];refine GOH ?_;exact⟨1,⟨by rw[g0];decide,Zd⟩,ZU,ZI⟩
  rw[Zf g0];refine GOH ?_;by_cases g1:x.name=⟨#[105,102,70,97,108,115,101,58]⟩
  ·rw[Zt g1];refine GOH ?_;exact⟨1,⟨by rw[g1];decide,Zd⟩,ZU,ZI⟩
  rw[Zf g1];refine GOH ?_;by_cases g2:x.name=⟨#[97,110,100,58]⟩
  ·rw[Zt g2];refine GOH ?_;exact⟨1,⟨by rw[g2];decide,Zd⟩,ZU,ZI⟩
  rw[Zf g2];refine GOH ?_;by_cases g3:x.name=⟨#[111,114,58]⟩
  ·rw[Zt g3];refine GOH ?_;exact⟨1,⟨by rw[g3];decide,Zd⟩,ZU,ZI⟩
  rw[Zf g3];refine GOH ?_;by_cases g4:x.name=⟨#[105,102,84,114,117,101,58,105,102,70,97,108,115,101,58]⟩
  ·rw[Zt g4];refine GOH ?_;exact⟨2,⟨by rw[g4];decide,Zd⟩,ZU,ZI⟩
  rw[Zf g4];refine GOH ?_;by_cases g5:x.name=⟨#[105,102,70,97,108,115,101,58,105,102,84,114,117,101,58]⟩
  ·rw[Zt g5];refine GOH ?_;exact⟨2,⟨by rw[g5];decide,Zd⟩,ZU,ZI⟩
  rw[Zf g5];refine GOH ?_;by_cases g6:x.name=⟨#[119,104,105,108,101,84,114,117,101,58]⟩
  ·rw[Zt g6];refine GOH ?_;exact⟨3,⟨by rw[g6];decide,Zd⟩,ZU,ZI⟩
  rw[Zf g6];refine GOH ?_;by_cases g7:x.name=⟨#[119,104,105,108,101,70,97,108,115,101,58]⟩
  ·rw[Zt g7];refine GOH ?_;exact⟨3,⟨by rw[g7];decide,Zd⟩,ZU,ZI⟩
  rw[Zf g7];refine GOH ?_;by_cases g8:x.name=⟨#[119,104,105,108,101,84,114,117,101]⟩
  ·rw[Zt g8];refine GOH ?_;exact⟨4,⟨by rw[g8];decide,Zd⟩,ZU,ZI⟩
  rw[Zf g8];refine GOH ?_;by_cases g9:x.name=⟨#[119,104,105,108,101,70,97,108,115,101]⟩
  ·rw[Zt g9];refine GOH ?_;exact⟨4,⟨by rw[g9];decide,Zd⟩,ZU,ZI⟩
  rw[Zf g9];refine GOH ?_;by_cases g10:x.name=⟨#[116,111,58,100,111,58]⟩
  ·rw[Zt g10];have hsel:jM x.name=5:=by rw[g10];decide
   have hin:inlN x=fitK 5 x.kids:=by unfold inlN inlP;rw[hsel,hsk,Zt hk];rfl
   have hout:∀b:Bool,fitK 5 x.kids=b->∃f t:Nat,(Value.tuple #[vi 2,vi 3,.bool b]:Value)=.tuple #[vi f,vi t,.bool (inlN x)]/\(inlN x=true->f=jB (jM x.name)/\t=toK (jM x.name)):=fun b hb=>⟨2,3,by rw[hin,hb];rfl,fun _=>by rw[hsel];exact⟨rfl,rfl⟩⟩
   refine GOH ?_;by_cases h3:x.kids.length=3;rotate_left
   ·rw[show decide ((x.kids.length:Int)=3)=false from Zf Zo];refine GOH ?_;refine kG (Post:=[S]) (.inr rfl) (.tmp Zr (.tmp Zr (.tmp Zr .nil))) ⟨hout _ ?_,rfl⟩ ZI;cases e:fitK 5 x.kids with
    |false=>rfl
    |true=>
     exfalso;unfold fitK at e;simp only at e;split at e
     ·rename_i hks;rw[hks]at h3;exact h3 rfl
     ·cases e
   rw[show decide ((x.kids.length:Int)=3)=true from Zt Zo];obtain⟨y,hy⟩:∃y,x.kids[2]? =some y:=⟨_,Zg Zo⟩;obtain⟨r1,r2,r3,r4,r5,r6,r7,p1,d1,p2,d2,p3,d3,bk2,o2,us2,hus2,_⟩:=nd_openK (hr 2 y hy);have f0:kC.cell bk (o+22) (.int .u8 y.kind)∈S:=hm 2 Zo _ (by rw[hus2];exact kI.2 ⟨0,_,rfl,Zs⟩);have f7:kC.cell bk (o+29) (.slice p1 y.args.length d1)∈S:=hm 2 Zo _ (by rw[hus2];exact kI.2 ⟨7,_,rfl,Zs⟩);have hfit:fitK 5 x.kids=(decide (y.kind=7)&&decide (y.args.length=1)):=by
    match hks:x.kids,h3 with
    |[a,b,c],_=>
     rw[hks]at hy;obtain rfl:c=y:=by simpa using hy
     rfl
   refine GOH ?_;by_cases hy7:y.kind=7
   ·rw[show decide ((y.kind:Int)=7)=true from Zt Zo];refine GOH ?_;rw[show decide ((y.args.length:Int)=1)=decide (y.args.length=1)from decide_eq_decide.2 Zo];refine GOH ?_;refine kG (Post:=[S]) (.inr rfl) (.tmp Zr (.tmp Zr (.tmp Zr .nil))) ⟨hout _ ?_,rfl⟩ ZI;rw[hfit,Zt hy7,vR]
   ·rw[show decide ((y.kind:Int)=7)=false from Zf Zo];refine GOH ?_;refine kG (Post:=[S]) (.inr rfl) (.tmp Zr (.tmp Zr (.tmp Zr .nil))) ⟨hout _ ?_,rfl⟩ ZI;rw[hfit,Zf hy7,vH]
  rw[Zf g10];refine GOH ?_;refine kG (Post:=[S]) (.inr rfl) (.tmp Zr (.tmp Zr (.tmp Zr .nil))) ⟨hno _ rfl ?_,rfl⟩ ZI;have hsel:jM x.name=0:=by
   unfold jM;rw[if_neg (by rintro(e|e|e|e) <;> contradiction),if_neg (by rintro(e|e) <;> contradiction),if_neg (by rintro(e|e) <;> contradiction),if_neg (by rintro(e|e) <;> contradiction)];exact if_neg g10
  unfold inlN inlP;rw[hsel];simp[fitK]
 obtain⟨hsel,hn4⟩:=hn;have hin:inlN x=fitK n x.kids:=by unfold inlN inlP;rw[hsel,hsk,Zt hk];rfl
 have hft:jB n < toK n/\toK n<=3:=by rcases hn4 with rfl|rfl|rfl|rfl <;> decide
 refine GOH ?_;by_cases hlen:x.kids.length=toK n;rotate_left
 ·rw[show decide ((x.kids.length:Int)=(toK n:Int))=false from Zf Zo];refine GOH ?_;refine kG (Post:=[S]) (.inr rfl) (.tmp Zr (.tmp Zr (.tmp Zr .nil))) ⟨hno _ rfl ?_,rfl⟩ ZI;rw[hin];cases e:fitK n x.kids with
  |false=>rfl
  |true=>exact absurd (fit_len hn4 e) hlen
 rw[show decide ((x.kids.length:Int)=(toK n:Int))=true from Zt Zo];refine GOH ?_;refine st_slcLH Zr Zr Zr rfl rfl (l:=jB n) (h:=toK n) ⟨Zo,Zo⟩ ?_;rw[if_neg (show ¬c3=jB n by omega)];refine GOH ?_;refine VC.loop (α:=Nat) (Γf:=fun s=>[(5,vi (jB n)),(6,vi (toK n)),(82,.slice (some ⟨bk,o+jB n*11,none⟩) (toK n - jB n) (c3 - jB n)),(83,.int .i64 ((toK n - jB n:Nat):Int)),(84,vi s)]) (Hf:=fun _=>[S]) (I:=fun s=>s<=toK n - jB n/\∀j y,jB n<=j->j < jB n+s->x.kids[j]? =some y->jg y=true) (μ:=fun s=>toK n - jB n - s) 0
  ⟨Qf _,fun j y h1 h2=>by omega⟩ ZU ZI ?_
 rintro i ⟨hi,hpl⟩
 refine GOH ?_;by_cases hlt:i < toK n - jB n;rotate_left
 ·rw[show decide ((i:Int) < ((toK n - jB n:Nat):Int))=false from Zf Zo];refine GOH ?_;refine kG (Post:=[S]) (.inr rfl) (.tmp (v:=vi (jB n)) Zr (.tmp (v:=vi (toK n)) Zr (.tmp (v:=.bool true) Zr .nil))) ⟨⟨jB n,toK n,?_,fun _=>by rw[hsel];exact⟨rfl,rfl⟩⟩,rfl⟩ ZI;rw[hin,fit_of hn4 hlen (fun j y h1 h2=>hpl j y h1 (by have:=(Vd.1 h2).1;omega) h2)];rfl
 rw[show decide ((i:Int) < ((toK n - jB n:Nat):Int))=true from Zt Zo];obtain⟨y,hy⟩:∃y,x.kids[jB n+i]? =some y:=⟨_,Zg Zo⟩;have hym:=hm (jB n+i) Zo;have hyr:=hr (jB n+i) y hy;rw[show o+(jB n+i)*11=o+(jB n*11+i*11) by omega]at hym;generalize us (jB n+i)=kj at hym hyr;have hps:=wplain_spec S y kj hyr;obtain⟨g1,g2,g3,g4,g5,g6,g7,g8,g9,g10,g11,g12,g13,g14,g15,g16,rfl⟩:=nd_openS hyr;refine GOH ?_;refine kZ Zr (fun z hz=>by have h9:=hym z hz;simp[h9]) rfl ?_;refine GOH ?_;refine kL (fun q8=>?_);refine GOH ?_;refine kM hps Zr ZP (fun v Post hv=>?_);obtain⟨rfl,rfl⟩:=hv;simp only[CNx];cases hp:jg y with
 |false=>
  refine GOH ?_;refine kG (Post:=[S]) (.inr rfl) (.tmp Zr (.tmp Zr (.tmp Zr .nil))) ⟨hno _ rfl ?_,rfl⟩ ZI;rw[hin];exact fit_not hn4 (Nat.le_add_right _ _) hy hp
 |true=>
  refine GOH ?_;refine⟨i+1,⟨Zo,fun j z h1 h2 h3=>?_⟩,Zo,ZU,ZI⟩;by_cases hj:j < jB n+i
  ·exact hpl j z h1 hj h3
  ·have e:j=jB n+i:=by omega
   rw[e,hy]at h3;rw[<- Qn h3];exact hp
end Go.Proofs.YtijnokbblmbpkaaGreatDoor
namespace Go.Proofs.YtijnokbblmbpkaaGreatDoor
open Go Go.V
set_option maxHeartbeats 3200000
set_option maxRecDepth 100000
theorem inlined_spec(S:List kC)(x:Nd)(vs:List Value)(h:jQ S x vs):Fun Tryz.prog 26 [.agg vs.toArray] [S] (fun v Post=>v=.bool (inlN x)/\Post=[S]):=by
 have hb:=blocks_spec S x vs h;obtain⟨g1,g2,g3,g4,g5,g6,g7,g8,g9,g10,g11,g12,g13,g14,g15,g16,rfl⟩:=nd_openS h;refine Fun.intro low26 (by simp[n26]) ?_;refine GOH ?_;refine kd Zr (fun q=>?_);simp only[Value.cells];refine GOH ?_;refine kM hb Zr ZP (fun v Post hv=>?_);obtain⟨⟨f,t,rfl,_⟩,rfl⟩:=hv;simp only[CNx];exact zCZ
end Go.Proofs.YtijnokbblmbpkaaGreatDoor
namespace Go.V
open Go
end Go.V
namespace Go.V
open Go
section
variable {P:Program} {n:Nat} {Γ:Env} {H:SH} {Q:Exit->Env->SH->Prop}
end
end Go.V
namespace Go.V
open Go
abbrev NV:=Nd×List Value
end Go.V
namespace Go.V
open Go
end Go.V
namespace Go.V
open Go
end Go.V
namespace Go.V
open Go
inductive LtOwn:Lt->List Value->List kC->Prop
 |mk {k:Nat} {n:Int} {b:Nat} {t:ByteArray} {items:List Lt} {sv:Value} {rows:List (List Value)} {sp:List Value} {Ls:Nat->List kC} {L:List kC} (hsl:jC 5 sv items.length rows.flatten sp) (hl:rows.length=items.length) (h5:∀r∈rows,r.length=5)
   (hr:∀(i:Nat) x r,items[i]? =some x->rows[i]? =some r->LtOwn x r (Ls i)) (wf:LtWf k n b t items.length) (hL:L.Perm (slA sv rows.flatten sp++(List.range items.length).flatMap Ls)):LtOwn (.mk k n b t items) [cv k,vi n,uv b,.string t,sv] L
def TxOwn(v:Value)(l:List ByteArray)(L:List kC):Prop:=∃sp,jC 1 v l.length (l.map Value.string) sp/\L=slA v (l.map Value.string) sp/\l.length<=1099511627776/\∀t∈l,t.size<=140737488355328
inductive NdOwn:Nd->List Value->List kC->Prop
 |mk {k:Nat} {s:ByteArray} {lit:Lt} {args temps:List ByteArray} {kids:List Nd} {p:Int} {lv:List Value} {av tv sv:Value} {rows:List (List Value)} {sp:List Value} {Ls:Nat->List kC} {LL LA LT L:List kC} (hsl:jC 11 sv kids.length rows.flatten sp) (hl:rows.length=kids.length) (h11:∀r∈rows,r.length=11)
   (hr:∀(i:Nat) x r,kids[i]? =some x->rows[i]? =some r->NdOwn x r (Ls i)) (wf:NdWf k s kids.length p) (hlt:LtOwn lit lv LL) (hav:TxOwn av args LA) (htv:TxOwn tv temps LT)
   (hL:L.Perm (LL++(LA++(LT++(slA sv rows.flatten sp++(List.range kids.length).flatMap Ls))))):NdOwn (.mk k s lit args temps kids p) ([cv k,.string s]++lv++[av,tv,sv,vi p]) L
theorem LtOwn.rd {x:Lt}{vs:List Value}{L:List kC}(h:LtOwn x vs L):LtRd L x vs:=by
 induction h with
 |@mk k n b t items sv rows sp Ls L hsl hl h5 hr wf hL ih=>
  have:=lt_made (B:=(List.range items.length).flatMap Ls) (k:=k) (n:=n) (b:=b) (t:=t) hsl hl h5 (fun i x r e1 e2=>(ih i x r e1 e2).more fun z hz=>Q8.2 ⟨i,QB.2 (Vd.1 e1).1,hz⟩) wf;exact this.more fun z hz=>hL.symm.subset hz
theorem TxOwn.rd {v:Value}{l:List ByteArray}{L:List kC}(h:TxOwn v l L):RdT L v l:=by
 obtain⟨sp,h1,rfl,h3,h4⟩:=h;exact texts_made rfl h1 h3 h4
end Go.V
namespace Go.V
open Go
theorem st_appendN {P:Program}{n:Nat}{rs:List RO}{Γ:Env}{H:SH}{Z:List PanicEntry->Env->SH->Prop}{K:Env->SH->Prop}{d:Option Nat}{t:TypeId}{size bytes:Nat}{zero:List Value}{s x:Operand}{a:Option Addr}{c2:Nat}
 (hs:ev Γ s=some (.slice none 0 0)) (hx:ev Γ x=some (.slice a 0 c2)) (h:VO P n rs (putE d (.slice none 0 0) Γ) H Z K):VO P n (⟨d,none,.append t size bytes zero s x⟩::rs) Γ H Z K:=by
 refine VO.act' rfl rfl (fun ρ hρ=>⟨_,rfl,?_⟩);rw[hρ _ _ hs,hρ _ _ hx];simp only[seqLen];rw[if_pos (show 0+0<=0 by omega)];cases a with
 |none=>
  refine SWP.bind (SWP.pure ?_);exact SWP.pure ⟨_,H,[],.inl rfl,Zs,h⟩
 |some ad=>
  have e0:(Builtin.firstCells size 0 (.slice (some ad) 0 c2):Sem (Array Value))=pure #[]:=by
   simp only[Builtin.firstCells,Qg];rfl
  rw[e0];refine SWP.bind (SWP.pure ?_);exact SWP.pure ⟨_,H,[],.inl rfl,Zs,h⟩
theorem flat_snoc(Ls:Nat->List kC)(L':List kC)(j:Nat):∃Ls':Nat->List kC,(∀i,i < j->Ls' i=Ls i)/\Ls' j=L'/\(List.range (j+1)).flatMap Ls'=(List.range j).flatMap Ls++L':=by
 refine⟨fun i=>if i < j then Ls i else L',fun i hi=>if_pos hi,if_neg (Nat.lt_irrefl _),?_⟩;rw[List.range_succ,vw];simp only[List.flatMap_cons,List.flatMap_nil,vd,Nat.lt_irrefl,if_false]
 congr 1
 rw[List.flatMap_def,List.flatMap_def]
 congr 1
 exact Vx fun i hi=>if_pos (QB.1 hi)
def LtRows(l:List Lt)(rows:List (List Value))(K:List kC):Prop:=rows.length=l.length/\(∀r∈rows,r.length=5)/\∃Ls,K=(List.range l.length).flatMap Ls/\∀(i:Nat) x r,l[i]? =some x->rows[i]? =some r->LtOwn x r (Ls i)
theorem LtRows.nil:LtRows [] [] []:=⟨rfl,fun r hr=>(by cases hr),fun _=>[],rfl,fun i x r h=>(by simp at h)⟩
theorem snoc_at {α:Type}{l:List α}{z x:α}{i:Nat}(h:(l++[z])[i]? =some x):(i < l.length/\l[i]? =some x)∨(i=l.length/\x=z):=by
 have hi:=(Vd.1 h).1;rw[Vj,Vu]at hi;by_cases e:i < l.length
 ·rw[V7 e]at h;exact .inl ⟨e,h⟩
 ·have:i=l.length:=by omega
  subst this;rw[V8 (QW _),Qd]at h;simp only[VV,Qo]at h;exact .inr ⟨rfl,h.symm⟩
theorem LtRows.snoc {l:List Lt}{rows:List (List Value)}{K:List kC}(h:LtRows l rows K){x:Lt}{r:List Value}{L:List kC}(hx:LtOwn x r L):LtRows (l++[x]) (rows++[r]) (K++L):=by
 obtain⟨h1,h2,Ls,rfl,h3⟩:=h;obtain⟨Ls',e1,e2,e3⟩:=flat_snoc Ls L l.length;refine⟨by simp[h1],fun r' hr'=>?_,Ls',by rw[Vj,Vu,e3],fun i y r' hy hr'=>?_⟩
 ·rcases Q1.1 hr' with h|h
  ·exact h2 r' h
  ·rw[QC.1 h];exact hx.rd.len
 ·rcases snoc_at hy with⟨hi,hy⟩|⟨rfl,rfl⟩
  ·rcases snoc_at hr' with⟨_,hr'⟩|⟨e,_⟩
   ·rw[e1 i hi];exact h3 i y r' hy hr'
   ·omega
  ·rcases snoc_at hr' with⟨e,_⟩|⟨_,rfl⟩
   ·omega
   ·rw[e2];exact hx
theorem LtOwn.of {k:Nat}{n:Int}{b:Nat}{t:ByteArray}{items:List Lt}{sv:Value}{rows:List (List Value)}{sp:List Value}{K:List kC}(hsl:jC 5 sv items.length rows.flatten sp)(h:LtRows items rows K)(wf:LtWf k n b t items.length):
 LtOwn (.mk k n b t items) [cv k,vi n,uv b,.string t,sv] (slA sv rows.flatten sp++K):=by
 obtain⟨h1,h2,Ls,rfl,h3⟩:=h;exact .mk hsl h1 h2 h3 wf (vW _)
theorem LtOwn.parts {x:Lt}{vs:List Value}{L:List kC}(h:LtOwn x vs L):∃sv rows sp K,vs=[cv x.kind,vi x.n,uv x.bits,.string x.text,sv]/\jC 5 sv x.items.length rows.flatten sp/\LtRows x.items rows K/\LtWf x.kind x.n x.bits x.text x.items.length/\L.Perm (slA sv rows.flatten sp++K):=by
 cases h with
 |mk hsl hl h5 hr wf hL=>exact⟨_,_,_,_,rfl,hsl,⟨hl,h5,_,rfl,hr⟩,wf,hL⟩
structure Foc (p9:Nat)(x0:Nd)(M:List kC)(b o:Nat)(x:Nd)(vs:List Value)(L R:List kC):Prop where
 own:NdOwn x vs L
 here:M.Perm (kA b o vs++(L++R))
 w:x.w<=x0.w
 back:∀y ws L',NdOwn y ws L'->ndEq x y=false->ndEq y x=false->∃z us Lz,ndEq x0 z=false/\ndEq z x0=false/\NdOwn z us Lz/\(kA b o ws++(L'++R)).Perm (kA p9 0 us++Lz)
section
variable {H:Type} {enc:TypeId×Value->H} {P:Program} {bulk:DataW H->Nat}
open Go.ChangeShapes Go.WideShapes Go.Deep
end
end Go.V
namespace Go.Proofs.YtijnokbblmbpkaaGreatDoor
open Go Go.V
set_option maxHeartbeats 3200000
set_option maxRecDepth 100000
theorem lt_openS {A:List kC}{x:Lt}{vs:List Value}(h:LtRd A x vs):∃(e:Option Addr) (c:Nat),vs=[cv x.kind,vi x.n,uv x.bits,.string x.text,.slice e x.items.length c]:=by
 cases h with
 |mk wf ha hm hr=>exact⟨_,_,rfl⟩
theorem sown_spec(A:List kC):∀(N:Nat) (x:Lt),x.size<=N->x.size<=274877906944->∀vs,LtRd A x vs->Fun Tryz.prog 208 [.agg vs.toArray] [A] (fun v Post=>∃ws B,v=.agg ws.toArray/\LtOwn x ws B/\Post=[A,B]):=by
 intro N
 induction N with
 |zero=>intro x hx;have:=x.size_pos;omega
 |succ N ih=>
  intro x hx hb vs h;cases h with
  |@mk k n b t items a c bk o us wf ha hm hr=>
  simp only[Lt.size]at hx hb;have hge:=sizes_ge items;refine Fun.intro low208 (by simp[n208]) ?_;refine GOH ?_;refine kd Zr (fun q=>?_);simp only[Value.cells];refine kL (fun q2=>?_);refine GOH ?_;refine VC.loop (α:=Nat×Value×List (List Value)×List Value×List kC) (Γf:=fun s=>[(1,kE q),(2,kE q2),(9,.slice a items.length c),(10,vi items.length),(11,vi s.1)]) (Hf:=fun s=>[kA q 0 [cv k,vi n,uv b,.string t,s.2.1],slA s.2.1 s.2.2.1.flatten s.2.2.2.1,s.2.2.2.2,kA q2 0 [.int .u8 0,.int .i64 0,.int .u64 0,.string ⟨#[]⟩,.slice none 0 0],A])
   (I:=fun s=>s.1<=items.length/\jC 5 s.2.1 s.1 s.2.2.1.flatten s.2.2.2.1/\LtRows (items.take s.1) s.2.2.1 s.2.2.2.2) (μ:=fun s=>items.length - s.1) (0,.slice none 0 0,[],[],[]) ⟨Qf _,.nil,LtRows.nil⟩ ZU (Imp.cut (M:=[kA q 0 [cv k,vi n,uv b,.string t,.slice none 0 0],kA q2 0 [.int .u8 0,.int .i64 0,.int .u64 0,.string ⟨#[]⟩,.slice none 0 0],A]) ZI (Imp.perm (by simp[slA]))) ?_
  rintro⟨j,sv,rows,sp,B⟩ ⟨i1,i2,i3⟩
  simp only at i1 i2 i3;dsimp only;obtain⟨sa,sc,rfl⟩:=i2.form;refine GOH ?_;by_cases hj:j < items.length;rotate_left
  ·rw[show decide ((j:Int) < (items.length:Int))=false from Zf Zo];have hjl:j=items.length:=by omega
   subst hjl;rw[List.take_length]at i3;have hmade:=LtOwn.of i2 i3 wf;refine GOH ?_;exact⟨.inr rfl,[.agg #[cv k,vi n,uv b,.string t,.slice sa items.length sc]],[A,slA (.slice sa items.length sc) rows.flatten sp++B],.cellN (us:=[cv k,vi n,uv b,.string t,.slice sa items.length sc]) Zr Zr (fun y hy=>by simp only[vz,Q1];repeat (first|exact Or.inl hy|refine Or.inr ?_)) .nil,Imp.cut (M:=[A,slA (.slice sa items.length sc) rows.flatten sp,B]) ZI (Imp.perm Zs),⟨_,_,rfl,hmade,rfl⟩⟩
  obtain rfl:=ha Zo;rw[show decide ((j:Int) < (items.length:Int))=true from Zt Zo];obtain⟨y,hy⟩:∃y,items[j]? =some y:=⟨_,Zg hj⟩;have hym:=hm j hj;have hyr:=hr j y hy;have hsz:=Lt.sizes_mem (Zv hy);have hcall:=ih y Zo Zo (us j) hyr;generalize us j=uj at*;obtain⟨e1,c1,rfl⟩:=lt_openS hyr;refine GOH ?_;refine kZ Zr (fun z hz=>by have h9:=hym z hz;simp[h9]) rfl ?_;refine GOH ?_;refine kL (fun q5=>?_);refine GOH ?_;refine VC.draws ⟨?_,?_,trivial⟩
  all_goals
   refine GOH ?_;refine kM hcall Zr ZP (fun v Post hv=>?_);obtain⟨ws,B2,rfl,hw,rfl⟩:=hv;simp only[CNx];have hwr:=hw.rd;obtain⟨e2,c2,rfl⟩:=lt_openS hwr;have hsn:=i3.snoc hw;rw[show items.take j++[y]=items.take (j+1) by rw[QO,hy];rfl]at hsn;refine GOH ?_;refine j9 (out:=[cv y.kind,vi y.n,uv y.bits,.string y.text,.slice e2 y.items.length c2]) Zr Zr (fun r=>?_);refine jF (k:=j) (m:=1) (xs:=rows.flatten) (sp:=sp) (ys:=[cv y.kind,vi y.n,uv y.bits,.string y.text,.slice e2 y.items.length c2]) Zr Zr i2 ZK Zr ?_ rfl Zr Zr Zd Zo (fun sv' sp' hsl'=>?_)
   ·exact Zal
   have hfl:rows.flatten++[cv y.kind,vi y.n,uv y.bits,.string y.text,.slice e2 y.items.length c2]=(rows++[[cv y.kind,vi y.n,uv y.bits,.string y.text,.slice e2 y.items.length c2]]).flatten:=by simp
   rw[hfl]at hsl'|-;obtain⟨va,vc,rfl⟩:=hsl'.form;refine GOH ?_;refine⟨(j+1,.slice va (j+1) vc,rows++[[cv y.kind,vi y.n,uv y.bits,.string y.text,.slice e2 y.items.length c2]],sp',B++B2),⟨by simp only;omega,hsl',hsn⟩,by simp only;omega,ZU,?_⟩;simp only;refine Imp.cut (M:=[kA q 0 [cv k,vi n,uv b,.string t,.slice va (j+1) vc],slA (.slice va (j+1) vc) (rows++[[cv y.kind,vi y.n,uv y.bits,.string y.text,.slice e2 y.items.length c2]]).flatten sp',B,B2,kA q2 0 [.int .u8 0,.int .i64 0,.int .u64 0,.string ⟨#[]⟩,.slice none 0 0],A]) ZI (Imp.perm Zs)
end Go.Proofs.YtijnokbblmbpkaaGreatDoor
namespace Go.Proofs.YtijnokbblmbpkaaGreatDoor
open Go Go.V
set_option maxHeartbeats 12800000
set_option maxRecDepth 100000
def pRow(k:Int)(nm:ByteArray)(vv kv:Value):List Value:=[.int .u8 k,.string nm,.int .u8 0,.int .i64 0,.int .u64 0,.string e0,.slice none 0 0,.slice none 0 0,.int .i64 0,.bool false,.slice none 0 0,vv,kv]
structure SpS where
 j:Nat
 st:SSt
 us:Value
 usp:List Value
 U:List UC
 V:List VCl
 T:List kC
 sv:Value
 rows:List (List Value)
 sp:List Value
 B:List kC
 pns:List PN
 vv:Value
 pts:List Nat
 vsp:List Value
 rs:List z7
structure SpI (X:Fix)(nm:ByteArray)(l:List Nd)(st:SSt)(env:List Nat)(i:Nat)(q:Nat)(Uq Vq:List Nat)(s:SpS):Prop where
 j:s.j<=l.length
 u:∃w,s.U[i]? =some w/\w.q=q
 ok:StOk s.st s.us s.usp s.U s.V s.T
 gr:Gr st s.st
 pU:Uq <+:s.U.map UC.q
 pV:Vq <+:s.V.map VCl.q
 room:Room s.st (jK (l.drop s.j))
 e3:(ky X.F X.G nm l 0 st env i).2.2=(ky X.F X.G nm (l.drop s.j) s.j s.st env i).2.2
 e1:(ky X.F X.G nm l 0 st env i).1=s.pns++(ky X.F X.G nm (l.drop s.j) s.j s.st env i).1
 e2:(ky X.F X.G nm l 0 st env i).2.1=s.rs++(ky X.F X.G nm (l.drop s.j) s.j s.st env i).2.1
 pl:s.pns.length=s.j
 sl:jC 13 s.sv s.j s.rows.flatten s.sp
 rw:z9 s.B (s.V.map VCl.q) s.pns s.rows
 vsl:jC 1 s.vv s.pts.length (s.pts.map fun b=>kK (some b)) s.vsp
 raw:∀r∈s.rs,∃v,r=rawR v/\v < (s.V.map VCl.q).length
 pts:s.pts=s.rs.map fun r=>(s.V.map VCl.q).getD r.index.toNat 0
 few:s.rs.length<=s.j
theorem unit_more {U U':List UC}{i:Nat}{w:UC}(hw:U[i]? =some w)(h:U.map UC.q <+:U'.map UC.q):∃w',U'[i]? =some w'/\w'.q=w.q:=by
 obtain⟨t,ht⟩:=h;have h1:(U.map UC.q)[i]? =some w.q:=by rw[Ve,hw];rfl
 have h2:(U'.map UC.q)[i]? =some w.q:=by rw[<- ht,V7 (Vd.1 h1).1];exact h1
 rw[Ve]at h2;exact Qk.1 h2
theorem raws_more {qs qs':List Nat}{rs:List z7}(h:∀r∈rs,∃v,r=rawR v/\v < qs.length)(hq:qs <+:qs'):(∀r∈rs,∃v,r=rawR v/\v < qs'.length)/\(rs.map fun r=>qs'.getD r.index.toNat 0)=rs.map fun r=>qs.getD r.index.toNat 0:=by
 refine⟨fun r hr=>let⟨v,h1,h2⟩:=h r hr;⟨v,h1,QZ h2 hq.length_le⟩,Vx fun r hr=>?_⟩;obtain⟨v,rfl,hv⟩:=h r hr;exact zD4
theorem raws_only {qs:List Nat}{rs:List z7}(h:∀r∈rs,∃v,r=rawR v/\v < qs.length):rawsR rs=rs/\wS rs=[]/\zR qs rs:=by
 refine⟨vt.2 fun r hr=>?_,vr.2 fun r hr=>?_,.inl fun r hr=>?_,fun r hr _=>h r hr⟩
 ·obtain⟨v,rfl,_⟩:=h r hr;rfl
 ·obtain⟨v,rfl,_⟩:=h r hr;simp[rawR]
 ·obtain⟨v,rfl,_⟩:=h r hr;rfl
section
variable {X:Fix} {nm:ByteArray} {l:List Nd} {st:SSt} {env:List Nat} {i q:Nat} {Uq Vq:List Nat} {s:SpS}
theorem SpI.out(h:SpI X nm l st env i q Uq Vq s){y:Nd}(hy:l[s.j]? =some y)(hin:inlK nm s.j=false){us2:Value}{usp2:List Value}{U2:List UC}{V2:List VCl}{T2 B2:List kC}(hS:StOk (jD X.F X.G y s.st env i).2 us2 usp2 U2 V2 T2)(hU:s.U.map UC.q <+:U2.map UC.q)(hV:s.V.map VCl.q <+:V2.map VCl.q)
 {ws:List Value} {pn:PN} (hpn:pn=(jD X.F X.G y s.st env i).1) (hn:NRd B2 (V2.map VCl.q) pn ws) {sv':Value} {sp':List Value} (hsl:jC 13 sv' (s.j+1) (s.rows++[ws]).flatten sp'):
 SpI X nm l st env i q Uq Vq ⟨s.j+1,(jD X.F X.G y s.st env i).2,us2,usp2,U2,V2,T2,sv',s.rows++[ws],sp',s.B++B2,s.pns++[pn],s.vv,s.pts,s.vsp,s.rs⟩:=by
 subst hpn;have hlt:=(Vd.1 hy).1;have hdr:l.drop s.j=y::l.drop (s.j+1):=by
  exact zD3
 obtain⟨h1,h2,h3,h4,h5,h6,h7,h8,h9,h10,h11,h12,h13,h14,h15,h16,h17⟩:=h;rw[hdr]at h7 h8 h9 h10;simp only[jK]at h7;rw[specS_out _ _ _ _ _ _ _ _ _ hin]at h8 h9 h10;have hl:=(less_part X.F X.G _ y (QW _) s.st env i).1;obtain⟨w,hw,hwq⟩:=h2;obtain⟨w',hw',hwq'⟩:=unit_more hw hU;obtain⟨r1,r2⟩:=raws_more h15 hV;exact⟨hlt,⟨w',hw',hwq'.trans hwq⟩,hS,h4.trans (gr_part X.F X.G _ y (QW _) s.st env i).1,h5.trans hU,h6.trans hV,h7.less hl,h8,by rw[h9];simp,h10,by simp[h11],hsl,(h13.more (fun x hx=>Zw _ hx) hV).snoc (hn.more (fun x hx=>Q3 _ hx) (QM _)),h14,r1,h16.trans r2.symm,by simp only;omega⟩
theorem SpI.inn(h:SpI X nm l st env i q Uq Vq s){y:Nd}(hy:l[s.j]? =some y)(hin:inlK nm s.j=true){us2:Value}{usp2:List Value}{U2:List UC}{V2:List VCl}{T2 B2:List kC}(hS:StOk (inlS X.F X.G y s.st env i).2 us2 usp2 U2 V2 T2)(hU:s.U.map UC.q <+:U2.map UC.q)(hV:s.V.map VCl.q <+:V2.map VCl.q)
 {ws:List Value} {pn:PN} (hpn:pn=(inlS X.F X.G y s.st env i).1) (hn:NRd B2 (V2.map VCl.q) pn ws) {sv':Value} {sp':List Value} (hsl:jC 13 sv' (s.j+1) (s.rows++[ws]).flatten sp')
 {vv':Value} {vsp':List Value} {pts':List Nat} (hp:(jM nm≠5/\vv'=s.vv/\vsp'=s.vsp/\pts'=s.pts)∨(jM nm=5/\s.st.vars.length < (V2.map VCl.q).length/\pts'=s.pts++[(V2.map VCl.q).getD s.st.vars.length 0]/\jC 1 vv' pts'.length (pts'.map fun b=>kK (some b)) vsp')):
 SpI X nm l st env i q Uq Vq ⟨s.j+1,(inlS X.F X.G y s.st env i).2,us2,usp2,U2,V2,T2,sv',s.rows++[ws],sp',s.B++B2,s.pns++[pn],vv',pts',vsp',s.rs++(if jM nm=5 then [rawR s.st.vars.length]else [])⟩:=by
 subst hpn;have hlt:=(Vd.1 hy).1;have hdr:l.drop s.j=y::l.drop (s.j+1):=by
  exact zD3
 obtain⟨h1,h2,h3,h4,h5,h6,h7,h8,h9,h10,h11,h12,h13,h14,h15,h16,h17⟩:=h;rw[hdr]at h7 h8 h9 h10;simp only[jK]at h7;rw[specS_in _ _ _ _ _ _ _ _ _ hin]at h8 h9 h10;have hl:=(less_part X.F X.G _ y (QW _) s.st env i).2;obtain⟨w,hw,hwq⟩:=h2;obtain⟨w',hw',hwq'⟩:=unit_more hw hU;obtain⟨r1,r2⟩:=raws_more h15 hV;refine⟨hlt,⟨w',hw',hwq'.trans hwq⟩,hS,h4.trans (gr_part X.F X.G _ y (QW _) s.st env i).2,h5.trans hU,h6.trans hV,h7.less hl,h8,by rw[h9];simp,?_,by simp[h11],hsl,(h13.more (fun x hx=>Zw _ hx) hV).snoc (hn.more (fun x hx=>Q3 _ hx) (QM _)),?_,?_,?_,?_⟩
 ·rw[h10];simp only;split <;> simp
 ·rcases hp with⟨_,rfl,rfl,rfl⟩|⟨_,_,_,k⟩
  ·exact h14
  ·exact k
 ·intro r hr;rcases Q1.1 hr with hr|hr
  ·exact r1 r hr
  ·rcases hp with⟨k,_⟩|⟨k,k2,_⟩
   ·rw[if_neg k]at hr;cases hr
   ·rw[if_pos k,QC]at hr;exact⟨_,hr,k2⟩
 ·show pts'=_;rw[Vw,r2,<- h16];rcases hp with⟨k,_,_,k2⟩|⟨k,_,k2,_⟩
  ·rw[if_neg k,k2];simp
  ·rw[if_pos k,k2];show _=s.pts++[(V2.map VCl.q).getD ((s.st.vars.length:Int)).toNat 0];rw[vS]
 ·show(s.rs++_).length<=s.j+1;rw[Vj];split
  ·rw[Vu];omega
  ·rw[Vr];omega
theorem SpI.fin(h:SpI X nm l st env i q Uq Vq s)(hj:s.j=l.length):StOk (ky X.F X.G nm l 0 st env i).2.2 s.us s.usp s.U s.V s.T/\
 NRd (slA s.sv s.rows.flatten s.sp++(s.B++slA s.vv (s.pts.map fun b=>kK (some b)) s.vsp)) (s.V.map VCl.q) (.mk (speK nm) (speN nm) lt0 (ky X.F X.G nm l 0 st env i).2.1 0 false (ky X.F X.G nm l 0 st env i).1) (pRow (speK nm:Nat) (speN nm) s.vv s.sv):=by
 obtain⟨h1,h2,h3,h4,h5,h6,h7,h8,h9,h10,h11,h12,h13,h14,h15,h16,h17⟩:=h;rw[hj,List.drop_length,ky]at h8 h9 h10;simp only[vd]at h9 h10;rw[h8,h9,h10];refine⟨h3,?_⟩;obtain⟨k1,k2,k3⟩:=raws_only h15;rw[<- h11]at h12;have:=n_made (k:=speK nm) (nm:=speN nm) (lit:=lt0) (refs:=s.rs) (unit:=0) (sup:=false) (rv:=.slice none 0 0) (vv:=s.vv) (B:=s.B++slA s.vv (s.pts.map fun b=>kK (some b)) s.vsp) h12 (h13.more (fun x hx=>Zw _ hx) (QM _)) (lt0_rd _) (by rw[k2];exact jm.nil _) (by
  rw[k1,<- h16];exact(ptrs_made rfl h14).more (fun x hx=>Q3 _ hx)) k3
 exact this
end
theorem gr_spec(F G:List ByteArray)(nm:ByteArray)(env:List Nat)(u:Nat):∀(l:List Nd) (i:Nat) (st:SSt),Gr st (ky F G nm l i st env u).2.2:=by
 intro l
 induction l with
 |nil=>intro i st;rw[ky];exact Gr.refl _
 |cons y q ihq=>
  intro i st;obtain⟨k1,k2⟩:=gr_part F G _ y (QW _) st env u;cases hi:inlK nm i with
  |true=>rw[specS_in _ _ _ _ _ _ _ _ _ hi];exact k2.trans (ihq _ _)
  |false=>rw[specS_out _ _ _ _ _ _ _ _ _ hi];exact k1.trans (ihq _ _)
theorem inl_args {nm:ByteArray}{kids:List Nd}(hf:fitK (jM nm) kids=true){i:Nat}{y:Nd}(hy:kids[i]? =some y)(hi:inlK nm i=true):(jM nm=5/\y.args.length=1)∨(jM nm≠5/\y.args.length=0):=by
 have hl:=(Vd.1 hy).1;rw[inlK_iff hf hl]at hi;simp only[vF,decide_eq_true_eq]at hi;have hle:=selK_le nm;generalize jM nm=n at hf hi hle;have hn:n=0∨n=5∨(n=1∨n=2∨n=3∨n=4):=by omega
 rcases hn with rfl|rfl|hn
 ·cases hf
 ·obtain⟨h1,b,h2,h3,h4⟩:=fit5 hf;simp only[jB,toK]at hi;obtain rfl:i=2:=by omega
  rw[hy]at h2;rw[Qn h2];exact .inl ⟨rfl,h4⟩
 ·cases hp:jg y with
  |true=>exact .inr ⟨Zo,(plain_args hp).2⟩
  |false=>
   have:=fit_not hn hi.1 hy hp;rw[hf]at this;cases this
theorem inl_vars(F G:List ByteArray)(y:Nd)(st:SSt)(env:List Nat)(u:Nat):st.vars.length+y.args.length<=(inlS F G y st env u).2.vars.length:=by
 cases y with
 |mk k s lit args temps kids p=>
 rw[inlS_eq];obtain⟨f1,f2,f3,f4⟩:=jR u true false p args 0 st env;have g:=zZ u false false p temps 0 (kN u true false p args 0 st env).1 (kN u true false p args 0 st env).2;have g2:=zK F G kids (kN u false false p temps 0 (kN u true false p args 0 st env).1 (kN u true false p args 0 st env).2).1 (kN u false false p temps 0 (kN u true false p args 0 st env).1 (kN u true false p args 0 st env).2).2 u;have h1:=g.vars.length_le;have h2:=g2.vars.length_le;show st.vars.length+args.length<=_;simp only;omega
theorem nd_len:∀l:List Nd,l.length<=Nd.sizes l:=by
 intro l
 induction l with
 |nil=>exact QW _
 |cons x r ih=>have:=x.size_pos;simp only[Nd.sizes,Vl];omega
theorem special_spec(X:Fix)(l1 l2 l3 l4 l5 vk av tv:Value)(s:ByteArray)(kids:List Nd)(a:Option Addr)(ac bk ko:Nat)(ks:Nat->List Value)(hll:kids.length < 1073741824)(ha:0 < kids.length->a=some ⟨bk,ko,none⟩)(hm:∀i,i < kids.length->∀y∈kA bk (ko+i*11) (ks i),y∈X.S)(hr:∀i x,kids[i]? =some x->jQ X.S x (ks i))(N:Nat)(hN:Nd.sizes kids<=N)(hN2:N < 1073741824)(hkk:okNs kids=true)(hok:∀x,x.size<=N->okN x=true->∀vs,jQ X.S x vs->PartOk X x vs)(p:Int)(hfit:fitK (jM s) kids=true)
 (st:SSt) (us:Value) (usp:List Value) (U:List UC) (Vs:List VCl) (T:List kC) (hS:StOk st us usp U Vs T) (i:Nat) (u:UC) (hu:U[i]? =some u) (env:List Nat) (b:Nat) (es:Array MapEntry) (c:Nat) (hs:wX st Vs env es c) (hln:∀v∈env,st.unitOf v∈st.line i) (hroom:Room st (jK kids)):
 StepOk X 207 [kE X.wq,.agg #[vk,.string s,l1,l2,l3,l4,l5,av,tv,.slice a kids.length ac,.int .i64 p],vi (jB (jM s)),vi (toK (jM s)),kE u.q,.map (some b)] st (ky X.F X.G s kids 0 st env i).2.2 us usp U Vs T b es c (PartR (.mk (speK s) (speN s) lt0 (ky X.F X.G s kids 0 st env i).2.1 0 false (ky X.F X.G s kids 0 st env i).1)):=by
 have hsk:jM s=1∨jM s=2∨jM s=3∨jM s=4∨jM s=5:=by
  have h1:=selK_le s;have h2:jM s≠0:=fun e=>by rw[e]at hfit;cases hfit
  omega
 have hto:s=nmTo↔jM s=5:=by
  constructor
  ·rintro rfl;decide
  ·intro h;unfold jM at h
   repeat' split at h
   all_goals first|omega|assumption
 refine jY.intro low207 (by simp[n207]) ?_;refine VC.join (α:=Nat×Nat) (Γf:=fun q=>[(0,kE X.wq),(2,vi (jB (jM s))),(3,vi (toK (jM s))),(4,kE u.q),(5,.map (some b)),(7,kE q.1),(12,kE q.2)]) (Hf:=fun q=>[kA q.2 0 (pRow 0 e0 (.slice none 0 0) (.slice none 0 0)),kA q.1 0 [vk,.string s,l1,l2,l3,l4,l5,av,tv,.slice a kids.length ac,.int .i64 p],kA X.wq 0 [.map (some X.fb),.map (some X.gb),us],slA us (U.map fun u=>kK (some u.q)) usp,[.obj X.fb (.map X.fes X.fc)],[.obj X.gb (.map X.ges X.gc)],WK U Vs,T,[.obj b (.map es c)],X.S]) (I:=fun _=>True) ?_ ?_
 ·refine GOH ?_;refine kd Zr (fun q7=>?_);simp only[Value.cells];refine kL (fun q12=>?_);refine GOH ?_;exact⟨(q7,q12),trivial,ZU,by unfold pRow e0;exact IMx⟩
 rintro⟨q7,q12⟩ _
 dsimp only;refine VC.join (α:=Nat) (Γf:=fun q13=>[(0,kE X.wq),(2,vi (jB (jM s))),(3,vi (toK (jM s))),(4,kE u.q),(5,.map (some b)),(7,kE q7),(12,kE q12),(13,kE q13)]) (Hf:=fun q13=>[kA q13 0 (pRow 11 s (.slice none 0 0) (.slice none 0 0)),kA q12 0 (pRow 0 e0 (.slice none 0 0) (.slice none 0 0)),kA q7 0 [vk,.string s,l1,l2,l3,l4,l5,av,tv,.slice a kids.length ac,.int .i64 p],kA X.wq 0 [.map (some X.fb),.map (some X.gb),us],slA us (U.map fun u=>kK (some u.q)) usp,[.obj X.fb (.map X.fes X.fc)],[.obj X.gb (.map X.ges X.gc)],WK U Vs,T,[.obj b (.map es c)],X.S]) (I:=fun _=>True) ?_ (fun q13 _=>?_)
 ·refine GOH ?_;refine kL (fun q13=>?_);refine GOH ?_;exact⟨q13,trivial,ZU,by unfold pRow e0;exact IMx⟩
 refine VC.join (α:=Unit) (Γf:=fun _=>[(0,kE X.wq),(2,vi (jB (jM s))),(3,vi (toK (jM s))),(4,kE u.q),(5,.map (some b)),(7,kE q7),(12,kE q12),(13,kE q13)]) (Hf:=fun _=>[kA q13 0 (pRow (speK s:Nat) (speN s) (.slice none 0 0) (.slice none 0 0)),kA q12 0 (pRow 0 e0 (.slice none 0 0) (.slice none 0 0)),kA q7 0 [vk,.string s,l1,l2,l3,l4,l5,av,tv,.slice a kids.length ac,.int .i64 p],kA X.wq 0 [.map (some X.fb),.map (some X.gb),us],slA us (U.map fun u=>kK (some u.q)) usp,[.obj X.fb (.map X.fes X.fc)],[.obj X.gb (.map X.ges X.gc)],WK U Vs,T,[.obj b (.map es c)],X.S]) (I:=fun _=>True) ?_ (fun _ _=>?_)
 ·unfold pRow;refine GOH ?_;rcases hsk with h|h|h|h|h
  ·exact zB4
  ·exact zB4
  ·exact zBQ
  ·exact zBQ
  ·have hf:jB (jM s)=2:=by rw[h];rfl
   have e1:speK s=13:=by simp[speK,h]
   have e2:speN s=e0:=by simp[speN,h]
   rw[e1,e2];rw[show decide ((jB (jM s):Int)=0)=false from Zf Zo];refine GOH ?_;rw[show decide (s=⟨#[116,111,58,100,111,58]⟩)=true from Zt (hto.2 h)];refine GOH ?_;exact⟨(),trivial,ZU,by simp only[e0];exact Imp.refl _⟩
 refine GOH ?_;refine VC.loop (α:=SpS) (Γf:=fun p=>[(0,kE X.wq),(2,vi (jB (jM s))),(3,vi (toK (jM s))),(4,kE u.q),(5,.map (some b)),(12,kE q12),(13,kE q13),(36,.slice a kids.length ac),(37,vi kids.length),(38,vi p.j)])
  (Hf:=fun p=>[kA q13 0 (pRow (speK s:Nat) (speN s) p.vv p.sv),kA q12 0 (pRow 0 e0 (.slice none 0 0) (.slice none 0 0)),kA X.wq 0 [.map (some X.fb),.map (some X.gb),p.us],slA p.us (p.U.map fun u=>kK (some u.q)) p.usp,[.obj X.fb (.map X.fes X.fc)],[.obj X.gb (.map X.ges X.gc)],WK p.U p.V,p.T,[.obj b (.map es c)],X.S,slA p.sv p.rows.flatten p.sp,p.B,slA p.vv (p.pts.map fun b=>kK (some b)) p.vsp]) (I:=SpI X s kids st env i u.q (U.map UC.q) (Vs.map VCl.q)) (μ:=fun p=>kids.length - p.j) ⟨0,st,us,usp,U,Vs,T,.slice none 0 0,[],[],[],[],.slice none 0 0,[],[],[]⟩
  ⟨Qf _,⟨u,hu,rfl⟩,hS,Gr.refl st,QM _,QM _,hroom,rfl,rfl,rfl,rfl,.nil,z9.nil _ _,.nil,Zs,rfl,QW _⟩ ZU (Imp.cut (M:=[kA q13 0 (pRow (speK s:Nat) (speN s) (.slice none 0 0) (.slice none 0 0)),kA q12 0 (pRow 0 e0 (.slice none 0 0) (.slice none 0 0)),kA X.wq 0 [.map (some X.fb),.map (some X.gb),us],slA us (U.map fun u=>kK (some u.q)) usp,[.obj X.fb (.map X.fes X.fc)],[.obj X.gb (.map X.ges X.gc)],WK U Vs,T,[.obj b (.map es c)],X.S]) ZI (Imp.perm (by simp[slA]))) ?_
 rintro⟨j,st1,us1,usp1,U1,V1,T1,sv,rows,sp,B,pns,vv,pts,vsp,rs⟩ hp
 have hjl:j<=kids.length:=hp.j;obtain⟨sa,sc,hsv⟩:∃sa sc,sv=.slice sa j sc:=hp.sl.form;obtain⟨pa,pc,hvv⟩:∃pa pc,vv=.slice pa pts.length pc:=hp.vsl.form;obtain⟨w,hw,hwq⟩:∃w,U1[i]? =some w/\w.q=u.q:=hp.u;subst hsv;subst hvv;dsimp only;unfold pRow;refine GOH ?_;by_cases hlt:j < kids.length;rotate_left
 ·rw[show decide ((j:Int) < (kids.length:Int))=false from Zf Zo];obtain⟨f1,f2⟩:=hp.fin (by show j=kids.length;omega);refine GOH ?_;refine jI ⟨.inr rfl,_,[kA X.wq 0 [.map (some X.fb),.map (some X.gb),us1],slA us1 (U1.map fun u=>kK (some u.q)) usp1,[.obj X.fb (.map X.fes X.fc)],[.obj X.gb (.map X.ges X.gc)],WK U1 V1,T1,[.obj b (.map es c)],X.S,slA (.slice sa j sc) rows.flatten sp++(B++slA (.slice pa pts.length pc) (pts.map fun b=>kK (some b)) vsp)],.cellN (us:=pRow (speK s:Nat) (speN s) (.slice pa pts.length pc) (.slice sa j sc)) Zr Zr (fun y hy=>by simp only[vz,Q1];repeat (first|exact Or.inl hy|refine Or.inr ?_)) .nil,?_,⟨us1,usp1,U1,V1,T1,_,⟨f1,hp.pU,hp.pV,_,rfl,f2⟩,rfl⟩⟩;refine Imp.cut (M:=[kA X.wq 0 [.map (some X.fb),.map (some X.gb),us1],slA us1 (U1.map fun u=>kK (some u.q)) usp1,[.obj X.fb (.map X.fes X.fc)],[.obj X.gb (.map X.ges X.gc)],WK U1 V1,T1,[.obj b (.map es c)],X.S,slA (.slice sa j sc) rows.flatten sp,B,slA (.slice pa pts.length pc) (pts.map fun b=>kK (some b)) vsp]) ZI (Imp.perm Zs)
 rw[show decide ((j:Int) < (kids.length:Int))=true from Zt Zo];obtain rfl:=ha Zo;obtain⟨y,hy⟩:∃y,kids[j]? =some y:=⟨_,Zg hlt⟩;have hym:=hm j hlt;have hyr:=hr j y hy;have hysz:y.size<=N:=by have:=Nd.sizes_mem (Zv hy);omega
 have hyok:=okNs_mem hkk (Zv hy);have hoy:=hok y hysz hyok;have hiq:=inlK_iff hfit hlt;generalize ks j=kj at*;refine GOH ?_;obtain⟨e1,e2,e3,e4,e5,e6,e7,a1,c1,a2,c2,a3,c3,bk2,o2,us2,rfl,hlit,hav,htv,hk8,ha2,hm2,hr2,hcp2⟩:=nd_openK hyr;refine kZ Zr (fun z hz=>by have h9:=hym z hz;simp[h9]) rfl ?_;refine jU ?_;refine kL (fun q15=>?_);refine jU ?_;refine VC.seq ?_;refine VC.join (α:=Unit) (Γf:=fun _=>[(0,kE X.wq),(2,vi (jB (jM s))),(3,vi (toK (jM s))),(4,kE u.q),(5,.map (some b)),(12,kE q12),(13,kE q13),(15,kE q15),(36,.slice (some ⟨bk,ko,none⟩) kids.length ac),(37,vi kids.length),(38,vi j),(50,.bool (!inlK s j))])
  (Hf:=fun _=>[kA q15 0 [.int .u8 y.kind,.string y.name,.int .u8 e1,.int .i64 e2,.int .u64 e3,.string e4,.slice e5 e6 e7,.slice a1 y.args.length c1,.slice a2 y.temps.length c2,.slice a3 y.kids.length c3,.int .i64 y.at_],kA q13 0 [.int .u8 (speK s:Nat),.string (speN s),.int .u8 0,.int .i64 0,.int .u64 0,.string e0,.slice none 0 0,.slice none 0 0,.int .i64 0,.bool false,.slice none 0 0,.slice pa pts.length pc,.slice sa j sc],kA q12 0 [.int .u8 0,.string e0,.int .u8 0,.int .i64 0,.int .u64 0,.string e0,.slice none 0 0,.slice none 0 0,.int .i64 0,.bool false,.slice none 0 0,.slice none 0 0,.slice none 0 0],kA X.wq 0 [.map (some X.fb),.map (some X.gb),us1],slA us1 (U1.map fun u=>kK (some u.q)) usp1,[.obj X.fb (.map X.fes X.fc)],[.obj X.gb (.map X.ges X.gc)],WK U1 V1,T1,[.obj b (.map es c)],X.S,slA (.slice sa j sc) rows.flatten sp,B,slA (.slice pa pts.length pc) (pts.map fun b=>kK (some b)) vsp]) (I:=fun _=>True) ?_ (fun _ _=>?_)
 ·rw[hiq];refine GOH ?_;by_cases c1:(j:Int) < (jB (jM s):Int)
  ·rw[Zt c1,show decide (jB (jM s)<=j)=false from Zf Zo];refine GOH ?_;exact⟨(),trivial,ZU,Imp.refl _⟩
  ·rw[Zf c1,show decide (jB (jM s)<=j)=true from Zt Zo];refine GOH ?_;by_cases c2:(toK (jM s):Int)<=(j:Int)
   ·rw[Zt c2,show decide (j < toK (jM s))=false from Zf Zo];refine GOH ?_;exact⟨(),trivial,ZU,Imp.refl _⟩
   ·rw[Zf c2,show decide (j < toK (jM s))=true from Zt Zo];refine GOH ?_;exact⟨(),trivial,ZU,Imp.refl _⟩
 have hrm:Room st1 (jK (kids.drop j)):=hp.room;have hdr:kids.drop j=y::kids.drop (j+1):=by
  exact zD3
 rw[hdr]at hrm;simp only[jK]at hrm;have hS1:StOk st1 us1 usp1 U1 V1 T1:=hp.ok;have hgr:Gr st st1:=hp.gr;have hpV:Vs.map VCl.q <+:V1.map VCl.q:=hp.pV;have hil:i < st.outer.length:=by have:=(Vd.1 hu).1;rw[hS.rep.ul]at this;exact this
 have hs1:=hs.more hgr.vars hpV hS.rep.vl;have hln1:∀v∈env,st1.unitOf v∈st1.line i:=fun v hv=>by
  obtain⟨k1,k2⟩:=seen_line hgr hS.rep.wf hS1.rep.wf hil (hs.lt v hv);rw[k1,k2];exact hln v hv
 have hsl0:jC 13 (.slice sa j sc) j rows.flatten sp:=hp.sl;have hvsl0:jC 1 (.slice pa pts.length pc) pts.length (pts.map fun b=>kK (some b)) vsp:=hp.vsl;have hfew:rs.length<=j:=hp.few;have hptl:pts.length=rs.length:=by have e:pts=_:=hp.pts;rw[e,Vp]
 have he3:(ky X.F X.G s kids 0 st env i).2.2=(ky X.F X.G s (kids.drop j) j st1 env i).2.2:=hp.e3;rw[hdr]at he3;cases hin:inlK s j with
 |false=>
  rw[specS_out _ _ _ _ _ _ _ _ _ hin]at he3;simp only[vL];have hpart:=hoy _ hyr st1 us1 usp1 U1 V1 T1 hS1 i w hw env b es c hs1 hln1 (hrm.mono Zo);rw[hwq]at hpart;refine jU ?_;cases hfa:(jD X.F X.G y st1 env i).2.f with
  |some e=>
   have hbad:∀x,(jD X.F X.G y st1 env i).2.f=some x->(ky X.F X.G s kids 0 st env i).2.2.f=some x:=fun x hx=>by rw[he3];exact(gr_spec _ _ _ _ _ _ _ _).f _ hx
   refine VC.seq (VC.draw_panA ⟨⟨[_,_,_,_,_,_],_,_,_,_,rfl,?_⟩,⟨[_,_,_,_,_],_,_,_,_,rfl,?_⟩,trivial⟩)
   ·refine⟨?_,?_,trivial⟩
    all_goals
     refine GOH ?_;refine kJ hpart Zr ZP (fun v Post hv=>?_) (fun ch Post hz=>?_)
     ·exact zBM
     ·exact zBD
   ·refine⟨?_,?_,?_,?_,trivial⟩
    all_goals
     refine GOH ?_;refine kJ hpart Zr ZP (fun v Post hv=>?_) (fun ch Post hz=>?_)
     ·exact zBM
     ·exact zBD
  |none=>
   refine VC.seq (VC.draws ⟨?_,?_,trivial⟩)
   all_goals
    refine GOH ?_;refine kJ hpart Zr ZP (fun v Post hv=>?_) (fun ch Post hz=>?_);rotate_left
    ·obtain⟨q1,e1',p1,hb1,rfl,rfl⟩:=hz;rw[hfa]at hb1;cases hb1
    obtain⟨us2q,usp2,U2,V2,T2,B2,⟨hS2,hpU2,hpV2,ws,rfl,hn⟩,rfl⟩:=hv;simp only[CNx];obtain⟨pn,hpn⟩:∃pn,pn=(jD X.F X.G y st1 env i).1:=⟨_,rfl⟩;rw[<- hpn]at hn;obtain⟨f1,f2,f3,f4,f5,f6,f7,r1,r2,r3,p1,p2,p3,k1,k2,k3,hws⟩:=n_openS hn;subst hws;refine GOH ?_;refine j9 (out:=[.int .u8 pn.kind,.string pn.name,.int .u8 f1,.int .i64 f2,.int .u64 f3,.string f4,.slice f5 f6 f7,.slice r1 r2 r3,.int .i64 pn.unit,.bool pn.super,.slice none 0 0,.slice p1 p2 p3,.slice k1 k2 k3]) Zr Zr (fun r=>?_);refine GOH ?_;refine jF (k:=j) (m:=1) (xs:=rows.flatten) (sp:=sp) (ys:=[.int .u8 pn.kind,.string pn.name,.int .u8 f1,.int .i64 f2,.int .u64 f3,.string f4,.slice f5 f6 f7,.slice r1 r2 r3,.int .i64 pn.unit,.bool pn.super,.slice none 0 0,.slice p1 p2 p3,.slice k1 k2 k3]) Zr Zr hsl0 ZK Zr ?_ rfl Zr Zr Zd Zo (fun sv' sp' hsl'=>?_)
    ·exact Zal
    have hfl:rows.flatten++([.int .u8 pn.kind,.string pn.name,.int .u8 f1,.int .i64 f2,.int .u64 f3,.string f4,.slice f5 f6 f7,.slice r1 r2 r3,.int .i64 pn.unit,.bool pn.super,.slice none 0 0,.slice p1 p2 p3,.slice k1 k2 k3]:List Value)=(rows++[([.int .u8 pn.kind,.string pn.name,.int .u8 f1,.int .i64 f2,.int .u64 f3,.string f4,.slice f5 f6 f7,.slice r1 r2 r3,.int .i64 pn.unit,.bool pn.super,.slice none 0 0,.slice p1 p2 p3,.slice k1 k2 k3]:List Value)]).flatten:=by simp
    rw[hfl]at hsl'|-;obtain⟨sa',sc',rfl⟩:=hsl'.form;have hout:=hp.out hy hin hS2 hpU2 hpV2 hpn hn hsl';exact zAF
 |true=>
  rw[specS_in _ _ _ _ _ _ _ _ _ hin]at he3;simp only[Bool.not_true];have hbad:∀x,(inlS X.F X.G y st1 env i).2.f=some x->(ky X.F X.G s kids 0 st env i).2.2.f=some x:=fun x hx=>by rw[he3];exact(gr_spec _ _ _ _ _ _ _ _).f _ hx
  have hcn:cntN y=cntR y.args y.temps (jK y.kids):=by cases y;rfl
  have hys2:y.size=1+Nd.sizes y.kids:=by cases y;rfl
  have hyk:okNs y.kids=true:=by
   cases y;simp only[okN,vF]at hyok;exact hyok.2
  have hyl:=nd_len y.kids;have hinl:=inline_spec X (.int .u8 y.kind) (.int .u8 e1) (.int .i64 e2) (.int .u64 e3) (.string e4) (.slice e5 e6 e7) (.string y.name) y.kind y.name y.lit y.args y.temps (.slice a1 y.args.length c1) (.slice a2 y.temps.length c2) hav htv y.kids a3 c3 bk2 o2 us2 Zo ha2 hm2 hr2
   (fun i' x' hx'=>hok x' (by have:=Nd.sizes_mem (Zv hx');omega) (okNs_mem hyk (Zv hx')) _ (hr2 i' x' hx')) y.at_ st1 us1 usp1 U1 V1 T1 hS1 i w hw env b es c hs1 hln1 (by rw[<- hcn];exact hrm.mono Zo)
  rw[<- Nd.eta y,hwq]at hinl;rcases inl_args hfit hy hin with⟨h5,hal⟩|⟨h5,hal⟩
  ·skip
   refine GOH ?_;refine kJ hinl Zr ZP (fun v Post hv=>?_) (fun ch Post hz=>?_);rotate_left
   ·exact zBD
   obtain⟨us2q,usp2,U2,V2,T2,B2,⟨hS2,hpU2,hpV2,ws,hv,hn⟩,rfl⟩:=hv;simp only[CNx];obtain⟨pn,hpn⟩:∃pn,pn=(inlS X.F X.G y st1 env i).1:=⟨_,rfl⟩;rw[<- hpn]at hn;obtain⟨f1,f2,f3,f4,f5,f6,f7,r1,r2,r3,p1,p2,p3,k1,k2,k3,hws⟩:=n_openS hn;subst hws;have hvl2:st1.vars.length < (V2.map VCl.q).length:=by
    have h1:=inl_vars X.F X.G y st1 env i;rw[Vp,hS2.rep.vl];omega
   have hlv:lastV (((V2.map VCl.q).drop st1.vars.length).take y.args.length)=kE ((V2.map VCl.q).getD st1.vars.length 0):=by
    rw[hal,vh hvl2,V5,Zg hvl2];rfl
   rw[hlv]at hv;subst hv;refine GOH ?_;refine kL (fun q16=>?_);refine GOH ?_;refine j9 (out:=[.int .u8 pn.kind,.string pn.name,.int .u8 f1,.int .i64 f2,.int .u64 f3,.string f4,.slice f5 f6 f7,.slice r1 r2 r3,.int .i64 pn.unit,.bool pn.super,.slice none 0 0,.slice p1 p2 p3,.slice k1 k2 k3]) Zr Zr (fun r=>?_);refine GOH ?_;refine jF (k:=j) (m:=1) (xs:=rows.flatten) (sp:=sp) (ys:=[.int .u8 pn.kind,.string pn.name,.int .u8 f1,.int .i64 f2,.int .u64 f3,.string f4,.slice f5 f6 f7,.slice r1 r2 r3,.int .i64 pn.unit,.bool pn.super,.slice none 0 0,.slice p1 p2 p3,.slice k1 k2 k3]) Zr Zr hsl0 ZK Zr ?_ rfl Zr Zr Zd Zo (fun sv' sp' hsl'=>?_)
   ·exact Zal
   have hfl:rows.flatten++([.int .u8 pn.kind,.string pn.name,.int .u8 f1,.int .i64 f2,.int .u64 f3,.string f4,.slice f5 f6 f7,.slice r1 r2 r3,.int .i64 pn.unit,.bool pn.super,.slice none 0 0,.slice p1 p2 p3,.slice k1 k2 k3]:List Value)=(rows++[([.int .u8 pn.kind,.string pn.name,.int .u8 f1,.int .i64 f2,.int .u64 f3,.string f4,.slice f5 f6 f7,.slice r1 r2 r3,.int .i64 pn.unit,.bool pn.super,.slice none 0 0,.slice p1 p2 p3,.slice k1 k2 k3]:List Value)]).flatten:=by simp
   rw[hfl]at hsl'|-;obtain⟨sa',sc',rfl⟩:=hsl'.form;refine GOH ?_;refine j9 (out:=[kE ((V2.map VCl.q).getD st1.vars.length 0)]) Zr Zr (fun rr2=>?_);refine GOH ?_;refine jF (k:=pts.length) (m:=1) (xs:=pts.map fun b=>kK (some b)) (sp:=vsp) (ys:=[kE ((V2.map VCl.q).getD st1.vars.length 0)]) Zr Zr hvsl0 ZK Zr ?_ rfl Zr Zr Zd Zo (fun vv' vsp' hvsl'=>?_)
   ·exact Zal
   have hfv:(pts.map fun b=>kK (some b))++[kE ((V2.map VCl.q).getD st1.vars.length 0)]=(pts++[(V2.map VCl.q).getD st1.vars.length 0]).map fun b=>kK (some b):=by simp[kK]
   rw[hfv]at hvsl'|-;obtain⟨pa',pc',rfl⟩:=hvsl'.form;have hout:=hp.inn hy hin hS2 hpU2 hpV2 hpn hn hsl' (.inr ⟨h5,hvl2,rfl,by rw[Vj];exact hvsl'⟩);refine GOH ?_;refine⟨_,hout,by simp only;omega,ZU,?_⟩;simp only;refine Imp.cut (M:=[kA q13 0 [.int .u8 (speK s:Nat),.string (speN s),.int .u8 0,.int .i64 0,.int .u64 0,.string e0,.slice none 0 0,.slice none 0 0,.int .i64 0,.bool false,.slice none 0 0,.slice pa' (pts.length+1) pc',.slice sa' (j+1) sc'],kA q12 0 [.int .u8 0,.string e0,.int .u8 0,.int .i64 0,.int .u64 0,.string e0,.slice none 0 0,.slice none 0 0,.int .i64 0,.bool false,.slice none 0 0,.slice none 0 0,.slice none 0 0],kA X.wq 0 [.map (some X.fb),.map (some X.gb),us2q],slA us2q (U2.map fun u=>kK (some u.q)) usp2,[.obj X.fb (.map X.fes X.fc)],[.obj X.gb (.map X.ges X.gc)],WK U2 V2,T2,[.obj b (.map es c)],X.S,slA (.slice sa' (j+1) sc') (rows++[([.int .u8 pn.kind,.string pn.name,.int .u8 f1,.int .i64 f2,.int .u64 f3,.string f4,.slice f5 f6 f7,.slice r1 r2 r3,.int .i64 pn.unit,.bool pn.super,.slice none 0 0,.slice p1 p2 p3,.slice k1 k2 k3]:List Value)]).flatten sp',B,slA (.slice pa' (pts.length+1) pc') ((pts++[(V2.map VCl.q).getD st1.vars.length 0]).map fun b=>kK (some b)) vsp',B2]) ZI (Imp.perm ?_);simp only[vz,V0,vd,vZ]
   repeat (first|exact vU _ QH|refine vU _ ?_)
  ·skip
   refine GOH ?_;refine kJ hinl Zr ZP (fun v Post hv=>?_) (fun ch Post hz=>?_);rotate_left
   ·exact zBD
   obtain⟨us2q,usp2,U2,V2,T2,B2,⟨hS2,hpU2,hpV2,ws,hv,hn⟩,rfl⟩:=hv;simp only[CNx];obtain⟨pn,hpn⟩:∃pn,pn=(inlS X.F X.G y st1 env i).1:=⟨_,rfl⟩;rw[<- hpn]at hn;obtain⟨f1,f2,f3,f4,f5,f6,f7,r1,r2,r3,p1,p2,p3,k1,k2,k3,hws⟩:=n_openS hn;subst hws;have hlv:lastV (((V2.map VCl.q).drop st1.vars.length).take y.args.length)=.pointer none:=by
    rw[hal];rfl
   rw[hlv]at hv;subst hv;refine GOH ?_;refine kL (fun q16=>?_);refine GOH ?_;refine j9 (out:=[.int .u8 pn.kind,.string pn.name,.int .u8 f1,.int .i64 f2,.int .u64 f3,.string f4,.slice f5 f6 f7,.slice r1 r2 r3,.int .i64 pn.unit,.bool pn.super,.slice none 0 0,.slice p1 p2 p3,.slice k1 k2 k3]) Zr Zr (fun r=>?_);refine GOH ?_;refine jF (k:=j) (m:=1) (xs:=rows.flatten) (sp:=sp) (ys:=[.int .u8 pn.kind,.string pn.name,.int .u8 f1,.int .i64 f2,.int .u64 f3,.string f4,.slice f5 f6 f7,.slice r1 r2 r3,.int .i64 pn.unit,.bool pn.super,.slice none 0 0,.slice p1 p2 p3,.slice k1 k2 k3]) Zr Zr hsl0 ZK Zr ?_ rfl Zr Zr Zd Zo (fun sv' sp' hsl'=>?_)
   ·exact Zal
   have hfl:rows.flatten++([.int .u8 pn.kind,.string pn.name,.int .u8 f1,.int .i64 f2,.int .u64 f3,.string f4,.slice f5 f6 f7,.slice r1 r2 r3,.int .i64 pn.unit,.bool pn.super,.slice none 0 0,.slice p1 p2 p3,.slice k1 k2 k3]:List Value)=(rows++[([.int .u8 pn.kind,.string pn.name,.int .u8 f1,.int .i64 f2,.int .u64 f3,.string f4,.slice f5 f6 f7,.slice r1 r2 r3,.int .i64 pn.unit,.bool pn.super,.slice none 0 0,.slice p1 p2 p3,.slice k1 k2 k3]:List Value)]).flatten:=by simp
   rw[hfl]at hsl'|-;obtain⟨sa',sc',rfl⟩:=hsl'.form;have hout:=hp.inn hy hin hS2 hpU2 hpV2 hpn hn hsl' (.inl ⟨h5,rfl,rfl,rfl⟩);exact zAF
end Go.Proofs.YtijnokbblmbpkaaGreatDoor

/-
  Units, as they come out.
-/
import Derived.Test.YtijnokbblmbpkaaGreatDoorS22
import Derived.Test.YtijnokbblmbpkaaGreatDoorS20
import Derived.Test.YtijnokbblmbpkaaGreatDoorS7
import Derived.Test.YtijnokbblmbpkaaGreatDoorS18
import Derived.Test.YtijnokbblmbpkaaGreatDoorS10
import Derived.Shelf.SlMaps.Clone
import Derived.Shelf.Lay
import Derived.Test.YtijnokbblmbpkaaGreatDoorS23
set_option linter.unusedSimpArgs false
set_option linter.unusedVariables false
namespace Go.V
open Go
def SlRd {α:Type}(w:Nat)(Rd:α->List Value->Prop)(T:List kC)(v:Value)(l:List α):Prop:=∃(a:Option Addr) (c bk o:Nat) (us:Nat->List Value),v=.slice a l.length c/\(0 < l.length->a=some ⟨bk,o,none⟩)/\(∀i,i < l.length->∀y∈kA bk (o+i*w) (us i),y∈T)/\∀(i:Nat) x,l[i]? =some x->Rd x (us i)
structure GRows {α:Type}(w:Nat)(Rd:α->List Value->Prop)(l:List α)(rows:List (List Value)):Prop where
 len:rows.length=l.length
 w:∀r∈rows,r.length=w
 rd:∀(i:Nat) x r,l[i]? =some x->rows[i]? =some r->Rd x r
section
variable {α:Type} {w:Nat} {Rd Rd':α->List Value->Prop}
theorem GRows.nil:GRows w Rd [] []:=⟨rfl,Zs,fun i x r h=>by simp at h⟩
theorem GRows.imp {l:List α}{rows:List (List Value)}(h:GRows w Rd l rows)(hs:∀x r,Rd x r->Rd' x r):GRows w Rd' l rows:=⟨h.len,h.w,fun i x r hx hr=>hs _ _ (h.rd i x r hx hr)⟩
theorem GRows.snoc {l:List α}{rows:List (List Value)}{x:α}{r:List Value}(h:GRows w Rd l rows)(hw:r.length=w)(hx:Rd x r):GRows w Rd (l++[x]) (rows++[r]):=by
 refine⟨by simp[h.len],fun r' hr'=>?_,fun i y s hy hs=>?_⟩
 ·rcases Q1.1 hr' with h1|h1
  ·exact h.w r' h1
  ·rw[QC.1 h1];exact hw
 ·exact zAO
theorem SlRd.nil(T:List kC):SlRd w Rd T (.slice none 0 0) []:=⟨none,0,0,0,fun _=>[],rfl,fun h=>absurd h Zs,fun i hi=>absurd hi Zs,fun i x h=>by simp at h⟩
theorem SlRd.imp {T T':List kC}{v:Value}{l:List α}(h:SlRd w Rd T v l)(hs:∀x∈T,x∈T')(hr:∀x r,Rd x r->Rd' x r):SlRd w Rd' T' v l:=by
 obtain⟨a,c,bk,o,us,h1,h2,h3,h4⟩:=h;exact⟨a,c,bk,o,us,h1,h2,fun i hi y hy=>hs _ (h3 i hi y hy),fun i x hx=>hr _ _ (h4 i x hx)⟩
theorem sl_made {B:List kC}{l:List α}{sv:Value}{rows:List (List Value)}{sp:List Value}(hsl:jC w sv l.length rows.flatten sp)(hr:GRows w Rd l rows):SlRd w Rd (slA sv rows.flatten sp++B) sv l:=by
 have hget:∀i,i < l.length->rows[i]? =some (rows.getD i []):=fun i hi=>by
  exact zDJ
 generalize hm:l.length=m at hsl;generalize hxs:rows.flatten=xs at hsl|-;cases hsl with
 |@mk bk o _ c _ _ h1 h2 h3=>
  rw[<- hm];subst hxs;refine⟨_,c,bk,o,fun i=>rows.getD i [],rfl,fun _=>rfl,fun i hi y hy=>?_,fun i x hx=>?_⟩
  ·exact zCS
  ·have hi:=(Vd.1 hx).1;exact hr.rd i x _ hx (hget i hi)
 |nil=>
  have h0:l=[]:=vj hm;subst h0;exact SlRd.nil _
end
def unitRow(x:wZ)(cv bv:Value):List Value:=[.int .i64 x.outer,.int .i64 x.args,cv,.int .i64 x.locals,.int .i64 x.vector,bv]
def URd(T:List kC)(x:wZ)(vs:List Value):Prop:=∃cv bv,vs=unitRow x cv bv/\jm T cv x.copied/\PsRd T bv x.body
theorem URd.more {T T':List kC}(hs:∀x∈T,x∈T'){x:wZ}{vs:List Value}(h:URd T x vs):URd T' x vs:=by
 obtain⟨cv,bv,h1,h2,h3⟩:=h;exact⟨cv,bv,h1,h2.more hs,h3.more hs⟩
theorem URd.len {T:List kC}{x:wZ}{vs:List Value}(h:URd T x vs):vs.length=6:=by
 obtain⟨cv,bv,rfl,_⟩:=h;rfl
def UsRd(T:List kC)(v:Value)(l:List wZ):Prop:=SlRd 6 (URd T) T v l
end Go.V
namespace Go.Proofs.YtijnokbblmbpkaaGreatDoor
open Go Go.V
set_option maxHeartbeats 3200000
set_option maxRecDepth 100000
theorem temp_spec(st:SSt)(U:List UC)(Vs:List VCl)(hR:RepS st U Vs)(i:Nat)(u:UC)(hu:U[i]? =some u)(fx:Bool)(hb:st.vars.length < 1073741824):
 Fun Tryz.prog 111 [kE u.q,.bool fx] [WK U Vs] (fun r Post=>∃U' y,(r=kE y.q/\(∀nm,RepS (st.addV ⟨nm,i,fx,-1⟩) U' (Vs++[y]))/\U'.map UC.q=U.map UC.q/\U'.map UC.body=U.map UC.body)/\Post=[WK U' (Vs++[y])]):=by
 obtain⟨htm,hsl⟩:=hR.tm i u hu;have hul:u.temps.length<=st.vars.length:=by
  rw[htm,Vp];exact QY (Vo _ _) Zs
 obtain⟨R,hp,hr⟩:=wk_temps (V:=Vs) hu;refine Fun.intro low111 (by simp[n111]) ?_;refine VC.imp (H':=[kA u.q 5 [u.tv],slA u.tv (u.temps.map fun b=>kK (some b)) u.tsp,R]) (Imp.perm (by simpa using hp)) ?_;have hlen:u.temps.length=(u.temps.map fun b=>kK (some b)).length:=by simp
 obtain⟨ta,tc,htv⟩:=hsl.form;refine GOH ?_;refine kd Zr (fun q=>?_);simp only[Value.cells];refine GOH ?_;refine j9 (out:=[kE q]) Zr Zr (fun q2=>?_);rw[htv]at hsl|-;refine jF (k:=u.temps.length) (m:=1) (xs:=u.temps.map fun b=>kK (some b)) (sp:=u.tsp) (ys:=[kE q]) Zr Zr hsl ZK Zr ?_ rfl Zr Zr Zd Zo (fun sv' sp' hsl'=>?_)
 ·exact Zal
 obtain⟨a',c',rfl⟩:=hsl'.form;have hfl:(u.temps.map fun b=>kK (some b))++[kE q]=(u.temps++[q]).map fun b=>kK (some b):=by simp[kK]
 rw[hfl]at hsl'|-;refine GOH ?_;refine kG (Post:=[WK (U.set i {u with temps:=u.temps++[q],tv:=.slice a' (u.temps.length+1) c',tsp:=sp'}) (Vs++[⟨q,u.q,-1,fx,false,0⟩])]) (.inr rfl) (.tmp (v:=kE q) Zr .nil) ⟨U.set i {u with temps:=u.temps++[q],tv:=.slice a' (u.temps.length+1) c',tsp:=sp'},⟨q,u.q,-1,fx,false,0⟩,⟨rfl,fun nm=>?_,z5 hu rfl,map_b_set hu rfl⟩,rfl⟩ ?_
 ·exact RepG.addV hR rfl hu (by simp only;omega) ⟨rfl,rfl,rfl,rfl,rfl⟩ rfl rfl (by rw[if_pos (show(-1:Int) < 0 by decide)]) (by simpa using hsl')
 ·refine Imp.cut (M:=[kA q 0 [kE u.q,.int .i64 (-1),.bool fx,.bool false,.int .i64 0],kA u.q 5 [.slice a' (u.temps.length+1) c'],slA (.slice a' (u.temps.length+1) c') ((u.temps++[q]).map fun b=>kK (some b)) sp',R]) ZI (Imp.perm ?_);have h1:=wk_snocV (U.set i {u with temps:=u.temps++[q],tv:=.slice a' (u.temps.length+1) c',tsp:=sp'}) Vs ⟨q,u.q,-1,fx,false,0⟩;have h2:=hr (u.temps++[q]) (.slice a' (u.temps.length+1) c') sp';simp only[vz,V0,vd];refine List.Perm.trans ?_ h1.symm;refine vU _ ?_;rw[<- vZ];exact h2.symm
end Go.Proofs.YtijnokbblmbpkaaGreatDoor
namespace Go.Proofs
open Go.Shelf
shelf_lay_g SlLaysW.n5 Slmc 5 at Tryz 171 as Tryz.slcl1
end Go.Proofs
namespace Go.Proofs.YtijnokbblmbpkaaGreatDoor
open Go Go.V
set_option maxHeartbeats 3200000
set_option maxRecDepth 100000
theorem clone_spec(b:Nat)(es:Array MapEntry)(c:Nat):Fun Tryz.prog 171 [.map (some b)] [[.obj b (.map es c)]] (fun v Post=>∃b',v=.map (some b')/\Post=[[.obj b (.map es c)],[.obj b' (.map es c)]]):=by
 refine⟨by kernel_rfl,fun F w hs=>?_⟩;have hb:w.heap[b]? =some (.map es c):=(hs.obj (b:=b) (o:=.map es c) Zs).1;refine(AnyW.maps_Clone Tryz.slcl1 b es c w hb).mono ?_;exact zB6
def failV(q:Nat):Value:=.iface 80 (kE q)
def failCh(q:Nat):List PanicEntry:=[{v:=failV q,recovered:=false}]
def nmRes:ByteArray:=⟨#[82,101,115,111,108,118,101]⟩
def jJ(q:Nat)(e:Nat)(p:Int):List kC:=kA q 0 [.string nmRes,.int .i64 p,.iface 44 (.int .i64 e)]
theorem wrong_spec(e:Nat)(p:Int):jY Tryz.prog 113 [vi e,.int .i64 p] [] (fun _ _=>False) (fun ch Post=>∃q,ch=failCh q/\Post=[jJ q e p]):=by
 refine jY.intro low113 (by simp[n113]) ?_;refine GOH ?_;refine kd Zr (fun q=>?_);simp only[Value.cells];refine GOH ?_;refine st_pnc Zr ?_;refine⟨[jJ q e p],?_,q,rfl,rfl⟩;unfold jJ nmRes;exact IMx
end Go.Proofs.YtijnokbblmbpkaaGreatDoor
namespace Go.Proofs.YtijnokbblmbpkaaGreatDoor
open Go Go.V
set_option maxHeartbeats 12800000
set_option maxRecDepth 100000
theorem answer_ok {st:SSt}(hf:st.f=none)(h1:st.outer.length<=255)(h2:∀i,i < st.outer.length->(st.unitR i).big=false):st.answer=((List.range st.outer.length).map st.unitR,0,0):=by
 unfold SSt.answer;rw[hf];simp only;rw[if_neg Zo,if_neg];rw[Bool.not_eq_true,List.any_eq_false];intro x hx;obtain⟨i,hi,rfl⟩:=Q9.1 hx;rw[h2 i (QB.1 hi)];simp
theorem answer_big {st:SSt}(hf:st.f=none){i:Nat}(hi:i < st.outer.length)(h:(st.unitR i).big=true):st.answer=([],183,0):=by
 unfold SSt.answer;rw[hf];simp only;split
 ·rfl
 ·rw[if_pos];rw[vY];exact⟨_,Q9.2 ⟨i,QB.2 hi,rfl⟩,h⟩
theorem answer_many {st:SSt}(hf:st.f=none)(h:255 < st.outer.length):st.answer=([],183,0):=by
 unfold SSt.answer;rw[hf];simp only;rw[if_pos h]
structure Bnds (st:SSt):Prop where
 b:Bnd st
 w:∀l∈st.bodies,PN.ws l<=4194304
theorem scope_spec(st:SSt)(hPh:Ph st)(hBs:Bnds st)(hf:st.f=none)(U:List UC)(Vs:List VCl)(hR:RepL st 0 U Vs)(us:Value)(usp:List Value)(hsl:jC 1 us U.length (U.map fun u=>kK (some u.q)) usp)(T:List kC)(hbod:∀(i:Nat) u,U[i]? =some u->NsRd T (Vs.map VCl.q) u.body (st.bodies.getD i []))
 (wq:Nat) (fv gv av tv bv:Value) (sel:ByteArray) (prim:Int):
 jY Tryz.prog 50 [kE wq,.agg #[.string sel,av,tv,.int .i64 prim,bv]] [kA wq 0 [fv,gv,us],slA us (U.map fun u=>kK (some u.q)) usp,WK U Vs,T]
  (fun v Post=>∃usv B,(st.answer=((List.range st.outer.length).map st.unitR,0,0)/\v=.agg #[.string sel,.int .i64 prim,usv]/\UsRd B usv ((List.range st.outer.length).map st.unitR))/\Post=[B])
  (fun ch Post=>∃q,st.answer=([],183,0)/\ch=failCh q/\Post=[jJ q 183 0]):=by
 obtain⟨hB,hBw⟩:=hBs;have hul:=hR.ul;have hbo:=hB.o;have hpt:wK (slA us ((U.map UC.q).map fun b=>kK (some b)) usp) us (U.map UC.q):=ptrs_made (by rw[Vp]) (by rw[Vz];exact hsl);have hmm:((U.map UC.q).map fun b=>kK (some b))=U.map fun u=>kK (some u.q):=by rw[Vz];rfl
 rw[hmm]at hpt;obtain⟨ua,uc,rfl⟩:=hsl.form;obtain⟨ua',uc',hua,hptr⟩:=hpt;rw[Value.slice.injEq]at hua;obtain⟨rfl,_,rfl⟩:=hua;refine jY.intro low50 (by simp[n50]) ?_;have hget:∀(k:Nat) w,U[k]? =some w->∃b o,ua=some ⟨b,o,none⟩/\kC.cell b (o+k) (kE w.q)∈slA (.slice ua U.length uc) (U.map fun u=>kK (some u.q)) usp:=fun k w hw=>by
  obtain⟨b,o,h1,h2⟩:=hptr k w.q (by rw[Ve,hw];rfl);exact⟨b,o,h1,h2⟩
 refine GOH ?_;refine kd Zr (fun q3=>?_);simp only[Value.cells];refine kL (fun q4=>?_);refine GOH ?_;refine kL (fun q5=>?_);refine jU ?_;refine VC.join (α:=Unit) (Γf:=fun _=>[(0,kE wq),(4,kE q4),(5,kE q5)]) (Hf:=fun _=>[kA q5 0 [.string sel,.int .i64 prim,.slice none 0 0],kA q4 0 [.string e0,.int .i64 0,.slice none 0 0],kA wq 0 [fv,gv,.slice ua U.length uc],slA (.slice ua U.length uc) (U.map fun u=>kK (some u.q)) usp,WK U Vs,T]) (I:=fun _=>st.outer.length<=255) ?_ (fun _ h255=>?_)
 ·refine GOH ?_;by_cases hc:255 < U.length
  ·rw[show decide ((255:Int) < (U.length:Int))=true from Zt Zo];refine GOH ?_;refine kJ (wrong_spec 183 0) Zr ZP (fun v Post hv=>False.elim hv) (fun ch Post hz=>?_);obtain⟨q1,rfl,rfl⟩:=hz;exact⟨[jJ q1 183 0],ZI,q1,answer_many hf Zo,rfl,rfl⟩
  ·rw[show decide ((255:Int) < (U.length:Int))=false from Zf Zo];refine GOH ?_;exact⟨(),by show st.outer.length<=255;omega,ZU,by unfold e0;exact IMx⟩
 refine VC.join (α:=List UC×List VCl) (Γf:=fun _=>[(0,kE wq),(4,kE q4),(5,kE q5)]) (Hf:=fun s=>[kA q5 0 [.string sel,.int .i64 prim,.slice none 0 0],kA q4 0 [.string e0,.int .i64 0,.slice none 0 0],kA wq 0 [fv,gv,.slice ua U.length uc],slA (.slice ua U.length uc) (U.map fun u=>kK (some u.q)) usp,WK s.1 s.2,T]) (I:=fun s=>RepL st st.outer.length s.1 s.2/\s.1.map UC.q=U.map UC.q/\s.1.map UC.body=U.map UC.body/\s.2.map VCl.q=Vs.map VCl.q) ?_ ?_
 ·refine GOH ?_;refine VC.loop (α:=Nat×List UC×List VCl) (Γf:=fun s=>[(0,kE wq),(4,kE q4),(5,kE q5),(30,.slice ua U.length uc),(31,vi U.length),(32,vi s.1)]) (Hf:=fun s=>[kA q5 0 [.string sel,.int .i64 prim,.slice none 0 0],kA q4 0 [.string e0,.int .i64 0,.slice none 0 0],kA wq 0 [fv,gv,.slice ua U.length uc],slA (.slice ua U.length uc) (U.map fun u=>kK (some u.q)) usp,WK s.2.1 s.2.2,T]) (I:=fun s=>s.1<=U.length/\RepL st s.1 s.2.1 s.2.2/\s.2.1.map UC.q=U.map UC.q/\s.2.1.map UC.body=U.map UC.body/\s.2.2.map VCl.q=Vs.map VCl.q) (μ:=fun s=>U.length - s.1) (0,U,Vs) ⟨Qf _,hR,rfl,rfl,rfl⟩ ZU ZI ?_
  rintro⟨k,Uk,Vk⟩ ⟨hk,hRk,hq1,hq2,hq3⟩
  simp only at hk hRk hq1 hq2 hq3;dsimp only;refine GOH ?_;by_cases hlt:k < U.length;rotate_left
  ·rw[show decide ((k:Int) < (U.length:Int))=false from Zf Zo];have hke:k=st.outer.length:=by omega
   rw[hke]at hRk;refine GOH ?_;exact⟨(Uk,Vk),⟨hRk,hq1,hq2,hq3⟩,ZU,ZI⟩
  rw[show decide ((k:Int) < (U.length:Int))=true from Zt Zo];obtain⟨w,hw⟩:∃w,Uk[k]? =some w:=⟨_,Zg (by rw[hRk.ul];omega)⟩;obtain⟨w0,hw0⟩:∃w0,U[k]? =some w0:=⟨_,Zg hlt⟩;have hwq:w0.q=w.q:=by
   have:=getq hq1 k;rw[hw,hw0]at this;exact(Qn this).symm
  obtain⟨ub,uo,hub,huc⟩:=hget k w0 hw0;subst hub;rw[hwq]at huc;have hlay:=lay_spec st hPh Uk Vk k hRk w hw ⟨hB.v,hB.o,hB.a⟩;refine GOH ?_;refine kM hlay Zr ZP (fun v Post hv=>?_);obtain⟨U',V',⟨rfl,h1,h2,h3,h4⟩,rfl⟩:=hv;simp only[CNx];refine GOH ?_;exact⟨(k+1,U',V'),⟨by simp only;omega,h1,h2.trans hq1,h3.trans hq2,h4.trans hq3⟩,by simp only;omega,ZU,ZI⟩
 rintro⟨Uf,Vf⟩ ⟨hRf,hq1,hq2,hq3⟩
 simp only at hRf hq1 hq2 hq3;dsimp only;have hgetf:∀k,k < st.outer.length->∃w,Uf[k]? =some w/\∃b o,ua=some ⟨b,o,none⟩/\kC.cell b (o+k) (kE w.q)∈slA (.slice ua U.length uc) (U.map fun u=>kK (some u.q)) usp:=fun k hk=>by
  obtain⟨w,hw⟩:∃w,Uf[k]? =some w:=⟨_,Zg (by rw[hRf.ul];omega)⟩;obtain⟨w0,hw0⟩:∃w0,U[k]? =some w0:=⟨_,Zg Zo⟩;have hwq:w0.q=w.q:=by
   have:=getq hq1 k;rw[hw,hw0]at this;exact(Qn this).symm
  obtain⟨b,o,h1,h2⟩:=hget k w0 hw0;exact⟨w,hw,b,o,h1,hwq ▸ h2⟩
 have hbodf:∀(k:Nat) w,Uf[k]? =some w->NsRd T (Vf.map VCl.q) w.body (st.bodies.getD k []):=fun k w hw=>by
  have h1:(U.map UC.body)[k]? =some w.body:=by rw[<- hq2,Ve,hw];rfl
  rw[Ve]at h1;obtain⟨w0,hw0,he⟩:=Qk.1 h1;rw[hq3,<- he];exact hbod k w0 hw0
 clear hR hq1 hq2 hq3 hget hbod;refine jU ?_;refine VC.join (α:=Value×List (List Value)×List Value×List kC) (Γf:=fun _=>[(4,kE q4),(5,kE q5)]) (Hf:=fun s=>[kA q5 0 [.string sel,.int .i64 prim,s.1],slA (s.1) s.2.1.flatten s.2.2.1,kA q4 0 [.string e0,.int .i64 0,.slice none 0 0],slA (.slice ua U.length uc) (U.map fun u=>kK (some u.q)) usp,WK Uf Vf,T,s.2.2.2]) (I:=fun s=>st.answer=((List.range st.outer.length).map st.unitR,0,0)/\jC 6 s.1 st.outer.length s.2.1.flatten s.2.2.1/\GRows 6 (URd (T++s.2.2.2)) ((List.range st.outer.length).map st.unitR) s.2.1) ?_ ?_
 ·refine GOH ?_;refine VC.loop (α:=Nat×Value×List (List Value)×List Value×List kC) (Γf:=fun s=>[(4,kE q4),(5,kE q5),(42,.slice ua U.length uc),(43,vi U.length),(44,vi s.1)]) (Hf:=fun s=>[kA q5 0 [.string sel,.int .i64 prim,s.2.1],slA (s.2.1) s.2.2.1.flatten s.2.2.2.1,kA q4 0 [.string e0,.int .i64 0,.slice none 0 0],slA (.slice ua U.length uc) (U.map fun u=>kK (some u.q)) usp,WK Uf Vf,T,s.2.2.2.2]) (I:=fun s=>s.1<=U.length/\(∀i,i < s.1->(st.unitR i).big=false)/\jC 6 s.2.1 s.1 s.2.2.1.flatten s.2.2.2.1/\GRows 6 (URd (T++s.2.2.2.2)) ((List.range s.1).map st.unitR) s.2.2.1) (μ:=fun s=>U.length - s.1) (0,.slice none 0 0,[],[],[]) ⟨Qf _,(fun i h=>by omega),.nil,GRows.nil⟩ ZU (Imp.cut (M:=[kA q5 0 [.string sel,.int .i64 prim,.slice none 0 0],kA q4 0 [.string e0,.int .i64 0,.slice none 0 0],slA (.slice ua U.length uc) (U.map fun u=>kK (some u.q)) usp,WK Uf Vf,T]) ZI (Imp.perm (by simp[slA]))) ?_
  rintro⟨j,sv,rows,sp,B⟩ ⟨hj,hnb,hsv,hrows⟩
  simp only at hj hnb hsv hrows;dsimp only;obtain⟨sa,sc,rfl⟩:=hsv.form;refine GOH ?_;by_cases hlt:j < U.length;rotate_left
  ·rw[show decide ((j:Int) < (U.length:Int))=false from Zf Zo];have hje:j=st.outer.length:=by omega
   rw[hje]at hsv hrows hnb|-;refine GOH ?_;exact⟨(.slice sa st.outer.length sc,rows,sp,B),⟨answer_ok hf h255 hnb,hsv,hrows⟩,ZU,ZI⟩
  rw[show decide ((j:Int) < (U.length:Int))=true from Zt Zo];have hjl:j < st.outer.length:=by omega
  obtain⟨u,hu,ub,uo,hub,huc⟩:=hgetf j hjl;subst hub;obtain⟨ca,cc,hcv,hua,hulc,huv,hcells⟩:=hRf.cells hu;have hba:=hB.a j;have hbc:=hB.cop j;have hbl:=hB.loc j false;have hbv:=hB.loc j true;have hrow:∀(k:Nat) x,u.row[k]? =some x->kC.cell u.q k x∈WK Uf Vf:=fun k x hx=>zL hu _ (Q5 _ (Zw _ (kI.2 ⟨k,x,hx,by rw[Qe]⟩)))
  have k0:kC.cell u.q 0 (.int .i64 (st.args.getD j 0))∈WK Uf Vf:=hrow 0 _ (by unfold UC.row;rw[hua];rfl);have k1:kC.cell u.q 1 (.int .i64 (st.locals j false).length)∈WK Uf Vf:=hrow 1 _ (by unfold UC.row;rw[hulc];rfl);have k2:kC.cell u.q 2 (.int .i64 (st.locals j true).length)∈WK Uf Vf:=hrow 2 _ (by unfold UC.row;rw[huv];rfl);have k3:kC.cell u.q 3 (kK u.outer)∈WK Uf Vf:=hrow 3 _ rfl;have k7:kC.cell u.q 7 (.slice ca (st.copied j).length cc)∈WK Uf Vf:=hrow 7 _ (by unfold UC.row;rw[hcv];rfl);have k8:kC.cell u.q 8 u.body∈WK Uf Vf:=hrow 8 _ rfl;have hbig:(st.unitR j).big=(decide (63 < (((st.args.getD j 0+(st.copied j).length+(st.locals j false).length+(if 0 < (st.locals j true).length then 1 else 0):Nat):Int)))||decide (63 < ((st.locals j true).length:Int))):=by
   unfold wZ.big;rw[unitR_frame]
   congr 1
   unfold SSt.frame;exact decide_eq_decide.2 (by split <;> omega)
  obtain⟨na,hna⟩:∃na,na=st.args.getD j 0:=⟨_,rfl⟩;obtain⟨nc,hnc⟩:∃nc,nc=(st.copied j).length:=⟨_,rfl⟩;obtain⟨nl,hnl⟩:∃nl,nl=(st.locals j false).length:=⟨_,rfl⟩;obtain⟨nv,hnv⟩:∃nv,nv=(st.locals j true).length:=⟨_,rfl⟩;rw[<- hna]at hba k0 hbig;rw[<- hnc]at hbc k7 hbig;rw[<- hnl]at hbl k1 hbig;rw[<- hnv]at hbv k2 hbig;have hW3:∀z∈kA u.q 0 [.int .i64 na,.int .i64 nl,.int .i64 nv],z∈WK Uf Vf:=fun z hz=>by
   obtain⟨jj,x,hx,rfl⟩:=kI.1 hz;have hz3:jj=0∨jj=1∨jj=2:=by
    exact zE3
   rcases hz3 with rfl|rfl|rfl
   ·obtain rfl:(.int .i64 na:Value)=x:=by simpa using hx
    exact k0
   ·obtain rfl:(.int .i64 nl:Value)=x:=by simpa using hx
    exact k1
   ·obtain rfl:(.int .i64 nv:Value)=x:=by simpa using hx
    exact k2
  refine jU ?_;refine VC.join (α:=Unit) (Γf:=fun _=>[(4,kE q4),(5,kE q5),(9,kE u.q),(42,.slice (some ⟨ub,uo,none⟩) U.length uc),(43,vi U.length),(44,vi j)]) (Hf:=fun _=>[kA q5 0 [.string sel,.int .i64 prim,.slice sa j sc],slA (.slice sa j sc) rows.flatten sp,kA q4 0 [.string e0,.int .i64 0,.slice none 0 0],slA (.slice (some ⟨ub,uo,none⟩) U.length uc) (U.map fun u=>kK (some u.q)) usp,WK Uf Vf,T,B]) (I:=fun _=>(st.unitR j).big=false) ?_ (fun _ hnbj=>?_)
  ·refine GOH ?_;refine kZ (us:=[.int .i64 na,.int .i64 nl,.int .i64 nv]) Zr (fun z hz=>by have h9:=hW3 z hz;simp[h9]) rfl ?_;refine GOH ?_;refine kM (size_spec na nl nv nc ⟨Zo,Zo,Zo,Zo⟩) Zr ZP (fun v Post hv=>?_);obtain⟨rfl,rfl⟩:=hv;simp only[QD];refine GOH ?_;by_cases c1:(63:Int) < ((na+nc+nl+(if 0 < nv then 1 else 0):Nat):Int)
   ·rw[Zt c1];refine GOH ?_;refine kJ (wrong_spec 183 0) Zr ZP (fun v Post hv=>False.elim hv) (fun ch Post hz=>?_);obtain⟨q1,rfl,rfl⟩:=hz;exact⟨[jJ q1 183 0],ZI,q1,answer_big hf hjl (by rw[hbig,Zt c1];rfl),rfl,rfl⟩
   rw[Zf c1];refine GOH ?_;by_cases c2:(63:Int) < (nv:Int)
   ·rw[Zt c2];refine GOH ?_;refine kJ (wrong_spec 183 0) Zr ZP (fun v Post hv=>False.elim hv) (fun ch Post hz=>?_);obtain⟨q1,rfl,rfl⟩:=hz;exact⟨[jJ q1 183 0],ZI,q1,answer_big hf hjl (by rw[hbig,Zt c2,Bool.or_true]),rfl,rfl⟩
   rw[Zf c2];refine GOH ?_;exact⟨(),by rw[hbig,Zf c1,Zf c2];rfl,ZU,ZI⟩
  refine VC.join (α:=Nat) (Γf:=fun q10=>[(4,kE q4),(5,kE q5),(9,kE u.q),(10,kE q10),(42,.slice (some ⟨ub,uo,none⟩) U.length uc),(43,vi U.length),(44,vi j)]) (Hf:=fun q10=>[kA q10 0 [.int .i64 (-1),.int .i64 na,.slice none 0 0,.int .i64 nl,.int .i64 nv,.slice none 0 0],kA q5 0 [.string sel,.int .i64 prim,.slice sa j sc],slA (.slice sa j sc) rows.flatten sp,kA q4 0 [.string e0,.int .i64 0,.slice none 0 0],slA (.slice (some ⟨ub,uo,none⟩) U.length uc) (U.map fun u=>kK (some u.q)) usp,WK Uf Vf,T,B]) (I:=fun _=>True) ?_ (fun q10 _=>?_)
  ·refine GOH ?_;refine kL (fun q10=>?_);refine GOH ?_;exact⟨q10,trivial,ZU,ZI⟩
  refine VC.join (α:=Unit) (Γf:=fun _=>[(4,kE q4),(5,kE q5),(9,kE u.q),(10,kE q10),(42,.slice (some ⟨ub,uo,none⟩) U.length uc),(43,vi U.length),(44,vi j)]) (Hf:=fun _=>[kA q10 0 [.int .i64 (st.outer.getD j (-1)),.int .i64 na,.slice none 0 0,.int .i64 nl,.int .i64 nv,.slice none 0 0],kA q5 0 [.string sel,.int .i64 prim,.slice sa j sc],slA (.slice sa j sc) rows.flatten sp,kA q4 0 [.string e0,.int .i64 0,.slice none 0 0],slA (.slice (some ⟨ub,uo,none⟩) U.length uc) (U.map fun u=>kK (some u.q)) usp,WK Uf Vf,T,B]) (I:=fun _=>True) ?_ (fun _ _=>?_)
  ·have hou:=hRf.ou j u hu;have hlow:=hPh.wf.lowD j;by_cases hn:st.outer.getD j (-1) < 0
   ·rw[if_pos hn]at hou;rw[hou]at k3;have hm1:st.outer.getD j (-1)=-1:=by
     have e:st.outer[j]? =some st.outer[j]:=Zg hjl;have h1:=hPh.wf.low j _ e;have h2:st.outer.getD j (-1)=st.outer[j]:=by rw[V5,e];rfl
     omega
    rw[hm1];have k3:kC.cell u.q 3 (.pointer none)∈WK Uf Vf:=k3;exact zAP
   ·rw[if_neg hn]at hou;obtain⟨w,hw⟩:∃w,Uf[(st.outer.getD j (-1)).toNat]? =some w:=⟨_,Zg (by rw[hRf.ul];omega)⟩;rw[hw]at hou;rw[hou]at k3;have k3:kC.cell u.q 3 (kE w.q)∈WK Uf Vf:=k3;have hwn:=(hRf.ar _ w hw).2;have k4:kC.cell w.q 4 (.int .i64 (st.outer.getD j (-1)))∈WK Uf Vf:=zL hw _ (Q5 _ (Zw _ (kI.2 ⟨4,_,by unfold UC.row;rw[hwn,show(((st.outer.getD j (-1)).toNat:Nat):Int)=st.outer.getD j (-1) by omega];rfl,rfl⟩)));exact zAP
  refine VC.join (α:=Value×List kC) (Γf:=fun _=>[(4,kE q4),(5,kE q5),(9,kE u.q),(10,kE q10),(42,.slice (some ⟨ub,uo,none⟩) U.length uc),(43,vi U.length),(44,vi j)]) (Hf:=fun s=>[kA q10 0 [.int .i64 (st.outer.getD j (-1)),.int .i64 na,s.1,.int .i64 nl,.int .i64 nv,.slice none 0 0],s.2,kA q5 0 [.string sel,.int .i64 prim,.slice sa j sc],slA (.slice sa j sc) rows.flatten sp,kA q4 0 [.string e0,.int .i64 0,.slice none 0 0],slA (.slice (some ⟨ub,uo,none⟩) U.length uc) (U.map fun u=>kK (some u.q)) usp,WK Uf Vf,T,B]) (I:=fun s=>jm s.2 s.1 (st.unitR j).copied) ?_ ?_
  ·refine GOH ?_;refine VC.loop (α:=Nat×Value×List Value) (Γf:=fun s=>[(4,kE q4),(5,kE q5),(9,kE u.q),(10,kE q10),(42,.slice (some ⟨ub,uo,none⟩) U.length uc),(43,vi U.length),(44,vi j),(100,.slice ca nc cc),(101,vi nc),(102,vi s.1)]) (Hf:=fun s=>[kA q10 0 [.int .i64 (st.outer.getD j (-1)),.int .i64 na,s.2.1,.int .i64 nl,.int .i64 nv,.slice none 0 0],slA s.2.1 ((((st.unitR j).copied).take s.1).flatMap jG) s.2.2,kA q5 0 [.string sel,.int .i64 prim,.slice sa j sc],slA (.slice sa j sc) rows.flatten sp,kA q4 0 [.string e0,.int .i64 0,.slice none 0 0],slA (.slice (some ⟨ub,uo,none⟩) U.length uc) (U.map fun u=>kK (some u.q)) usp,WK Uf Vf,T,B]) (I:=fun s=>s.1<=nc/\jC 4 s.2.1 s.1 ((((st.unitR j).copied).take s.1).flatMap jG) s.2.2) (μ:=fun s=>nc - s.1) (0,.slice none 0 0,[]) ⟨Qf _,.nil⟩ ZU (Imp.cut (M:=[kA q10 0 [.int .i64 (st.outer.getD j (-1)),.int .i64 na,.slice none 0 0,.int .i64 nl,.int .i64 nv,.slice none 0 0],kA q5 0 [.string sel,.int .i64 prim,.slice sa j sc],slA (.slice sa j sc) rows.flatten sp,kA q4 0 [.string e0,.int .i64 0,.slice none 0 0],slA (.slice (some ⟨ub,uo,none⟩) U.length uc) (U.map fun u=>kK (some u.q)) usp,WK Uf Vf,T,B]) ZI (Imp.perm (by simp[slA]))) ?_;have hcpl:(st.unitR j).copied.length=nc:=by rw[hnc];exact Vp _
   rintro⟨k,rv,rsp⟩ ⟨hk,hrv⟩
   simp only at hk hrv;dsimp only;obtain⟨ra,rc,rfl⟩:=hrv.form;refine GOH ?_;by_cases hkl:k < nc;rotate_left
   ·rw[show decide ((k:Int) < (nc:Int))=false from Zf Zo];have hke:nc=k:=by omega
    subst hke;have htk:(st.unitR j).copied.take nc=(st.unitR j).copied:=QR Zo;rw[htk]at hrv|-;refine GOH ?_;refine⟨(.slice ra nc rc,slA (.slice ra nc rc) ((st.unitR j).copied.flatMap jG) rsp),?_,ZU,ZI⟩;have:=refs_made (B:=[]) (rs:=(st.unitR j).copied) (by rw[hcpl];exact hrv);simpa only[vd]using this
   rw[show decide ((k:Int) < (nc:Int))=true from Zt Zo];obtain⟨t,ht⟩:∃t,(st.copied j)[k]? =some t:=⟨_,Zg Zo⟩;have htm:=Zv ht;obtain⟨o0,o1,o2,o3,o4,o5⟩:=hPh.copied_in hjl htm;have hlow:=hPh.wf.lowD j;obtain⟨w,hw⟩:∃w,Uf[(st.outer.getD j (-1)).toNat]? =some w:=⟨_,Zg (by rw[hRf.ul];omega)⟩;have hou:=hRf.ou j u hu;rw[if_neg Zo,hw]at hou;rw[hou]at k3;have k3:kC.cell u.q 3 (kE w.q)∈WK Uf Vf:=k3;have hplace:=place_spec st hPh hB Uf Vf hRf _ w hw t o2 (by
    by_cases e:t.1=(st.outer.getD j (-1)).toNat
    ·exact .inl ⟨e,o4,by rw[<- e];exact o5,fun c=>by rw[<- e];exact hPh.vec_some htm c⟩
    ·rcases o1 with c|c
     ·exact absurd c e
     ·exact .inr ⟨e,c⟩)
   obtain⟨cb,co,rfl,hcb⟩:=hcells k (qU Uf t.1,t.2) (by unfold wu;rw[Ve,ht];rfl);have hcm:∀z∈kA cb (co+k*2) [kE (qU Uf t.1),.int .i64 t.2],z∈WK Uf Vf:=fun z hz=>zL hu _ (hcb z hz)
   have hrk:(st.unitR j).copied[k]? =some ⟨5,st.place (st.outer.getD j (-1)).toNat t,0,e0⟩:=by
    show((st.copied j).map _)[k]? =_;rw[Ve,ht];rfl
   obtain⟨pl,hpl⟩:∃pl,pl=st.place (st.outer.getD j (-1)).toNat t:=⟨_,rfl⟩;rw[<- hpl]at hplace hrk;have htk:(st.unitR j).copied.take (k+1)=(st.unitR j).copied.take k++[⟨5,pl,0,e0⟩]:=by rw[QO,hrk];rfl
   generalize hqt:qU Uf t.1=qt at hplace hcm;unfold thV at hplace;refine GOH ?_;refine kZ (us:=[kE qt,.int .i64 t.2]) Zr (fun z hz=>by have h9:=hcm z hz;simp[h9]) rfl ?_;refine GOH ?_;refine kL (fun q12=>?_);refine GOH ?_;refine VC.draws ⟨?_,?_,trivial⟩
   all_goals
    refine GOH ?_;refine kM hplace Zr ZP (fun v Post hv=>?_);obtain⟨rfl,rfl⟩:=hv;simp only[CNx];refine GOH ?_;refine j9 (out:=[.int .u8 5,.int .i64 pl,.int .i64 0,.string e0]) Zr Zr (fun rr=>?_);refine GOH ?_;refine jF (k:=k) (m:=1) (xs:=((st.unitR j).copied.take k).flatMap jG) (sp:=rsp) (ys:=[.int .u8 5,.int .i64 pl,.int .i64 0,.string e0]) Zr Zr hrv ZK Zr ?_ rfl Zr Zr Zd Zo (fun sv' sp' hsl'=>?_)
    ·exact Zal
    have hfl:((st.unitR j).copied.take k).flatMap jG++([.int .u8 5,.int .i64 pl,.int .i64 0,.string e0]:List Value)=((st.unitR j).copied.take (k+1)).flatMap jG:=by
     rw[htk,vw,vx];rfl
    rw[hfl]at hsl'|-;obtain⟨sa',sc',rfl⟩:=hsl'.form;refine GOH ?_;exact⟨(k+1,.slice sa' (k+1) sc',sp'),⟨by simp only;omega,hsl'⟩,by simp only;omega,ZU,ZI⟩
  rintro⟨cv,Bc⟩ hcop
  simp only at hcop;dsimp only;obtain⟨cva,cvc,hcve⟩:∃cva cvc,cv=.slice cva (st.unitR j).copied.length cvc:=let⟨e1,e2,e3,_⟩:=hcop;⟨e1,e2,e3⟩;subst hcve;obtain⟨ncp,hncp⟩:∃ncp,ncp=(st.unitR j).copied.length:=⟨_,rfl⟩;rw[<- hncp]at hcop|-;have hbj:=hbodf j u hu;obtain⟨l,hl⟩:∃l,l=st.bodies.getD j []:=⟨_,rfl⟩;rw[<- hl]at hbj;have hbl2:st.bodies[j]? =some l:=by
   rw[hl,V5,Zg (by rw[hPh.wf.bl];exact hjl)];rfl
  have hlraw:=hPh.bd j l hbl2;have hlw:=hBw l (Zv hbl2);have hll:=PN.len_ws l;have hub:(st.unitR j).body=l.map (finS st j):=by
   show finsS st j (st.bodies.getD j [])=_;rw[<- hl,finsS_map]
  obtain⟨ba,bc,bk,bo,bus,hbv2,hba2,hbm,hbr⟩:=hbj;rw[hbv2]at k8;refine VC.join (α:=Value×List kC) (Γf:=fun _=>[(4,kE q4),(5,kE q5),(9,kE u.q),(10,kE q10),(42,.slice (some ⟨ub,uo,none⟩) U.length uc),(43,vi U.length),(44,vi j)]) (Hf:=fun s=>[kA q10 0 [.int .i64 (st.outer.getD j (-1)),.int .i64 na,.slice cva ncp cvc,.int .i64 nl,.int .i64 nv,s.1],Bc,s.2,kA q5 0 [.string sel,.int .i64 prim,.slice sa j sc],slA (.slice sa j sc) rows.flatten sp,kA q4 0 [.string e0,.int .i64 0,.slice none 0 0],slA (.slice (some ⟨ub,uo,none⟩) U.length uc) (U.map fun u=>kK (some u.q)) usp,WK Uf Vf,T,B]) (I:=fun s=>PsRd (T++s.2) s.1 (st.unitR j).body) ?_ ?_
  ·refine GOH ?_;refine VC.loop (α:=Nat×Value×List (List Value)×List Value×List kC) (Γf:=fun s=>[(4,kE q4),(5,kE q5),(9,kE u.q),(10,kE q10),(42,.slice (some ⟨ub,uo,none⟩) U.length uc),(43,vi U.length),(44,vi j),(122,.slice ba l.length bc),(123,vi l.length),(124,vi s.1)]) (Hf:=fun s=>[kA q10 0 [.int .i64 (st.outer.getD j (-1)),.int .i64 na,.slice cva ncp cvc,.int .i64 nl,.int .i64 nv,s.2.1],slA s.2.1 s.2.2.1.flatten s.2.2.2.1,Bc,s.2.2.2.2,kA q5 0 [.string sel,.int .i64 prim,.slice sa j sc],slA (.slice sa j sc) rows.flatten sp,kA q4 0 [.string e0,.int .i64 0,.slice none 0 0],slA (.slice (some ⟨ub,uo,none⟩) U.length uc) (U.map fun u=>kK (some u.q)) usp,WK Uf Vf,T,B]) (I:=fun s=>s.1<=l.length/\jC 11 s.2.1 s.1 s.2.2.1.flatten s.2.2.2.1/\PRows (T++s.2.2.2.2) ((l.take s.1).map (finS st j)) s.2.2.1) (μ:=fun s=>l.length - s.1) (0,.slice none 0 0,[],[],[]) ⟨Qf _,.nil,PRows.nil _⟩ ZU (Imp.cut (M:=[kA q10 0 [.int .i64 (st.outer.getD j (-1)),.int .i64 na,.slice cva ncp cvc,.int .i64 nl,.int .i64 nv,.slice none 0 0],Bc,kA q5 0 [.string sel,.int .i64 prim,.slice sa j sc],slA (.slice sa j sc) rows.flatten sp,kA q4 0 [.string e0,.int .i64 0,.slice none 0 0],slA (.slice (some ⟨ub,uo,none⟩) U.length uc) (U.map fun u=>kK (some u.q)) usp,WK Uf Vf,T,B]) ZI (Imp.perm (by simp[slA]))) ?_
   rintro⟨k,pv,prows,psp,Bb⟩ ⟨hk,hpv,hprows⟩
   simp only at hk hpv hprows;dsimp only;obtain⟨pa,pc,rfl⟩:=hpv.form;refine GOH ?_;by_cases hkl:k < l.length;rotate_left
   ·rw[show decide ((k:Int) < (l.length:Int))=false from Zf Zo];have hke:k=l.length:=by omega
    subst hke;rw[List.take_length,<- hub]at hprows;have hlk:(st.unitR j).body.length=l.length:=by rw[hub,Vp]
    have hps:=ps_made (l:=(st.unitR j).body) (by rw[hlk];exact hpv) hprows;refine GOH ?_;refine⟨(.slice pa l.length pc,slA (.slice pa l.length pc) prows.flatten psp++Bb),?_,ZU,Imp.cut (M:=[kA q10 0 [.int .i64 (st.outer.getD j (-1)),.int .i64 na,.slice cva ncp cvc,.int .i64 nl,.int .i64 nv,.slice pa l.length pc],slA (.slice pa l.length pc) prows.flatten psp,Bc,Bb,kA q5 0 [.string sel,.int .i64 prim,.slice sa j sc],slA (.slice sa j sc) rows.flatten sp,kA q4 0 [.string e0,.int .i64 0,.slice none 0 0],slA (.slice (some ⟨ub,uo,none⟩) U.length uc) (U.map fun u=>kK (some u.q)) usp,WK Uf Vf,T,B]) ZI (Imp.perm ?_)⟩
    ·refine hps.more fun y hy=>?_
     simp only[Q1]at hy|-;rcases hy with hy|hy|hy
     ·exact .inr (.inl hy)
     ·exact .inl hy
     ·exact .inr (.inr hy)
    ·simp only[vz,V0,vd];refine vU _ ?_;generalize slA (.slice pa l.length pc) prows.flatten psp=P;rw[vZ];refine(QI P Bc _).trans ?_;exact vW _
   rw[show decide ((k:Int) < (l.length:Int))=true from Zt Zo];obtain rfl:=hba2 Zo;obtain⟨x,hxj⟩:∃x,l[k]? =some x:=⟨_,Zg hkl⟩;have hxm:=Zv hxj;have hmx:=hbm k hkl;have hsx:=hbr k x hxj;have hcall:=final_spec st hPh hB Uf Vf hRf j u hu T _ x (QW _) (by have:=PN.w_mem hxm;omega) _ hsx (mem_raws hlraw x hxm);generalize bus k=uj at*;obtain⟨f1,f2,f3,f4,f5,f6,f7,r1,r2,r3,p1,p2,p3,k1,k2,k3,rfl⟩:=n_openS hsx;have htk:(l.take (k+1)).map (finS st j)=(l.take k).map (finS st j)++[finS st j x]:=by
    rw[QO,hxj,Vw];rfl
   refine GOH ?_;refine kZ Zr (fun z hz=>by have h9:=hmx z hz;simp[h9]) rfl ?_;refine GOH ?_;refine kL (fun q14=>?_);refine GOH ?_;refine VC.draws ⟨?_,?_,trivial⟩
   all_goals
    refine GOH ?_;refine kM hcall Zr ZP (fun v Post hv=>?_);obtain⟨ws',B3,⟨rfl,hp⟩,rfl⟩:=hv;simp only[CNx];obtain⟨pn,hpn⟩:∃pn,pn=finS st j x:=⟨_,rfl⟩;rw[<- hpn]at hp htk;have hp2:=hp;obtain⟨g1,g2,g3,g4,g5,g7,s1,s3,t1,t3,_,_,_,rfl,_⟩:=p_open hp2;refine GOH ?_;refine j9 (out:=[.int .u8 pn.kind,.string pn.name,.int .u8 g1,.int .i64 g2,.int .u64 g3,.string g4,.slice g5 pn.lit.items.length g7,.slice s1 pn.refs.length s3,.int .i64 pn.unit,.bool pn.super,.slice t1 pn.kids.length t3]) Zr Zr (fun rr=>?_);refine GOH ?_;refine jF (k:=k) (m:=1) (xs:=prows.flatten) (sp:=psp) (ys:=[.int .u8 pn.kind,.string pn.name,.int .u8 g1,.int .i64 g2,.int .u64 g3,.string g4,.slice g5 pn.lit.items.length g7,.slice s1 pn.refs.length s3,.int .i64 pn.unit,.bool pn.super,.slice t1 pn.kids.length t3]) Zr Zr hpv ZK Zr ?_ rfl Zr Zr Zd Zo (fun sv' sp' hsl'=>?_)
    ·exact Zal
    have hfl:prows.flatten++([.int .u8 pn.kind,.string pn.name,.int .u8 g1,.int .i64 g2,.int .u64 g3,.string g4,.slice g5 pn.lit.items.length g7,.slice s1 pn.refs.length s3,.int .i64 pn.unit,.bool pn.super,.slice t1 pn.kids.length t3]:List Value)=(prows++[([.int .u8 pn.kind,.string pn.name,.int .u8 g1,.int .i64 g2,.int .u64 g3,.string g4,.slice g5 pn.lit.items.length g7,.slice s1 pn.refs.length s3,.int .i64 pn.unit,.bool pn.super,.slice t1 pn.kids.length t3]:List Value)]).flatten:=by simp
    rw[hfl]at hsl'|-;obtain⟨sa',sc',rfl⟩:=hsl'.form;refine GOH ?_;refine⟨(k+1,.slice sa' (k+1) sc',prows++[[.int .u8 pn.kind,.string pn.name,.int .u8 g1,.int .i64 g2,.int .u64 g3,.string g4,.slice g5 pn.lit.items.length g7,.slice s1 pn.refs.length s3,.int .i64 pn.unit,.bool pn.super,.slice t1 pn.kids.length t3]],sp',Bb++B3),⟨by simp only;omega,hsl',?_⟩,by simp only;omega,ZU,?_⟩
    ·show PRows (T++(Bb++B3)) ((l.take (k+1)).map (finS st j)) _;rw[htk];refine(hprows.more fun y hy=>?_).snoc (hp.more fun y hy=>?_)
     ·simp only[Q1]at hy|-;exact hy.elim .inl fun h=>.inr (.inl h)
     ·simp only[Q1]at hy|-;exact hy.elim .inl fun h=>.inr (.inr h)
    ·simp only;refine Imp.cut (M:=[kA q10 0 [.int .i64 (st.outer.getD j (-1)),.int .i64 na,.slice cva ncp cvc,.int .i64 nl,.int .i64 nv,.slice sa' (k+1) sc'],slA (.slice sa' (k+1) sc') (prows++[([.int .u8 pn.kind,.string pn.name,.int .u8 g1,.int .i64 g2,.int .u64 g3,.string g4,.slice g5 pn.lit.items.length g7,.slice s1 pn.refs.length s3,.int .i64 pn.unit,.bool pn.super,.slice t1 pn.kids.length t3]:List Value)]).flatten sp',Bc,Bb,B3,kA q5 0 [.string sel,.int .i64 prim,.slice sa j sc],slA (.slice sa j sc) rows.flatten sp,kA q4 0 [.string e0,.int .i64 0,.slice none 0 0],slA (.slice (some ⟨ub,uo,none⟩) U.length uc) (U.map fun u=>kK (some u.q)) usp,WK Uf Vf,T,B]) ZI (Imp.perm Zs)
  rintro⟨bv2,Bb⟩ hbody
  simp only at hbody;dsimp only;obtain⟨xa,xc,hbv3⟩:∃xa xc,bv2=.slice xa (st.unitR j).body.length xc:=let⟨e1,e2,_,_,_,e3,_⟩:=hbody;⟨e1,e2,e3⟩;subst hbv3;obtain⟨nb,hnb2⟩:∃nb,nb=(st.unitR j).body.length:=⟨_,rfl⟩;rw[<- hnb2]at hbody|-;have hurow:URd (T++(B++(Bc++Bb))) (st.unitR j) [.int .i64 (st.outer.getD j (-1)),.int .i64 na,.slice cva ncp cvc,.int .i64 nl,.int .i64 nv,.slice xa nb xc]:=by
   refine⟨.slice cva ncp cvc,.slice xa nb xc,?_,hcop.more fun y hy=>?_,hbody.more fun y hy=>?_⟩
   ·rw[hna,hnl,hnv];rfl
   ·simp only[Q1];exact .inr (.inr (.inl hy))
   ·simp only[Q1]at hy|-;exact hy.elim .inl fun h=>.inr (.inr (.inr h))
  have hrg:(List.range (j+1)).map st.unitR=(List.range j).map st.unitR++[st.unitR j]:=by rw[List.range_succ,Vw];rfl
  refine GOH ?_;refine j9 (out:=[.int .i64 (st.outer.getD j (-1)),.int .i64 na,.slice cva ncp cvc,.int .i64 nl,.int .i64 nv,.slice xa nb xc]) Zr Zr (fun rr=>?_);refine GOH ?_;refine jF (k:=j) (m:=1) (xs:=rows.flatten) (sp:=sp) (ys:=[.int .i64 (st.outer.getD j (-1)),.int .i64 na,.slice cva ncp cvc,.int .i64 nl,.int .i64 nv,.slice xa nb xc]) Zr Zr hsv ZK Zr ?_ rfl Zr Zr Zd Zo (fun sv' sp' hsl'=>?_)
  ·exact Zal
  have hfl:rows.flatten++([.int .i64 (st.outer.getD j (-1)),.int .i64 na,.slice cva ncp cvc,.int .i64 nl,.int .i64 nv,.slice xa nb xc]:List Value)=(rows++[([.int .i64 (st.outer.getD j (-1)),.int .i64 na,.slice cva ncp cvc,.int .i64 nl,.int .i64 nv,.slice xa nb xc]:List Value)]).flatten:=by simp
  rw[hfl]at hsl'|-;obtain⟨sa',sc',rfl⟩:=hsl'.form;refine GOH ?_;refine⟨(j+1,.slice sa' (j+1) sc',rows++[[.int .i64 (st.outer.getD j (-1)),.int .i64 na,.slice cva ncp cvc,.int .i64 nl,.int .i64 nv,.slice xa nb xc]],sp',B++(Bc++Bb)),⟨by simp only;omega,?_,hsl',?_⟩,by simp only;omega,ZU,?_⟩
  ·intro i hi;by_cases e:i=j
   ·subst e;exact hnbj
   ·exact hnb i (by simp only at hi;omega)
  ·show GRows 6 (URd (T++(B++(Bc++Bb)))) ((List.range (j+1)).map st.unitR) _;rw[hrg];refine(hrows.imp fun x r hx=>hx.more fun y hy=>?_).snoc rfl hurow;simp only[Q1]at hy|-;exact hy.elim .inl fun h=>.inr (.inl h)
  ·simp only;refine Imp.cut (M:=[kA q5 0 [.string sel,.int .i64 prim,.slice sa' (j+1) sc'],slA (.slice sa' (j+1) sc') (rows++[([.int .i64 (st.outer.getD j (-1)),.int .i64 na,.slice cva ncp cvc,.int .i64 nl,.int .i64 nv,.slice xa nb xc]:List Value)]).flatten sp',kA q4 0 [.string e0,.int .i64 0,.slice none 0 0],slA (.slice (some ⟨ub,uo,none⟩) U.length uc) (U.map fun u=>kK (some u.q)) usp,WK Uf Vf,T,B,Bc,Bb]) ZI (Imp.perm Zs)
 rintro⟨usv,rows,sp,B⟩ ⟨hans,husl,hurows⟩
 simp only at hans husl hurows;dsimp only;have hlr:((List.range st.outer.length).map st.unitR).length=st.outer.length:=by simp
 have husr:UsRd (slA usv rows.flatten sp++(T++B)) usv ((List.range st.outer.length).map st.unitR):=SlRd.imp (sl_made (B:=T++B) (by rw[hlr];exact husl) hurows) (fun _ h=>h) fun x r hx=>hx.more fun y hy=>Q3 _ hy
 obtain⟨na,nc,rfl⟩:=husl.form;refine GOH ?_;refine jI ⟨.inr rfl,_,[slA (.slice na st.outer.length nc) rows.flatten sp++(T++B)],.cellN (us:=[.string sel,.int .i64 prim,.slice na st.outer.length nc]) Zr Zr (fun y hy=>by simp only[vz,Q1];repeat (first|exact Or.inl hy|refine Or.inr ?_)) .nil,Imp.cut (M:=[slA (.slice na st.outer.length nc) rows.flatten sp,T,B]) ZI (Imp.perm Zs),⟨_,_,⟨hans,rfl,husr⟩,rfl⟩⟩
end Go.Proofs.YtijnokbblmbpkaaGreatDoor
namespace Go.Proofs.YtijnokbblmbpkaaGreatDoor
open Go Go.V
set_option maxHeartbeats 3200000
set_option maxRecDepth 100000
def MkOk(qs:List Nat)(unit nargs:Nat)(arg own:Bool)(fv:Value)(len:Nat)(J:List Nat->List kC->Prop):Prop:=
 ∀(st:SSt) U Vs ps A (k:Nat),RepS st U Vs->U.map UC.q=qs->unit < st.outer.length->st.args.getD unit 0=nargs->st.vars.length < 1073741824->J ps A->ps.length=k->k < len->
  FunV Tryz.prog fv [vi k] [A,WK U Vs] (fun r Post=>∃U' y A',(r=kE y.q/\(∀nm,RepS (st.addV ⟨nm,unit,arg,if arg&&own then k else -1⟩) U' (Vs++[y]))/\U'.map UC.q=U.map UC.q/\U'.map UC.body=U.map UC.body/\J (ps++[y.q]) A')/\Post=[A',WK U' (Vs++[y])])
theorem decl_some(unit:Nat)(arg own:Bool)(p:Int)(l:List ByteArray)(i:Nat)(st:SSt)(env:List Nat){e:Nat×Int}(h:st.f=some e):(kN unit arg own p l i st env).1.f=some e:=(zZ unit arg own p l i st env).f e h
theorem decl_step(unit:Nat)(arg own:Bool)(p:Int)(nm:ByteArray)(r:List ByteArray)(i:Nat)(st:SSt)(env:List Nat)(h:wG st.vars env nm=none):
 kN unit arg own p (nm::r) i st env=kN unit arg own p r (i+1) (st.addV ⟨nm,unit,arg,if arg&&own then i else -1⟩) (env++[st.vars.length]):=by
 rw[kN,h];rfl
theorem decl_bad(unit:Nat)(arg own:Bool)(p:Int)(nm:ByteArray)(r:List ByteArray)(i:Nat)(st:SSt)(env:List Nat){v:Nat}(h:wG st.vars env nm=some v)(hf:st.f=none):
 (kN unit arg own p (nm::r) i st env).1.f=some (180,p):=by
 rw[kN,h];refine decl_some _ _ _ _ _ _ _ _ ?_;simp only[Option.isSome_some,if_true,SSt.wrong,hf,Option.isNone_none]
theorem with_spec(S:List kC)(unit nargs:Nat)(arg own:Bool)(p:Int)(l:List ByteArray)(lv:Value)(hl:RdT S lv l)(fv:Value)(J:List Nat->List kC->Prop)
 (st:SSt) (U:List UC) (Vs:List VCl) (hmk:MkOk (U.map UC.q) unit nargs arg own fv l.length J) (hR:RepS st U Vs) (hun:unit < st.outer.length) (hna:st.args.getD unit 0=nargs) (hf:st.f=none) (hb:st.vars.length+l.length < 1073741824) (A:List kC) (hJ:J [] A) (env:List Nat) (b:Nat) (es:Array MapEntry) (c:Nat) (hs:wX st Vs env es c):
 jY Tryz.prog 108 [.map (some b),.int .i64 p,lv,fv] [A,WK U Vs,[.obj b (.map es c)],S]
  (fun v Post=>∃b' es' c' U' Vs' A',((kN unit arg own p l 0 st env).1.f=none/\v=.map (some b')/\RepS (kN unit arg own p l 0 st env).1 U' Vs'/\U'.map UC.q=U.map UC.q/\U'.map UC.body=U.map UC.body/\Vs.map VCl.q <+:Vs'.map VCl.q/\wX (kN unit arg own p l 0 st env).1 Vs' (kN unit arg own p l 0 st env).2 es' c'/\
    J ((Vs'.map VCl.q).drop Vs.length) A')/\Post=[A',WK U' Vs',[.obj b' (.map es' c')],[.obj b (.map es c)],S])
  (fun ch Post=>(kN unit arg own p l 0 st env).1.f=some (180,p)/\∃q,ch=failCh q/\Post=[S,jJ q 180 p]):=by
 obtain⟨la,lc,rfl,hl1,hl2⟩:=hl;refine jY.intro low108 (by simp[n108]) ?_;refine GOH ?_;refine kM (clone_spec b es c) Zr ZP (fun v Post hv=>?_);obtain⟨b',rfl,rfl⟩:=hv;simp only[CNx];refine GOH ?_;refine VC.loop (α:=Nat×SSt×List Nat×List UC×List VCl×List kC×Array MapEntry×Nat) (Γf:=fun s=>[(1,.int .i64 p),(3,fv),(9,.map (some b')),(14,.slice la l.length lc),(15,vi l.length),(16,vi s.1)])
  (Hf:=fun s=>[s.2.2.2.2.2.1,WK s.2.2.2.1 s.2.2.2.2.1,[.obj b' (.map s.2.2.2.2.2.2.1 s.2.2.2.2.2.2.2)],[.obj b (.map es c)],S])
  (I:=fun s=>s.1<=l.length/\kN unit arg own p l 0 st env=kN unit arg own p (l.drop s.1) s.1 s.2.1 s.2.2.1/\RepS s.2.1 s.2.2.2.1 s.2.2.2.2.1/\s.2.1.f=none/\s.2.1.outer=st.outer/\s.2.1.args=st.args/\s.2.1.vars.length=st.vars.length+s.1/\s.2.2.2.1.map UC.q=U.map UC.q/\s.2.2.2.1.map UC.body=U.map UC.body/\Vs.map VCl.q <+:s.2.2.2.2.1.map VCl.q/\
    wX s.2.1 s.2.2.2.2.1 s.2.2.1 s.2.2.2.2.2.2.1 s.2.2.2.2.2.2.2/\J ((s.2.2.2.2.1.map VCl.q).drop Vs.length) s.2.2.2.2.2.1) (μ:=fun s=>l.length - s.1) (0,st,env,U,Vs,A,es,c)
  ⟨Qf _,rfl,hR,hf,rfl,rfl,rfl,rfl,rfl,QM _,hs,by simpa[List.drop_eq_nil_of_le]using hJ⟩ ZU ZI ?_
 have hvl0:=hR.vl;clear hR hf hs hJ
 rintro⟨j,st1,env1,U1,Vs1,A1,es1,c1⟩ ⟨hj,hd,hR,hf,ho,ha,hvl,hq,hqb,hpre,hs,hJ⟩
 simp only at hj hd hR hf ho ha hvl hq hqb hpre hs hJ;dsimp only;refine GOH ?_;by_cases hlt:j < l.length;rotate_left
 ·rw[show decide ((j:Int) < (l.length:Int))=false from Zf Zo];have hjl:j=l.length:=by omega
  rw[hjl,List.drop_length,kN]at hd;refine GOH ?_;refine jI (kG (Post:=[A1,WK U1 Vs1,[.obj b' (.map es1 c1)],[.obj b (.map es c)],S]) (.inr rfl) (.tmp (v:=.map (some b')) Zr .nil) ⟨b',es1,c1,U1,Vs1,A1,⟨?_,rfl,?_,hq,hqb,hpre,?_,hJ⟩,rfl⟩ ZI)
  ·rw[hd];exact hf
  ·rw[hd];exact hR
  ·rw[hd];exact hs
 rw[show decide ((j:Int) < (l.length:Int))=true from Zt Zo];obtain⟨nm,hnm⟩:∃nm,l[j]? =some nm:=⟨_,Zg hlt⟩;obtain⟨lb,lo,rfl,hm,hms⟩:=hl2 j nm hnm;have hdr:l.drop j=nm::l.drop (j+1):=by
  rw[vh hlt]
  congr 1
  rw[Zg hlt]at hnm;exact Qn hnm
 rw[hdr]at hd;obtain⟨hg1,hg2⟩:=hs.find nm;refine GOH ?_;refine wP (E:=zX) (V:=fun b=>kK (some b)) (k:=nm) Zr Zr rfl (.there (.there .here)) hs.is ?_;rw[hg1];cases hfe:wG st1.vars env1 nm with
 |some v=>
  have hbad:=decl_bad unit arg own p nm (l.drop (j+1)) j st1 env1 hfe hf;rw[<- hd]at hbad;simp only[lookV,Qm,kK,if_false,vI];refine GOH ?_;refine kJ (wrong_spec 180 p) Zr ZP (fun v Post hv=>hv.elim) (fun ch Post hz=>?_);obtain⟨q,rfl,rfl⟩:=hz;exact⟨[S,jJ q 180 p],ZI,hbad,q,rfl,rfl⟩
 |none=>
  have hst:=decl_step unit arg own p nm (l.drop (j+1)) j st1 env1 hfe;rw[hst]at hd;simp only[lookV,Ql,if_false,vI];refine GOH ?_;refine st_callV Zr (hmk st1 U1 Vs1 _ A1 j hR hq (by rw[ho];exact hun) (by rw[ha];exact hna) Zo hJ (by rw[Vm,Vp,hR.vl,hvl,hvl0];omega) hlt) Zr ZP (fun v Post hv=>?_);obtain⟨U2,y,A2,⟨rfl,hR2,hq2,hqb2,hJ2⟩,rfl⟩:=hv;simp only[CNx];refine GOH ?_;refine wO (E:=zX) (V:=fun b=>kK (some b)) (k:=nm) (v:=y.q) Zr Zr Zr rfl ZK hs.is (fun es2 c2 hes2=>?_);refine GOH ?_;have hpl:Vs.length<=Vs1.length:=by
   obtain⟨r,hr⟩:=hpre;have:=congrArg List.length hr;simp only[Vj,Vp]at this;omega
  refine⟨(j+1,st1.addV ⟨nm,unit,arg,if arg&&own then j else -1⟩,env1++[st1.vars.length],U2,Vs1++[y],A2,es2,c2),⟨by simp only;omega,hd,hR2 nm,hf,ho,ha,?_,hq2.trans hq,hqb2.trans hqb,?_,hs.add hR.vl hfe hes2,?_⟩,by simp only;omega,ZU,ZI⟩
  ·show(st1.vars++[_]).length=_;rw[Vj,hvl];rfl
  ·simp only[Vw];exact hpre.trans (QL _ _)
  ·simp only[Vw,Vy,Q0];rw[List.drop_append_of_le_length (by rw[Vp];exact hpl)];exact hJ2
end Go.Proofs.YtijnokbblmbpkaaGreatDoor
namespace Go.Proofs.YtijnokbblmbpkaaGreatDoor
open Go Go.V
set_option maxHeartbeats 3200000
set_option maxRecDepth 100000
theorem unit_of {qs:List Nat}{U:List UC}(h:U.map UC.q=qs){unit uq:Nat}(hq:qs[unit]? =some uq):∃u,U[unit]? =some u/\u.q=uq:=by
 rw[<- h,Ve]at hq;obtain⟨u,h1,h2⟩:=Qk.1 hq;exact⟨u,h1,h2⟩
theorem mk_arg(qs:List Nat)(unit nargs uq k:Nat)(hq:qs[unit]? =some uq)(hn:nargs < 1073741824):MkOk qs unit nargs true true (.func (.func 109) #[] #[kE k]) nargs (fun _ A=>A=kA k 0 [kE uq]):=by
 intro st U Vs ps A j hR hqs hun hna hb hJ hps hj;subst hJ;obtain⟨u,hu,rfl⟩:=unit_of hqs hq;have hf:Fun Tryz.prog 109 [vi j,kE k] [kA k 0 [kE u.q],WK U Vs] (fun r Post=>∃U' y A',(r=kE y.q/\(∀nm,RepS (st.addV ⟨nm,unit,true,if true&&true then j else -1⟩) U' (Vs++[y]))/\U'.map UC.q=U.map UC.q/\U'.map UC.body=U.map UC.body/\A'=kA k 0 [kE u.q])/\Post=[A',WK U' (Vs++[y])]):=by
  refine Fun.intro low109 (by simp[n109]) ?_;refine GOH ?_;refine kd Zr (fun q=>?_);simp only[Value.cells];refine GOH ?_;refine kG (Post:=[kA k 0 [kE u.q],WK U (Vs++[⟨q,u.q,j,true,false,0⟩])]) (.inr rfl) (.tmp (v:=kE q) Zr .nil) ⟨U,⟨q,u.q,j,true,false,0⟩,kA k 0 [kE u.q],⟨rfl,fun nm=>?_,rfl,rfl,rfl⟩,rfl⟩ ?_
  ·refine RepG.addV (u':=u) hR rfl hu (by simp only[Bool.and_self,if_true];omega) ⟨rfl,rfl,rfl,rfl,rfl⟩ (wi hu).symm rfl ?_ ?_
   ·rw[if_neg (by simp only[Bool.and_self,if_true];omega),vd]
   ·exact(hR.tm unit u hu).2
  ·refine Imp.cut (M:=[kA k 0 [kE u.q],kA q 0 [kE u.q,.int .i64 j,.bool true,.bool false,.int .i64 0],WK U Vs]) ZI (Imp.perm ?_);simp only[vz,V0,vd];exact vU _ (wk_snocV U Vs ⟨q,u.q,j,true,false,0⟩).symm
 exact FunV.of_fun (first:=#[]) (cap:=#[kE k]) hf
theorem mk_temp(qs:List Nat)(unit nargs uq k len:Nat)(hq:qs[unit]? =some uq):MkOk qs unit nargs false true (.func (.func 110) #[] #[kE k]) len (fun _ A=>A=kA k 0 [kE uq]):=by
 intro st U Vs ps A j hR hqs hun hna hb hJ hps hj;subst hJ;obtain⟨u,hu,rfl⟩:=unit_of hqs hq;have hf:Fun Tryz.prog 110 [vi j,kE k] [kA k 0 [kE u.q],WK U Vs] (fun r Post=>∃U' y A',(r=kE y.q/\(∀nm,RepS (st.addV ⟨nm,unit,false,if false&&true then j else -1⟩) U' (Vs++[y]))/\U'.map UC.q=U.map UC.q/\U'.map UC.body=U.map UC.body/\A'=kA k 0 [kE u.q])/\Post=[A',WK U' (Vs++[y])]):=by
  refine Fun.intro low110 (by simp[n110]) ?_;refine GOH ?_;refine kM (temp_spec st U Vs hR unit u hu false hb) Zr ZP (fun v Post hv=>?_);obtain⟨U',y,⟨rfl,h1,h2,h2b⟩,rfl⟩:=hv;simp only[CNx];refine GOH ?_;exact kG (Post:=[kA k 0 [kE u.q],WK U' (Vs++[y])]) (.inr rfl) (.tmp (v:=kE y.q) Zr .nil) ⟨U',y,_,⟨rfl,h1,h2,h2b,rfl⟩,rfl⟩ ZI
 exact FunV.of_fun (first:=#[]) (cap:=#[kE k]) hf
def lastV(ps:List Nat):Value:=match ps.getLast? with|some q=>kE q|none=>.pointer none
theorem mk_first(qs:List Nat)(unit nargs uq k k2 len:Nat)(hq:qs[unit]? =some uq):MkOk qs unit nargs true false (.func (.func 251) #[] #[kE k,kE k2]) len (fun ps A=>A=kA k 0 [kE uq]++kA k2 0 [lastV ps]):=by
 intro st U Vs ps A j hR hqs hun hna hb hJ hps hj;subst hJ;obtain⟨u,hu,rfl⟩:=unit_of hqs hq;have hf:Fun Tryz.prog 251 [vi j,kE k,kE k2] [kA k 0 [kE u.q]++kA k2 0 [lastV ps],WK U Vs] (fun r Post=>∃U' y A',(r=kE y.q/\(∀nm,RepS (st.addV ⟨nm,unit,true,if true&&false then j else -1⟩) U' (Vs++[y]))/\U'.map UC.q=U.map UC.q/\U'.map UC.body=U.map UC.body/\A'=kA k 0 [kE u.q]++kA k2 0 [lastV (ps++[y.q])])/\Post=[A',WK U' (Vs++[y])]):=by
  refine Fun.intro low251 (by simp[n251]) ?_;refine VC.imp (H':=[kA k 0 [kE u.q],kA k2 0 [lastV ps],WK U Vs]) (Imp.perm Zs) ?_;refine GOH ?_;refine kM (temp_spec st U Vs hR unit u hu true hb) Zr ZP (fun v Post hv=>?_);obtain⟨U',y,⟨rfl,h1,h2,h2b⟩,rfl⟩:=hv;simp only[CNx];refine GOH ?_;refine kG (Post:=[kA k 0 [kE u.q]++kA k2 0 [lastV (ps++[y.q])],WK U' (Vs++[y])]) (.inr rfl) (.tmp (v:=kE y.q) Zr .nil) ⟨U',y,_,⟨rfl,h1,h2,h2b,rfl⟩,rfl⟩ ?_;have e:lastV (ps++[y.q])=kE y.q:=by unfold lastV;simp
  rw[e];exact Imp.cut (M:=[kA k 0 [kE u.q],kA k2 0 [kE y.q],WK U' (Vs++[y])]) ZI (Imp.perm Zs)
 exact FunV.of_fun (first:=#[]) (cap:=#[kE k,kE k2]) hf
def ja(tv kv:Value):List Value:=[cv 14,.string e0,cv 0,.int .i64 0,.int .u64 0,.string e0,.slice none 0 0,.slice none 0 0,.int .i64 0,.bool false,.slice none 0 0,tv,kv]
def BodyJ(uq k k2:Nat)(ps:List Nat)(A:List kC):Prop:=∃tv tsp,jC 1 tv ps.length (ps.map fun b=>kK (some b)) tsp/\A=kA k 0 [kE uq]++(kA k2 0 (ja tv (.slice none 0 0))++slA tv (ps.map fun b=>kK (some b)) tsp)
theorem mk_body(qs:List Nat)(unit nargs uq k k2 len:Nat)(hq:qs[unit]? =some uq)(hlen:len < 1073741824):MkOk qs unit nargs false false (.func (.func 252) #[] #[kE k,kE k2]) len (BodyJ uq k k2):=by
 intro st U Vs ps A j hR hqs hun hna hb hJ hps hj;obtain⟨tv,tsp,hsl,rfl⟩:=hJ;obtain⟨u,hu,rfl⟩:=unit_of hqs hq;obtain⟨ta,tc,rfl⟩:=hsl.form;have hf:Fun Tryz.prog 252 [vi j,kE k,kE k2] [kA k 0 [kE u.q]++(kA k2 0 (ja (.slice ta ps.length tc) (.slice none 0 0))++slA (.slice ta ps.length tc) (ps.map fun b=>kK (some b)) tsp),WK U Vs] (fun r Post=>∃U' y A',(r=kE y.q/\(∀nm,RepS (st.addV ⟨nm,unit,false,if false&&false then j else -1⟩) U' (Vs++[y]))/\U'.map UC.q=U.map UC.q/\U'.map UC.body=U.map UC.body/\BodyJ u.q k k2 (ps++[y.q]) A')/\Post=[A',WK U' (Vs++[y])]):=by
  refine Fun.intro low252 (by simp[n252]) ?_;refine VC.imp (H':=[kA k 0 [kE u.q],kA k2 0 (ja (.slice ta ps.length tc) (.slice none 0 0)),slA (.slice ta ps.length tc) (ps.map fun b=>kK (some b)) tsp,WK U Vs]) (Imp.perm Zs) ?_;unfold ja;refine GOH ?_;refine kM (temp_spec st U Vs hR unit u hu false hb) Zr ZP (fun v Post hv=>?_);obtain⟨U',y,⟨rfl,h1,h2,h2b⟩,rfl⟩:=hv;simp only[CNx];refine GOH ?_;refine j9 (out:=[kE y.q]) Zr Zr (fun q2=>?_);refine jF (k:=ps.length) (m:=1) (xs:=ps.map fun b=>kK (some b)) (sp:=tsp) (ys:=[kE y.q]) Zr Zr hsl ZK Zr ?_ rfl Zr Zr Zd Zo (fun sv' sp' hsl'=>?_)
  ·exact Zal
  obtain⟨a',c',rfl⟩:=hsl'.form;have hfl:(ps.map fun b=>kK (some b))++[kE y.q]=(ps++[y.q]).map fun b=>kK (some b):=by simp[kK]
  rw[hfl]at hsl'|-;refine GOH ?_;refine kG (Post:=[kA k 0 [kE u.q]++(kA k2 0 (ja (.slice a' (ps.length+1) c') (.slice none 0 0))++slA (.slice a' (ps.length+1) c') ((ps++[y.q]).map fun b=>kK (some b)) sp'),WK U' (Vs++[y])]) (.inr rfl) (.tmp (v:=kE y.q) Zr .nil) ⟨U',y,_,⟨rfl,h1,h2,h2b,.slice a' (ps.length+1) c',sp',by simpa using hsl',rfl⟩,rfl⟩ ?_;unfold ja;exact Imp.cut (M:=[kA k 0 [kE u.q],kA k2 0 (ja (.slice a' (ps.length+1) c') (.slice none 0 0)),slA (.slice a' (ps.length+1) c') ((ps++[y.q]).map fun b=>kK (some b)) sp',WK U' (Vs++[y])]) (by unfold ja;exact IMx) (Imp.perm (by simp[ja]))
 exact FunV.of_fun (first:=#[]) (cap:=#[kE k,kE k2]) hf
end Go.Proofs.YtijnokbblmbpkaaGreatDoor

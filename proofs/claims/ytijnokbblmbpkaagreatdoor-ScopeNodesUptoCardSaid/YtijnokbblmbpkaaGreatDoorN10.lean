/-
  Scanning: binary selectors, keywords.
-/
import Derived.Test.YtijnokbblmbpkaaGreatDoorN9
import Derived.KernelRfl
import Derived.Test.YtijnokbblmbpkaaGreatDoorProg
import Derived.Test.YtijnokbblmbpkaaGreatDoorN7
import Derived.Shelf.Strconv.ParseIntPublic10
import Derived.Test.YtijnokbblmbpkaaGreatDoorN5
import Derived.ChangeOld
import Derived.RowKit3
set_option linter.all false
namespace Go.Proofs.YtijnokbblmbpkaaGreatDoor
open Go Go.V
set_option maxHeartbeats 3200000
set_option maxRecDepth 100000
theorem I1(pa pf ps:Nat)(s:ByteArray)(hs:s.size<=140737488355328)(k c:Nat)(hk:k < s.size)(hc:c < 256):
 ao Tryz.prog 196 [cv c,kE pa,kE pf,kE ps] [kA pa 0 [vi k],kA pf 0 [vi 0],kA ps 0 [.string s]] (fun v Post=>v=.bool (lx c&&(decide (k=0)||decide (c≠45)||!dU ((kF s).getD (k+1) 0)))/\Post=[kA pa 0 [vi ((k:Int)+1)],kA pf 0 [vi 0],kA ps 0 [.string s]]):=by
 refine ao.intro low196 (by simp[n196]) ?_;have hd:(kF s).getD (k+1) 0 < 256:=by
  rw[V8];cases h:(kF s)[k+1]? with
  |none=>decide
  |some x=>exact gH s _ (Zv h)
 have hp:=MA s hs (k+1);generalize (kF s).getD (k+1) 0=d at hd hp|-;refine ae ?_;refine kQ (sC c hc) Zr ?_;cases hb:lx c with
 |false=>
  refine ae ?_;refine kG (.inr rfl) (.tmp Zr .nil) ⟨by simp[gw],rfl⟩ ZI
 |true=>
  refine ae ?_;by_cases h0:k=0
  ·rw[Zt (show(k:Int)=0 by omega)];refine ae ?_;refine kG (.inr rfl) (.tmp Zr .nil) ⟨by simp[gw,h0],rfl⟩ ZI
  rw[Zf (show ¬(k:Int)=0 by omega)];refine ae ?_;by_cases h45:c=45;rotate_left
  ·rw[show decide ((c:Int)=45)=false from Zf Zo];exact zD8
  rw[show decide ((c:Int)=45)=true from Zt Zo];refine ae ?_;refine kQ hp Zr ?_;refine ae ?_;refine kQ (oH d hd) Zr ?_;cases S6:dU d
  ·exact zD8
  ·exact zD8
theorem B8(s:ByteArray)(hs:s.size<=140737488355328)(c:UInt8)(r:List Nat)(hc:s[0]? =some c)(hr:kF s=c.toNat::r)(hb:c.toNat=124∨lx c.toNat=true):
 ao Tryz.prog 163 [.string s,vi 0] [] (fun v Post=>v=vi (yn (kF s))/\Post=[]):=by
 refine ao.intro low163 (by simp[n163]) ?_;have hlen:=jH s;have nR:0 < s.size:=by rw[<- hlen,hr];simp
 refine ae ?_;refine kW Zr (fun ps=>?_);simp only[Value.cells];refine ae ?_;refine kW Zr (fun pa=>?_);simp only[Value.cells];refine ae ?_;refine fR Zr Zr (j:=0) rfl hc ?_;refine ae ?_;by_cases h0:c.toNat=124
 ·rw[show decide ((c.toNat:Int)=124)=true from Zt Zo];refine ae ?_;refine kG (Post:=[]) (.inr rfl) (.tmp Zr .nil) ⟨by simp[gw,hr,yn,h0],rfl⟩ ZI
 rw[show decide ((c.toNat:Int)=124)=false from Zf Zo];have hbin:lx c.toNat=true:=by
  rcases hb with h|h
  ·exact absurd h h0
  ·exact h
 refine ae ?_;refine kM (fun pf=>?_);refine ae ?_;have bI:=yj s hs 0 Zo (.func (.func 196) #[] #[kE pa,kE pf,kE ps]) (fun k=>[kA pa 0 [vi k],kA pf 0 [vi 0],kA ps 0 [.string s]])
  (fun k=>lx ((kF s).getD k 0)&&(decide (k=0)||decide ((kF s).getD k 0≠45)||!dU ((kF s).getD (k+1) 0))) (fun k x _ hx=>dj.bX (by
    have hk:k < s.size:=by rw[<- hlen];exact(Vh.1 hx).1
    have:=I1 pa pf ps s hs k x hk (gH s _ (Zv hx));rw[V8 (i:=k),hx];exact this))
 simp only[show((0:Nat):Int)=0 from rfl]at bI;refine kI bI Zr ZP (fun v Post hv=>?_);obtain⟨e,j,rfl,e1,e2,e3,e4,rfl⟩:=hv;simp only[aE];refine ae ?_;refine kG (Post:=[]) (.inr rfl) (.tmp Zr .nil) ⟨?_,rfl⟩ ZI;have aC:∀k,k < s.size->∃x,(kF s)[k]? =some x/\(kF s).getD k 0=x:=fun k hk=>by
  obtain⟨x,_,hx⟩:=gG hk;exact⟨_,hx,by rw[V8,hx];rfl⟩
 have he0:e≠0:=fun e0=>by
  subst e0;have:=e4 nR;rw[hr]at this;simp[hbin]at this
 have Yl:∀k,1<=k->k < s.size->pd ((kF s).drop k)=(lx ((kF s).getD k 0)&&(decide (k=0)||decide ((kF s).getD k 0≠45)||!dU ((kF s).getD (k+1) 0))):=fun k h1 hk=>by
  obtain⟨x,hx,J6⟩:=aC k hk;rw[Gc hx,J6,Zf (show ¬k=0 by omega),vK]
 have:=Sa (c:=c.toNat) (r:=r) (e:=e) h0 hbin (by rw[<- hr];omega) (fun k h1 h2=>by rw[<- hr,Yl k h2 Zo];exact e3 k Zo h1) (fun hk=>by
  rw[<- hr]at hk|-;exact⟨Zo,by rw[Yl e Zo Zo];exact e4 Zo⟩)
 rcases this with h|h
 ·rw[hr,h];rfl
 ·exact absurd h he0
theorem LF(qs qt qn:Nat)(s:ByteArray)(hs:s.size<=140737488355328):
 Iter Tryz.prog (.func (.func 223) #[] #[kE qs,kE qt,kE qn]) (fun x=>[.string x]) [kA qs 0 [.string ⟨#[58]⟩],kA qt 0 [.string s],kA qn 0 [vi 1]] [] (fun full=>full.map kF=jQ (kF s)):=by
 intro y J SP hy A hA;refine dj.bX (first:=#[]) (cap:=#[kE qs,kE qt,kE qn]) ?_;show ao Tryz.prog 223 [y,kE qs,kE qt,kE qn] _ _;refine ao.intro low223 (by simp[n223]) ?_;simp only[aE];refine ae ?_;refine VC.loop (α:=List ByteArray×ByteArray×List kB) (aW:=fun _=>[(0,y),(1,kE qs),(2,kE qt),(3,kE qn)]) (Hf:=fun st=>[kA qs 0 [.string ⟨#[58]⟩],kA qt 0 [.string st.2.1],kA qn 0 [vi 1],st.2.2])
  (I:=fun st=>st.1.map kF++jQ (kF st.2.1)=jQ (kF s)/\st.2.1.size<=s.size/\J st.1 st.2.2) (μ:=fun st=>st.2.1.size) ([],s,A) ⟨rfl,Qj _,hA⟩ ZU ZI ?_
 rintro⟨c,t,A1⟩ ⟨i1,i2,i3⟩
 simp only at i1 i2 i3;dsimp only;have hlen:=jH t;have hix:ao Tryz.prog 225 [.string t,.string ⟨#[58]⟩] [] (fun v Post=>v=vi (G0 (kF t) 58)/\Post=[]):=by
  refine ao.intro low225 (by simp[n225]) ?_;refine ae ?_;refine kQ (Pr t) Zr ?_;exact zDP
 refine ae ?_;refine kQ hix Zr ?_;rcases LD (kF t) 58 with⟨h1,h2⟩|⟨p,r,h1,h2,h3⟩
 ·rw[h1];refine ae ?_;have xq:(c++[t]).map kF=jQ (kF s):=by rw[<- i1,Fs h2];simp
  refine dR Zr (hy c t A1 ⟨[],by simpa using xq⟩ i3) Zr ZP (fun v Post hv=>?_);rcases hv with⟨rfl,A',Uo,rfl⟩|⟨rfl,B',hB',rfl⟩
  ·simp only[aE];refine ae ?_;exact kG (Post:=[A']) (.inl rfl) .nil ⟨rfl,.inl ⟨c++[t],A',xq,Uo,rfl⟩⟩ ZI
  ·simp only[aE];refine ae ?_;exact kG (Post:=[B']) (.inl rfl) .nil ⟨rfl,.inr ⟨c++[t],B',⟨[],by simpa using xq⟩,hB',rfl⟩⟩ ZI
 ·have gh:t.size=p.length+1+r.length:=by rw[<- hlen,h1];simp;omega
  have hx:kF (t.extract 0 (p.length+1))=p++[58]:=by
   rw[jz,h1,show p++58::r=(p++[58])++r by simp,List.take_left' Zs];rfl
  have Th:kF (t.extract (p.length+1) t.size)=r:=by
   rw[jz,Qc Zo,h1];simp[List.drop_append]
  have tL:(t.extract (p.length+1) t.size).size=r.length:=by rw[<- jH,Th]
  have hpc:=Fq (p:=p) (r:=r) h2;rw[<- h1]at hpc;obtain⟨full,hful⟩:=MC (t.extract (p.length+1) t.size);rw[Th]at hful;have aN:OkC (fun full=>full.map kF=jQ (kF s)) (c++[t.extract 0 (p.length+1)]):=⟨full,by rw[<- i1,hpc];simp[hx,hful]⟩;rw[h3];refine ae ?_;rw[Zf (show ¬((p.length:Int) < 0) by omega)];refine ae ?_;refine iP (l:=0) (h:=p.length+1) Zr .Jx (.num Zr) Zo ?_;refine ae ?_;refine dR Zr (hy c _ A1 aN i3) Zr ZP (fun v Post hv=>?_);rcases hv with⟨rfl,A',Uo,rfl⟩|⟨rfl,B',hB',rfl⟩
  ·simp only[aE];refine ae ?_;rw[show(((⟨#[58]⟩:ByteArray).size:Nat):Int)=1 from rfl,wrap64 (show -9223372036854775808<=(p.length:Int)+1/\(p.length:Int)+1<=9223372036854775807 by omega)];refine iP (l:=p.length+1) (h:=t.size) Zr (.num Zr) .Jx Zo ?_;refine ae ?_;exact⟨(c++[t.extract 0 (p.length+1)],t.extract (p.length+1) t.size,A'),⟨by simp only[Th];rw[<- i1,hpc];simp[hx],by simp only[tL];omega,Uo⟩,by simp only[tL];omega,ZU,ZI⟩
  ·exact zE3
theorem uW(s:ByteArray)(hs:s.size<=140737488355328):ao Tryz.prog 165 [.string s,.string ⟨#[58]⟩] [] (fun v Post=>∃t,v=.tuple #[.string t,.bool (decide ((kF s).getLast? =some 58))]/\((kF s).getLast? =some 58->kF t=(kF s).dropLast)/\t.size<=s.size/\Post=[]):=by
 have hlen:=jH s;have JS:∀(h:1<=s.size),s.extract (s.size - 1) s.size=⟨#[58]⟩↔(kF s).getLast? =some 58:=fun h=>by
  have hb:kF (s.extract (s.size - 1) s.size)=(kF s).drop (s.size - 1):=by rw[jz,Qc Zo]
  rw[List.getLast?_eq_getElem?,hlen];constructor
  ·intro e;rw[e]at hb;have:(kF s).drop (s.size - 1)=[58]:=hb.symm;have h2:=congrArg (fun l=>l[0]?) this;simpa using h2
  ·intro e;apply ja;rw[hb];obtain⟨hk,hv⟩:=Vh.1 e;rw[vh hk,hv,List.drop_eq_nil_of_le Zo];rfl
 have hsuf:ao Tryz.prog 226 [.string s,.string ⟨#[58]⟩] [] (fun v Post=>v=.bool (decide ((kF s).getLast? =some 58))/\Post=[]):=by
  refine ao.intro low226 (by simp[n226]) ?_;refine ae ?_;rw[show(((⟨#[58]⟩:ByteArray).size:Nat):Int)=1 from rfl];by_cases h:1<=s.size
  ·rw[Zt (show(s.size:Int) ≥ 1 by omega)];refine ae ?_;rw[show(((⟨#[58]⟩:ByteArray).size:Nat):Int)=1 from rfl,wrap64 (show -9223372036854775808<=(s.size:Int) - 1/\(s.size:Int) - 1<=9223372036854775807 by omega),show(s.size:Int) - 1=((s.size - 1:Nat):Int) by omega];refine iP (l:=s.size - 1) (h:=s.size) Zr (.num Zr) .Jx Zo ?_;refine ae ?_;refine⟨.inr rfl,_,_,.tmp Zr .nil,ZI,?_,rfl⟩;simp only[gw,JS h]
  ·exact zCW
 have hcut:ao Tryz.prog 200 [.string s,.string ⟨#[58]⟩] [] (fun v Post=>∃t,v=.tuple #[.string t,.bool (decide ((kF s).getLast? =some 58))]/\((kF s).getLast? =some 58->kF t=(kF s).dropLast)/\t.size<=s.size/\Post=[]):=by
  refine ao.intro low200 (by simp[n200]) ?_;refine ae ?_;refine kQ hsuf Zr ?_;by_cases h:(kF s).getLast? =some 58
  ·have nR:1<=s.size:=by
    cases hb:kF s with
    |nil=>rw[hb]at h;cases h
    |cons a r=>rw[<- hlen,hb];simp
   rw[Zt h];refine ae ?_;rw[show(((⟨#[58]⟩:ByteArray).size:Nat):Int)=1 from rfl,wrap64 (show -9223372036854775808<=(s.size:Int) - 1/\(s.size:Int) - 1<=9223372036854775807 by omega),show(s.size:Int) - 1=((s.size - 1:Nat):Int) by omega];refine iP (l:=0) (h:=s.size - 1) Zr .Jx (.num Zr) Zo ?_;refine ae ?_;have hb:kF (s.extract 0 (s.size - 1))=(kF s).dropLast:=by rw[jz,List.drop_zero,List.dropLast_eq_take,hlen]
   refine kG (Post:=[]) (.inr rfl) (.tmp Zr (.tmp Zr .nil)) ⟨_,rfl,fun _=>hb,?_,rfl⟩ ZI;rw[<- jH,hb,<- hlen];simp
  ·rw[Zf h];refine ae ?_;refine kG (Post:=[]) (.inr rfl) (.tmp Zr (.tmp Zr .nil)) ⟨_,rfl,fun h2=>absurd h2 h,Qj _,rfl⟩ ZI
 refine ao.intro low165 (by simp[n165]) ?_;exact zCB
theorem tP(s:ByteArray):ao Tryz.prog 164 [.string s,.string ⟨#[58]⟩] [] (fun v Post=>∃qs qt qn,v=.func (.func 223) #[] #[kE qs,kE qt,kE qn]/\Post=[kA qs 0 [.string ⟨#[58]⟩],kA qt 0 [.string s],kA qn 0 [vi 1]]):=by
 have h:ao Tryz.prog 199 [.string s,.string ⟨#[58]⟩,vi 1] [] (fun v Post=>∃qs qt qn,v=.func (.func 223) #[] #[kE qs,kE qt,kE qn]/\Post=[kA qs 0 [.string ⟨#[58]⟩],kA qt 0 [.string s],kA qn 0 [vi 1]]):=by
  refine ao.intro low199 (by simp[n199]) ?_;refine ae ?_;refine kW Zr (fun qt=>?_);simp only[Value.cells];refine ae ?_;refine kW Zr (fun qs=>?_);simp only[Value.cells];refine ae ?_;refine kW Zr (fun qn=>?_);simp only[Value.cells];refine ae ?_;refine kG (.inr rfl) (.tmp Zr .nil) ⟨qs,qt,qn,rfl,rfl⟩ ZI
 refine ao.intro low164 (by simp[n164]) ?_;refine ae ?_;rw[show(((⟨#[58]⟩:ByteArray).size:Nat):Int)=1 from rfl];refine kI h Zr ZP (fun v Post hv=>?_);obtain⟨qs,qt,qn,rfl,rfl⟩:=hv;simp only[aE];refine ae ?_;refine kG (.inr rfl) (.tmp Zr .nil) ⟨qs,qt,qn,rfl,rfl⟩ ZI
def xF(p:List Nat):Bool:=decide (p.getLast? =some 58)&&xW p.dropLast
theorem xG:∀{c:List (List Nat)} {rest:List (List Nat)} {n:Nat},(∀p∈c,xF p=true)->oe (c++rest) n=oe rest (n+c.length):=by
 intro c
 induction c with
 |nil=>intro rest n _;simp
 |cons p c ih=>
  intro rest n h;have hp:=h p Zs;simp only[xF,vF,decide_eq_true_eq]at hp;have cF:p≠[]:=fun e=>by rw[e]at hp;simp at hp
  simp only[vf,oe,if_neg cF,hp.1,hp.2,decide_true,Bool.and_self,if_true];rw[ih (fun q hq=>h q (by simp[hq])),Vp,show n+1+c.length=n+(c.length+1) by omega]
theorem A9 {p:List Nat}{rest:List (List Nat)}{n:Nat}(h0:p≠[])(h:xF p=false):oe (p::rest) n=-1:=by
 simp only[xF]at h;simp[oe,h0,h]
theorem II(l:List Nat):(jQ l).length<=l.length+1:=by
 induction l with
 |nil=>simp[jQ]
 |cons c r ih=>
  simp only[jQ];split
  ·simp;omega
  ·cases h:jQ r with
   |nil=>simp
   |cons p ps=>rw[h]at ih;simp at ih|-;omega
theorem eR(s:ByteArray)(hs:s.size<=140737488355328):ao Tryz.prog 105 [.string s] [] (fun v Post=>v=vi (jA s)/\Post=[]):=by
 refine ao.intro low105 (by simp[n105]) ?_;have hlen:=jH s;refine ae ?_;refine kM (fun pr=>?_);refine ae ?_;refine kQ (ng s hs) Zr ?_;cases hn:oi s with
 |true=>
  refine ae ?_;have:jA s=0:=by unfold jA G8;rw[show xW (kF s)=true from hn];rfl
  rw[this];exact⟨.inr rfl,[vi 0],[],.bT (v:=vi 0) Zr Jo .nil,aj.nil,⟨rfl,rfl⟩⟩
 |false=>
  have JY:xW (kF s)=false:=hn;refine ae ?_;by_cases h0:s=⟨#[]⟩
  ·subst h0;refine ae ?_;exact zBG
  obtain⟨c,r,hc,hr,JN,nR⟩:=lL h0;rw[Zf h0];refine ae ?_;refine fR Zr Zr (j:=0) rfl hc ?_;refine ae ?_;have iv:jA s=if(lx c.toNat||decide (c.toNat=124))=true then(if yn (kF s)=(kF s).length then 1 else -1)else oe (jQ (kF s)) 0:=by
   unfold jA G8;rw[if_neg (by rw[JY];simp)];simp only[hr]
  refine kQ (sC _ JN) Zr ?_;cases hb:lx c.toNat with
  |true=>
   refine ae ?_;refine kQ (B8 s hs c r hc hr (.inr hb)) Zr ?_;rw[show(lx c.toNat||decide (c.toNat=124))=true by simp[hb],if_pos rfl]at iv;exact zAZ
  |false=>
   refine ae ?_;refine fR Zr Zr (j:=0) rfl hc ?_;refine ae ?_;by_cases Zy:c.toNat=124
   ·rw[show decide ((c.toNat:Int)=124)=true from Zt Zo];refine ae ?_;refine kQ (B8 s hs c r hc hr (.inl Zy)) Zr ?_;rw[show(lx c.toNat||decide (c.toNat=124))=true by simp[Zy],if_pos rfl]at iv;exact zAZ
   rw[show decide ((c.toNat:Int)=124)=false from Zf Zo];rw[if_neg (by simp[hb,Zy])]at iv;refine ae ?_;refine kM (fun pn=>?_);refine ae ?_;refine kI (tP s) Zr ZP (fun v Post hv=>?_);obtain⟨qs,qt,qn,rfl,rfl⟩:=hv;simp only[aE];refine ae ?_;have pB:∀d:List ByteArray,OkC (fun full:List ByteArray=>full.map kF=jQ (kF s)) d->d.length<=s.size+1:=fun d ⟨t,ht⟩=>by
    have h1:=congrArg List.length ht;have h2:=II (kF s);simp at h1;omega
   refine VC.gp (α:=ByteArray) (enc:=fun x=>[.string x]) (fun d A=>(∀x∈d,xF (kF x)=true)/\A=[kA pn 0 [vi d.length],kA pr 0 [vi 0]].flatten) ([kA pn 0 [vi 0],kA pr 0 [vi 0]].flatten) Zr (LF qs qt qn s hs) (R:=[kA pn 0 [vi 0],kA pr 0 [vi 0]]) ZP (aj.perm Zs)
    ⟨fun x hx=>(by cases hx),rfl⟩ (fun _=>rfl) ?_ ?_
   ·rintro d x A aN ⟨hd,rfl⟩
    have hdl:=pB _ aN;simp only[Vo,Vy]at hdl;obtain⟨rest,eX⟩:=aN;have ZH:jA s=oe (kF x::rest.map kF) d.length:=by
     rw[iv,<- eX];have:=xG (c:=d.map kF) (rest:=kF x::rest.map kF) (n:=0) (fun p hp=>by obtain⟨y,hy,rfl⟩:=QE.1 hp;exact hd y hy);simpa using this
    have A7:x.size<=s.size:=by
     have h1:kF x∈jQ (kF s):=by rw[<- eX];simp
     have h2:=(List.sublist_flatten_of_mem h1).length_le;rw[sX,jH,jH]at h2;omega
    simp only[uT];refine VC.imp (H':=[kA pn 0 [vi d.length],kA pr 0 [vi 0]]) (aj.perm Zs) ?_;refine VC.lE ?_;refine ae ?_;refine⟨trivial,?_⟩;refine ae ?_;by_cases hx0:x=⟨#[]⟩
    ·rw[Zt hx0];have:jA s=d.length:=by
      rw[ZH,hx0];rfl
     refine ae ?_;rw[this];exact⟨.inr rfl,[vi d.length],[],.bT (v:=vi d.length) Zr Jo .nil,aj.nil,⟨rfl,rfl⟩⟩
    rw[Zf hx0];have Pb:kF x≠[]:=fun e=>hx0 (ja (by rw[e];rfl))
    refine ae ?_;refine kI (uW x Zo) Zr ZP (fun v Post hv=>?_);obtain⟨y,rfl,Nq,Th,rfl⟩:=hv;simp only[QJ];by_cases Un:(kF x).getLast? =some 58
    ·rw[Zt Un];have hyb:=Nq Un;refine ae ?_;refine kQ (ng y Zo) Zr ?_;cases hny:oi y with
     |true=>
      have hk:xF (kF x)=true:=by
       unfold xF;rw[Zt Un,<- hyb];exact hny
      refine ae ?_;refine⟨[kA pn 0 [vi (d.length+1:Nat)],kA pr 0 [vi 0]].flatten,⟨fun z hz=>?_,Zs⟩,?_⟩
      ·rcases Q7.1 hz with h|h
       ·exact hd z h
       ·rw[QI.1 h];exact hk
      ·refine aj.cut (M:=[kA pn 0 [vi ((d.length:Int)+1)],kA pr 0 [vi 0]]) ZI (aj.perm Zs)
     |false=>
      have hk:xF (kF x)=false:=by
       unfold xF;rw[Zt Un,<- hyb];exact hny
      have:jA s=-1:=by rw[ZH,A9 Pb hk]
      refine ae ?_;rw[this];exact zBG
    ·rw[Zf Un];have hk:xF (kF x)=false:=by
      unfold xF;rw[Zf Un];rfl
     have:jA s=-1:=by rw[ZH,A9 Pb hk]
     refine ae ?_;rw[this];exact zBG
   ·rintro full A xq ⟨hd,rfl⟩
    have:jA s=full.length:=by
     rw[iv,<- xq];have:=xG (c:=full.map kF) (rest:=[]) (n:=0) (fun p hp=>by obtain⟨y,hy,rfl⟩:=QE.1 hp;exact hd y hy);simpa[oe]using this
    refine VC.imp (H':=[kA pn 0 [vi full.length],kA pr 0 [vi 0]]) (aj.perm Zs) ?_;refine ae ?_;rw[this];exact⟨.inr rfl,[vi full.length],[],.bT (v:=vi full.length) Zr Jo .nil,aj.nil,⟨rfl,rfl⟩⟩
noncomputable def F104:aR:=bj (o:=gF pq Tryz.f104 [])
theorem n104:F104.n=6:=rfl
theorem low104:bi Tryz.prog 104 []=some F104:=by kernel_rfl
noncomputable def F168:aR:=bj (o:=gF pq Tryz.f168 [])
theorem n168:F168.n=12:=rfl
theorem low168:bi Tryz.prog 168 []=some F168:=by kernel_rfl
noncomputable def F167:aR:=bj (o:=gF pq Tryz.f167 [])
theorem n167:F167.n=6:=rfl
theorem low167:bi Tryz.prog 167 []=some F167:=by kernel_rfl
noncomputable def F201:aR:=bj (o:=gF pq Tryz.f201 [])
theorem n201:F201.n=19:=rfl
theorem low201:bi Tryz.prog 201 []=some F201:=by kernel_rfl
noncomputable def F166:aR:=bj (o:=gF pq Tryz.f166 [])
theorem n166:F166.n=9:=rfl
theorem low166:bi Tryz.prog 166 []=some F166:=by kernel_rfl
noncomputable def F106:aR:=bj (o:=gF pq Tryz.f106 [])
theorem n106:F106.n=23:=rfl
theorem low106:bi Tryz.prog 106 []=some F106:=by kernel_rfl
noncomputable def F202:aR:=bj (o:=gF pq Tryz.f202 [])
theorem n202:F202.n=151:=rfl
theorem low202:bi Tryz.prog 202 []=some F202:=by kernel_rfl
noncomputable def F205:aR:=bj (o:=gF pq Tryz.f205 [])
theorem n205:F205.n=11:=rfl
theorem low205:bi Tryz.prog 205 []=some F205:=by kernel_rfl
noncomputable def F250:aR:=bj (o:=gF pq Tryz.f250 [])
theorem n250:F250.n=15:=rfl
theorem low250:bi Tryz.prog 250 []=some F250:=by kernel_rfl
noncomputable def F230:aR:=bj (o:=gF pq Tryz.f230 [])
theorem n230:F230.n=14:=rfl
theorem low230:bi Tryz.prog 230 []=some F230:=by kernel_rfl
noncomputable def F228:aR:=bj (o:=gF pq Tryz.f228 [])
theorem n228:F228.n=6:=rfl
theorem low228:bi Tryz.prog 228 []=some F228:=by kernel_rfl
noncomputable def F229:aR:=bj (o:=gF pq Tryz.f229 [])
theorem n229:F229.n=6:=rfl
theorem low229:bi Tryz.prog 229 []=some F229:=by kernel_rfl
noncomputable def F206:aR:=bj (o:=gF pq Tryz.f206 [])
theorem n206:F206.n=27:=rfl
theorem low206:bi Tryz.prog 206 []=some F206:=by kernel_rfl
noncomputable def F170:aR:=bj (o:=gF pq Tryz.f170 [])
theorem n170:F170.n=15:=rfl
theorem low170:bi Tryz.prog 170 []=some F170:=by kernel_rfl
noncomputable def F203:aR:=bj (o:=gF pq Tryz.f203 [(3,[[0,1,2,3,4,5],[0,2,3,1,4,5]])])
theorem n203:F203.n=17:=rfl
theorem low203:bi Tryz.prog 203 [(3,[[0,1,2,3,4,5],[0,2,3,1,4,5]])]=some F203:=by kernel_rfl
noncomputable def F204:aR:=bj (o:=gF pq Tryz.f204 [(8,[[0,1,2,3,4,5,6,7],[0,1,3,4,2,5,6,7]])])
theorem n204:F204.n=44:=rfl
theorem low204:bi Tryz.prog 204 [(8,[[0,1,2,3,4,5,6,7],[0,1,3,4,2,5,6,7]])]=some F204:=by kernel_rfl
noncomputable def F107:aR:=bj (o:=gF pq Tryz.f107 [])
theorem n107:F107.n=37:=rfl
theorem low107:bi Tryz.prog 107 []=some F107:=by kernel_rfl
noncomputable def NH:aR:=bj (o:=gF pq Tryz.f169 [(21,[[0,1,2,3,4,5,6,7,8,9,10,11,12,13,14,15,16],[0,1,2,3,4,5,6,8,9,10,7,11,12,13,14,15,16],[0,1,2,3,4,5,6,8,9,10,11,12,7,13,14,15,16],[0,1,2,3,4,5,6,7,8,9,11,12,10,13,14,15,16],[0,1,2,3,4,5,6,8,9,11,12,7,10,13,14,15,16],[0,1,2,3,4,5,6,8,9,11,12,10,7,13,14,15,16]]),(34,[[0,1,2,3,4,5,6,7,8,9,10,11,12,13]])])
theorem n169:NH.n=257:=rfl
theorem low169:bi Tryz.prog 169 [(21,[[0,1,2,3,4,5,6,7,8,9,10,11,12,13,14,15,16],[0,1,2,3,4,5,6,8,9,10,7,11,12,13,14,15,16],[0,1,2,3,4,5,6,8,9,10,11,12,7,13,14,15,16],[0,1,2,3,4,5,6,7,8,9,11,12,10,13,14,15,16],[0,1,2,3,4,5,6,8,9,11,12,7,10,13,14,15,16],[0,1,2,3,4,5,6,8,9,11,12,10,7,13,14,15,16]]),(34,[[0,1,2,3,4,5,6,7,8,9,10,11,12,13]])]=some NH:=by kernel_rfl
def YU:DIR:=Ba (X:=⟨20,[.bT 2],[(.lE [qo 2 (.alloc 44 [.int .i64 0])] [0,2]),(.lE [qo 4 (.build [.bool false,.bool false] []),qB 5 197 4,qm 3 5] [0,2,3])],⟨6,160,[(.tmp 2)]⟩,(qS [qm 7 0,qm 8 3,qo 9 (.pK (.tmp 7) [(.tmp 8)])] [2,3] (.seq (.block 0 (qS [qm 11 3,qn 12 11,qf 13 0 12,ql 14 13,qm 10 14] [2,3,10] (qC 10 (qS [⟨none,none,.store 1 (.tmp 2) (.const (.int .i64 151))⟩] [2] .ret) (qS [qm 16 3,qn 17 16,qf 18 1 17,ql 19 18,qm 15 19] [2,15] (qC 15 (qS [⟨none,none,.store 1 (.tmp 2) (.const (.int .i64 152))⟩] [2] .ret) .skip))))) (qS [⟨none,none,.store 1 (.tmp 2) (.const (.int .i64 0))⟩] [2] .ret)))⟩)
theorem n102:YU.n=20:=rfl
theorem low102:Ka Tryz.prog (assoc [(0,[0,2]),(1,[0,2,3]),(2,[0,2,3]),(3,[2,3]),(4,[2,3,10]),(5,[2]),(6,[2,15]),(7,[2]),(8,[2])]) (assoc []) 102=some YU:=by kernel_rfl
noncomputable def F47:aR:=bj (o:=gF pq Tryz.f47 [])
theorem n47:F47.n=5:=rfl
theorem low47:bi Tryz.prog 47 []=some F47:=by kernel_rfl
noncomputable def F103:aR:=bj (o:=gF pq Tryz.f103 [(0,[[0,1,2,3,4,5,6,7,8,9,10,11,12,13,14,15,16,17],[0,1,3,4,2,5,6,7,8,9,10,11,12,13,14,15,16,17]])])
theorem n103:F103.n=37:=rfl
theorem low103:bi Tryz.prog 103 [(0,[[0,1,2,3,4,5,6,7,8,9,10,11,12,13,14,15,16,17],[0,1,3,4,2,5,6,7,8,9,10,11,12,13,14,15,16,17]])]=some F103:=by kernel_rfl
def iR(k:Nat)(s:ByteArray):Bool:=decide (k=2)&&decide (kF s=[115,117,112,101,114])
def iB(k:Nat)(s:ByteArray):Nat:=if k=3 then 1 else if k=5 then 2 else if k=4 then pJ s else 6
theorem yH(k:Nat)(s:ByteArray)(c2 c3 c4 c5 c6 c7 c8 c9 D4:Value):ao Tryz.prog 205 [.agg #[cv k,.string s,c2,c3,c4,c5,c6,c7,c8,c9,D4]] [] (fun v Post=>v=.bool (iR k s)/\Post=[]):=by
 refine ao.intro low205 (by simp[n205]) ?_;refine ae ?_;refine kW Zr (fun q=>?_);simp only[Value.cells];refine ae ?_;by_cases h1:k=2
 ·rw[show decide ((k:Int)=2)=true from Zt Zo];refine ae ?_;refine kG (Post:=[]) (.inr rfl) (.tmp Zr .nil) ⟨?_,rfl⟩ ZI;have:(s=⟨#[115,117,112,101,114]⟩)↔kF s=[115,117,112,101,114]:=⟨fun e=>by rw[e];rfl,fun e=>ja (by rw[e];rfl)⟩;simp[gw,iR,h1,this]
 ·rw[show decide ((k:Int)=2)=false from Zf Zo];refine ae ?_;refine kG (Post:=[]) (.inr rfl) (.tmp Zr .nil) ⟨by simp[gw,iR,h1],rfl⟩ ZI
theorem rD(s:ByteArray)(hs:s.size<=140737488355328):ao Tryz.prog 250 [.string s] [] (fun v Post=>v=vi (pJ s)/\Post=[]):=by
 refine ao.intro low250 (by simp[n250]) ?_;have hlen:=jH s;refine ae ?_;refine kQ (eR s hs) Zr ?_;have hb:pJ s=if jA s=0 then 5 else if jA s=1/\(kF s).getLast?≠some 58 then 4 else 3:=rfl;have cF:jA s=1->0 < s.size:=fun h=>by
  rcases Nat.eq_zero_or_pos s.size with h2|h2
  ·have:kF s=[]:=List.length_eq_zero_iff.1 Zo;unfold jA at h;rw[this]at h;exact absurd h Zd
  ·exact h2
 obtain⟨z,hz⟩:∃z,jA s=z:=⟨_,rfl⟩;rw[hz]at hb cF|-;refine ae ?_;by_cases h0:z=0
 ·rw[Zt h0];rw[if_pos h0]at hb;exact zC3
 rw[Zf h0];rw[if_neg h0]at hb;refine ae ?_;by_cases h1:z=1;rotate_left
 ·rw[Zf h1];rw[if_neg (fun h=>h1 h.1)]at hb;exact zC3
 rw[Zt h1];have nR:=cF h1;obtain⟨c,hc,AU⟩:=gG (s:=s) (i:=s.size - 1) Zo;have JS:(kF s).getLast? =some c.toNat:=by rw[List.getLast?_eq_getElem?,hlen];exact AU
 refine ae ?_;refine fR Zr Zr (j:=s.size - 1) Zo hc ?_;refine ae ?_;by_cases Un:c.toNat=58
 ·rw[show decide ((c.toNat:Int)=58)=true from Zt Zo];rw[if_neg (fun h=>h.2 (by rw[JS,Un]))]at hb;exact zC3
 ·rw[show decide ((c.toNat:Int)=58)=false from Zf Zo];rw[if_pos ⟨h1,by rw[JS];simpa using Un⟩]at hb;exact zC3
theorem Ib(k:Nat)(s:ByteArray)(hs:s.size<=140737488355328)(c2 c3 c4 c5 c6 c7 c8 c9 D4:Value):ao Tryz.prog 230 [.agg #[cv k,.string s,c2,c3,c4,c5,c6,c7,c8,c9,D4]] [] (fun v Post=>v=vi (iB k s)/\Post=[]):=by
 refine ao.intro low230 (by simp[n230]) ?_;refine ae ?_;refine kW Zr (fun q=>?_);simp only[Value.cells];refine ae ?_;by_cases h3:k=3
 ·rw[show decide ((k:Int)=3)=true from Zt Zo];refine ae ?_;refine kG (Post:=[]) (.inr rfl) (.tmp Zr .nil) ⟨by simp[gw,iB,h3],rfl⟩ ZI
 rw[show decide ((k:Int)=3)=false from Zf Zo];refine ae ?_;by_cases h5:k=5
 ·rw[show decide ((k:Int)=5)=true from Zt Zo];refine ae ?_;refine kG (Post:=[]) (.inr rfl) (.tmp Zr .nil) ⟨by simp[gw,iB,h5],rfl⟩ ZI
 rw[show decide ((k:Int)=5)=false from Zf Zo];refine ae ?_;by_cases h4:k=4
 ·rw[show decide ((k:Int)=4)=true from Zt Zo];refine ae ?_;refine kQ (rD s hs) Zr ?_;refine ae ?_;refine kG (Post:=[]) (.inr rfl) (.tmp Zr .nil) ⟨by simp[gw,iB,h4],rfl⟩ ZI
 rw[show decide ((k:Int)=4)=false from Zf Zo];refine ae ?_;refine kG (Post:=[]) (.inr rfl) (.tmp Zr .nil) ⟨by simp[gw,iB,h3,h4,h5],rfl⟩ ZI
theorem gq(s:ByteArray)(hs:s.size<=140737488355328):ao Tryz.prog 228 [.string s] [] (fun v Post=>v=vi (qj s)/\Post=[]):=by
 refine ao.intro low228 (by simp[n228]) ?_;refine ae ?_;refine kQ (rD s hs) Zr ?_;refine ae ?_;refine kG (Post:=[]) (.inr rfl) (.tmp Zr .nil) ⟨?_,rfl⟩ ZI;simp only[gw,qj,Value.int.injEq,true_and];split <;> omega
theorem dc(s:ByteArray)(hs:s.size<=140737488355328):ao Tryz.prog 229 [.string s] [] (fun v Post=>v=vi (tk s)/\Post=[]):=by
 refine ao.intro low229 (by simp[n229]) ?_;refine ae ?_;refine kQ (rD s hs) Zr ?_;refine ae ?_;by_cases h:pJ s=4
 ·rw[show decide (((pJ s:Nat):Int)=4)=true from Zt Zo];exact zEI
 ·rw[show decide (((pJ s:Nat):Int)=4)=false from Zf Zo];exact zEI
noncomputable def F227:aR:=bj (o:=gF pq Tryz.f227 [])
theorem n227:F227.n=31:=rfl
theorem low227:bi Tryz.prog 227 []=some F227:=by kernel_rfl
noncomputable def F247:aR:=bj (o:=gF pq Tryz.f247 [])
theorem n247:F247.n=11:=rfl
theorem low247:bi Tryz.prog 247 []=some F247:=by kernel_rfl
noncomputable def F264:aR:=bj (o:=gF pq Tryz.f264 [])
theorem n264:F264.n=15:=rfl
theorem low264:bi Tryz.prog 264 []=some F264:=by kernel_rfl
noncomputable def F281:aR:=bj (o:=gF pq Tryz.f281 [])
theorem n281:F281.n=18:=rfl
theorem low281:bi Tryz.prog 281 []=some F281:=by kernel_rfl
noncomputable def F248:aR:=bj (o:=gF pq Tryz.f248 [])
theorem n248:F248.n=13:=rfl
theorem low248:bi Tryz.prog 248 []=some F248:=by kernel_rfl
noncomputable def F265:aR:=bj (o:=gF pq Tryz.f265 [])
theorem n265:F265.n=37:=rfl
theorem low265:bi Tryz.prog 265 []=some F265:=by kernel_rfl
noncomputable def F282:aR:=bj (o:=gF pq Tryz.f282 [])
theorem n282:F282.n=17:=rfl
theorem low282:bi Tryz.prog 282 []=some F282:=by kernel_rfl
noncomputable def F249:aR:=bj (o:=gF pq Tryz.f249 [])
theorem n249:F249.n=35:=rfl
theorem low249:bi Tryz.prog 249 []=some F249:=by kernel_rfl
open Go Go.V Go.Shelf
shelf_lay LaysC.n174 Nm 174 at Tryz as Tryz.sl174
def rk(A:List kB):Prop:=∃ev,kB.cell (Tryz.sl174_ren.g 16) 0 ev∈A/\(ev=.nilIface∨∃te pe,ev=.iface te pe)
theorem Mx:∀(l:List UInt8) (acc k:Nat),(∀c∈l,dU c.toNat=true)->acc < 10 ^ k->k+l.length<=19->Lib.parseUintM (2 ^ 64 - 1) acc l=.ok ((l.map UInt8.toNat).foldl (fun n c=>n*10+(c - 48)) acc):=by
 intro l
 induction l with
 |nil=>intro acc k _ _ _;rfl
 |cons c r ih=>
  intro acc k hd ha hk;have hc:=hd c Zs;simp only[dU,vF,decide_eq_true_eq]at hc;simp only[Vp]at hk;have hp:10 ^ k<=10 ^ 18:=Nat.pow_le_pow_right Zo Zo;have h18:(10:Nat) ^ 18=1000000000000000000:=by decide
  have h64:(2:Nat) ^ 64 - 1=18446744073709551615:=by decide
  have hs:(10:Nat) ^ (k+1)=10 ^ k*10:=Nat.pow_succ ..;simp only[Lib.parseUintM,if_pos hc,if_neg (show ¬1844674407370955162<=acc by omega),if_neg (show ¬(2 ^ 64 - 1 < acc*10+(c.toNat - 48)) by omega),Q3,List.foldl_cons];exact ih _ (k+1) (fun x hx=>hd x (by simp[hx])) Zo Zo
theorem WL:∀(l:List Nat) (acc k:Nat),10 ^ k<=acc->10 ^ (k+l.length)<=l.foldl (fun n c=>n*10+(c - 48)) acc:=by
 intro l
 induction l with
 |nil=>intro acc k h;exact h
 |cons c r ih=>
  intro acc k ha;have hs:(10:Nat) ^ (k+1)=10 ^ k*10:=Nat.pow_succ ..;simp only[List.foldl_cons,Vp];rw[show k+(r.length+1)=(k+1)+r.length by omega];exact ih _ (k+1) Zo
theorem Ap(A:List kB)(hE:rk A)(s:ByteArray)(h0:kF s≠[])(hd:(kF s).all dU=true)(hl:s.size<=19):
 ao Tryz.prog 266 [.string s,vi 10,vi 64] [A] (fun v Post=>((lB (kF s)<=9223372036854775807/\v=.tuple #[vi (lB (kF s)),.nilIface])∨(9223372036854775807 < lB (kF s)/\∃z t p,v=.tuple #[vi z,.iface t p]/\-9223372036854775808<=z/\z<=9223372036854775807))/\Post=[A]):=by
 have ap:∀c∈s.data.toList,dU c.toNat=true:=fun c hc=>vX.1 hd _ (QE.2 ⟨c,hc,rfl⟩)
 have hlen:s.data.toList.length=s.size:=by simp
 have hu:=Mx s.data.toList 0 0 ap Zd Zo;have Yp:Lib.parseUintM (2 ^ 64 - 1) 0 s.data.toList=.ok (lB (kF s)):=hu;have cF:s.data.toList≠[]:=fun e=>h0 (by simp[kF,e])
 have hp:Lib.parseIntB 64 s.data.toList=if 9223372036854775808<=lB (kF s)then .range else .ok ((lB (kF s):Nat):Int):=by
  unfold Lib.parseIntB;cases hs:s.data.toList with
  |nil=>exact absurd hs cF
  |cons c r=>
   have hc:=ap c (by rw[hs];simp);simp only[dU,vF,decide_eq_true_eq]at hc;rw[hs]at Yp;simp only[if_neg (show ¬(c.toNat=43∨c.toNat=45) by omega),Lib.parseUintB,if_neg (show ¬(c::r=[]) by simp),Yp];have h45:¬c.toNat=45:=by omega
   by_cases ew:9223372036854775808<=lB (kF s)
   ·simp[h45,ew]
   ·simp[h45,ew]
 obtain⟨ev,OQ,hev2⟩:=hE;by_cases ew:9223372036854775808<=lB (kF s)
 ·rw[if_pos ew]at hp;refine ao.Bl (by kernel_rfl) (fun w F hs=>?_);have lg:=(hs.cell (Zw _ OQ)).1;refine(Any.strconv_ParseInt_10_at64_range Tryz.sl174 s Zo hp ev w lg hev2).mono ?_
  rintro e w' ⟨N,rfl,_,_,hb⟩
  refine⟨_,rfl,.inr ⟨Zo,_,_,_,rfl,?_⟩,hb⟩;unfold Lib.intSat;split <;> decide
 ·rw[if_neg ew]at hp;refine ao.Bl (by kernel_rfl) (fun w F hs=>?_);refine(Any.strconv_ParseInt_10_at64_ok Tryz.sl174 s Zo _ hp w).mono ?_
  rintro e w' ⟨rfl,hb⟩
  refine⟨_,rfl,.inl ⟨Zo,rfl⟩,?_⟩;rcases hb with rfl|⟨t,rfl⟩
  ·exact .refl _ _
  ·exact Lib.bytesWorld_below _ _ _
theorem uV(s:ByteArray)(hs:s.size<=140737488355328):ao Tryz.prog 247 [.string s,.string ⟨#[45]⟩] [] (fun v Post=>∃t,v=.tuple #[.string t,.bool (decide ((kF s).head? =some 45))]/\kF t=(if(kF s).head? =some 45 then(kF s).tail else kF s)/\t.size<=s.size/\Post=[]):=by
 have hlen:=jH s;have hhead:∀(h:1<=s.size),s.extract 0 1=⟨#[45]⟩↔(kF s).head? =some 45:=fun h=>by
  have hb:kF (s.extract 0 1)=(kF s).take 1:=by rw[jz,List.drop_zero]
  cases hx:kF s with
  |nil=>rw[hx]at hlen;simp at hlen;omega
  |cons a r=>
   rw[hx]at hb;constructor
   ·intro e;rw[e]at hb;have:[45]=[a]:=hb;simp at this;simp[<- this]
   ·intro e;simp at e;apply ja;rw[hb,e];rfl
 have CP:ao Tryz.prog 281 [.string s,.string ⟨#[45]⟩] [] (fun v Post=>v=.bool (decide ((kF s).head? =some 45))/\Post=[]):=by
  refine ao.intro low281 (by simp[n281]) ?_;refine ae ?_;rw[show(((⟨#[45]⟩:ByteArray).size:Nat):Int)=1 from rfl];by_cases h:1<=s.size
  ·rw[Zt (show(s.size:Int) ≥ 1 by omega)];refine ae ?_;rw[show(((⟨#[45]⟩:ByteArray).size:Nat):Int)=1 from rfl];refine iP (l:=0) (h:=1) Zr .Jx (.num Zr) Zo ?_;refine ae ?_;refine⟨.inr rfl,_,_,.tmp Zr .nil,ZI,?_,rfl⟩;simp only[gw,hhead h]
  ·exact zCW
 have hcut:ao Tryz.prog 264 [.string s,.string ⟨#[45]⟩] [] (fun v Post=>∃t,v=.tuple #[.string t,.bool (decide ((kF s).head? =some 45))]/\kF t=(if(kF s).head? =some 45 then(kF s).tail else kF s)/\t.size<=s.size/\Post=[]):=by
  refine ao.intro low264 (by simp[n264]) ?_;refine ae ?_;refine kQ CP Zr ?_;by_cases h:(kF s).head? =some 45
  ·have nR:1<=s.size:=by
    cases hb:kF s with
    |nil=>rw[hb]at h;cases h
    |cons a r=>rw[<- hlen,hb];simp
   rw[Zt h];refine ae ?_;rw[show(((⟨#[45]⟩:ByteArray).size:Nat):Int)=1 from rfl];refine iP (l:=1) (h:=s.size) Zr (.num Zr) .Jx Zo ?_;refine ae ?_;have hb:kF (s.extract 1 s.size)=(kF s).tail:=by rw[jz,Qc Zo,List.drop_one]
   refine kG (Post:=[]) (.inr rfl) (.tmp Zr (.tmp Zr .nil)) ⟨_,rfl,by rw[if_pos h,hb],?_,rfl⟩ ZI;rw[<- jH,hb,<- hlen];simp
  ·rw[Zf h];refine ae ?_;refine kG (Post:=[]) (.inr rfl) (.tmp Zr (.tmp Zr .nil)) ⟨_,rfl,by rw[if_neg h],Qj _,rfl⟩ ZI
 refine ao.intro low247 (by simp[n247]) ?_;exact zCB
theorem Av(s:ByteArray)(hs:s.size<=140737488355328):ao Tryz.prog 282 [.string s,.int .u8 48] [] (fun v Post=>∃t,v=.string t/\kF t=(kF s).dropWhile (fun c=>decide (c=48))/\Post=[]):=by
 refine ao.intro low282 (by simp[n282]) ?_;refine ae ?_;refine VC.loop (α:=ByteArray) (aW:=fun t=>[(0,.string t),(1,.int .u8 48)]) (Hf:=fun _=>[]) (I:=fun t=>t.size<=s.size/\(kF t).dropWhile (fun c=>decide (c=48))=(kF s).dropWhile (fun c=>decide (c=48))) (μ:=fun t=>t.size) s ⟨Qj _,rfl⟩ ZU ZI ?_
 rintro t ⟨i1,i2⟩
 have hlen:=jH t;refine ae ?_;by_cases h0:t=⟨#[]⟩
 ·subst h0;refine ae ?_;refine kG (Post:=[]) (.inr rfl) (.tmp Zr .nil) ⟨_,rfl,by rw[<- i2];rfl,rfl⟩ ZI
 obtain⟨c,r,hc,hr,JN,nR⟩:=lL h0;rw[Zt (show(t.size:Int) > 0 by omega)];refine ae ?_;refine fR Zr Zr (j:=0) rfl hc ?_;refine ae ?_;by_cases h48:c.toNat=48
 ·rw[show decide ((c.toNat:Int)=48)=true from Zt Zo];refine ae ?_;refine iP (l:=1) (h:=t.size) Zr (.num Zr) .Jx Zo ?_;refine ae ?_;have hb:kF (t.extract 1 t.size)=r:=by rw[jz,Qc Zo,List.drop_one,hr];rfl
  have hz:(t.extract 1 t.size).size+1=t.size:=by rw[<- jH,hb,<- hlen,hr];rfl
  refine⟨t.extract 1 t.size,⟨Zo,?_⟩,Zo,ZU,ZI⟩;rw[hb,<- i2,hr,List.dropWhile_cons_of_pos (by simp[h48])]
 ·rw[show decide ((c.toNat:Int)=48)=false from Zf Zo];refine ae ?_;refine kG (Post:=[]) (.inr rfl) (.tmp Zr .nil) ⟨_,rfl,?_,rfl⟩ ZI;rw[<- i2,hr,List.dropWhile_cons_of_neg (by simp[h48])]
theorem nD(l:List Nat):ww l=if l.dropWhile (fun c=>decide (c=48))=[]/\l≠[]then [48]else l.dropWhile (fun c=>decide (c=48)):=by
 induction l with
 |nil=>rfl
 |cons a l ih=>
  by_cases ha:a=48
  ·subst ha;cases l with
   |nil=>rfl
   |cons b r=>
    rw[ww,ih,show List.dropWhile (fun c=>decide (c=48)) (48::b::r)=List.dropWhile (fun c=>decide (c=48)) (b::r)from List.dropWhile_cons_of_pos Zs];simp
  ·rw[List.dropWhile_cons_of_neg (by simp[ha])];have:ww (a::l)=a::l:=by
    cases l with
    |nil=>simp[ww]
    |cons b r=>simp[ww,ha]
   simp[this]
theorem IK(s:ByteArray)(hs:s.size<=140737488355328):ao Tryz.prog 248 [.string s] [] (fun v Post=>∃t,v=.string t/\kF t=ww (kF s)/\Post=[]):=by
 have htrim:ao Tryz.prog 265 [.string s,.string ⟨#[48]⟩] [] (fun v Post=>∃t,v=.string t/\kF t=(kF s).dropWhile (fun c=>decide (c=48))/\Post=[]):=by
  refine ao.intro low265 (by simp[n265]) ?_;refine ae ?_;by_cases h0:s=⟨#[]⟩
  ·subst h0;refine ae ?_;refine kG (Post:=[]) (.inr rfl) (.tmp Zr .nil) ⟨_,rfl,rfl,rfl⟩ ZI
  rw[Zf h0];refine ae ?_;refine kI (Av s hs) Zr ZP (fun v Post hv=>?_);obtain⟨t,rfl,h1,rfl⟩:=hv;simp only[QJ];refine ae ?_;refine kG (Post:=[]) (.inr rfl) (.tmp Zr .nil) ⟨_,rfl,h1,rfl⟩ ZI
 refine ao.intro low248 (by simp[n248]) ?_;refine ae ?_;refine kI htrim Zr ZP (fun v Post hv=>?_);obtain⟨t,rfl,h1,rfl⟩:=hv;simp only[QJ];refine ae ?_;have hp:=nD (kF s);rw[<- h1]at hp;by_cases ht:t=⟨#[]⟩
 ·rw[Zt ht];have hb:kF t=[]:=by rw[ht];rfl
  refine ae ?_;by_cases h0:s=⟨#[]⟩
  ·subst h0;refine ae ?_;refine kG (Post:=[]) (.inr rfl) (.tmp Zr .nil) ⟨_,rfl,by rw[hb];rfl,rfl⟩ ZI
  ·rw[Zf h0,vM];have hs0:kF s≠[]:=fun e=>h0 (ja (by rw[e];rfl))
   refine ae ?_;refine kG (Post:=[]) (.inr rfl) (.tmp Zr .nil) ⟨_,rfl,by rw[hp,if_pos ⟨hb,hs0⟩];rfl,rfl⟩ ZI
 ·rw[Zf ht];have hb:kF t≠[]:=fun e=>ht (ja (by rw[e];rfl))
  refine ae ?_;refine kG (Post:=[]) (.inr rfl) (.tmp Zr .nil) ⟨_,rfl,by rw[hp,if_neg (fun h=>hb h.1)],rfl⟩ ZI
def dZ(m:Bool)(l:List Nat):Prop:=l.length<=19/\lB l<=(if m=true then 1152921504606846976 else 1152921504606846975)
def G7(m:Bool)(t:ByteArray)(v:Value):Prop:=
 (dZ m (kF t)/\v=.agg #[cv 4,vi (if m=true then -(lB (kF t):Int)else(lB (kF t):Int)),uv 0,.string ⟨#[]⟩,Nz])∨
 (¬dZ m (kF t)/\∃u,v=.agg #[cv 5,vi 0,uv 0,.string u,Nz]/\kF u=if m=true then 45::kF t else kF t)
theorem Jh(A:List kB)(hE:rk A)(t:ByteArray)(h0:kF t≠[])(hd:(kF t).all dU=true)(hl:t.size<=255)(m:Bool):ao Tryz.prog 249 [.string t,.bool m] [A] (fun v Post=>G7 m t v/\Post=[A]):=by
 refine ao.intro low249 (by simp[n249]) ?_;have hlen:=jH t;have hcat:zF .add (.string ⟨#[45]⟩) (.string t)=some (.string (⟨#[45]⟩++t)):=if_pos (by show 1+t.size<=9223372036854775807;omega);refine ae ?_;refine kM (fun b=>?_);refine ae ?_;by_cases h19:t.size<=19;rotate_left
 ·rw[Zf (show ¬(t.size:Int)<=19 by omega)];have Ab:¬dZ m (kF t):=fun hs=>by have:=hs.1;omega
  cases m with
  |true=>
   exact zB3
  |false=>
   exact zBS
 rw[Zt (show(t.size:Int)<=19 by omega)];refine ae ?_;refine kI (Ap A hE t h0 hd h19) Zr ZP (fun v Post hv=>?_);rcases hv with⟨⟨hn,rfl⟩|⟨hn,z,ty,pp,rfl,hz⟩,rfl⟩
 ·simp only[aE];obtain⟨N,hN⟩:∃N,lB (kF t)=N:=⟨_,rfl⟩;rw[hN]at hn|-;have UR:∀m,dZ m (kF t)↔N<=(if m=true then 1152921504606846976 else 1152921504606846975):=fun m=>by
   unfold dZ;rw[hN];exact⟨fun h=>h.2,fun h=>⟨Zo,h⟩⟩
  cases m with
  |true=>
   refine ae ?_;rw[show IntKind.i64.wrap (0 - (N:Int))=-(N:Int) by rw[Int.zero_sub];exact wrap64 ⟨Zo,Zo⟩];by_cases hs:N<=1152921504606846976
   ·have GV:dZ true (kF t):=(UR true).2 hs;rw[Zt (show(-1152921504606846976:Int)<=-(N:Int) by omega)];refine ae ?_;rw[Zt (show -(N:Int)<=1152921504606846975 by omega)];refine ae ?_;refine⟨.inr rfl,_,_,.aS (us:=[cv 4,vi (-(N:Int)),uv 0,.string ⟨#[]⟩,Nz]) Zr Zr Y2 .nil,ZI,.inl ⟨GV,by rw[hN];rfl⟩,rfl⟩
   ·have Ab:¬dZ true (kF t):=fun h=>hs ((UR true).1 h)
    rw[Zf (show ¬(-1152921504606846976:Int)<=-(N:Int) by omega)];exact zB3
  |false=>
   refine ae ?_;by_cases hs:N<=1152921504606846975
   ·have GV:dZ false (kF t):=(UR false).2 hs;rw[Zt (show(N:Int)<=1152921504606846975 by omega)];refine ae ?_;refine⟨.inr rfl,_,_,.aS (us:=[cv 4,vi (N:Int),uv 0,.string ⟨#[]⟩,Nz]) Zr Zr Y2 .nil,ZI,.inl ⟨GV,by rw[hN];rfl⟩,rfl⟩
   ·have Ab:¬dZ false (kF t):=fun h=>hs ((UR false).1 h)
    rw[Zf (show ¬(N:Int)<=1152921504606846975 by omega)];exact zBS
 ·simp only[aE];have Ab:¬dZ m (kF t):=fun hs=>by have:=hs.2;split at this <;> omega
  cases m with
  |true=>
   exact zB3
  |false=>
   exact zBS
def zH(l:List Nat):List Nat:=if l.head? =some 45 then l.tail else l
def fj(l:List Nat):Bool:=decide (l.head? =some 45)
def lV(l:List Nat):Bool:=decide (zH l≠[])&&decide ((ww (zH l)).length<=255)&&(zH l).all dU
def NL(s:ByteArray)(v:Value):Prop:=
 (lV (kF s)=false/\v=.tuple #[.agg #[cv 0,vi 0,uv 0,.string ⟨#[]⟩,Nz],vi 144])∨
 (lV (kF s)=true/\∃t u,kF t=ww (zH (kF s))/\G7 (fj (kF s)) t u/\v=.tuple #[u,vi 0])
theorem IJ {l:List Nat}(h:l.all dU=true):(ww l).all dU=true:=by
 rw[nD];split
 ·rfl
 ·rw[vX]at h|-;intro x hx;exact h x ((List.dropWhile_sublist _).subset hx)
theorem MD {l:List Nat}(h:l≠[]):ww l≠[]:=by
 rw[nD];split
 ·simp
 ·rename_i h2;intro e;exact h2 ⟨e,h⟩
theorem CV(A:List kB)(hE:rk A)(s:ByteArray)(hs:s.size<=140737488355328):ao Tryz.prog 227 [.string s] [A] (fun v Post=>NL s v/\Post=[A]):=by
 refine ao.intro low227 (by simp[n227]) ?_;refine ae ?_;refine kM (fun b=>?_);refine ae ?_;refine kI (uV s hs) Zr ZP (fun v Post hv=>?_);obtain⟨d,rfl,hd,hds,rfl⟩:=hv;simp only[QJ];have hdig:kF d=zH (kF s):=hd;have hm:decide ((kF s).head? =some 45)=fj (kF s):=rfl;rw[hm];obtain⟨m,Ye⟩:∃m,fj (kF s)=m:=⟨_,rfl⟩;rw[Ye];refine ae ?_;refine kI (IK d Zo) Zr ZP (fun v Post hv=>?_);obtain⟨t,rfl,ht,rfl⟩:=hv;simp only[QJ];have aI:=jH t;have hld:=jH d;have hIntB:lV (kF s)=false->NL s (.tuple #[.agg #[cv 0,vi 0,uv 0,.string ⟨#[]⟩,Nz],vi 144]):=fun h=>.inl ⟨h,rfl⟩
 have hg:lV (kF s)=(decide (kF d≠[])&&decide (t.size<=255)&&(kF d).all dU):=by
  unfold lV;rw[<- hdig,<- ht,aI]
 refine ae ?_;by_cases h0:d=⟨#[]⟩
 ·rw[Zt h0];have hb:lV (kF s)=false:=by rw[hg,h0];rfl
  exact zBT
 rw[Zf h0];have hd0:kF d≠[]:=fun e=>h0 (ja (by rw[e];rfl))
 refine ae ?_;by_cases Ep:t.size<=255;rotate_left
 ·rw[Zt (show(t.size:Int) > 255 by omega)];have hb:lV (kF s)=false:=by rw[hg,Zf Ep];simp
  exact zBT
 rw[Zf (show ¬(t.size:Int) > 255 by omega)];refine ae ?_;have bI:=yj d Zo 0 Zo (.func (.func 197) #[] #[]) (fun _=>[]) (fun k=>dU ((kF d).getD k 0)) (fun k x _ hx=>dj.bX (by
  rw[V8,hx];exact oH _ (gH d _ (Zv hx))))
 refine kI bI Zr ZP (fun v Post hv=>?_);obtain⟨e,j,rfl,e1,e2,e3,e4,rfl⟩:=hv;have ap:=Jq (l:=kF d) (p:=dU) (e:=e) Zo (fun k hk=>e3 k Zo hk) (fun hk=>e4 Zo);simp only[QJ];refine ae ?_;by_cases he:e=(kF d).length;rotate_left
 ·have hb:lV (kF s)=false:=by rw[hg,ap,Zf he];simp
  rw[Zf (show ¬(e:Int)=(d.size:Int) by omega)];exact zBT
 rw[Zt (show(e:Int)=(d.size:Int) by omega)];rw[Zt he]at ap;have hgt:lV (kF s)=true:=by rw[hg,ap,Zt Ep,Zt hd0];rfl
 refine ae ?_;refine kI (Jh A hE t (by rw[ht];exact MD hd0) (by rw[ht];exact IJ ap) Ep m) Zr ZP (fun v Post hv=>?_);obtain⟨hw,rfl⟩:=hv;have fin:∀u,G7 m t u->NL s (.tuple #[u,vi 0]):=fun u hu=>.inr ⟨hgt,t,u,by rw[ht,hdig],by rw[Ye];exact hu,rfl⟩
 have oL:=fin _ hw;simp only[aE];rcases hw with⟨_,rfl⟩|⟨_,u,rfl,_⟩
 ·generalize (if m=true then -(lB (kF t):Int)else(lB (kF t):Int))=z at oL|-;refine ae ?_;refine⟨.inr rfl,_,_,.aS (us:=[cv 4,vi z,uv 0,.string ⟨#[]⟩,Nz]) Zr Zr Y2 (.tmp Zr .nil),ZI,oL,rfl⟩
 ·refine ae ?_;refine⟨.inr rfl,_,_,.aS (us:=[cv 5,vi 0,uv 0,.string u,Nz]) Zr Zr Y2 (.tmp Zr .nil),ZI,oL,rfl⟩
theorem LG(l:List Nat):oR l=(decide (zH l≠[])&&(zH l).all dU&&decide (ww (zH l)=zH l)&&decide ((zH l).length<=255)&&decide ((if fj l=true then 1152921504606846976 else 1152921504606846975) < lB (zH l))):=by
 unfold oR;cases l with
 |nil=>rfl
 |cons a r=>
  by_cases ha:a=45
  ·subst ha;rfl
  ·have h1:zH (a::r)=a::r:=by simp[zH,ha]
   have h2:fj (a::r)=false:=by simp[fj,ha]
   rw[h1,h2];split;rename_i d m h;split at h
   ·rename_i heq;cases heq;exact absurd rfl ha
   ·cases h;rfl
theorem tf {d:List Nat}{m:Bool}(h0:d≠[])(hd:d.all dU=true)(hp:ww d=d):dZ m d↔¬(if m=true then 1152921504606846976 else 1152921504606846975) < lB d:=by
 unfold dZ;constructor
 ·intro h;have:=h.2;omega
 ·intro h;refine⟨?_,Zo⟩;apply Classical.byContradiction;intro hl;cases d with
  |nil=>exact h0 rfl
  |cons c r=>
   have hc:c≠48:=by
    intro e;subst e;cases r with
    |nil=>simp at hl
    |cons b q=>
     rw[nD]at hp;split at hp
     ·cases hp
     ·rw[List.dropWhile_cons_of_pos Zs]at hp;have h1:=(List.dropWhile_sublist (l:=b::q) (fun c=>decide (c=48))).length_le;rw[hp]at h1;simp at h1;omega
   have AU:=vX.1 hd c Zs;simp only[dU,vF,decide_eq_true_eq]at AU;have h1:=WL r (0*10+(c - 48)) 0 tj;have h2:lB (c::r)=r.foldl (fun n c=>n*10+(c - 48)) (0*10+(c - 48)):=rfl;have h3:(10:Nat) ^ 19<=10 ^ (0+r.length):=Nat.pow_le_pow_right Zo (by simp at hl;omega);have h4:(10:Nat) ^ 19=10000000000000000000:=by decide
   rw[<- h2]at h1;split at h <;> omega
theorem MR(l:List Nat):(if fj l=true then 45::zH l else zH l)=l:=by
 cases l with
 |nil=>rfl
 |cons a r=>
  by_cases ha:a=45
  ·subst ha;rfl
  ·simp[fj,zH,ha]
theorem NL.large {s:ByteArray}{v:Value}(h:NL s v):∃(k:Nat) (n:Int) (t:ByteArray) (e:Nat),v=.tuple #[.agg #[cv k,vi n,uv 0,.string t,Nz],vi e]/\(e=0/\k=5/\t=s↔oR (kF s)=true):=by
 have hq:=LG (kF s);rcases h with⟨hg,rfl⟩|⟨hg,t,u,ht,hw,rfl⟩
 ·refine⟨0,0,_,144,rfl,⟨fun h=>by simp at h,fun h=>?_⟩⟩;rw[hq]at h;simp only[vF,decide_eq_true_eq]at h;unfold lV at hg;rw[h.1.1.2,Zt h.1.1.1.1,h.1.1.1.2,Zt h.1.2]at hg;cases hg
 ·simp only[lV,vF,decide_eq_true_eq]at hg;obtain⟨⟨g1,g2⟩,g3⟩:=hg;have UO:=MR (kF s);rcases hw with⟨hs,rfl⟩|⟨hs,u,rfl,hu⟩
  ·refine⟨4,_,_,0,rfl,⟨fun h=>by simp at h,fun h=>?_⟩⟩;rw[hq]at h;simp only[vF,decide_eq_true_eq]at h;rw[ht,h.1.1.2]at hs;exact absurd h.2 ((tf g1 g3 h.1.1.2).1 hs)
  ·refine⟨5,0,u,0,rfl,⟨fun h=>?_,fun h=>?_⟩⟩
   ·have hp:ww (zH (kF s))=zH (kF s):=by
     have h2:(if fj (kF s)=true then 45::ww (zH (kF s))else ww (zH (kF s)))=(if fj (kF s)=true then 45::zH (kF s)else zH (kF s)):=by
      rw[UO,<- ht,<- hu,h.2.2]
     cases hm:fj (kF s)with
     |true=>rw[hm]at h2;simpa using h2
     |false=>rw[hm]at h2;simpa using h2
    rw[hq];rw[ht,hp,tf g1 g3 hp]at hs;simp only[vF,decide_eq_true_eq];rw[hp]at g2;exact⟨⟨⟨⟨g1,g3⟩,hp⟩,g2⟩,Classical.not_not.1 hs⟩
   ·rw[hq]at h;simp only[vF,decide_eq_true_eq]at h;refine⟨rfl,rfl,ja ?_⟩;rw[hu,ht,h.1.1.2,UO]
def SX:Value:=.iface 262 (.agg #[vi 150])
def wG:List PanicEntry:=[{v:=SX,recovered:=false}]
theorem j9(b:Bool):jb Tryz.prog 104 [.bool b] [] (fun v Post=>b=true/\v=.tuple #[]/\Post=[]) (fun ch Post=>b=false/\ch=wG/\Post=[]):=by
 refine jb.intro low104 (by simp[n104]) ?_;cases b with
 |true=>
  refine ae ?_;exact jJ (kG (Post:=[]) (.inl rfl) .nil ⟨by trivial,rfl,rfl⟩ ZI)
 |false=>
  refine ae ?_;refine Sl Zr ?_;exact⟨[],aj.nil,by trivial,rfl,rfl⟩
theorem free_spec(s:ByteArray)(hs:s.size<=140737488355328):ao Tryz.prog 168 [.string s] [] (fun v Post=>v=.bool (wK s)/\Post=[]):=by
 refine ao.intro low168 (by simp[n168]) ?_;have bf:∀t:ByteArray,kF t∈yI->s=t->wK s=false:=fun t ht e=>by
  subst e;have:yI.contains (kF s)=true:=vg.2 ht;unfold wK;rw[this];rfl
 refine ae ?_;by_cases h1:s=⟨#[115,101,108,102]⟩
 ·have hf:=bf _ Zd h1;rw[Zt h1];exact zB5
 rw[Zf h1];refine ae ?_;by_cases h2:s=⟨#[115,117,112,101,114]⟩
 ·have hf:=bf _ Zd h2;rw[Zt h2];exact zB5
 rw[Zf h2];refine ae ?_;by_cases h3:s=⟨#[110,105,108]⟩
 ·have hf:=bf _ Zd h3;rw[Zt h3];exact zB5
 rw[Zf h3];refine ae ?_;by_cases h4:s=⟨#[116,114,117,101]⟩
 ·have hf:=bf _ Zd h4;rw[Zt h4];exact zB5
 rw[Zf h4];refine ae ?_;by_cases h5:s=⟨#[102,97,108,115,101]⟩
 ·have hf:=bf _ Zd h5;rw[Zt h5];exact zB5
 rw[Zf h5];have bQ:yI.contains (kF s)=false:=by
  rw[vH];intro h;rw[vg]at h;simp only[yI,Q9,List.not_mem_nil,or_false]at h;rcases h with h|h|h|h|h
  ·exact h1 (ja (by rw[h];rfl))
  ·exact h2 (ja (by rw[h];rfl))
  ·exact h3 (ja (by rw[h];rfl))
  ·exact h4 (ja (by rw[h];rfl))
  ·exact h5 (ja (by rw[h];rfl))
 have hf:wK s=oi s:=by unfold wK;rw[bQ];rfl
 refine ae ?_;refine kQ (ng s hs) Zr ?_;exact zB5
theorem E5(s:ByteArray)(hs:s.size<=140737488355328):ao Tryz.prog 167 [.string s] [] (fun v Post=>v=.bool (!wK s)/\Post=[]):=by
 refine ao.intro low167 (by simp[n167]) ?_;refine ae ?_;refine kQ (free_spec s hs) Zr ?_;refine ae ?_;refine kG (Post:=[]) (.inr rfl) (.tmp Zr .nil) ⟨rfl,rfl⟩ ZI
theorem xC(B:List kB)(v:Value)(l:List ByteArray)(h:du B v l):ao Tryz.prog 166 [v,.func (.func 167) #[] #[]] [B] (fun u Post=>u=.bool (!l.all wK)/\Post=[B]):=by
 obtain⟨a,c,rfl,hl,hr⟩:=h;have hi:ao Tryz.prog 201 [.slice a l.length c,.func (.func 167) #[] #[]] [B] (fun u Post=>(∃i:Int,u=vi i/\decide (0<=i)=!l.all wK)/\Post=[B]):=by
  refine ao.intro low201 (by simp[n201]) ?_;refine ae ?_;refine VC.loop (α:=Nat) (aW:=fun k=>[(0,.slice a l.length c),(1,.func (.func 167) #[] #[]),(7,vi l.length),(8,vi k)]) (Hf:=fun _=>[B]) (I:=fun k=>k<=l.length/\(l.take k).all wK=true) (μ:=fun k=>l.length - k) 0 ⟨Qs _,rfl⟩ ZU (aj.refl _) ?_
  rintro k ⟨i1,i2⟩
  refine ae ?_;by_cases hk:k < l.length;rotate_left
  ·rw[Zf (show ¬(k:Int) < (l.length:Int) by omega)];have:l.take k=l:=Qc Zo;rw[this]at i2;refine ae ?_;refine kG (Post:=[B]) (.inr rfl) (.tmp Zr .nil) ⟨⟨-1,rfl,by rw[i2];rfl⟩,rfl⟩ ZI
  rw[Zt (show(k:Int) < (l.length:Int) by omega)];have sL:l[k]? =some l[k]:=Zg hk;obtain⟨b,o,rfl,hm,gh⟩:=hr k _ sL;have ht:(l.take (k+1)).all wK=wK l[k]:=by
   rw[QY,sL,List.all_append,i2];simp
  have eX:wK l[k]=false->l.all wK=false:=fun hf=>by
   rw[<- QZ (k+1) l,List.all_append,ht,hf,vI]
  generalize l[k]=t at*;have hfv:dj Tryz.prog (.func (.func 167) #[] #[]) [.string t] [] (fun v Post=>v=.bool (!wK t)/\Post=[]):=dj.bX (E5 t gh);refine ae ?_;refine dR Zr hfv Zr ZP (fun v Post hv=>?_);obtain⟨rfl,rfl⟩:=hv;simp only[QJ];cases hf:wK t with
  |true=>
   refine ae ?_;exact⟨k+1,⟨Zo,by rw[ht,hf]⟩,Zo,ZU,ZI⟩
  |false=>
   refine ae ?_;refine kG (Post:=[B]) (.inr rfl) (.tmp Zr .nil) ⟨⟨k,rfl,by rw[eX hf];simp⟩,rfl⟩ ZI
 refine ao.intro low166 (by simp[n166]) ?_;refine ae ?_;refine kI hi Zr ZP (fun v Post hv=>?_);obtain⟨⟨i,rfl,h⟩,rfl⟩:=hv;simp only[aE];refine ae ?_;refine kG (Post:=[B]) (.inr rfl) (.tmp Zr .nil) ⟨by rw[<- h];rfl,rfl⟩ ZI
end Go.Proofs.YtijnokbblmbpkaaGreatDoor
namespace Go.V
open Go
theorem Lp {w:World}{a b:kB}(ha:a.holds w)(hb:b.holds w)(h:a.loc=b.loc):a=b:=by
 cases a with
 |cell i k v=>
  cases b with
  |cell j l u=>
   simp only[kB.loc,X2,X1]at h;obtain⟨rfl,rfl⟩:=h;obtain⟨c,t,lo,hi,h1,h2,_⟩:=ha;obtain⟨c',t',Bf,bO,h3,h4,_⟩:=hb;rw[h1]at h3;cases h3;rw[h2]at h4;cases h4;rfl
  |obj j o=>simp[kB.loc]at h
  |row j n=>simp[kB.loc]at h
  |own j n=>
   simp only[kB.loc,X2,X1]at h;obtain⟨rfl,rfl⟩:=h;obtain⟨c,t,lo,hi,h1,h2,_⟩:=ha;obtain⟨c',t',Bf,bO,h3,h4,_⟩:=hb;rw[h1]at h3;cases h3;have:=(v8.1 h2).1;omega
 |own i n=>
  obtain⟨c,t,lo,hi,h1,h2,_⟩:=ha;cases b with
  |cell j l u=>
   simp only[kB.loc,X2,X1]at h;obtain⟨rfl,rfl⟩:=h;obtain⟨c',t',Bf,bO,h3,h4,_⟩:=hb;rw[h1]at h3;cases h3;have:=(v8.1 h4).1;omega
  |obj j p=>simp[kB.loc]at h
  |row j m=>simp[kB.loc]at h
  |own j m=>
   simp only[kB.loc,X2,X1]at h;obtain⟨rfl,rfl⟩:=h;rfl
 |row i n=>
  obtain⟨c,t,lo,hi,h1,h2⟩:=ha;cases b with
  |cell j l u=>simp[kB.loc]at h
  |obj j p=>
   simp only[kB.loc,X2,and_true]at h;subst h;have h3:=hb.1;rw[h1]at h3;cases h3;exact absurd hb.2 (by simp[wT])
  |row j m=>
   simp only[kB.loc,X2,and_true]at h;subst h;obtain⟨c',t',Bf,bO,h3,h4⟩:=hb;rw[h1]at h3;cases h3;rw[h2]at h4;rw[h4]
  |own j m=>simp[kB.loc]at h
 |obj i o=>
  cases b with
  |cell j l u=>simp[kB.loc]at h
  |obj j p=>
   simp only[kB.loc,X2,and_true]at h;subst h;have h1:=ha.1;rw[hb.1]at h1;cases h1;rfl
  |row j n=>
   simp only[kB.loc,X2,and_true]at h;subst h;obtain⟨c,t,lo,hi,h1,h2⟩:=hb;have h3:=ha.1;rw[h1]at h3;cases h3;exact absurd ha.2 (by simp[wT])
  |own j n=>simp[kB.loc]at h
theorem F9 {w:World}:∀L:List kB,(∀a∈L,a.holds w)->∃L',Sat w L'/\∀a∈L,a∈L':=by
 intro L
 induction L with
 |nil=>intro _;exact⟨[],⟨Zs,Zs⟩,Zs⟩
 |cons x L ih=>
  intro h;obtain⟨L',h1,h2⟩:=ih (fun a ha=>h a (by simp[ha]));by_cases hx:x.loc∈L'.map kB.loc
  ·obtain⟨y,hy,e⟩:=QE.1 hx;have:y=x:=Lp (h1.holds y hy) (h x Zs) e;subst this;refine⟨L',h1,fun a ha=>?_⟩;rcases Q9.1 ha with rfl|ha
   ·exact hy
   ·exact h2 a ha
  ·refine⟨x::L',⟨fun a ha=>?_,by simp only[Q3,QL];exact⟨hx,h1.nodup⟩⟩,fun a ha=>?_⟩
   ·rcases Q9.1 ha with rfl|ha
    ·exact h a Zs
    ·exact h1.holds a ha
   ·rcases Q9.1 ha with rfl|ha
    ·simp
    ·simp[h2 a ha]
def cA(w:World)(i:Nat):List kB:=match w.heap[i]? with
 |some (.cells c _ (lo,hi))=>.row i c.size::(if lo<=c.size/\c.size < hi then []else [.own i c.size])++(List.range c.size).filterMap fun j=>if lo<=j/\j < hi then none else(c[j]?).map fun v=>.cell i j v
 |some o=>[.obj i o]
 |none=>[]
theorem Xk(w:World):∃L,Sat w L/\∀a:kB,a.holds w->a∈L:=by
 obtain⟨L,h1,h2⟩:=F9 (w:=w) ((List.range w.heap.size).flatMap (cA w)) (by
  intro a ha;obtain⟨i,_,ha⟩:=QD.1 ha;unfold cA at ha;split at ha
  ·rename_i c t lo hi hb;rcases Q7.1 ha with ha|ha
   ·rcases Q9.1 ha with rfl|ha
    ·exact⟨c,t,lo,hi,hb,rfl⟩
    ·split at ha
     ·cases ha
     ·rename_i hf;obtain rfl:=QI.1 ha;exact⟨c,t,lo,hi,hb,rfl,hf⟩
   obtain⟨j,_,hj⟩:=List.mem_filterMap.1 ha;split at hj
   ·cases hj
   ·rename_i hf;simp only[Qx]at hj;obtain⟨v,hv,rfl⟩:=hj;exact⟨c,t,lo,hi,hb,hv,hf⟩
  ·rename_i o cF hb;simp only[QI]at ha;subst ha;refine⟨hb,?_⟩;cases o <;> first|rfl|(rename_i c t fr;exact absurd rfl (cF c t fr.1 fr.2))
  ·cases ha)
 refine⟨L,h1,fun a ha=>h2 a ?_⟩;cases a with
 |cell i k v=>
  obtain⟨c,t,lo,hi,hb,hv,hf⟩:=ha;have bO:i < w.heap.size:=by
   exact zBW
  refine QD.2 ⟨i,QG.2 bO,?_⟩;unfold cA;rw[hb];refine Q8 _ (List.mem_filterMap.2 ⟨k,QG.2 (v8.1 hv).1,?_⟩);rw[if_neg hf,hv];rfl
 |own i n=>
  obtain⟨c,t,lo,hi,hb,rfl,hf⟩:=ha;have bO:i < w.heap.size:=by
   exact zBW
  refine QD.2 ⟨i,QG.2 bO,?_⟩;unfold cA;rw[hb];refine Zw _ (QA _ ?_);rw[if_neg hf];exact QI.2 rfl
 |row i n=>
  obtain⟨c,t,lo,hi,hb,rfl⟩:=ha;have bO:i < w.heap.size:=by
   exact zBW
  refine QD.2 ⟨i,QG.2 bO,?_⟩;unfold cA;rw[hb];exact Zw _ (QB ..)
 |obj i o=>
  obtain⟨hb,hc⟩:=ha;have bO:i < w.heap.size:=by
   exact zBW
  refine QD.2 ⟨i,QG.2 bO,?_⟩;unfold cA;rw[hb];cases o <;> first|(simp;done)|(simp[wT]at hc)
theorem Ry {w w':World}{L:List kB}(hL:∀a:kB,a.holds w->a∈L)(hs:Sat w' L)(hk:ki w w'):∀i,i < w.heap.size->w'.heap[i]? =w.heap[i]?:=by
 intro i hi;have hb:w.heap[i]? =some w.heap[i]:=v7 hi;generalize w.heap[i]=o at hb;rw[hb];by_cases hc:wT o=false
 ·exact(hs.holds _ (hL (.obj i o) ⟨hb,hc⟩)).1
 ·cases o <;> first|(exact absurd rfl hc)|skip
  rename_i c t fr;obtain⟨lo,Ll⟩:=fr;obtain⟨c',h1,h2,h3⟩:=hk.cells i c t lo Ll hb;rw[h1]
  congr 2
  apply Array.ext h2;intro j hj1 hj2;by_cases hf:lo<=j/\j < Ll
  ·have:=h3 j hf;rw[v7 hj1,v7 hj2]at this;exact X0 this
  ·obtain⟨c2,t2,lo2,hi3,g1,g2,_⟩:=hs.holds _ (hL (.cell i j c[j]) ⟨c,t,lo,Ll,hb,v7 hj2,hf⟩);rw[h1]at g1;cases g1;rw[v7 hj1]at g2;exact X0 g2
end Go.V

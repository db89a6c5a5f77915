/-
  Scanning: binary selectors, keywords.
-/
import Derived.Test.YtijnokbblmbpkaaGreatDoorM9
import Derived.KernelRfl
import Derived.Test.YtijnokbblmbpkaaGreatDoorProg
import Derived.Test.YtijnokbblmbpkaaGreatDoorM6
import Derived.Shelf.Strconv.ParseIntPublic10
import Derived.Test.YtijnokbblmbpkaaGreatDoorM5
import Derived.ChangeOld
import Derived.RowKit3
set_option linter.all false
namespace Go.Proofs.YtijnokbblmbpkaaGreatDoor
open Go Go.V
set_option maxHeartbeats 3200000
set_option maxRecDepth 100000
theorem JO(pa pf ps:Nat)(s:ByteArray)(hs:s.size<=140737488355328)(k c:Nat)(hk:k < s.size)(hc:c < 256):
 aw Tryz.prog 196 [cv c,kF pa,kF pf,kF ps] [kA pa 0 [vi k],kA pf 0 [vi 0],kA ps 0 [.string s]] (fun v Post=>v=.bool (cA c&&(decide (k=0)||decide (c≠45)||!wM ((kB s).getD (k+1) 0)))/\Post=[kA pa 0 [vi ((k:Int)+1)],kA pf 0 [vi 0],kA ps 0 [.string s]]):=by
 refine aw.intro low196 (by simp[n196]) ?_;have hd:(kB s).getD (k+1) 0 < 256:=by
  rw[Vh];cases h:(kB s)[k+1]? with
  |none=>decide
  |some x=>exact zg s _ (Zv h)
 have hp:=MN s hs (k+1);generalize (kB s).getD (k+1) 0=d at hd hp|-;refine ae ?_;refine kK (s9 c hc) Zr ?_;cases hb:cA c with
 |false=>
  refine ae ?_;refine kG (.inr rfl) (.tmp Zr .nil) ⟨by simp[bH],rfl⟩ ZI
 |true=>
  refine ae ?_;by_cases h0:k=0
  ·rw[Zt (show(k:Int)=0 by omega)];refine ae ?_;refine kG (.inr rfl) (.tmp Zr .nil) ⟨by simp[bH,h0],rfl⟩ ZI
  rw[Zf (show ¬(k:Int)=0 by omega)];refine ae ?_;by_cases Nw:c=45;rotate_left
  ·rw[show decide ((c:Int)=45)=false from Zf Zo];exact zDE
  rw[show decide ((c:Int)=45)=true from Zt Zo];refine ae ?_;refine kK hp Zr ?_;refine ae ?_;refine kK (oV d hd) Zr ?_;cases IW:wM d
  ·exact zDE
  ·exact zDE
theorem Df(s:ByteArray)(hs:s.size<=140737488355328)(c:UInt8)(r:List Nat)(hc:s[0]? =some c)(hr:kB s=c.toNat::r)(hb:c.toNat=124∨cA c.toNat=true):
 aw Tryz.prog 163 [.string s,vi 0] [] (fun v Post=>v=vi (ew (kB s))/\Post=[]):=by
 refine aw.intro low163 (by simp[n163]) ?_;have hlen:=kV s;have iv:0 < s.size:=by rw[<- hlen,hr];simp
 refine ae ?_;refine kX Zr (fun ps=>?_);simp only[Value.cells];refine ae ?_;refine kX Zr (fun pa=>?_);simp only[Value.cells];refine ae ?_;refine wF Zr Zr (j:=0) rfl hc ?_;refine ae ?_;by_cases h0:c.toNat=124
 ·rw[show decide ((c.toNat:Int)=124)=true from Zt Zo];refine ae ?_;refine kG (Post:=[]) (.inr rfl) (.tmp Zr .nil) ⟨by simp[bH,hr,ew,h0],rfl⟩ ZI
 rw[show decide ((c.toNat:Int)=124)=false from Zf Zo];have hbin:cA c.toNat=true:=by
  rcases hb with h|h
  ·exact absurd h h0
  ·exact h
 refine ae ?_;refine kO (fun pf=>?_);refine ae ?_;have bB:=Ai s hs 0 Zo (.func (.func 196) #[] #[kF pa,kF pf,kF ps]) (fun k=>[kA pa 0 [vi k],kA pf 0 [vi 0],kA ps 0 [.string s]])
  (fun k=>cA ((kB s).getD k 0)&&(decide (k=0)||decide ((kB s).getD k 0≠45)||!wM ((kB s).getD (k+1) 0))) (fun k x _ hx=>dE.ck (by
    have hk:k < s.size:=by rw[<- hlen];exact(Vt.1 hx).1
    have:=JO pa pf ps s hs k x hk (zg s _ (Zv hx));rw[Vh (i:=k),hx];exact this))
 simp only[show((0:Nat):Int)=0 from rfl]at bB;refine kH bB Zr ZP (fun v Post hv=>?_);obtain⟨e,j,rfl,e1,e2,e3,e4,rfl⟩:=hv;simp only[aJ];refine ae ?_;refine kG (Post:=[]) (.inr rfl) (.tmp Zr .nil) ⟨?_,rfl⟩ ZI;have aB:∀k,k < s.size->∃x,(kB s)[k]? =some x/\(kB s).getD k 0=x:=fun k hk=>by
  obtain⟨x,_,hx⟩:=w7 hk;exact⟨_,hx,by rw[Vh,hx];rfl⟩
 have he0:e≠0:=fun e0=>by
  subst e0;have:=e4 iv;rw[hr]at this;simp[hbin]at this
 have Y3:∀k,1<=k->k < s.size->fK ((kB s).drop k)=(cA ((kB s).getD k 0)&&(decide (k=0)||decide ((kB s).getD k 0≠45)||!wM ((kB s).getD (k+1) 0))):=fun k h1 hk=>by
  obtain⟨x,hx,KJ⟩:=aB k hk;rw[tP hx,KJ,Zf (show ¬k=0 by omega),vM]
 have:=SR (c:=c.toNat) (r:=r) (e:=e) h0 hbin (by rw[<- hr];omega) (fun k h1 h2=>by rw[<- hr,Y3 k h2 Zo];exact e3 k Zo h1) (fun hk=>by
  rw[<- hr]at hk|-;exact⟨Zo,by rw[Y3 e Zo Zo];exact e4 Zo⟩)
 rcases this with h|h
 ·rw[hr,h];rfl
 ·exact absurd h he0
theorem Mm(qs qt qn:Nat)(s:ByteArray)(hs:s.size<=140737488355328):
 Iter Tryz.prog (.func (.func 223) #[] #[kF qs,kF qt,kF qn]) (fun x=>[.string x]) [kA qs 0 [.string ⟨#[58]⟩],kA qt 0 [.string s],kA qn 0 [vi 1]] [] (fun full=>full.map kB=kq (kB s)):=by
 intro y J SP hy A hA;refine dE.ck (first:=#[]) (cap:=#[kF qs,kF qt,kF qn]) ?_;show aw Tryz.prog 223 [y,kF qs,kF qt,kF qn] _ _;refine aw.intro low223 (by simp[n223]) ?_;simp only[aJ];refine ae ?_;refine VC.loop (α:=List ByteArray×ByteArray×List kC) (bi:=fun _=>[(0,y),(1,kF qs),(2,kF qt),(3,kF qn)]) (Hf:=fun st=>[kA qs 0 [.string ⟨#[58]⟩],kA qt 0 [.string st.2.1],kA qn 0 [vi 1],st.2.2])
  (I:=fun st=>st.1.map kB++kq (kB st.2.1)=kq (kB s)/\st.2.1.size<=s.size/\J st.1 st.2.2) (μ:=fun st=>st.2.1.size) ([],s,A) ⟨rfl,Qn _,hA⟩ ZU ZI ?_
 rintro⟨c,t,A1⟩ ⟨i1,i2,i3⟩
 simp only at i1 i2 i3;dsimp only;have hlen:=kV t;have hix:aw Tryz.prog 225 [.string t,.string ⟨#[58]⟩] [] (fun v Post=>v=vi (Ig (kB t) 58)/\Post=[]):=by
  refine aw.intro low225 (by simp[n225]) ?_;refine ae ?_;refine kK (P7 t) Zr ?_;exact zCA
 refine ae ?_;refine kK hix Zr ?_;rcases Ml (kB t) 58 with⟨h1,h2⟩|⟨p,r,h1,h2,h3⟩
 ·rw[h1];refine ae ?_;have xS:(c++[t]).map kB=kq (kB s):=by rw[<- i1,tI h2];simp
  refine dX Zr (hy c t A1 ⟨[],by simpa using xS⟩ i3) Zr ZP (fun v Post hv=>?_);rcases hv with⟨rfl,A',OY,rfl⟩|⟨rfl,B',hB',rfl⟩
  ·simp only[aJ];refine ae ?_;exact kG (Post:=[A']) (.inl rfl) .nil ⟨rfl,.inl ⟨c++[t],A',xS,OY,rfl⟩⟩ ZI
  ·simp only[aJ];refine ae ?_;exact kG (Post:=[B']) (.inl rfl) .nil ⟨rfl,.inr ⟨c++[t],B',⟨[],by simpa using xS⟩,hB',rfl⟩⟩ ZI
 ·have eC:t.size=p.length+1+r.length:=by rw[<- hlen,h1];simp;omega
  have hx:kB (t.extract 0 (p.length+1))=p++[58]:=by
   rw[jb,h1,show p++58::r=(p++[58])++r by simp,List.take_left' Zs];rfl
  have Uo:kB (t.extract (p.length+1) t.size)=r:=by
   rw[jb,Qg Zo,h1];simp[List.drop_append]
  have lS:(t.extract (p.length+1) t.size).size=r.length:=by rw[<- kV,Uo]
  have hpc:=nk (p:=p) (r:=r) h2;rw[<- h1]at hpc;obtain⟨full,hful⟩:=MO (t.extract (p.length+1) t.size);rw[Uo]at hful;have aP:OkC (fun full=>full.map kB=kq (kB s)) (c++[t.extract 0 (p.length+1)]):=⟨full,by rw[<- i1,hpc];simp[hx,hful]⟩;rw[h3];refine ae ?_;rw[Zf (show ¬((p.length:Int) < 0) by omega)];refine ae ?_;refine dC (l:=0) (h:=p.length+1) Zr .T3 (.num Zr) Zo ?_;refine ae ?_;refine dX Zr (hy c _ A1 aP i3) Zr ZP (fun v Post hv=>?_);rcases hv with⟨rfl,A',OY,rfl⟩|⟨rfl,B',hB',rfl⟩
  ·simp only[aJ];refine ae ?_;rw[show(((⟨#[58]⟩:ByteArray).size:Nat):Int)=1 from rfl,wrap64 (show -9223372036854775808<=(p.length:Int)+1/\(p.length:Int)+1<=9223372036854775807 by omega)];refine dC (l:=p.length+1) (h:=t.size) Zr (.num Zr) .T3 Zo ?_;refine ae ?_;exact⟨(c++[t.extract 0 (p.length+1)],t.extract (p.length+1) t.size,A'),⟨by simp only[Uo];rw[<- i1,hpc];simp[hx],by simp only[lS];omega,OY⟩,by simp only[lS];omega,ZU,ZI⟩
  ·exact zE8
theorem xy(s:ByteArray)(hs:s.size<=140737488355328):aw Tryz.prog 165 [.string s,.string ⟨#[58]⟩] [] (fun v Post=>∃t,v=.tuple #[.string t,.bool (decide ((kB s).getLast? =some 58))]/\((kB s).getLast? =some 58->kB t=(kB s).dropLast)/\t.size<=s.size/\Post=[]):=by
 have hlen:=kV s;have Cu:∀(h:1<=s.size),s.extract (s.size - 1) s.size=⟨#[58]⟩↔(kB s).getLast? =some 58:=fun h=>by
  have hb:kB (s.extract (s.size - 1) s.size)=(kB s).drop (s.size - 1):=by rw[jb,Qg Zo]
  rw[List.getLast?_eq_getElem?,hlen];constructor
  ·intro e;rw[e]at hb;have:(kB s).drop (s.size - 1)=[58]:=hb.symm;have h2:=congrArg (fun l=>l[0]?) this;simpa using h2
  ·intro e;apply jU;rw[hb];obtain⟨hk,hv⟩:=Vt.1 e;rw[vw hk,hv,vx Zo];rfl
 have hsuf:aw Tryz.prog 226 [.string s,.string ⟨#[58]⟩] [] (fun v Post=>v=.bool (decide ((kB s).getLast? =some 58))/\Post=[]):=by
  refine aw.intro low226 (by simp[n226]) ?_;refine ae ?_;rw[show(((⟨#[58]⟩:ByteArray).size:Nat):Int)=1 from rfl];by_cases h:1<=s.size
  ·rw[Zt (show(s.size:Int) ≥ 1 by omega)];refine ae ?_;rw[show(((⟨#[58]⟩:ByteArray).size:Nat):Int)=1 from rfl,wrap64 (show -9223372036854775808<=(s.size:Int) - 1/\(s.size:Int) - 1<=9223372036854775807 by omega),show(s.size:Int) - 1=((s.size - 1:Nat):Int) by omega];refine dC (l:=s.size - 1) (h:=s.size) Zr (.num Zr) .T3 Zo ?_;refine ae ?_;refine⟨.inr rfl,_,_,.tmp Zr .nil,ZI,?_,rfl⟩;simp only[bH,Cu h]
  ·exact zD3
 have hcut:aw Tryz.prog 200 [.string s,.string ⟨#[58]⟩] [] (fun v Post=>∃t,v=.tuple #[.string t,.bool (decide ((kB s).getLast? =some 58))]/\((kB s).getLast? =some 58->kB t=(kB s).dropLast)/\t.size<=s.size/\Post=[]):=by
  refine aw.intro low200 (by simp[n200]) ?_;refine ae ?_;refine kK hsuf Zr ?_;by_cases h:(kB s).getLast? =some 58
  ·have iv:1<=s.size:=by
    cases hb:kB s with
    |nil=>rw[hb]at h;cases h
    |cons a r=>rw[<- hlen,hb];simp
   rw[Zt h];refine ae ?_;rw[show(((⟨#[58]⟩:ByteArray).size:Nat):Int)=1 from rfl,wrap64 (show -9223372036854775808<=(s.size:Int) - 1/\(s.size:Int) - 1<=9223372036854775807 by omega),show(s.size:Int) - 1=((s.size - 1:Nat):Int) by omega];refine dC (l:=0) (h:=s.size - 1) Zr .T3 (.num Zr) Zo ?_;refine ae ?_;have hb:kB (s.extract 0 (s.size - 1))=(kB s).dropLast:=by rw[jb,vy,List.dropLast_eq_take,hlen]
   refine kG (Post:=[]) (.inr rfl) (.tmp Zr (.tmp Zr .nil)) ⟨_,rfl,fun _=>hb,?_,rfl⟩ ZI;rw[<- kV,hb,<- hlen];simp
  ·rw[Zf h];refine ae ?_;refine kG (Post:=[]) (.inr rfl) (.tmp Zr (.tmp Zr .nil)) ⟨_,rfl,fun h2=>absurd h2 h,Qn _,rfl⟩ ZI
 refine aw.intro low165 (by simp[n165]) ?_;exact zCF
theorem uB(s:ByteArray):aw Tryz.prog 164 [.string s,.string ⟨#[58]⟩] [] (fun v Post=>∃qs qt qn,v=.func (.func 223) #[] #[kF qs,kF qt,kF qn]/\Post=[kA qs 0 [.string ⟨#[58]⟩],kA qt 0 [.string s],kA qn 0 [vi 1]]):=by
 have h:aw Tryz.prog 199 [.string s,.string ⟨#[58]⟩,vi 1] [] (fun v Post=>∃qs qt qn,v=.func (.func 223) #[] #[kF qs,kF qt,kF qn]/\Post=[kA qs 0 [.string ⟨#[58]⟩],kA qt 0 [.string s],kA qn 0 [vi 1]]):=by
  refine aw.intro low199 (by simp[n199]) ?_;refine ae ?_;refine kX Zr (fun qt=>?_);simp only[Value.cells];refine ae ?_;refine kX Zr (fun qs=>?_);simp only[Value.cells];refine ae ?_;refine kX Zr (fun qn=>?_);simp only[Value.cells];refine ae ?_;refine kG (.inr rfl) (.tmp Zr .nil) ⟨qs,qt,qn,rfl,rfl⟩ ZI
 refine aw.intro low164 (by simp[n164]) ?_;refine ae ?_;rw[show(((⟨#[58]⟩:ByteArray).size:Nat):Int)=1 from rfl];refine kH h Zr ZP (fun v Post hv=>?_);obtain⟨qs,qt,qn,rfl,rfl⟩:=hv;simp only[aJ];refine ae ?_;refine kG (.inr rfl) (.tmp Zr .nil) ⟨qs,qt,qn,rfl,rfl⟩ ZI
def qq(p:List Nat):Bool:=decide (p.getLast? =some 58)&&gp p.dropLast
theorem ya:∀{c:List (List Nat)} {rest:List (List Nat)} {n:Nat},(∀p∈c,qq p=true)->zU (c++rest) n=zU rest (n+c.length):=by
 intro c
 induction c with
 |nil=>intro rest n _;simp
 |cons p c ih=>
  intro rest n h;have hp:=h p Zs;simp only[qq,vF,decide_eq_true_eq]at hp;have bZ:p≠[]:=fun e=>by rw[e]at hp;simp at hp
  simp only[vr,zU,if_neg bZ,hp.1,hp.2,decide_true,Bool.and_self,if_true];rw[ih (fun q hq=>h q (by simp[hq])),Vz,show n+1+c.length=n+(c.length+1) by omega]
theorem sG {p:List Nat}{rest:List (List Nat)}{n:Nat}(h0:p≠[])(h:qq p=false):zU (p::rest) n=-1:=by
 simp only[qq]at h;simp[zU,h0,h]
theorem yU(l:List Nat):(kq l).length<=l.length+1:=by
 induction l with
 |nil=>simp[kq]
 |cons c r ih=>
  simp only[kq];split
  ·simp;omega
  ·cases h:kq r with
   |nil=>simp
   |cons p ps=>rw[h]at ih;simp at ih|-;omega
theorem fh(s:ByteArray)(hs:s.size<=140737488355328):aw Tryz.prog 105 [.string s] [] (fun v Post=>v=vi (kR s)/\Post=[]):=by
 refine aw.intro low105 (by simp[n105]) ?_;have hlen:=kV s;refine ae ?_;refine kO (fun pr=>?_);refine ae ?_;refine kK (nN s hs) Zr ?_;cases hn:zn s with
 |true=>
  refine ae ?_;have:kR s=0:=by unfold kR oP;rw[show gp (kB s)=true from hn];rfl
  rw[this];exact⟨.inr rfl,[vi 0],[],.bV (v:=vi 0) Zr Ka .nil,ao.nil,⟨rfl,rfl⟩⟩
 |false=>
  have AY:gp (kB s)=false:=hn;refine ae ?_;by_cases h0:s=⟨#[]⟩
  ·subst h0;refine ae ?_;exact zBH
  obtain⟨c,r,hc,hr,tw,iv⟩:=dH h0;rw[Zf h0];refine ae ?_;refine wF Zr Zr (j:=0) rfl hc ?_;refine ae ?_;have ec:kR s=if(cA c.toNat||decide (c.toNat=124))=true then(if ew (kB s)=(kB s).length then 1 else -1)else zU (kq (kB s)) 0:=by
   unfold kR oP;rw[if_neg (by rw[AY];simp)];simp only[hr]
  refine kK (s9 _ tw) Zr ?_;cases hb:cA c.toNat with
  |true=>
   refine ae ?_;refine kK (Df s hs c r hc hr (.inr hb)) Zr ?_;rw[show(cA c.toNat||decide (c.toNat=124))=true by simp[hb],if_pos rfl]at ec;exact zAX
  |false=>
   refine ae ?_;refine wF Zr Zr (j:=0) rfl hc ?_;refine ae ?_;by_cases LW:c.toNat=124
   ·rw[show decide ((c.toNat:Int)=124)=true from Zt Zo];refine ae ?_;refine kK (Df s hs c r hc hr (.inl LW)) Zr ?_;rw[show(cA c.toNat||decide (c.toNat=124))=true by simp[LW],if_pos rfl]at ec;exact zAX
   rw[show decide ((c.toNat:Int)=124)=false from Zf Zo];rw[if_neg (by simp[hb,LW])]at ec;refine ae ?_;refine kO (fun pn=>?_);refine ae ?_;refine kH (uB s) Zr ZP (fun v Post hv=>?_);obtain⟨qs,qt,qn,rfl,rfl⟩:=hv;simp only[aJ];refine ae ?_;have oB:∀d:List ByteArray,OkC (fun full:List ByteArray=>full.map kB=kq (kB s)) d->d.length<=s.size+1:=fun d ⟨t,ht⟩=>by
    have h1:=congrArg List.length ht;have h2:=yU (kB s);simp at h1;omega
   refine VC.hK (α:=ByteArray) (enc:=fun x=>[.string x]) (fun d A=>(∀x∈d,qq (kB x)=true)/\A=[kA pn 0 [vi d.length],kA pr 0 [vi 0]].flatten) ([kA pn 0 [vi 0],kA pr 0 [vi 0]].flatten) Zr (Mm qs qt qn s hs) (R:=[kA pn 0 [vi 0],kA pr 0 [vi 0]]) ZP (ao.perm Zs)
    ⟨fun x hx=>(by cases hx),rfl⟩ (fun _=>rfl) ?_ ?_
   ·rintro d x A aP ⟨hd,rfl⟩
    have hdl:=oB _ aP;simp only[Vy,Q8]at hdl;obtain⟨rest,bM⟩:=aP;have har2:kR s=zU (kB x::rest.map kB) d.length:=by
     rw[ec,<- bM];have:=ya (c:=d.map kB) (rest:=kB x::rest.map kB) (n:=0) (fun p hp=>by obtain⟨y,hy,rfl⟩:=QM.1 hp;exact hd y hy);simpa using this
    have Ie:x.size<=s.size:=by
     have h1:kB x∈kq (kB s):=by rw[<- bM];simp
     have h2:=(List.sublist_flatten_of_mem h1).length_le;rw[tH,kV,kV]at h2;omega
    simp only[xm];refine VC.imp (H':=[kA pn 0 [vi d.length],kA pr 0 [vi 0]]) (ao.perm Zs) ?_;refine VC.lU ?_;refine ae ?_;refine⟨trivial,?_⟩;refine ae ?_;by_cases hx0:x=⟨#[]⟩
    ·rw[Zt hx0];have:kR s=d.length:=by
      rw[har2,hx0];rfl
     refine ae ?_;rw[this];exact⟨.inr rfl,[vi d.length],[],.bV (v:=vi d.length) Zr Ka .nil,ao.nil,⟨rfl,rfl⟩⟩
    rw[Zf hx0];have pL:kB x≠[]:=fun e=>hx0 (jU (by rw[e];rfl))
    refine ae ?_;refine kH (xy x Zo) Zr ZP (fun v Post hv=>?_);obtain⟨y,rfl,Un,Uo,rfl⟩:=hv;simp only[QS];by_cases sr:(kB x).getLast? =some 58
    ·rw[Zt sr];have hyb:=Un sr;refine ae ?_;refine kK (nN y Zo) Zr ?_;cases hny:zn y with
     |true=>
      have hk:qq (kB x)=true:=by
       unfold qq;rw[Zt sr,<- hyb];exact hny
      refine ae ?_;refine⟨[kA pn 0 [vi (d.length+1:Nat)],kA pr 0 [vi 0]].flatten,⟨fun z hz=>?_,Zs⟩,?_⟩
      ·rcases QF.1 hz with h|h
       ·exact hd z h
       ·rw[QR.1 h];exact hk
      ·refine ao.cut (M:=[kA pn 0 [vi ((d.length:Int)+1)],kA pr 0 [vi 0]]) ZI (ao.perm Zs)
     |false=>
      have hk:qq (kB x)=false:=by
       unfold qq;rw[Zt sr,<- hyb];exact hny
      have:kR s=-1:=by rw[har2,sG pL hk]
      refine ae ?_;rw[this];exact zBH
    ·rw[Zf sr];have hk:qq (kB x)=false:=by
      unfold qq;rw[Zf sr];rfl
     have:kR s=-1:=by rw[har2,sG pL hk]
     refine ae ?_;rw[this];exact zBH
   ·rintro full A xS ⟨hd,rfl⟩
    have:kR s=full.length:=by
     rw[ec,<- xS];have:=ya (c:=full.map kB) (rest:=[]) (n:=0) (fun p hp=>by obtain⟨y,hy,rfl⟩:=QM.1 hp;exact hd y hy);simpa[zU]using this
    refine VC.imp (H':=[kA pn 0 [vi full.length],kA pr 0 [vi 0]]) (ao.perm Zs) ?_;refine ae ?_;rw[this];exact⟨.inr rfl,[vi full.length],[],.bV (v:=vi full.length) Zr Ka .nil,ao.nil,⟨rfl,rfl⟩⟩
noncomputable def F104:aQ:=bb (o:=gF pq Tryz.f104 [])
theorem n104:F104.n=6:=rfl
theorem low104:aY Tryz.prog 104 []=some F104:=by kernel_rfl
noncomputable def F168:aQ:=bb (o:=gF pq Tryz.f168 [])
theorem n168:F168.n=12:=rfl
theorem low168:aY Tryz.prog 168 []=some F168:=by kernel_rfl
noncomputable def F167:aQ:=bb (o:=gF pq Tryz.f167 [])
theorem n167:F167.n=6:=rfl
theorem low167:aY Tryz.prog 167 []=some F167:=by kernel_rfl
noncomputable def F201:aQ:=bb (o:=gF pq Tryz.f201 [])
theorem n201:F201.n=19:=rfl
theorem low201:aY Tryz.prog 201 []=some F201:=by kernel_rfl
noncomputable def F166:aQ:=bb (o:=gF pq Tryz.f166 [])
theorem n166:F166.n=9:=rfl
theorem low166:aY Tryz.prog 166 []=some F166:=by kernel_rfl
noncomputable def F106:aQ:=bb (o:=gF pq Tryz.f106 [])
theorem n106:F106.n=23:=rfl
theorem low106:aY Tryz.prog 106 []=some F106:=by kernel_rfl
noncomputable def F202:aQ:=bb (o:=gF pq Tryz.f202 [])
theorem n202:F202.n=151:=rfl
theorem low202:aY Tryz.prog 202 []=some F202:=by kernel_rfl
noncomputable def F205:aQ:=bb (o:=gF pq Tryz.f205 [])
theorem n205:F205.n=11:=rfl
theorem low205:aY Tryz.prog 205 []=some F205:=by kernel_rfl
noncomputable def F250:aQ:=bb (o:=gF pq Tryz.f250 [])
theorem n250:F250.n=15:=rfl
theorem low250:aY Tryz.prog 250 []=some F250:=by kernel_rfl
noncomputable def F230:aQ:=bb (o:=gF pq Tryz.f230 [])
theorem n230:F230.n=14:=rfl
theorem low230:aY Tryz.prog 230 []=some F230:=by kernel_rfl
noncomputable def F228:aQ:=bb (o:=gF pq Tryz.f228 [])
theorem n228:F228.n=6:=rfl
theorem low228:aY Tryz.prog 228 []=some F228:=by kernel_rfl
noncomputable def F229:aQ:=bb (o:=gF pq Tryz.f229 [])
theorem n229:F229.n=6:=rfl
theorem low229:aY Tryz.prog 229 []=some F229:=by kernel_rfl
noncomputable def F206:aQ:=bb (o:=gF pq Tryz.f206 [])
theorem n206:F206.n=27:=rfl
theorem low206:aY Tryz.prog 206 []=some F206:=by kernel_rfl
noncomputable def F170:aQ:=bb (o:=gF pq Tryz.f170 [])
theorem n170:F170.n=15:=rfl
theorem low170:aY Tryz.prog 170 []=some F170:=by kernel_rfl
noncomputable def F203:aQ:=bb (o:=gF pq Tryz.f203 [(3,[[0,1,2,3,4,5],[0,2,3,1,4,5]])])
theorem n203:F203.n=17:=rfl
theorem low203:aY Tryz.prog 203 [(3,[[0,1,2,3,4,5],[0,2,3,1,4,5]])]=some F203:=by kernel_rfl
noncomputable def F204:aQ:=bb (o:=gF pq Tryz.f204 [(8,[[0,1,2,3,4,5,6,7],[0,1,3,4,2,5,6,7]])])
theorem n204:F204.n=44:=rfl
theorem low204:aY Tryz.prog 204 [(8,[[0,1,2,3,4,5,6,7],[0,1,3,4,2,5,6,7]])]=some F204:=by kernel_rfl
noncomputable def F107:aQ:=bb (o:=gF pq Tryz.f107 [])
theorem n107:F107.n=37:=rfl
theorem low107:aY Tryz.prog 107 []=some F107:=by kernel_rfl
noncomputable def NY:aQ:=bb (o:=gF pq Tryz.f169 [(21,[[0,1,2,3,4,5,6,7,8,9,10,11,12,13,14,15,16],[0,1,2,3,4,5,6,8,9,10,7,11,12,13,14,15,16],[0,1,2,3,4,5,6,8,9,10,11,12,7,13,14,15,16],[0,1,2,3,4,5,6,7,8,9,11,12,10,13,14,15,16],[0,1,2,3,4,5,6,8,9,11,12,7,10,13,14,15,16],[0,1,2,3,4,5,6,8,9,11,12,10,7,13,14,15,16]]),(34,[[0,1,2,3,4,5,6,7,8,9,10,11,12,13]])])
theorem n169:NY.n=257:=rfl
theorem low169:aY Tryz.prog 169 [(21,[[0,1,2,3,4,5,6,7,8,9,10,11,12,13,14,15,16],[0,1,2,3,4,5,6,8,9,10,7,11,12,13,14,15,16],[0,1,2,3,4,5,6,8,9,10,11,12,7,13,14,15,16],[0,1,2,3,4,5,6,7,8,9,11,12,10,13,14,15,16],[0,1,2,3,4,5,6,8,9,11,12,7,10,13,14,15,16],[0,1,2,3,4,5,6,8,9,11,12,10,7,13,14,15,16]]),(34,[[0,1,2,3,4,5,6,7,8,9,10,11,12,13]])]=some NY:=by kernel_rfl
def ZR:DIR:=Cz (X:=⟨20,[.bV 2],[(.lU [qo 2 (.alloc 44 [.int .i64 0])] [0,2]),(.lU [qo 4 (.build [.bool false,.bool false] []),qB 5 197 4,qm 3 5] [0,2,3])],⟨6,160,[(.tmp 2)]⟩,(qS [qm 7 0,qm 8 3,qo 9 (.pT (.tmp 7) [(.tmp 8)])] [2,3] (.seq (.block 0 (qS [qm 11 3,qn 12 11,qf 13 0 12,ql 14 13,qm 10 14] [2,3,10] (qC 10 (qS [⟨none,none,.store 1 (.tmp 2) (.const (.int .i64 151))⟩] [2] .ret) (qS [qm 16 3,qn 17 16,qf 18 1 17,ql 19 18,qm 15 19] [2,15] (qC 15 (qS [⟨none,none,.store 1 (.tmp 2) (.const (.int .i64 152))⟩] [2] .ret) .skip))))) (qS [⟨none,none,.store 1 (.tmp 2) (.const (.int .i64 0))⟩] [2] .ret)))⟩)
theorem n102:ZR.n=20:=rfl
theorem low102:KO Tryz.prog (zK [(0,[0,2]),(1,[0,2,3]),(2,[0,2,3]),(3,[2,3]),(4,[2,3,10]),(5,[2]),(6,[2,15]),(7,[2]),(8,[2])]) (zK []) 102=some ZR:=by kernel_rfl
noncomputable def F47:aQ:=bb (o:=gF pq Tryz.f47 [])
theorem n47:F47.n=5:=rfl
theorem low47:aY Tryz.prog 47 []=some F47:=by kernel_rfl
noncomputable def F103:aQ:=bb (o:=gF pq Tryz.f103 [(0,[[0,1,2,3,4,5,6,7,8,9,10,11,12,13,14,15,16,17],[0,1,3,4,2,5,6,7,8,9,10,11,12,13,14,15,16,17]])])
theorem n103:F103.n=37:=rfl
theorem low103:aY Tryz.prog 103 [(0,[[0,1,2,3,4,5,6,7,8,9,10,11,12,13,14,15,16,17],[0,1,3,4,2,5,6,7,8,9,10,11,12,13,14,15,16,17]])]=some F103:=by kernel_rfl
def zI(k:Nat)(s:ByteArray):Bool:=decide (k=2)&&decide (kB s=[115,117,112,101,114])
def eD(k:Nat)(s:ByteArray):Nat:=if k=3 then 1 else if k=5 then 2 else if k=4 then yE s else 6
theorem Au(k:Nat)(s:ByteArray)(c2 c3 c4 c5 c6 c7 c8 c9 rH:Value):aw Tryz.prog 205 [.agg #[cv k,.string s,c2,c3,c4,c5,c6,c7,c8,c9,rH]] [] (fun v Post=>v=.bool (zI k s)/\Post=[]):=by
 refine aw.intro low205 (by simp[n205]) ?_;exact zAR
theorem rW(s:ByteArray)(hs:s.size<=140737488355328):aw Tryz.prog 250 [.string s] [] (fun v Post=>v=vi (yE s)/\Post=[]):=by
 refine aw.intro low250 (by simp[n250]) ?_;have hlen:=kV s;refine ae ?_;refine kK (fh s hs) Zr ?_;have hb:yE s=if kR s=0 then 5 else if kR s=1/\(kB s).getLast?≠some 58 then 4 else 3:=rfl;have bZ:kR s=1->0 < s.size:=fun h=>by
  rcases Ql s.size with h2|h2
  ·have:kB s=[]:=Q3.1 Zo;unfold kR at h;rw[this]at h;exact absurd h Zd
  ·exact h2
 obtain⟨z,hz⟩:∃z,kR s=z:=⟨_,rfl⟩;rw[hz]at hb bZ|-;refine ae ?_;by_cases h0:z=0
 ·rw[Zt h0];rw[if_pos h0]at hb;exact zAV
 rw[Zf h0];rw[if_neg h0]at hb;refine ae ?_;by_cases h1:z=1;rotate_left
 ·rw[Zf h1];rw[if_neg (fun h=>h1 h.1)]at hb;exact zAV
 rw[Zt h1];have iv:=bZ h1;obtain⟨c,hc,oA⟩:=w7 (s:=s) (i:=s.size - 1) Zo;have Cu:(kB s).getLast? =some c.toNat:=by rw[List.getLast?_eq_getElem?,hlen];exact oA
 refine ae ?_;refine wF Zr Zr (j:=s.size - 1) Zo hc ?_;refine ae ?_;by_cases sr:c.toNat=58
 ·rw[show decide ((c.toNat:Int)=58)=true from Zt Zo];rw[if_neg (fun h=>h.2 (by rw[Cu,sr]))]at hb;exact zAV
 ·rw[show decide ((c.toNat:Int)=58)=false from Zf Zo];rw[if_pos ⟨h1,by rw[Cu];simpa using sr⟩]at hb;exact zAV
theorem Jm(k:Nat)(s:ByteArray)(hs:s.size<=140737488355328)(c2 c3 c4 c5 c6 c7 c8 c9 rH:Value):aw Tryz.prog 230 [.agg #[cv k,.string s,c2,c3,c4,c5,c6,c7,c8,c9,rH]] [] (fun v Post=>v=vi (eD k s)/\Post=[]):=by
 refine aw.intro low230 (by simp[n230]) ?_;refine ae ?_;refine kX Zr (fun q=>?_);simp only[Value.cells];refine ae ?_;by_cases h3:k=3
 ·rw[show decide ((k:Int)=3)=true from Zt Zo];refine ae ?_;refine kG (Post:=[]) (.inr rfl) (.tmp Zr .nil) ⟨by simp[bH,eD,h3],rfl⟩ ZI
 rw[show decide ((k:Int)=3)=false from Zf Zo];refine ae ?_;by_cases h5:k=5
 ·rw[show decide ((k:Int)=5)=true from Zt Zo];refine ae ?_;refine kG (Post:=[]) (.inr rfl) (.tmp Zr .nil) ⟨by simp[bH,eD,h5],rfl⟩ ZI
 rw[show decide ((k:Int)=5)=false from Zf Zo];refine ae ?_;by_cases h4:k=4
 ·rw[show decide ((k:Int)=4)=true from Zt Zo];refine ae ?_;refine kK (rW s hs) Zr ?_;refine ae ?_;refine kG (Post:=[]) (.inr rfl) (.tmp Zr .nil) ⟨by simp[bH,eD,h4],rfl⟩ ZI
 exact zDH
theorem hO(s:ByteArray)(hs:s.size<=140737488355328):aw Tryz.prog 228 [.string s] [] (fun v Post=>v=vi (fH s)/\Post=[]):=by
 refine aw.intro low228 (by simp[n228]) ?_;refine ae ?_;refine kK (rW s hs) Zr ?_;refine ae ?_;refine kG (Post:=[]) (.inr rfl) (.tmp Zr .nil) ⟨?_,rfl⟩ ZI;simp only[bH,fH,Value.int.injEq,true_and];split <;> omega
theorem di(s:ByteArray)(hs:s.size<=140737488355328):aw Tryz.prog 229 [.string s] [] (fun v Post=>v=vi (lY s)/\Post=[]):=by
 refine aw.intro low229 (by simp[n229]) ?_;refine ae ?_;refine kK (rW s hs) Zr ?_;refine ae ?_;by_cases h:yE s=4
 ·rw[show decide (((yE s:Nat):Int)=4)=true from Zt Zo];exact zEQ
 ·rw[show decide (((yE s:Nat):Int)=4)=false from Zf Zo];exact zEQ
noncomputable def F227:aQ:=bb (o:=gF pq Tryz.f227 [])
theorem n227:F227.n=31:=rfl
theorem low227:aY Tryz.prog 227 []=some F227:=by kernel_rfl
noncomputable def F247:aQ:=bb (o:=gF pq Tryz.f247 [])
theorem n247:F247.n=11:=rfl
theorem low247:aY Tryz.prog 247 []=some F247:=by kernel_rfl
noncomputable def F264:aQ:=bb (o:=gF pq Tryz.f264 [])
theorem n264:F264.n=15:=rfl
theorem low264:aY Tryz.prog 264 []=some F264:=by kernel_rfl
noncomputable def F281:aQ:=bb (o:=gF pq Tryz.f281 [])
theorem n281:F281.n=18:=rfl
theorem low281:aY Tryz.prog 281 []=some F281:=by kernel_rfl
noncomputable def F248:aQ:=bb (o:=gF pq Tryz.f248 [])
theorem n248:F248.n=13:=rfl
theorem low248:aY Tryz.prog 248 []=some F248:=by kernel_rfl
noncomputable def F265:aQ:=bb (o:=gF pq Tryz.f265 [])
theorem n265:F265.n=37:=rfl
theorem low265:aY Tryz.prog 265 []=some F265:=by kernel_rfl
noncomputable def F282:aQ:=bb (o:=gF pq Tryz.f282 [])
theorem n282:F282.n=17:=rfl
theorem low282:aY Tryz.prog 282 []=some F282:=by kernel_rfl
noncomputable def F249:aQ:=bb (o:=gF pq Tryz.f249 [])
theorem n249:F249.n=35:=rfl
theorem low249:aY Tryz.prog 249 []=some F249:=by kernel_rfl
open Go Go.V Go.Shelf
shelf_lay LaysC.n174 Nm 174 at Tryz as Tryz.sl174
def nE(A:List kC):Prop:=∃ev,kC.cell (Tryz.sl174_ren.g 16) 0 ev∈A/\(ev=.nilIface∨∃te pe,ev=.iface te pe)
theorem MK:∀(l:List UInt8) (acc k:Nat),(∀c∈l,wM c.toNat=true)->acc < 10 ^ k->k+l.length<=19->Lib.parseUintM (2 ^ 64 - 1) acc l=.ok ((l.map UInt8.toNat).foldl (fun n c=>n*10+(c - 48)) acc):=by
 intro l
 induction l with
 |nil=>intro acc k _ _ _;rfl
 |cons c r ih=>
  intro acc k hd ha hk;have hc:=hd c Zs;simp only[wM,vF,decide_eq_true_eq]at hc;simp only[Vz]at hk;have hp:10 ^ k<=10 ^ 18:=Nat.pow_le_pow_right Zo Zo;have h18:(10:Nat) ^ 18=1000000000000000000:=by decide
  have h64:(2:Nat) ^ 64 - 1=18446744073709551615:=by decide
  have hs:(10:Nat) ^ (k+1)=10 ^ k*10:=Nat.pow_succ ..;simp only[Lib.parseUintM,if_pos hc,if_neg (show ¬1844674407370955162<=acc by omega),if_neg (show ¬(2 ^ 64 - 1 < acc*10+(c.toNat - 48)) by omega),QC,Vg];exact ih _ (k+1) (fun x hx=>hd x (by simp[hx])) Zo Zo
theorem Xw:∀(l:List Nat) (acc k:Nat),(∀c∈l,wM c=true)->acc < 10 ^ k->l.foldl (fun n c=>n*10+(c - 48)) acc < 10 ^ (k+l.length):=by
 intro l
 induction l with
 |nil=>intro acc k _ h;exact h
 |cons c r ih=>
  intro acc k hd ha;have hc:=hd c Zs;simp only[wM,vF,decide_eq_true_eq]at hc;have hs:(10:Nat) ^ (k+1)=10 ^ k*10:=Nat.pow_succ ..;simp only[Vg,Vz];rw[show k+(r.length+1)=(k+1)+r.length by omega];exact ih _ (k+1) (fun x hx=>hd x (by simp[hx])) Zo
theorem Xv:∀(l:List Nat) (acc k:Nat),10 ^ k<=acc->10 ^ (k+l.length)<=l.foldl (fun n c=>n*10+(c - 48)) acc:=by
 intro l
 induction l with
 |nil=>intro acc k h;exact h
 |cons c r ih=>
  intro acc k ha;have hs:(10:Nat) ^ (k+1)=10 ^ k*10:=Nat.pow_succ ..;simp only[Vg,Vz];rw[show k+(r.length+1)=(k+1)+r.length by omega];exact ih _ (k+1) Zo
theorem gZ(A:List kC)(hE:nE A)(s:ByteArray)(h0:kB s≠[])(hd:(kB s).all wM=true)(hl:s.size<=19):
 aw Tryz.prog 266 [.string s,vi 10,vi 64] [A] (fun v Post=>((zQ (kB s)<=9223372036854775807/\v=.tuple #[vi (zQ (kB s)),.nilIface])∨(9223372036854775807 < zQ (kB s)/\∃z t p,v=.tuple #[vi z,.iface t p]/\-9223372036854775808<=z/\z<=9223372036854775807))/\Post=[A]):=by
 have au:∀c∈s.data.toList,wM c.toNat=true:=fun c hc=>ve.1 hd _ (QM.2 ⟨c,hc,rfl⟩)
 have hlen:s.data.toList.length=s.size:=by simp
 have hu:=MK s.data.toList 0 0 au Zd Zo;have Mf:Lib.parseUintM (2 ^ 64 - 1) 0 s.data.toList=.ok (zQ (kB s)):=hu;have bZ:s.data.toList≠[]:=fun e=>h0 (by simp[kB,e])
 have hp:Lib.parseIntB 64 s.data.toList=if 9223372036854775808<=zQ (kB s)then .range else .ok ((zQ (kB s):Nat):Int):=by
  unfold Lib.parseIntB;cases hs:s.data.toList with
  |nil=>exact absurd hs bZ
  |cons c r=>
   have hc:=au c (by rw[hs];simp);simp only[wM,vF,decide_eq_true_eq]at hc;rw[hs]at Mf;simp only[if_neg (show ¬(c.toNat=43∨c.toNat=45) by omega),Lib.parseUintB,if_neg (show ¬(c::r=[]) by simp),Mf];have Nw:¬c.toNat=45:=by omega
   by_cases cE:9223372036854775808<=zQ (kB s)
   ·simp[Nw,cE]
   ·simp[Nw,cE]
 obtain⟨ev,O7,hev2⟩:=hE;by_cases cE:9223372036854775808<=zQ (kB s)
 ·rw[if_pos cE]at hp;refine aw.CU (by kernel_rfl) (fun w F hs=>?_);have gh:=(hs.cell (Zw _ O7)).1;refine(Any.strconv_ParseInt_10_at64_range Tryz.sl174 s Zo hp ev w gh hev2).mono ?_
  rintro e w' ⟨N,rfl,_,_,hb⟩
  refine⟨_,rfl,.inr ⟨Zo,_,_,_,rfl,?_⟩,hb⟩;unfold Lib.intSat;split <;> decide
 ·rw[if_neg cE]at hp;refine aw.CU (by kernel_rfl) (fun w F hs=>?_);refine(Any.strconv_ParseInt_10_at64_ok Tryz.sl174 s Zo _ hp w).mono ?_
  rintro e w' ⟨rfl,hb⟩
  refine⟨_,rfl,.inl ⟨Zo,rfl⟩,?_⟩;rcases hb with rfl|⟨t,rfl⟩
  ·exact .refl _ _
  ·exact Lib.bytesWorld_below _ _ _
theorem xx(s:ByteArray)(hs:s.size<=140737488355328):aw Tryz.prog 247 [.string s,.string ⟨#[45]⟩] [] (fun v Post=>∃t,v=.tuple #[.string t,.bool (decide ((kB s).head? =some 45))]/\kB t=(if(kB s).head? =some 45 then(kB s).tail else kB s)/\t.size<=s.size/\Post=[]):=by
 have hlen:=kV s;have hhead:∀(h:1<=s.size),s.extract 0 1=⟨#[45]⟩↔(kB s).head? =some 45:=fun h=>by
  have hb:kB (s.extract 0 1)=(kB s).take 1:=by rw[jb,vy]
  cases hx:kB s with
  |nil=>rw[hx]at hlen;simp at hlen;omega
  |cons a r=>
   rw[hx]at hb;constructor
   ·intro e;rw[e]at hb;have:[45]=[a]:=hb;simp at this;simp[<- this]
   ·intro e;simp at e;apply jU;rw[hb,e];rfl
 have DN:aw Tryz.prog 281 [.string s,.string ⟨#[45]⟩] [] (fun v Post=>v=.bool (decide ((kB s).head? =some 45))/\Post=[]):=by
  refine aw.intro low281 (by simp[n281]) ?_;refine ae ?_;rw[show(((⟨#[45]⟩:ByteArray).size:Nat):Int)=1 from rfl];by_cases h:1<=s.size
  ·rw[Zt (show(s.size:Int) ≥ 1 by omega)];refine ae ?_;rw[show(((⟨#[45]⟩:ByteArray).size:Nat):Int)=1 from rfl];refine dC (l:=0) (h:=1) Zr .T3 (.num Zr) Zo ?_;refine ae ?_;refine⟨.inr rfl,_,_,.tmp Zr .nil,ZI,?_,rfl⟩;simp only[bH,hhead h]
  ·exact zD3
 have hcut:aw Tryz.prog 264 [.string s,.string ⟨#[45]⟩] [] (fun v Post=>∃t,v=.tuple #[.string t,.bool (decide ((kB s).head? =some 45))]/\kB t=(if(kB s).head? =some 45 then(kB s).tail else kB s)/\t.size<=s.size/\Post=[]):=by
  refine aw.intro low264 (by simp[n264]) ?_;refine ae ?_;refine kK DN Zr ?_;by_cases h:(kB s).head? =some 45
  ·have iv:1<=s.size:=by
    cases hb:kB s with
    |nil=>rw[hb]at h;cases h
    |cons a r=>rw[<- hlen,hb];simp
   rw[Zt h];refine ae ?_;rw[show(((⟨#[45]⟩:ByteArray).size:Nat):Int)=1 from rfl];refine dC (l:=1) (h:=s.size) Zr (.num Zr) .T3 Zo ?_;refine ae ?_;have hb:kB (s.extract 1 s.size)=(kB s).tail:=by rw[jb,Qg Zo,List.drop_one]
   refine kG (Post:=[]) (.inr rfl) (.tmp Zr (.tmp Zr .nil)) ⟨_,rfl,by rw[if_pos h,hb],?_,rfl⟩ ZI;rw[<- kV,hb,<- hlen];simp
  ·rw[Zf h];refine ae ?_;refine kG (Post:=[]) (.inr rfl) (.tmp Zr (.tmp Zr .nil)) ⟨_,rfl,by rw[if_neg h],Qn _,rfl⟩ ZI
 refine aw.intro low247 (by simp[n247]) ?_;exact zCF
theorem Bs(s:ByteArray)(hs:s.size<=140737488355328):aw Tryz.prog 282 [.string s,.int .u8 48] [] (fun v Post=>∃t,v=.string t/\kB t=(kB s).dropWhile (fun c=>decide (c=48))/\Post=[]):=by
 refine aw.intro low282 (by simp[n282]) ?_;refine ae ?_;refine VC.loop (α:=ByteArray) (bi:=fun t=>[(0,.string t),(1,.int .u8 48)]) (Hf:=fun _=>[]) (I:=fun t=>t.size<=s.size/\(kB t).dropWhile (fun c=>decide (c=48))=(kB s).dropWhile (fun c=>decide (c=48))) (μ:=fun t=>t.size) s ⟨Qn _,rfl⟩ ZU ZI ?_
 rintro t ⟨i1,i2⟩
 have hlen:=kV t;refine ae ?_;by_cases h0:t=⟨#[]⟩
 ·subst h0;refine ae ?_;refine kG (Post:=[]) (.inr rfl) (.tmp Zr .nil) ⟨_,rfl,by rw[<- i2];rfl,rfl⟩ ZI
 obtain⟨c,r,hc,hr,tw,iv⟩:=dH h0;rw[Zt (show(t.size:Int) > 0 by omega)];refine ae ?_;refine wF Zr Zr (j:=0) rfl hc ?_;refine ae ?_;by_cases h48:c.toNat=48
 ·rw[show decide ((c.toNat:Int)=48)=true from Zt Zo];refine ae ?_;refine dC (l:=1) (h:=t.size) Zr (.num Zr) .T3 Zo ?_;refine ae ?_;have hb:kB (t.extract 1 t.size)=r:=by rw[jb,Qg Zo,List.drop_one,hr];rfl
  have hz:(t.extract 1 t.size).size+1=t.size:=by rw[<- kV,hb,<- hlen,hr];rfl
  refine⟨t.extract 1 t.size,⟨Zo,?_⟩,Zo,ZU,ZI⟩;rw[hb,<- i2,hr,List.dropWhile_cons_of_pos (by simp[h48])]
 ·rw[show decide ((c.toNat:Int)=48)=false from Zf Zo];refine ae ?_;refine kG (Post:=[]) (.inr rfl) (.tmp Zr .nil) ⟨_,rfl,?_,rfl⟩ ZI;rw[<- i2,hr,List.dropWhile_cons_of_neg (by simp[h48])]
theorem nR(l:List Nat):wG l=if l.dropWhile (fun c=>decide (c=48))=[]/\l≠[]then [48]else l.dropWhile (fun c=>decide (c=48)):=by
 induction l with
 |nil=>rfl
 |cons a l ih=>
  by_cases ha:a=48
  ·subst ha;cases l with
   |nil=>rfl
   |cons b r=>
    rw[wG,ih,show List.dropWhile (fun c=>decide (c=48)) (48::b::r)=List.dropWhile (fun c=>decide (c=48)) (b::r)from List.dropWhile_cons_of_pos Zs];simp
  ·rw[List.dropWhile_cons_of_neg (by simp[ha])];have:wG (a::l)=a::l:=by
    cases l with
    |nil=>simp[wG]
    |cons b r=>simp[wG,ha]
   simp[this]
theorem JC(s:ByteArray)(hs:s.size<=140737488355328):aw Tryz.prog 248 [.string s] [] (fun v Post=>∃t,v=.string t/\kB t=wG (kB s)/\Post=[]):=by
 have htrim:aw Tryz.prog 265 [.string s,.string ⟨#[48]⟩] [] (fun v Post=>∃t,v=.string t/\kB t=(kB s).dropWhile (fun c=>decide (c=48))/\Post=[]):=by
  refine aw.intro low265 (by simp[n265]) ?_;refine ae ?_;by_cases h0:s=⟨#[]⟩
  ·subst h0;refine ae ?_;refine kG (Post:=[]) (.inr rfl) (.tmp Zr .nil) ⟨_,rfl,rfl,rfl⟩ ZI
  rw[Zf h0];refine ae ?_;refine kH (Bs s hs) Zr ZP (fun v Post hv=>?_);obtain⟨t,rfl,h1,rfl⟩:=hv;simp only[QS];refine ae ?_;refine kG (Post:=[]) (.inr rfl) (.tmp Zr .nil) ⟨_,rfl,h1,rfl⟩ ZI
 refine aw.intro low248 (by simp[n248]) ?_;refine ae ?_;refine kH htrim Zr ZP (fun v Post hv=>?_);obtain⟨t,rfl,h1,rfl⟩:=hv;simp only[QS];refine ae ?_;have hp:=nR (kB s);rw[<- h1]at hp;by_cases ht:t=⟨#[]⟩
 ·rw[Zt ht];have hb:kB t=[]:=by rw[ht];rfl
  refine ae ?_;by_cases h0:s=⟨#[]⟩
  ·subst h0;refine ae ?_;refine kG (Post:=[]) (.inr rfl) (.tmp Zr .nil) ⟨_,rfl,by rw[hb];rfl,rfl⟩ ZI
  ·rw[Zf h0,vO];have hs0:kB s≠[]:=fun e=>h0 (jU (by rw[e];rfl))
   refine ae ?_;refine kG (Post:=[]) (.inr rfl) (.tmp Zr .nil) ⟨_,rfl,by rw[hp,if_pos ⟨hb,hs0⟩];rfl,rfl⟩ ZI
 ·rw[Zf ht];have hb:kB t≠[]:=fun e=>ht (jU (by rw[e];rfl))
  refine ae ?_;refine kG (Post:=[]) (.inr rfl) (.tmp Zr .nil) ⟨_,rfl,by rw[hp,if_neg (fun h=>hb h.1)],rfl⟩ ZI
def wt(m:Bool)(l:List Nat):Prop:=l.length<=19/\zQ l<=(if m=true then 1152921504606846976 else 1152921504606846975)
def mh(m:Bool)(t:ByteArray)(v:Value):Prop:=
 (wt m (kB t)/\v=.agg #[cv 4,vi (if m=true then -(zQ (kB t):Int)else(zQ (kB t):Int)),uv 0,.string ⟨#[]⟩,Nz])∨
 (¬wt m (kB t)/\∃u,v=.agg #[cv 5,vi 0,uv 0,.string u,Nz]/\kB u=if m=true then 45::kB t else kB t)
theorem J3(A:List kC)(hE:nE A)(t:ByteArray)(h0:kB t≠[])(hd:(kB t).all wM=true)(hl:t.size<=255)(m:Bool):aw Tryz.prog 249 [.string t,.bool m] [A] (fun v Post=>mh m t v/\Post=[A]):=by
 refine aw.intro low249 (by simp[n249]) ?_;have hlen:=kV t;have hcat:zt .add (.string ⟨#[45]⟩) (.string t)=some (.string (⟨#[45]⟩++t)):=if_pos (by show 1+t.size<=9223372036854775807;omega);refine ae ?_;refine kO (fun b=>?_);refine ae ?_;by_cases h19:t.size<=19;rotate_left
 ·rw[Zf (show ¬(t.size:Int)<=19 by omega)];have AZ:¬wt m (kB t):=fun hs=>by have:=hs.1;omega
  cases m with
  |true=>
   exact zB3
  |false=>
   exact zBU
 rw[Zt (show(t.size:Int)<=19 by omega)];refine ae ?_;refine kH (gZ A hE t h0 hd h19) Zr ZP (fun v Post hv=>?_);rcases hv with⟨⟨hn,rfl⟩|⟨hn,z,ty,pp,rfl,hz⟩,rfl⟩
 ·simp only[aJ];obtain⟨N,hN⟩:∃N,zQ (kB t)=N:=⟨_,rfl⟩;rw[hN]at hn|-;have Wu:∀m,wt m (kB t)↔N<=(if m=true then 1152921504606846976 else 1152921504606846975):=fun m=>by
   unfold wt;rw[hN];exact⟨fun h=>h.2,fun h=>⟨Zo,h⟩⟩
  cases m with
  |true=>
   refine ae ?_;rw[show IntKind.i64.wrap (0 - (N:Int))=-(N:Int) by rw[Int.zero_sub];exact wrap64 ⟨Zo,Zo⟩];by_cases hs:N<=1152921504606846976
   ·have I7:wt true (kB t):=(Wu true).2 hs;rw[Zt (show(-1152921504606846976:Int)<=-(N:Int) by omega)];refine ae ?_;rw[Zt (show -(N:Int)<=1152921504606846975 by omega)];refine ae ?_;refine⟨.inr rfl,_,_,.aN (us:=[cv 4,vi (-(N:Int)),uv 0,.string ⟨#[]⟩,Nz]) Zr Zr HY .nil,ZI,.inl ⟨I7,by rw[hN];rfl⟩,rfl⟩
   ·have AZ:¬wt true (kB t):=fun h=>hs ((Wu true).1 h)
    rw[Zf (show ¬(-1152921504606846976:Int)<=-(N:Int) by omega)];exact zB3
  |false=>
   refine ae ?_;by_cases hs:N<=1152921504606846975
   ·have I7:wt false (kB t):=(Wu false).2 hs;rw[Zt (show(N:Int)<=1152921504606846975 by omega)];refine ae ?_;refine⟨.inr rfl,_,_,.aN (us:=[cv 4,vi (N:Int),uv 0,.string ⟨#[]⟩,Nz]) Zr Zr HY .nil,ZI,.inl ⟨I7,by rw[hN];rfl⟩,rfl⟩
   ·have AZ:¬wt false (kB t):=fun h=>hs ((Wu false).1 h)
    rw[Zf (show ¬(N:Int)<=1152921504606846975 by omega)];exact zBU
 ·simp only[aJ];have AZ:¬wt m (kB t):=fun hs=>by have:=hs.2;split at this <;> omega
  cases m with
  |true=>
   exact zB3
  |false=>
   exact zBU
def z9(l:List Nat):List Nat:=if l.head? =some 45 then l.tail else l
def zR(l:List Nat):Bool:=decide (l.head? =some 45)
def yN(l:List Nat):Bool:=decide (z9 l≠[])&&decide ((wG (z9 l)).length<=255)&&(z9 l).all wM
def Fa(s:ByteArray)(v:Value):Prop:=
 (yN (kB s)=false/\v=.tuple #[.agg #[cv 0,vi 0,uv 0,.string ⟨#[]⟩,Nz],vi 144])∨
 (yN (kB s)=true/\∃t u,kB t=wG (z9 (kB s))/\mh (zR (kB s)) t u/\v=.tuple #[u,vi 0])
theorem yX {l:List Nat}(h:l.all wM=true):(wG l).all wM=true:=by
 rw[nR];split
 ·rfl
 ·rw[ve]at h|-;intro x hx;exact h x ((List.dropWhile_sublist _).subset hx)
theorem CW {l:List Nat}(h:l≠[]):wG l≠[]:=by
 rw[nR];split
 ·simp
 ·rename_i h2;intro e;exact h2 ⟨e,h⟩
theorem DZ(A:List kC)(hE:nE A)(s:ByteArray)(hs:s.size<=140737488355328):aw Tryz.prog 227 [.string s] [A] (fun v Post=>Fa s v/\Post=[A]):=by
 refine aw.intro low227 (by simp[n227]) ?_;refine ae ?_;refine kO (fun b=>?_);refine ae ?_;refine kH (xx s hs) Zr ZP (fun v Post hv=>?_);obtain⟨d,rfl,hd,hds,rfl⟩:=hv;simp only[QS];have hdig:kB d=z9 (kB s):=hd;have hm:decide ((kB s).head? =some 45)=zR (kB s):=rfl;rw[hm];obtain⟨m,Ui⟩:∃m,zR (kB s)=m:=⟨_,rfl⟩;rw[Ui];refine ae ?_;refine kH (JC d Zo) Zr ZP (fun v Post hv=>?_);obtain⟨t,rfl,ht,rfl⟩:=hv;simp only[QS];have aS:=kV t;have hld:=kV d;have Ku:yN (kB s)=false->Fa s (.tuple #[.agg #[cv 0,vi 0,uv 0,.string ⟨#[]⟩,Nz],vi 144]):=fun h=>.inl ⟨h,rfl⟩
 have hg:yN (kB s)=(decide (kB d≠[])&&decide (t.size<=255)&&(kB d).all wM):=by
  unfold yN;rw[<- hdig,<- ht,aS]
 refine ae ?_;by_cases h0:d=⟨#[]⟩
 ·rw[Zt h0];have hb:yN (kB s)=false:=by rw[hg,h0];rfl
  exact zBV
 rw[Zf h0];have hd0:kB d≠[]:=fun e=>h0 (jU (by rw[e];rfl))
 refine ae ?_;by_cases sq:t.size<=255;rotate_left
 ·rw[Zt (show(t.size:Int) > 255 by omega)];have hb:yN (kB s)=false:=by rw[hg,Zf sq];simp
  exact zBV
 rw[Zf (show ¬(t.size:Int) > 255 by omega)];refine ae ?_;have bB:=Ai d Zo 0 Zo (.func (.func 197) #[] #[]) (fun _=>[]) (fun k=>wM ((kB d).getD k 0)) (fun k x _ hx=>dE.ck (by
  rw[Vh,hx];exact oV _ (zg d _ (Zv hx))))
 refine kH bB Zr ZP (fun v Post hv=>?_);obtain⟨e,j,rfl,e1,e2,e3,e4,rfl⟩:=hv;have au:=Kc (l:=kB d) (p:=wM) (e:=e) Zo (fun k hk=>e3 k Zo hk) (fun hk=>e4 Zo);simp only[QS];refine ae ?_;by_cases he:e=(kB d).length;rotate_left
 ·have hb:yN (kB s)=false:=by rw[hg,au,Zf he];simp
  rw[Zf (show ¬(e:Int)=(d.size:Int) by omega)];exact zBV
 rw[Zt (show(e:Int)=(d.size:Int) by omega)];rw[Zt he]at au;have hgt:yN (kB s)=true:=by rw[hg,au,Zt sq,Zt hd0];rfl
 refine ae ?_;refine kH (J3 A hE t (by rw[ht];exact CW hd0) (by rw[ht];exact yX au) sq m) Zr ZP (fun v Post hv=>?_);obtain⟨hw,rfl⟩:=hv;have fin:∀u,mh m t u->Fa s (.tuple #[u,vi 0]):=fun u hu=>.inr ⟨hgt,t,u,by rw[ht,hdig],by rw[Ui];exact hu,rfl⟩
 have eB:=fin _ hw;simp only[aJ];rcases hw with⟨_,rfl⟩|⟨_,u,rfl,_⟩
 ·generalize (if m=true then -(zQ (kB t):Int)else(zQ (kB t):Int))=z at eB|-;refine ae ?_;refine⟨.inr rfl,_,_,.aN (us:=[cv 4,vi z,uv 0,.string ⟨#[]⟩,Nz]) Zr Zr HY (.tmp Zr .nil),ZI,eB,rfl⟩
 ·refine ae ?_;refine⟨.inr rfl,_,_,.aN (us:=[cv 5,vi 0,uv 0,.string u,Nz]) Zr Zr HY (.tmp Zr .nil),ZI,eB,rfl⟩
theorem Mo(l:List Nat):mZ l=(decide (z9 l≠[])&&(z9 l).all wM&&decide (wG (z9 l)=z9 l)&&decide ((z9 l).length<=255)&&decide ((if zR l=true then 1152921504606846976 else 1152921504606846975) < zQ (z9 l))):=by
 unfold mZ;cases l with
 |nil=>rfl
 |cons a r=>
  by_cases ha:a=45
  ·subst ha;rfl
  ·have h1:z9 (a::r)=a::r:=by simp[z9,ha]
   have h2:zR (a::r)=false:=by simp[zR,ha]
   rw[h1,h2];split;rename_i d m h;split at h
   ·rename_i heq;cases heq;exact absurd rfl ha
   ·cases h;rfl
theorem tR {d:List Nat}{m:Bool}(h0:d≠[])(hd:d.all wM=true)(hp:wG d=d):wt m d↔¬(if m=true then 1152921504606846976 else 1152921504606846975) < zQ d:=by
 unfold wt;constructor
 ·intro h;have:=h.2;omega
 ·intro h;refine⟨?_,Zo⟩;apply Classical.byContradiction;intro hl;cases d with
  |nil=>exact h0 rfl
  |cons c r=>
   have hc:c≠48:=by
    intro e;subst e;cases r with
    |nil=>simp at hl
    |cons b q=>
     rw[nR]at hp;split at hp
     ·cases hp
     ·rw[List.dropWhile_cons_of_pos Zs]at hp;have h1:=(List.dropWhile_sublist (l:=b::q) (fun c=>decide (c=48))).length_le;rw[hp]at h1;simp at h1;omega
   have oA:=ve.1 hd c Zs;simp only[wM,vF,decide_eq_true_eq]at oA;have h1:=Xv r (0*10+(c - 48)) 0 pJ;have h2:zQ (c::r)=r.foldl (fun n c=>n*10+(c - 48)) (0*10+(c - 48)):=rfl;have h3:(10:Nat) ^ 19<=10 ^ (0+r.length):=Nat.pow_le_pow_right Zo (by simp at hl;omega);have h4:(10:Nat) ^ 19=10000000000000000000:=by decide
   rw[<- h2]at h1;split at h <;> omega
theorem M1(l:List Nat):(if zR l=true then 45::z9 l else z9 l)=l:=by
 cases l with
 |nil=>rfl
 |cons a r=>
  by_cases ha:a=45
  ·subst ha;rfl
  ·simp[zR,z9,ha]
theorem Fa.large {s:ByteArray}{v:Value}(h:Fa s v):∃(k:Nat) (n:Int) (t:ByteArray) (e:Nat),v=.tuple #[.agg #[cv k,vi n,uv 0,.string t,Nz],vi e]/\(e=0/\k=5/\t=s↔mZ (kB s)=true):=by
 have hq:=Mo (kB s);rcases h with⟨hg,rfl⟩|⟨hg,t,u,ht,hw,rfl⟩
 ·refine⟨0,0,_,144,rfl,⟨fun h=>by simp at h,fun h=>?_⟩⟩;rw[hq]at h;simp only[vF,decide_eq_true_eq]at h;unfold yN at hg;rw[h.1.1.2,Zt h.1.1.1.1,h.1.1.1.2,Zt h.1.2]at hg;cases hg
 ·simp only[yN,vF,decide_eq_true_eq]at hg;obtain⟨⟨g1,g2⟩,g3⟩:=hg;have Wt:=M1 (kB s);rcases hw with⟨hs,rfl⟩|⟨hs,u,rfl,hu⟩
  ·refine⟨4,_,_,0,rfl,⟨fun h=>by simp at h,fun h=>?_⟩⟩;rw[hq]at h;simp only[vF,decide_eq_true_eq]at h;rw[ht,h.1.1.2]at hs;exact absurd h.2 ((tR g1 g3 h.1.1.2).1 hs)
  ·refine⟨5,0,u,0,rfl,⟨fun h=>?_,fun h=>?_⟩⟩
   ·have hp:wG (z9 (kB s))=z9 (kB s):=by
     have h2:(if zR (kB s)=true then 45::wG (z9 (kB s))else wG (z9 (kB s)))=(if zR (kB s)=true then 45::z9 (kB s)else z9 (kB s)):=by
      rw[Wt,<- ht,<- hu,h.2.2]
     cases hm:zR (kB s)with
     |true=>rw[hm]at h2;simpa using h2
     |false=>rw[hm]at h2;simpa using h2
    rw[hq];rw[ht,hp,tR g1 g3 hp]at hs;simp only[vF,decide_eq_true_eq];rw[hp]at g2;exact⟨⟨⟨⟨g1,g3⟩,hp⟩,g2⟩,Classical.not_not.1 hs⟩
   ·rw[hq]at h;simp only[vF,decide_eq_true_eq]at h;refine⟨rfl,rfl,jU ?_⟩;rw[hu,ht,h.1.1.2,Wt]
def TT:Value:=.iface 262 (.agg #[vi 150])
def wZ:List PanicEntry:=[{v:=TT,recovered:=false}]
theorem jC(b:Bool):ji Tryz.prog 104 [.bool b] [] (fun v Post=>b=true/\v=.tuple #[]/\Post=[]) (fun ch Post=>b=false/\ch=wZ/\Post=[]):=by
 refine ji.intro low104 (by simp[n104]) ?_;cases b with
 |true=>
  refine ae ?_;exact jL (kG (Post:=[]) (.inl rfl) .nil ⟨by trivial,rfl,rfl⟩ ZI)
 |false=>
  refine ae ?_;refine S6 Zr ?_;exact⟨[],ao.nil,by trivial,rfl,rfl⟩
theorem free_spec(s:ByteArray)(hs:s.size<=140737488355328):aw Tryz.prog 168 [.string s] [] (fun v Post=>v=.bool (jO s)/\Post=[]):=by
 refine aw.intro low168 (by simp[n168]) ?_;have aL:∀t:ByteArray,kB t∈fO->s=t->jO s=false:=fun t ht e=>by
  subst e;have:fO.contains (kB s)=true:=vt.2 ht;unfold jO;rw[this];rfl
 refine ae ?_;by_cases h1:s=⟨#[115,101,108,102]⟩
 ·have hf:=aL _ Zd h1;rw[Zt h1];exact Uw
 rw[Zf h1];refine ae ?_;by_cases h2:s=⟨#[115,117,112,101,114]⟩
 ·have hf:=aL _ Zd h2;rw[Zt h2];exact Uw
 rw[Zf h2];refine ae ?_;by_cases h3:s=⟨#[110,105,108]⟩
 ·have hf:=aL _ Zd h3;rw[Zt h3];exact Uw
 rw[Zf h3];refine ae ?_;by_cases h4:s=⟨#[116,114,117,101]⟩
 ·have hf:=aL _ Zd h4;rw[Zt h4];exact Uw
 rw[Zf h4];refine ae ?_;by_cases h5:s=⟨#[102,97,108,115,101]⟩
 ·have hf:=aL _ Zd h5;rw[Zt h5];exact Uw
 rw[Zf h5];have dt:fO.contains (kB s)=false:=by
  exact zBF
 have hf:jO s=zn s:=by unfold jO;rw[dt];rfl
 refine ae ?_;refine kK (nN s hs) Zr ?_;exact Uw
theorem G0(s:ByteArray)(hs:s.size<=140737488355328):aw Tryz.prog 167 [.string s] [] (fun v Post=>v=.bool (!jO s)/\Post=[]):=by
 refine aw.intro low167 (by simp[n167]) ?_;refine ae ?_;refine kK (free_spec s hs) Zr ?_;exact zCG
theorem x7(B:List kC)(v:Value)(l:List ByteArray)(h:dG B v l):aw Tryz.prog 166 [v,.func (.func 167) #[] #[]] [B] (fun u Post=>u=.bool (!l.all jO)/\Post=[B]):=by
 obtain⟨a,c,rfl,hl,hr⟩:=h;have hi:aw Tryz.prog 201 [.slice a l.length c,.func (.func 167) #[] #[]] [B] (fun u Post=>(∃i:Int,u=vi i/\decide (0<=i)=!l.all jO)/\Post=[B]):=by
  refine aw.intro low201 (by simp[n201]) ?_;refine ae ?_;refine VC.loop (α:=Nat) (bi:=fun k=>[(0,.slice a l.length c),(1,.func (.func 167) #[] #[]),(7,vi l.length),(8,vi k)]) (Hf:=fun _=>[B]) (I:=fun k=>k<=l.length/\(l.take k).all jO=true) (μ:=fun k=>l.length - k) 0 ⟨Qv _,rfl⟩ ZU (ao.refl _) ?_
  rintro k ⟨i1,i2⟩
  refine ae ?_;by_cases hk:k < l.length;rotate_left
  ·rw[Zf (show ¬(k:Int) < (l.length:Int) by omega)];have:l.take k=l:=Qg Zo;rw[this]at i2;refine ae ?_;refine kG (Post:=[B]) (.inr rfl) (.tmp Zr .nil) ⟨⟨-1,rfl,by rw[i2];rfl⟩,rfl⟩ ZI
  rw[Zt (show(k:Int) < (l.length:Int) by omega)];have tx:l[k]? =some l[k]:=Zg hk;obtain⟨b,o,rfl,hm,eC⟩:=hr k _ tx;have ht:(l.take (k+1)).all jO=jO l[k]:=by
   rw[Qe,tx,List.all_append,i2];simp
  have bM:jO l[k]=false->l.all jO=false:=fun hf=>by
   rw[<- Qf (k+1) l,List.all_append,ht,hf,vK]
  generalize l[k]=t at*;have hfv:dE Tryz.prog (.func (.func 167) #[] #[]) [.string t] [] (fun v Post=>v=.bool (!jO t)/\Post=[]):=dE.ck (G0 t eC);refine ae ?_;refine dX Zr hfv Zr ZP (fun v Post hv=>?_);obtain⟨rfl,rfl⟩:=hv;simp only[QS];cases hf:jO t with
  |true=>
   refine ae ?_;exact⟨k+1,⟨Zo,by rw[ht,hf]⟩,Zo,ZU,ZI⟩
  |false=>
   refine ae ?_;refine kG (Post:=[B]) (.inr rfl) (.tmp Zr .nil) ⟨⟨k,rfl,by rw[bM hf];simp⟩,rfl⟩ ZI
 refine aw.intro low166 (by simp[n166]) ?_;refine ae ?_;refine kH hi Zr ZP (fun v Post hv=>?_);obtain⟨⟨i,rfl,h⟩,rfl⟩:=hv;simp only[aJ];refine ae ?_;refine kG (Post:=[B]) (.inr rfl) (.tmp Zr .nil) ⟨by rw[<- h];rfl,rfl⟩ ZI
end Go.Proofs.YtijnokbblmbpkaaGreatDoor
namespace Go.V
open Go
theorem Ma {w:World}{a b:kC}(ha:a.holds w)(hb:b.holds w)(h:a.loc=b.loc):a=b:=by
 cases a with
 |cell i k v=>
  cases b with
  |cell j l u=>
   simp only[kC.loc,X5,X4]at h;obtain⟨rfl,rfl⟩:=h;obtain⟨c,t,lo,hi,h1,h2,_⟩:=ha;obtain⟨c',t',CN,bQ,h3,h4,_⟩:=hb;rw[h1]at h3;cases h3;rw[h2]at h4;cases h4;rfl
  |obj j o=>simp[kC.loc]at h
  |row j n=>simp[kC.loc]at h
  |own j n=>
   simp only[kC.loc,X5,X4]at h;obtain⟨rfl,rfl⟩:=h;obtain⟨c,t,lo,hi,h1,h2,_⟩:=ha;obtain⟨c',t',CN,bQ,h3,h4,_⟩:=hb;rw[h1]at h3;cases h3;have:=(v8.1 h2).1;omega
 |own i n=>
  obtain⟨c,t,lo,hi,h1,h2,_⟩:=ha;cases b with
  |cell j l u=>
   simp only[kC.loc,X5,X4]at h;obtain⟨rfl,rfl⟩:=h;obtain⟨c',t',CN,bQ,h3,h4,_⟩:=hb;rw[h1]at h3;cases h3;have:=(v8.1 h4).1;omega
  |obj j p=>simp[kC.loc]at h
  |row j m=>simp[kC.loc]at h
  |own j m=>
   simp only[kC.loc,X5,X4]at h;obtain⟨rfl,rfl⟩:=h;rfl
 |row i n=>
  obtain⟨c,t,lo,hi,h1,h2⟩:=ha;cases b with
  |cell j l u=>simp[kC.loc]at h
  |obj j p=>
   simp only[kC.loc,X5,and_true]at h;subst h;have h3:=hb.1;rw[h1]at h3;cases h3;exact absurd hb.2 (by simp[wz])
  |row j m=>
   simp only[kC.loc,X5,and_true]at h;subst h;obtain⟨c',t',CN,bQ,h3,h4⟩:=hb;rw[h1]at h3;cases h3;rw[h2]at h4;rw[h4]
  |own j m=>simp[kC.loc]at h
 |obj i o=>
  cases b with
  |cell j l u=>simp[kC.loc]at h
  |obj j p=>
   simp only[kC.loc,X5,and_true]at h;subst h;have h1:=ha.1;rw[hb.1]at h1;cases h1;rfl
  |row j n=>
   simp only[kC.loc,X5,and_true]at h;subst h;obtain⟨c,t,lo,hi,h1,h2⟩:=hb;have h3:=ha.1;rw[h1]at h3;cases h3;exact absurd ha.2 (by simp[wz])
  |own j n=>simp[kC.loc]at h
theorem Hu {w:World}:∀L:List kC,(∀a∈L,a.holds w)->∃L',Sat w L'/\∀a∈L,a∈L':=by
 intro L
 induction L with
 |nil=>intro _;exact⟨[],⟨Zs,Zs⟩,Zs⟩
 |cons x L ih=>
  intro h;obtain⟨L',h1,h2⟩:=ih (fun a ha=>h a (by simp[ha]));by_cases hx:x.loc∈L'.map kC.loc
  ·obtain⟨y,hy,e⟩:=QM.1 hx;have:y=x:=Ma (h1.holds y hy) (h x Zs) e;subst this;refine⟨L',h1,fun a ha=>?_⟩;rcases QH.1 ha with rfl|ha
   ·exact hy
   ·exact h2 a ha
  ·refine⟨x::L',⟨fun a ha=>?_,by simp only[QC,QU];exact⟨hx,h1.nodup⟩⟩,fun a ha=>?_⟩
   ·rcases QH.1 ha with rfl|ha
    ·exact h a Zs
    ·exact h1.holds a ha
   ·rcases QH.1 ha with rfl|ha
    ·simp
    ·simp[h2 a ha]
def cL(w:World)(i:Nat):List kC:=match w.heap[i]? with
 |some (.cells c _ (lo,hi))=>.row i c.size::(if lo<=c.size/\c.size < hi then []else [.own i c.size])++(List.range c.size).filterMap fun j=>if lo<=j/\j < hi then none else(c[j]?).map fun v=>.cell i j v
 |some o=>[.obj i o]
 |none=>[]
theorem XY(w:World):∃L,Sat w L/\∀a:kC,a.holds w->a∈L:=by
 obtain⟨L,h1,h2⟩:=Hu (w:=w) ((List.range w.heap.size).flatMap (cL w)) (by
  intro a ha;obtain⟨i,_,ha⟩:=QL.1 ha;unfold cL at ha;split at ha
  ·rename_i c t lo hi hb;rcases QF.1 ha with ha|ha
   ·rcases QH.1 ha with rfl|ha
    ·exact⟨c,t,lo,hi,hb,rfl⟩
    ·split at ha
     ·cases ha
     ·rename_i hf;obtain rfl:=QR.1 ha;exact⟨c,t,lo,hi,hb,rfl,hf⟩
   obtain⟨j,_,hj⟩:=List.mem_filterMap.1 ha;split at hj
   ·cases hj
   ·rename_i hf;simp only[X0]at hj;obtain⟨v,hv,rfl⟩:=hj;exact⟨c,t,lo,hi,hb,hv,hf⟩
  ·rename_i o bZ hb;simp only[QR]at ha;subst ha;refine⟨hb,?_⟩;cases o <;> first|rfl|(rename_i c t fr;exact absurd rfl (bZ c t fr.1 fr.2))
  ·cases ha)
 refine⟨L,h1,fun a ha=>h2 a ?_⟩;cases a with
 |cell i k v=>
  obtain⟨c,t,lo,hi,hb,hv,hf⟩:=ha;have bQ:i < w.heap.size:=by
   exact zBZ
  refine QL.2 ⟨i,QO.2 bQ,?_⟩;unfold cL;rw[hb];refine QG _ (List.mem_filterMap.2 ⟨k,QO.2 (v8.1 hv).1,?_⟩);rw[if_neg hf,hv];rfl
 |own i n=>
  obtain⟨c,t,lo,hi,hb,rfl,hf⟩:=ha;have bQ:i < w.heap.size:=by
   exact zBZ
  refine QL.2 ⟨i,QO.2 bQ,?_⟩;unfold cL;rw[hb];refine Zw _ (QI _ ?_);rw[if_neg hf];exact QR.2 rfl
 |row i n=>
  obtain⟨c,t,lo,hi,hb,rfl⟩:=ha;have bQ:i < w.heap.size:=by
   exact zBZ
  refine QL.2 ⟨i,QO.2 bQ,?_⟩;unfold cL;rw[hb];exact Zw _ (QJ ..)
 |obj i o=>
  obtain⟨hb,hc⟩:=ha;have bQ:i < w.heap.size:=by
   exact zBZ
  refine QL.2 ⟨i,QO.2 bQ,?_⟩;unfold cL;rw[hb];cases o <;> first|(simp;done)|(simp[wz]at hc)
theorem Sh {w w':World}{L:List kC}(hL:∀a:kC,a.holds w->a∈L)(hs:Sat w' L)(hk:kg w w'):∀i,i < w.heap.size->w'.heap[i]? =w.heap[i]?:=by
 intro i hi;have hb:w.heap[i]? =some w.heap[i]:=v7 hi;generalize w.heap[i]=o at hb;rw[hb];by_cases hc:wz o=false
 ·exact(hs.holds _ (hL (.obj i o) ⟨hb,hc⟩)).1
 ·cases o <;> first|(exact absurd rfl hc)|skip
  rename_i c t fr;obtain⟨lo,L6⟩:=fr;obtain⟨c',h1,h2,h3⟩:=hk.cells i c t lo L6 hb;rw[h1]
  congr 2
  apply Array.ext h2;intro j hj1 hj2;by_cases hf:lo<=j/\j < L6
  ·have:=h3 j hf;rw[v7 hj1,v7 hj2]at this;exact X3 this
  ·obtain⟨c2,t2,lo2,hi3,g1,g2,_⟩:=hs.holds _ (hL (.cell i j c[j]) ⟨c,t,lo,L6,hb,v7 hj2,hf⟩);rw[h1]at g1;cases g1;rw[v7 hj1]at g2;exact X3 g2
end Go.V

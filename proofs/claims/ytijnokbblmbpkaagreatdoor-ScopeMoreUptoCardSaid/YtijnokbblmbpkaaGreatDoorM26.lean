/-
  The code of functions, as terms: printed by a program, proved to be what the seat has.
-/
import Derived.Test.YtijnokbblmbpkaaGreatDoorM9
import Derived.KernelRfl
import Derived.Test.YtijnokbblmbpkaaGreatDoorProg
import Derived.Test.YtijnokbblmbpkaaGreatDoorM10
import Derived.Test.YtijnokbblmbpkaaGreatDoorM11
import Derived.Test.YtijnokbblmbpkaaGreatDoorM7
import Derived.Test.YtijnokbblmbpkaaGreatDoorM22
set_option linter.all false
namespace Go.Proofs.YtijnokbblmbpkaaGreatDoor
open Go Go.V
set_option maxRecDepth 100000
def ZS:aQ:=laid (X:=⟨21,[.tmp 2],(qS [qz 2 false] [0] (qS [qm 3 0,qo 4 (.bin .eql (.tmp 3) (.const (.string ⟨#[115,101,108,102]⟩))),qm 5 4,qu 5 (qm 6 0),
 qu 5 (qo 7 (.bin .eql (.tmp 6) (.const (.string ⟨#[115,117,112,101,114]⟩)))),qr 8 5 7,qm 9 8,qu 9 (qm 10 0),
 qu 9 (qo 11 (.bin .eql (.tmp 10) (.const (.string ⟨#[110,105,108]⟩)))),qr 12 9 11,qm 13 12,qu 13 (qm 14 0),
 qu 13 (qo 15 (.bin .eql (.tmp 14) (.const (.string ⟨#[116,114,117,101]⟩)))),qr 16 13 15,qm 17 16,qu 17 (qm 18 0),
 qu 17 (qo 19 (.bin .eql (.tmp 18) (.const (.string ⟨#[102,97,108,115,101]⟩)))),qr 20 17 19,qm 2 20] [2] .ret))⟩)
theorem n132:ZS.n=21:=rfl
theorem low132:oq Tryz.prog (Zn ZS) (zK []) 132=some ZS:=by kernel_rfl
def ZT:aQ:=laid (X:=⟨16,[.tmp 2],(qS [qz 2 false] [0] (qS [qo 3 (.mv (.const (.string ⟨#[43,45,42,47,92,126,60,62,61,64,37,38,63,44,33]⟩)))] [0,3] (.seq (qS [qk 4 0] [0,3,4] (.block 0 (.loop (.seq (qS [qm 5 4,qm 6 3,qo 7 (.D3 (.tmp 6)),qb 8 .lss 5 7] [0,3,4,8] (qC 8 .skip (.exit 0))) (.seq (.block 1 (qS [qm 11 3,qm 12 4,qo 13 (.uA (.tmp 11) (.tmp 12)),qm 14 0,qb 15 .eql 13 14] [0,3,4,15] (qC 15 (qS [qz 2 true] [2] .ret) .skip))) (.lU [qm 9 4,qc 10 .add 9 1,qm 4 10] [0,3,4])))))) (qS [qz 2 false] [2] .ret))))⟩)
theorem n145:ZT.n=16:=rfl
theorem low145:oq Tryz.prog (Zn ZT) (zK []) 145=some ZT:=by kernel_rfl
def ZV:aQ:=laid (X:=⟨45,[.tmp 4],(qS [qk 4 0] [0,1] (.seq (qS [qm 6 0,qm 7 1,qo 8 (.uA (.tmp 6) (.tmp 7)),qo 9 (.bin .eql (.tmp 8) (.const (.int .u8 124)))] [0,1,9] (qC 9 (qS [qm 10 1,qc 11 .add 10 1,qm 4 11] [4] .ret) .skip)) (qS [qm 12 1,qm 5 12] [0,1,5] (.seq (.block 0 (.loop (.seq (qS [qm 13 5,qm 14 0,qo 15 (.D3 (.tmp 14)),qb 16 .lss 13 15,qm 17 16,qt 17 (qm 18 0),qt 17 (qm 19 5),
 qt 17 (qo 20 (.uA (.tmp 18) (.tmp 19))),qt 17 (qx 21 145 [20]),qa 22 17 21,qm 23 22,qt 23 (qm 24 5),qt 23 (qm 25 1),qt 23 (qb 26 .gtr 24 25),
 qt 23 (qm 27 26),qt 27 (qm 28 0),qt 27 (qm 29 5),qt 27 (qo 30 (.uA (.tmp 28) (.tmp 29))),
 qt 27 (qo 31 (.bin .eql (.tmp 30) (.const (.int .u8 45)))),qt 23 (qa 32 27 31),qt 23 (qm 33 32),qt 33 (qm 34 0),qt 33 (qm 35 5),
 qt 33 (qc 36 .add 35 1),qt 33 (qx 37 183 [34,36]),qt 33 (qx 38 182 [37]),qt 23 (qa 39 33 38),qt 23 (qo 40 (.un .not (.tmp 39))),qa 41 23 40] [0,1,5,41] (qC 41 .skip (.exit 0))) (.block 1 (.lU [qm 42 5,qc 43 .add 42 1,qm 5 43] [0,1,5]))))) (qS [qm 44 5,qm 4 44] [4] .ret)))))⟩)
theorem n146:ZV.n=45:=rfl
theorem low146:oq Tryz.prog (Zn ZV) (zK []) 146=some ZV:=by kernel_rfl
def ZW:aQ:=laid (X:=⟨21,[.tmp 2],(qS [qz 2 false] [0] (qS [qm 3 0,qo 4 (.bin .geq (.tmp 3) (.const (.int .u8 97))),qm 5 4,qt 5 (qm 6 0),
 qt 5 (qo 7 (.bin .leq (.tmp 6) (.const (.int .u8 122)))),qa 8 5 7,qm 9 8,qu 9 (qm 10 0),
 qu 9 (qo 11 (.bin .geq (.tmp 10) (.const (.int .u8 65)))),qu 9 (qm 12 11),qt 12 (qm 13 0),
 qt 12 (qo 14 (.bin .leq (.tmp 13) (.const (.int .u8 90)))),qu 9 (qa 15 12 14),qr 16 9 15,qm 17 16,qu 17 (qm 18 0),
 qu 17 (qo 19 (.bin .eql (.tmp 18) (.const (.int .u8 95)))),qr 20 17 19,qm 2 20] [2] .ret))⟩)
theorem n180:ZW.n=21:=rfl
theorem low180:oq Tryz.prog (Zn ZW) (zK []) 180=some ZW:=by kernel_rfl
def ZX:aQ:=laid (X:=⟨18,[.tmp 4],(qS [qk 4 0] [0,1] (.seq (.block 0 (.loop (.seq (qS [qm 5 1,qm 6 0,qo 7 (.D3 (.tmp 6)),qb 8 .lss 5 7,qm 9 8,qt 9 (qm 10 0),qt 9 (qm 11 1),qt 9 (qo 12 (.uA (.tmp 10) (.tmp 11))),
 qt 9 (qx 13 216 [12]),qa 14 9 13] [0,1,14] (qC 14 .skip (.exit 0))) (.block 1 (.lU [qm 15 1,qc 16 .add 15 1,qm 1 16] [0,1]))))) (qS [qm 17 1,qm 4 17] [4] .ret)))⟩)
theorem n181:ZX.n=18:=rfl
theorem low181:oq Tryz.prog (Zn ZX) (zK []) 181=some ZX:=by kernel_rfl
def ZY:aQ:=laid (X:=⟨9,[.tmp 2],(qS [qz 2 false] [0] (qS [qm 3 0,qo 4 (.bin .geq (.tmp 3) (.const (.int .u8 48))),qm 5 4,qt 5 (qm 6 0),
 qt 5 (qo 7 (.bin .leq (.tmp 6) (.const (.int .u8 57)))),qa 8 5 7,qm 2 8] [2] .ret))⟩)
theorem n182:ZY.n=9:=rfl
theorem low182:oq Tryz.prog (Zn ZY) (zK []) 182=some ZY:=by kernel_rfl
def Z0:aQ:=laid (X:=⟨12,[.tmp 4],(qS [qo 4 (.mv (.const (.int .u8 0)))] [0,1] (.seq (qS [qm 5 1,qm 6 0,qo 7 (.D3 (.tmp 6)),qb 8 .lss 5 7] [0,1,8] (qC 8 (qS [qm 9 0,qm 10 1,qo 11 (.uA (.tmp 9) (.tmp 10)),qm 4 11] [4] .ret) .skip)) (qS [qo 4 (.mv (.const (.int .u8 0)))] [4] .ret)))⟩)
theorem n183:Z0.n=12:=rfl
theorem low183:oq Tryz.prog (Zn Z0) (zK []) 183=some Z0:=by kernel_rfl
def Z1:aQ:=laid (X:=⟨9,[.tmp 2],(qS [qz 2 false] [0] (qS [qm 3 0,qx 4 180 [3],qm 5 4,qu 5 (qm 6 0),qu 5 (qx 7 182 [6]),qr 8 5 7,qm 2 8] [2] .ret))⟩)
theorem n216:Z1.n=9:=rfl
theorem low216:oq Tryz.prog (Zn Z1) (zK []) 216=some Z1:=by kernel_rfl
noncomputable def F85:aQ:=bb (o:=gF pq Tryz.f85 [])
theorem n85:F85.n=28:=rfl
theorem low85:aY Tryz.prog 85 []=some F85:=by kernel_rfl
noncomputable def F144:aQ:=bb (o:=gF pq Tryz.f144 [])
theorem n144:F144.n=23:=rfl
theorem low144:aY Tryz.prog 144 []=some F144:=by kernel_rfl
noncomputable def F147:aQ:=bb (o:=gF pq Tryz.f147 [])
theorem n147:F147.n=32:=rfl
theorem low147:aY Tryz.prog 147 []=some F147:=by kernel_rfl
noncomputable def F243:aQ:=bb (o:=gF pq Tryz.f243 [])
theorem n243:F243.n=38:=rfl
theorem low243:aY Tryz.prog 243 []=some F243:=by kernel_rfl
noncomputable def F259:aQ:=bb (o:=gF pq Tryz.f259 [])
theorem n259:F259.n=14:=rfl
theorem low259:aY Tryz.prog 259 []=some F259:=by kernel_rfl
noncomputable def F260:aQ:=bb (o:=gF pq Tryz.f260 [])
theorem n260:F260.n=30:=rfl
theorem low260:aY Tryz.prog 260 []=some F260:=by kernel_rfl
noncomputable def F279:aQ:=bb (o:=gF pq Tryz.f279 [])
theorem n279:F279.n=22:=rfl
theorem low279:aY Tryz.prog 279 []=some F279:=by kernel_rfl
noncomputable def F86:aQ:=bb (o:=gF pq Tryz.f86 [])
theorem n86:F86.n=18:=rfl
theorem low86:aY Tryz.prog 86 []=some F86:=by kernel_rfl
noncomputable def F148:aQ:=bb (o:=gF pq Tryz.f148 [])
theorem n148:F148.n=14:=rfl
theorem low148:aY Tryz.prog 148 []=some F148:=by kernel_rfl
set_option maxHeartbeats 3200000
theorem fu {s:ByteArray}{j c:Nat}(h:(kB s)[j]? =some c):(kB s).drop j=c::(kB s).drop (j+1):=by
 obtain⟨h1,h2⟩:=Vt.1 h;rw[vw h1,h2]
theorem Cj {s:ByteArray}{j:Nat}(h:s.size<=j):(kB s).drop j=[]:=vx (by rw[kV];exact h)
theorem qw(c:Nat)(hc:c < 256):aw Tryz.prog 180 [cv c] [] (fun v Post=>v=.bool (A8 c)/\Post=[]):=by
 refine aw.intro low180 (by simp[n180]) ?_
 (repeat' (first|refine Uy ?_|refine rp Zr (fun _=>?_) (fun _=>?_)|refine ry Zr (fun _=>?_) (fun _=>?_)|refine VC.re Zr (fun _=>?_) (fun _=>?_)|refine VC.cond Zr (fun _=>?_) (fun _=>?_)))
 all_goals refine⟨.inr rfl,_,_,.tmp Zr .nil,ZI,?_,rfl⟩
 all_goals (simp only[bH,A8,Value.bool.injEq,decide_eq_true_eq,decide_eq_false_iff_not]at*)
 all_goals (rw[vJ];simp only[vR,vF,vN,decide_eq_true_eq,decide_eq_false_iff_not,true_iff,iff_true,reduceCtorEq,false_iff,iff_false];omega)
theorem mq(c:Nat)(hc:c < 256):aw Tryz.prog 182 [cv c] [] (fun v Post=>v=.bool (wM c)/\Post=[]):=by
 refine aw.intro low182 (by simp[n182]) ?_
 (repeat' (first|refine Uy ?_|refine rp Zr (fun _=>?_) (fun _=>?_)|refine ry Zr (fun _=>?_) (fun _=>?_)|refine VC.re Zr (fun _=>?_) (fun _=>?_)|refine VC.cond Zr (fun _=>?_) (fun _=>?_)))
 all_goals refine⟨.inr rfl,_,_,.tmp Zr .nil,ZI,?_,rfl⟩
 all_goals (simp only[bH,wM,Value.bool.injEq,decide_eq_true_eq,decide_eq_false_iff_not]at*)
 all_goals (rw[vJ];simp only[vR,vF,vN,decide_eq_true_eq,decide_eq_false_iff_not,true_iff,iff_true,reduceCtorEq,false_iff,iff_false];omega)
theorem Gz(c:Nat)(hc:c < 256):aw Tryz.prog 216 [cv c] [] (fun v Post=>v=.bool (om c)/\Post=[]):=by
 refine aw.intro low216 (by simp[n216]) ?_;refine ae ?_;refine kK (qw c hc) Zr ?_;cases hl:A8 c with
 |true=>
  exact zCB
 |false=>
  refine ae ?_;refine kK (mq c hc) Zr ?_;exact zCB
theorem xl(s:ByteArray)(hs:s.size<=140737488355328)(k:Nat):aw Tryz.prog 183 [.string s,vi k] [] (fun v Post=>v=cv ((kB s).getD k 0)/\Post=[]):=by
 refine aw.intro low183 (by simp[n183]) ?_;exact zB0
def Cb:ByteArray:=⟨#[43,45,42,47,92,126,60,62,61,64,37,38,63,44,33]⟩
theorem Kf(c:Nat):cA c=(kB Cb).contains c:=rfl
theorem pR(c:Nat)(hc:c < 256):aw Tryz.prog 145 [cv c] [] (fun v Post=>v=.bool (cA c)/\Post=[]):=by
 refine aw.intro low145 (by simp[n145]) ?_;have hlen:=kV Cb;have eC:Cb.size=15:=rfl;refine ae ?_;refine VC.loop (α:=Nat) (bi:=fun k=>[(0,cv c),(3,.string Cb),(4,vi k)]) (Hf:=fun _=>[]) (I:=fun k=>k<=15/\∀i,i < k->(kB Cb)[i]?≠some c) (μ:=fun k=>15 - k) 0 ⟨Qv _,fun i h=>by omega⟩ ZU ao.nil ?_
 rintro k ⟨i1,i2⟩
 generalize hB:Cb=B at*;refine ae ?_;by_cases hk:k < 15;rotate_left
 ·rw[Zf Zo];refine ae ?_;refine⟨.inr rfl,_,_,.tmp Zr .nil,ZI,?_,rfl⟩;have:cA c=false:=by
   rw[Kf,hB,vI];intro h;obtain⟨i,hi⟩:=Vv (vt.1 h);have hl:=(Vt.1 hi).1;exact i2 i Zo hi
  simp[bH,this]
 rw[Zt Zo];obtain⟨d,hd,Gi⟩:=w7 (s:=B) (i:=k) Zo;refine ae ?_;refine wF Zr Zr (j:=k) rfl hd ?_;refine ae ?_;by_cases he:d.toNat=c
 ·rw[show decide ((d.toNat:Int)=(c:Int))=true from Zt Zo];refine ae ?_;refine⟨.inr rfl,_,_,.tmp Zr .nil,ZI,?_,rfl⟩;have:cA c=true:=by
   rw[Kf,hB];exact vt.2 (Zv (i:=k) (by rw[Gi,he]))
  simp[bH,this]
 ·rw[show decide ((d.toNat:Int)=(c:Int))=false from Zf Zo];refine ae ?_;refine⟨k+1,⟨Zo,fun i hi=>?_⟩,Zo,ZU,ao.nil⟩;by_cases e:i=k
  ·subst e;rw[Gi];simpa using he
  ·exact i2 i Zo
def wn(l:List Nat):Nat:=(l.takeWhile om).length
theorem Ty(l:List Nat):wn l<=l.length:=(List.takeWhile_sublist _).length_le
theorem Dm(s:ByteArray)(hs:s.size<=140737488355328)(i:Nat)(hi:i<=s.size):aw Tryz.prog 181 [.string s,vi i] [] (fun v Post=>v=vi (i+wn ((kB s).drop i):Nat)/\Post=[]):=by
 refine aw.intro low181 (by simp[n181]) ?_;refine ae ?_;refine VC.loop (α:=Nat) (bi:=fun k=>[(0,.string s),(1,vi k)]) (Hf:=fun _=>[]) (I:=fun k=>k<=s.size/\k+wn ((kB s).drop k)=i+wn ((kB s).drop i)) (μ:=fun k=>s.size - k) i ⟨hi,rfl⟩ ZU ao.nil ?_
 rintro k ⟨i1,i2⟩
 refine ae ?_;by_cases hk:k < s.size;rotate_left
 ·rw[Zf Zo];rw[Cj Zo]at i2;refine ae ?_;refine⟨.inr rfl,_,_,.tmp Zr .nil,ZI,?_,rfl⟩;rw[<- i2];rfl
 rw[Zt Zo];obtain⟨c,hc,oA⟩:=w7 hk;refine ae ?_;refine wF Zr Zr (j:=k) rfl hc ?_;refine ae ?_;refine kK (Gz _ (zg s _ (Zv oA))) Zr ?_;rw[fu oA]at i2;cases hb:om c.toNat with
 |false=>
  refine ae ?_;refine⟨.inr rfl,_,_,.tmp Zr .nil,ZI,?_,rfl⟩;rw[<- i2];simp[bH,wn,hb]
 |true=>
  refine ae ?_;refine⟨k+1,⟨Zo,?_⟩,Zo,ZU,ao.nil⟩;rw[<- i2];simp[wn,hb];omega
theorem MX {l:List Nat}{k c:Nat}(h:l[k]? =some c):Bo fK (l.drop k)=if(cA c&&(decide (c≠45)||!wM (l.getD (k+1) 0)))=true then 1+Bo fK (l.drop (k+1))else 0:=by
 rw[<- tP h];obtain⟨h1,h2⟩:=Vt.1 h;rw[vw h1];rfl
theorem JP(s:ByteArray)(hs:s.size<=140737488355328)(i:Nat)(hi:i < s.size):aw Tryz.prog 146 [.string s,vi i] [] (fun v Post=>v=vi (i+ew ((kB s).drop i):Nat)/\Post=[]):=by
 refine aw.intro low146 (by simp[n146]) ?_;have hlen:=kV s;obtain⟨c0,hc0,hc02⟩:=w7 hi;have hd0:=fu hc02;refine ae ?_;refine wF Zr Zr (j:=i) rfl hc0 ?_;refine ae ?_;by_cases h0:c0.toNat=124
 ·rw[show decide ((c0.toNat:Int)=124)=true from Zt Zo];refine ae ?_;refine⟨.inr rfl,_,_,.tmp Zr .nil,ZI,?_,rfl⟩;rw[hd0];simp[bH,ew,h0]
 rw[show decide ((c0.toNat:Int)=124)=false from Zf Zo];have bD:ew ((kB s).drop i)=if cA c0.toNat=true then 1+Bo fK ((kB s).drop (i+1))else 0:=by
  rw[hd0];simp only[ew,if_neg h0]
 refine ae ?_;refine VC.loop (α:=Nat) (bi:=fun k=>[(0,.string s),(1,vi i),(5,vi k)]) (Hf:=fun _=>[]) (I:=fun k=>k<=s.size/\(k=i∨(i < k/\k+Bo fK ((kB s).drop k)=i+ew ((kB s).drop i)))) (μ:=fun k=>s.size - k) i ⟨Zo,.inl rfl⟩ ZU ao.nil ?_
 rintro k ⟨i1,i2⟩
 refine ae ?_;by_cases hk:k < s.size;rotate_left
 ·rw[Zf Zo];rcases i2 with rfl|⟨i2,i3⟩
  ·omega
  exact zEK
 rw[Zt Zo];obtain⟨c,hc,oA⟩:=w7 hk;refine ae ?_;refine wF Zr Zr (j:=k) rfl hc ?_;refine ae ?_;refine kK (pR _ (zg s _ (Zv oA))) Zr ?_;have bB:=MX oA;have hi0:k=i->c=c0:=fun e=>by subst e;rw[hc0]at hc;cases hc;rfl
 cases hb:cA c.toNat with
 |false=>
  refine ae ?_;refine⟨.inr rfl,_,_,.tmp Zr .nil,ZI,?_,rfl⟩;rcases i2 with rfl|⟨i2,i3⟩
  ·rw[bD,<- hi0 rfl,hb];rfl
  ·rw[<- i3,bB,hb];rfl
 |true=>
  rw[hb,vU]at bB;refine ae ?_;rcases i2 with rfl|⟨i2,i3⟩
  ·rw[show decide ((k:Int) > (k:Int))=false from Zf Zo];refine ae ?_;refine⟨k+1,⟨Zo,.inr ⟨Zo,?_⟩⟩,Zo,ZU,ao.nil⟩;rw[bD,<- hi0 rfl,hb];simp only[if_true];omega
  rw[show decide ((k:Int) > (i:Int))=true from Zt Zo];refine ae ?_;refine wF Zr Zr (j:=k) rfl hc ?_;refine ae ?_;by_cases Nw:c.toNat=45;rotate_left
  ·rw[show decide ((c.toNat:Int)=45)=false from Zf Zo];refine ae ?_;refine⟨k+1,⟨Zo,.inr ⟨Zo,?_⟩⟩,Zo,ZU,ao.nil⟩;rw[<- i3,bB];simp[Nw];omega
  rw[show decide ((c.toNat:Int)=45)=true from Zt Zo];refine ae ?_;refine kK (xl s hs (k+1)) Zr ?_;refine ae ?_;refine kK (mq ((kB s).getD (k+1) 0) (by
   rw[Vh];cases h:(kB s)[k+1]? with
   |none=>decide
   |some x=>exact zg s _ (Zv h))) Zr ?_
  generalize (kB s).getD (k+1) 0=d at bB|-;cases IW:wM d with
  |true=>
   refine ae ?_;refine⟨.inr rfl,_,_,.tmp Zr .nil,ZI,?_,rfl⟩;rw[<- i3,bB];simp[bH,Nw,IW]
  |false=>
   refine ae ?_;refine⟨k+1,⟨Zo,.inr ⟨Zo,?_⟩⟩,Zo,ZU,ao.nil⟩;rw[<- i3,bB];simp[IW];omega
theorem No(l:List Nat):l.all om=decide (wn l=l.length):=by
 induction l with
 |nil=>rfl
 |cons c r ih=>
  simp only[vd,wn,List.takeWhile_cons];cases hc:om c with
  |false=>simp
  |true=>
   simp only[vU,if_true,Vz,ih,wn,Nat.add_right_cancel_iff];exact decide_eq_decide.2 Iff.rfl
theorem lx(s:ByteArray)(hs:s.size<=140737488355328):aw Tryz.prog 144 [.string s] [] (fun v Post=>v=.bool (zn s)/\Post=[]):=by
 refine aw.intro low144 (by simp[n144]) ?_;have hlen:=kV s;unfold zn gp;refine ae ?_;by_cases h0:s=⟨#[]⟩
 ·subst h0;exact zCA
 obtain⟨c,r,hc,hr,tw,iv⟩:=dH h0;rw[Zt (show(s.size:Int) > 0 by omega)];refine ae ?_;by_cases h40:s.size<=40;rotate_left
 ·exact zCY
 rw[Zt Zo];refine ae ?_;refine wF Zr Zr (j:=0) rfl hc ?_;refine ae ?_;refine kK (qw _ tw) Zr ?_;cases hl:A8 c.toNat with
 |false=>
  refine ae ?_;refine⟨.inr rfl,_,_,.tmp Zr .nil,ZI,?_,rfl⟩;simp[bH,hr,hl]
 |true=>
  have hw:=Dm s hs 0 Zo;rw[vy,Qu]at hw;refine ae ?_;refine kK hw Zr ?_;refine ae ?_;refine⟨.inr rfl,_,_,.tmp Zr .nil,ZI,?_,rfl⟩;have h2:(c.toNat::r).length<=40:=by rw[<- hr];omega
  have au:=No (kB s);exact zBX
def CI:List Nat->List Nat->Bool
 |_,[]=>false
 |[],_::_=>true
 |a::x,b::y=>decide (a < b)||(decide (a=b)&&CI x y)
theorem Jk:∀(a b:List UInt8),Op.bytesLess a b=CI (a.map UInt8.toNat) (b.map UInt8.toNat):=by
 intro a
 induction a with
 |nil=>intro b;cases b <;> rfl
 |cons x a ih=>
  intro b;cases b with
  |nil=>rfl
  |cons y b=>
   have e1:decide (x < y)=decide (x.toNat < y.toNat):=decide_eq_decide.2 UInt8.lt_iff_toNat_lt;have e2:(x==y)=decide (x.toNat=y.toNat):=by
    rw[vJ,beq_iff_eq,decide_eq_true_eq];exact UInt8.toNat_inj.symm
   simp only[Op.bytesLess,QC,CI,ih,e1,e2]
def po(m:Nat)(l:List Nat):Nat:=l.foldl (fun n c=>n*10+(c - 48)) m
theorem nQ(m c:Nat)(l:List Nat):po m (c::l)=po (m*10+(c - 48)) l:=by unfold po;exact Vg ..
theorem R9(l:List Nat):zQ l=po 0 l:=by unfold po zQ;exact Eq.refl _
theorem Ko:∀(a b:List Nat) (m n:Nat),a.length=b.length->a.all wM=true->m < n->po m a < po n b:=by
 intro a
 induction a with
 |nil=>intro b m n h _ hm;cases b with
  |nil=>exact hm
  |cons=>cases h
 |cons c a ih=>
  intro b m n h hd hm;cases b with
  |nil=>cases h
  |cons d b=>
   simp only[vd,vF]at hd;have hc:=hd.1;simp only[wM,vF,decide_eq_true_eq]at hc;rw[nQ,nQ];exact ih b _ _ (by simpa using h) hd.2 Zo
theorem Re:∀(a b:List Nat) (m:Nat),a.length=b.length->a.all wM=true->b.all wM=true->CI a b=decide (po m a < po m b)/\(po m a=po m b->a=b):=by
 intro a
 induction a with
 |nil=>intro b m h _ _;cases b with
  |nil=>simp[CI]
  |cons=>cases h
 |cons c a ih=>
  intro b m h hd Gi;cases b with
  |nil=>cases h
  |cons d b=>
   simp only[vd,vF]at hd Gi;have hc:=hd.1;have IW:=Gi.1;simp only[wM,vF,decide_eq_true_eq]at hc IW;have hl:a.length=b.length:=by simpa using h
   rw[nQ,nQ];simp only[CI];rcases Nat.lt_trichotomy c d with h1|h1|h1
   ·have:=Ko a b (m*10+(c - 48)) (m*10+(d - 48)) hl hd.2 Zo;rw[Zt h1,Zt this];exact⟨rfl,fun e=>by omega⟩
   ·subst h1;obtain⟨i1,i2⟩:=ih b (m*10+(c - 48)) hl hd.2 Gi.2;rw[i1];exact⟨Zs,fun e=>by rw[i2 e]⟩
   ·have:=Ko b a (m*10+(d - 48)) (m*10+(c - 48)) hl.symm Gi.2 Zo;rw[Zf (show ¬c < d by omega),Zf (show ¬c=d by omega),Zf (show ¬po (m*10+(c - 48)) a < po (m*10+(d - 48)) b by omega)];exact⟨rfl,fun e=>by omega⟩
theorem UZ(s t:ByteArray)(hl:s.size=t.size)(hs:(kB s).all wM=true)(ht:(kB t).all wM=true):(!(Op.bytesLess s.toList t.toList||decide (s=t)))=decide (zQ (kB t) < zQ (kB s)):=by
 obtain⟨h1,h2⟩:=Re (kB s) (kB t) 0 (by rw[kV,kV,hl]) hs ht;rw[Jk,Lib.toList_data,Lib.toList_data,show s.data.toList.map UInt8.toNat=kB s from rfl,show t.data.toList.map UInt8.toNat=kB t from rfl,h1,R9,R9];by_cases e:s=t
 ·subst e;simp
 ·have bZ:po 0 (kB s)≠po 0 (kB t):=fun h=>e (jU (h2 h))
  simp only[e,decide_false,vT]
  (rw[vJ];simp only[vR,vF,vN,decide_eq_true_eq,decide_eq_false_iff_not,true_iff,iff_true,reduceCtorEq,false_iff,iff_false];omega)
def qI(m:Bool):ByteArray:=if m then⟨#[49,49,53,50,57,50,49,53,48,52,54,48,54,56,52,54,57,55,54]⟩else⟨#[49,49,53,50,57,50,49,53,48,52,54,48,54,56,52,54,57,55,53]⟩
theorem CQ(m:Bool):(qI m).size=19/\(kB (qI m)).all wM=true/\zQ (kB (qI m))=if m=true then 1152921504606846976 else 1152921504606846975:=by cases m <;> decide
theorem GL(s t:ByteArray)(hs:s.size<=140737488355328)(ht:t.size<=140737488355328)(hds:(kB s).all wM=true)(hdt:(kB t).all wM=true):
 aw Tryz.prog 279 [.string s,.string t] [] (fun v Post=>v=.bool (decide (t.size < s.size∨(s.size=t.size/\zQ (kB t) < zQ (kB s))))/\Post=[]):=by
 refine aw.intro low279 (by simp[n279]) ?_;refine ae ?_;by_cases h1:t.size < s.size
 ·rw[show decide ((s.size:Int) > (t.size:Int))=true from Zt Zo];refine ae ?_;refine⟨.inr rfl,_,_,.tmp Zr .nil,ZI,?_,rfl⟩;simp[bH,h1]
 rw[show decide ((s.size:Int) > (t.size:Int))=false from Zf Zo];refine ae ?_;by_cases h2:s.size=t.size;rotate_left
 ·rw[show decide ((s.size:Int)=(t.size:Int))=false from Zf Zo];refine ae ?_;refine⟨.inr rfl,_,_,.tmp Zr .nil,ZI,?_,rfl⟩;simp[bH,h1,h2]
 rw[show decide ((s.size:Int)=(t.size:Int))=true from Zt Zo];refine ae ?_;have hg:=UZ s t h2 hds hdt;refine⟨.inr rfl,_,_,.tmp Zr .nil,ZI,?_,rfl⟩;simp only[bH,hg];simp[h1,h2]
theorem Hb(s:ByteArray)(hs:s.size<=140737488355328):aw Tryz.prog 259 [.string s] [] (fun v Post=>∃t,v=.string t/\kB t=wG (kB s)/\t.size<=s.size/\Post=[]):=by
 refine aw.intro low259 (by simp[n259]) ?_;refine ae ?_;refine VC.loop (α:=ByteArray) (bi:=fun t=>[(0,.string t)]) (Hf:=fun _=>[]) (I:=fun t=>t.size<=s.size/\wG (kB t)=wG (kB s)) (μ:=fun t=>t.size) s ⟨Qn _,rfl⟩ ZU ao.nil ?_
 rintro t ⟨i1,i2⟩
 have hlen:=kV t;refine ae ?_;have stop:wG (kB t)=kB t->∃u,Value.string t=.string u/\kB u=wG (kB s)/\u.size<=s.size/\([]:SH)=[]:=fun h=>⟨t,rfl,by rw[<- i2,h],i1,rfl⟩
 by_cases h1:1 < t.size;rotate_left
 ·rw[show decide ((t.size:Int) > 1)=false from Zf Zo];have l7:=stop (by
   match h:kB t with
   |[]=>rfl
   |[c]=>rw[wG.eq_2];intro c' r h';simp at h'
   |c::d::r=>rw[h]at hlen;simp at hlen;omega)
  refine ae ?_;exact kG (Post:=[]) (.inr rfl) (.tmp Zr .nil) l7 ao.nil
 rw[show decide ((t.size:Int) > 1)=true from Zt Zo];obtain⟨c,hc,oA⟩:=w7 (s:=t) (i:=0) Zo;obtain⟨d,hd,Gi⟩:=w7 (s:=t) (i:=1) Zo;have L2:kB t=c.toNat::d.toNat::(kB t).drop 2:=by
  rw[<- fu Gi,<- fu oA];rfl
 refine ae ?_;refine wF Zr Zr (j:=0) rfl hc ?_;refine ae ?_;by_cases h48:c.toNat=48;rotate_left
 ·rw[show decide ((c.toNat:Int)=48)=false from Zf Zo];have l7:=stop (by
   rw[L2,wG.eq_2];intro c' r h';simp at h';exact h48 h'.1)
  refine ae ?_;exact kG (Post:=[]) (.inr rfl) (.tmp Zr .nil) l7 ao.nil
 rw[show decide ((c.toNat:Int)=48)=true from Zt Zo];refine ae ?_;refine dC (l:=1) (h:=t.size) Zr (.num Zr) .T3 ⟨Zo,Zo⟩ ?_;refine ae ?_;refine⟨t.extract 1 t.size,⟨by rw[ByteArray.size_extract];omega,?_⟩,by rw[ByteArray.size_extract];omega,ZU,ao.nil⟩;rw[<- i2,jb,L2,h48];rw[show(48::d.toNat::(kB t).drop 2).take t.size=48::d.toNat::(kB t).drop 2 from Qg (by
  have:=congrArg List.length L2;rw[hlen]at this;simp at this|-;omega)]
 rfl
set_option maxHeartbeats 800000
theorem Bq {t:ByteArray}(m:Bool)(hd:(kB t).all wM=true):((qI m).size < t.size∨(t.size=(qI m).size/\zQ (kB (qI m)) < zQ (kB t)))↔¬wt m (kB t):=by
 obtain⟨h1,_,h3⟩:=CQ m;have hlen:=kV t;have aS:=Xw (kB t) 0 0 (fun c hc=>ve.1 hd c hc) Zd;rw[show(kB t).foldl (fun n c=>n*10+(c - 48)) 0=zQ (kB t) by simp only[zQ]]at aS;rw[h1,h3];unfold wt;rw[hlen,Qu]at*;by_cases hs:t.size < 19
 ·have h4:(10:Nat) ^ t.size<=10 ^ 18:=Nat.pow_le_pow_right Zo Zo;have h5:(10:Nat) ^ 18=1000000000000000000:=by decide
  cases m <;> simp <;> omega
 ·cases m <;> simp <;> omega
theorem D8(A:List kC)(hE:nE A)(t:ByteArray)(h0:kB t≠[])(hd:(kB t).all wM=true)(hl:t.size<=255)(m:Bool):aw Tryz.prog 260 [.string t,.bool m] [A] (fun v Post=>mh m t v/\Post=[A]):=by
 refine aw.intro low260 (by simp[n260]) ?_;have hlen:=kV t;have hcat:zt .add (.string ⟨#[45]⟩) (.string t)=some (.string (⟨#[45]⟩++t)):=if_pos (by show 1+t.size<=9223372036854775807;omega);have I7:=Bq m hd;obtain⟨g1,g2,g3⟩:=CQ m;refine ae ?_;refine kO (fun b=>?_);refine ae ?_;by_cases hz:t=⟨#[48]⟩
 ·rw[Zt hz];refine ae ?_;refine⟨.inr rfl,_,_,.aN (us:=[cv 4,vi 0,uv 0,.string ⟨#[]⟩,Nz]) Zr Zr HY .nil,ZI,.inl ⟨?_,?_⟩,rfl⟩
  ·rw[hz];cases m <;> exact⟨Zd,Zd⟩
  ·rw[hz];cases m <;> rfl
 rw[Zf hz];refine ae ?_;have DK:=GL t (qI m) Zo Zo hd g2;have hlo1:wt m (kB t)->aw Tryz.prog 279 [.string t,.string (qI m)] [] (fun v Post=>v=.bool false/\Post=[]):=fun h=>by
  rw[Zf (fun h2=>I7.1 h2 h)]at DK;exact DK
 have hlo2:¬wt m (kB t)->aw Tryz.prog 279 [.string t,.string (qI m)] [] (fun v Post=>v=.bool true/\Post=[]):=fun h=>by
  rw[Zt (I7.2 h)]at DK;exact DK
 have cE:∀u:ByteArray,¬wt m (kB t)->kB u=(if m=true then 45::kB t else kB t)->mh m t (.agg #[cv 5,vi 0,uv 0,.string u,Nz]):=fun u h1 h2=>.inr ⟨h1,u,rfl,h2⟩
 cases m with
 |true=>
  refine ae ?_;by_cases KG:wt true (kB t);rotate_left
  ·refine kK (hlo2 KG) Zr ?_;refine ae ?_;refine fL Zr Zr hcat ?_;refine ae ?_;refine⟨.inr rfl,_,_,.aN (us:=[cv 5,vi 0,uv 0,.string (⟨#[45]⟩++t),Nz]) Zr Zr HY .nil,ZI,cE _ KG (by rw[oy];rfl),rfl⟩
  refine kK (hlo1 KG) Zr ?_;refine ae ?_;refine kH (gZ A hE t h0 hd (by have:=KG.1;omega)) Zr ZP (fun v Post hv=>?_);rcases hv with⟨⟨hn,rfl⟩|⟨hn,_⟩,rfl⟩
  rotate_left
  ·have:=KG.2;simp only[if_true]at this;omega
  simp only[aJ];have AY:=KG.2;simp only[if_true]at AY;have eB:mh true t (.agg #[cv 4,vi (-(zQ (kB t):Int)),uv 0,.string ⟨#[]⟩,Nz]):=.inl ⟨KG,rfl⟩;generalize zQ (kB t)=N at*;refine ae ?_;rw[show IntKind.i64.wrap (0 - (N:Int))=-(N:Int) by rw[Int.zero_sub];exact wrap64 ⟨Zo,Zo⟩];refine ae ?_;exact⟨.inr rfl,_,_,.aN (us:=[cv 4,vi (-(N:Int)),uv 0,.string ⟨#[]⟩,Nz]) Zr Zr HY .nil,ZI,eB,rfl⟩
 |false=>
  refine ae ?_;by_cases KG:wt false (kB t);rotate_left
  ·refine kK (hlo2 KG) Zr ?_;refine ae ?_;refine⟨.inr rfl,_,_,.aN (us:=[cv 5,vi 0,uv 0,.string t,Nz]) Zr Zr HY .nil,ZI,cE _ KG rfl,rfl⟩
  refine kK (hlo1 KG) Zr ?_;refine ae ?_;refine kH (gZ A hE t h0 hd (by have:=KG.1;omega)) Zr ZP (fun v Post hv=>?_);rcases hv with⟨⟨hn,rfl⟩|⟨hn,_⟩,rfl⟩
  rotate_left
  ·have:=KG.2;simp only[vL,if_false]at this;omega
  simp only[aJ];have eB:mh false t (.agg #[cv 4,vi (zQ (kB t):Int),uv 0,.string ⟨#[]⟩,Nz]):=.inl ⟨KG,rfl⟩;generalize zQ (kB t)=N at*;refine ae ?_;exact⟨.inr rfl,_,_,.aN (us:=[cv 4,vi (N:Int),uv 0,.string ⟨#[]⟩,Nz]) Zr Zr HY .nil,ZI,eB,rfl⟩
theorem A6(A:List kC)(hE:nE A)(s:ByteArray)(hs:s.size<=140737488355328):aw Tryz.prog 243 [.string s] [A] (fun v Post=>Fa s v/\Post=[A]):=by
 refine aw.intro low243 (by simp[n243]) ?_;have EY:=kV s;have Ku:yN (kB s)=false->Fa s (.tuple #[.agg #[cv 0,vi 0,uv 0,.string ⟨#[]⟩,Nz],vi 144]):=fun h=>.inl ⟨h,rfl⟩
 have hm:decide ((kB s).getD 0 0=45)=zR (kB s):=by
  unfold zR;cases kB s <;> simp
 have T8:=xl s hs 0;refine jF ?_;refine kO (fun b=>?_);refine jF ?_;refine kK T8 Zr ?_;generalize hg0:(kB s).getD 0 0=z0 at hm|-;refine jF ?_;refine VC.join (α:=ByteArray) (fun d=>[(0,.string d),(2,kF b),(4,.bool (zR (kB s)))]) (fun _=>[kA b 0 [.int .u8 0,.int .i64 0,.int .u64 0,.string ⟨#[]⟩,.slice none 0 0],A]) (fun d=>kB d=z9 (kB s)/\d.size<=s.size) ?_ ?_
 ·by_cases Nw:z0=45
  ·rw[show decide ((z0:Int)=45)=true from Zt Zo];rw[Zt Nw]at hm;have iv:0 < s.size:=by
    rcases Ql s.size with h|h
    ·rw[Vh,Vp Zo]at hg0;simp at hg0;omega
    ·exact h
   refine ae ?_;refine dC (l:=1) (h:=s.size) Zr (.num Zr) .T3 ⟨Zo,Zo⟩ ?_;refine ae ?_;refine⟨s.extract 1 s.size,⟨?_,by rw[ByteArray.size_extract];omega⟩,by rw[<- hm];exact AO,ZI⟩;rw[jb,Qg Zo];unfold z9;have h1:(kB s).head? =some 45:=by
    have:=hm.symm;unfold zR at this;exact of_decide_eq_true this
   rw[if_pos h1,List.drop_one]
  ·rw[show decide ((z0:Int)=45)=false from Zf Zo];rw[Zf Nw]at hm;refine ae ?_;refine⟨s,⟨?_,Qn _⟩,by rw[<- hm];exact AO,ZI⟩;unfold z9;have h1:¬(kB s).head? =some 45:=by
    have:=hm.symm;unfold zR at this;exact of_decide_eq_false this
   rw[if_neg h1]
 rintro d ⟨hd,hds⟩
 have hld:=kV d;generalize Ui:zR (kB s)=m;refine ae ?_;refine VC.loop (α:=Nat) (bi:=fun k=>[(0,.string d),(2,kF b),(4,.bool m),(5,vi k)]) (Hf:=fun _=>[kA b 0 [.int .u8 0,.int .i64 0,.int .u64 0,.string ⟨#[]⟩,Nz],A]) (I:=fun k=>k<=d.size/\∀i c,i < k->(kB d)[i]? =some c->wM c=true) (μ:=fun k=>d.size - k) 0 ⟨Qv _,fun i c h=>by omega⟩ ZU ZI ?_
 rintro k ⟨i1,i2⟩
 refine ae ?_;by_cases hk:k < d.size
 ·rw[Zt Zo];obtain⟨c,hc,oA⟩:=w7 hk;refine ae ?_;refine wF Zr Zr (j:=k) rfl hc ?_;refine ae ?_;refine kK (mq _ (zg d _ (Zv oA))) Zr ?_;cases hb:wM c.toNat with
  |true=>
   refine ae ?_;refine⟨k+1,⟨Zo,fun i x hi hx=>?_⟩,Zo,ZU,ZI⟩;by_cases e:i=k
   ·subst e;rw[oA]at hx;cases hx;exact hb
   ·exact i2 i x Zo hx
  |false=>
   have gQ:yN (kB s)=false:=by
    unfold yN;rw[<- hd];have:(kB d).all wM=false:=by
     rw[vI];intro h;have:=ve.1 h _ (Zv oA);rw[hb]at this;cases this
    rw[this];simp
   refine ae ?_;exact⟨.inr rfl,_,_,.aN (us:=[cv 0,vi 0,uv 0,.string ⟨#[]⟩,Nz]) Zr Zr HY (.tmp Zr .nil),ZI,Ku gQ,rfl⟩
 rw[Zf Zo];have au:(kB d).all wM=true:=by
  rw[ve];intro c hc;obtain⟨i,hi⟩:=Vv hc;exact i2 i c (by have:=(Vt.1 hi).1;omega) hi
 refine ae ?_;refine kH (Hb d Zo) Zr ZP (fun v Post hv=>?_);obtain⟨t,rfl,ht,hts,rfl⟩:=hv;have aS:=kV t;have hg:yN (kB s)=(decide (kB d≠[])&&decide (t.size<=255)):=by
  unfold yN;rw[<- hd,<- ht,aS,au,vH]
 simp only[QS];refine ae ?_;by_cases h0:kB d=[]
 ·have hb:yN (kB s)=false:=by rw[hg,Zf (fun h=>h h0)];rfl
  have:t.size=0:=by rw[<- aS,ht,h0];rfl
  rw[show decide ((t.size:Int) < 1)=true from Zt Zo];exact zDP
 have Wv:kB t≠[]:=by rw[ht];exact CW h0
 have:0 < t.size:=by rw[<- aS];exact List.length_pos_iff.2 Wv
 rw[show decide ((t.size:Int) < 1)=false from Zf Zo];refine ae ?_;by_cases sq:t.size<=255;rotate_left
 ·rw[Zt (show(t.size:Int) > 255 by omega)];have hb:yN (kB s)=false:=by rw[hg,Zf sq];simp
  exact zDP
 rw[Zf (show ¬(t.size:Int) > 255 by omega)];have hgt:yN (kB s)=true:=by rw[hg,Zt sq,Zt h0];rfl
 refine ae ?_;refine kH (D8 A hE t Wv (by rw[ht];exact yX au) sq m) Zr ZP (fun v Post hv=>?_);obtain⟨hw,rfl⟩:=hv;have fin:∀u,mh m t u->Fa s (.tuple #[u,vi 0]):=fun u hu=>.inr ⟨hgt,t,u,by rw[ht,hd],by rw[Ui];exact hu,rfl⟩
 have eB:=fin _ hw;simp only[aJ];rcases hw with⟨_,rfl⟩|⟨_,u,rfl,_⟩
 ·generalize (if m=true then -(zQ (kB t):Int)else(zQ (kB t):Int))=z at eB|-;refine ae ?_;exact⟨.inr rfl,_,_,.aN (us:=[cv 4,vi z,uv 0,.string ⟨#[]⟩,Nz]) Zr Zr HY (.tmp Zr .nil),ZI,eB,rfl⟩
 ·refine ae ?_;exact⟨.inr rfl,_,_,.aN (us:=[cv 5,vi 0,uv 0,.string u,Nz]) Zr Zr HY (.tmp Zr .nil),ZI,eB,rfl⟩
set_option maxHeartbeats 3200000
theorem HR(l:List Nat):∃w r,l=w++r/\w.length=wn l/\w.all om=true/\∀c q,r=c::q->om c=false:=by
 unfold wn
 induction l with
 |nil=>exact⟨[],[],rfl,rfl,rfl,fun c q h=>by cases h⟩
 |cons c r ih=>
  cases hc:om c with
  |false=>exact⟨[],c::r,rfl,by simp[hc],rfl,fun d q h=>by cases h;exact hc⟩
  |true=>
   obtain⟨w,q,rfl,h2,h3,h4⟩:=ih;exact⟨c::w,q,rfl,by simp[hc,h2],by simp[hc,h3],h4⟩
theorem Hw {c:Nat}{l:List Nat}(h:c∈l):∃p q,l=p++c::q/\c∉p:=by
 induction l with
 |nil=>cases h
 |cons d r ih=>
  by_cases hd:c=d
  ·subst hd;exact⟨[],r,rfl,Zs⟩
  ·obtain⟨p,q,rfl,hp⟩:=ih (by simpa[hd]using h);exact⟨d::p,q,rfl,by simp[hd,hp]⟩
theorem inn58:om 58=false:=rfl
theorem no58 {w:List Nat}(h:w.all om=true):58∉w:=fun hm=>by
 have:=ve.1 h 58 hm;rw[inn58]at this;cases this
theorem RY {w:List Nat}(h:gp w=true):w.all om=true:=by
 cases w with
 |nil=>rfl
 |cons c r=>
  simp only[gp,vF]at h;exact h.2
theorem Cy {l:List Nat}(hl:l≠[])(n:Nat):
 zU (kq l) n=if(gp (l.take (wn l))=true/\l.getD (wn l) 0=58)then zU (kq (l.drop (wn l+1))) (n+1)else -1:=by
 obtain⟨w,r,h1,h2,h3,h4⟩:=HR l;rw[<- h2];have ht:l.take w.length=w:=by rw[h1];simp
 rw[ht];by_cases hc:gp w=true/\l.getD w.length 0=58
 ·rw[if_pos hc];obtain⟨hn,sr⟩:=hc;have hr:∃q,r=58::q:=by
   rw[h1,Vh,Vl (Qn _),Qt]at sr;cases r with
   |nil=>simp at sr
   |cons c q=>simp at sr;exact⟨q,by rw[sr]⟩
  obtain⟨q,rfl⟩:=hr;rw[h1,nk (no58 h3)];rw[show(w++58::q).drop (w.length+1)=q by simp];simp only[zU];rw[if_neg Zs,if_pos (by simp[hn])]
 ·rw[if_neg hc];have bad:∀p ps,kq l=p::ps->p≠[]->qq p=false->zU (kq l) n=-1:=fun p ps e h0 h=>by rw[e];exact sG h0 h
  by_cases sr:58∈l
  ·obtain⟨p,q,hpq,hp⟩:=Hw sr;refine bad (p++[58]) (kq q) (by rw[hpq,nk hp]) Zs ?_;unfold qq;rw[vI];intro h;simp at h;refine hc ?_;have DP:p=w:=by
    have hpi:=RY h;have e:p++58::q=w++r:=by rw[<- hpq,h1]
    rcases List.append_eq_append_iff.1 e with⟨a,rfl,ha⟩|⟨a,rfl,ha⟩
    ·cases a with
     |nil=>simp
     |cons c a=>
      simp only[vr,vq]at ha;rw[<- ha.1]at h3;exact absurd Zs (no58 h3)
    ·cases a with
     |nil=>simp
     |cons c a=>
      have:=h4 c (a++58::q) (by rw[ha];rfl);have h5:=ve.1 hpi c Zs;rw[this]at h5;cases h5
   subst DP;refine⟨h,?_⟩;rw[hpq];simp
  ·refine bad l [] (tI sr) hl ?_;unfold qq;rw[vI];intro h;simp only[vF,decide_eq_true_eq]at h;exact sr (List.mem_of_getLast? h.1)
theorem A7(s:ByteArray)(hs:s.size<=140737488355328):aw Tryz.prog 147 [.string s] [] (fun v Post=>v=vi (zU (kq (kB s)) 0)/\Post=[]):=by
 refine aw.intro low147 (by simp[n147]) ?_;have hlen:=kV s;refine ae ?_;refine VC.loop (α:=Nat×Nat) (bi:=fun z=>[(0,.string s),(3,vi z.1),(4,vi z.2)]) (Hf:=fun _=>[]) (I:=fun z=>z.2<=s.size/\z.1<=z.2/\zU (kq ((kB s).drop z.2)) z.1=zU (kq (kB s)) 0) (μ:=fun z=>s.size - z.2) (0,0) ⟨Qv _,Qn _,rfl⟩ ZU ao.nil ?_
 rintro⟨n,i⟩ ⟨i1,i2,i3⟩
 simp only at i1 i2 i3;dsimp only;refine ae ?_;by_cases hk:i < s.size;rotate_left
 ·rw[Zf Zo];exact zEK
 rw[Zt Zo];have hw:=Dm s hs i Zo;have WE:=Ty ((kB s).drop i);rw[Q0,hlen]at WE;obtain⟨c,hc,oA⟩:=w7 hk;have bZ:(kB s).drop i≠[]:=by rw[fu oA];simp
 have l7:=Cy bZ n;rw[i3,List.drop_drop]at l7;have hga:((kB s).drop i).getD (wn ((kB s).drop i)) 0=(kB s).getD (i+wn ((kB s).drop i)) 0:=by
  rw[Vh,Vh,Vo]
 rw[hga]at l7;have hex:kB (s.extract i (i+wn ((kB s).drop i)))=((kB s).drop i).take (wn ((kB s).drop i)):=by
  rw[jb,List.drop_take,Nat.add_sub_cancel_left]
 rw[<- hex]at l7;have Ps:=fun h=>l7.trans (if_pos h)
 have hst2:=fun h=>l7.trans (if_neg h)
 clear l7;generalize hwe:wn ((kB s).drop i)=w at*;refine ae ?_;refine kK hw Zr ?_;refine ae ?_;refine dC (l:=i) (h:=i+w) Zr (.num Zr) (.num Zr) ⟨Zo,Zo⟩ ?_;refine ae ?_;refine kK (lx (s.extract i (i+w)) (by rw[ByteArray.size_extract];omega)) Zr ?_;cases hn:zn (s.extract i (i+w))with
 |false=>
  have l7:=hst2 (fun h=>by have h1:zn (s.extract i (i+w))=true:=h.1;rw[hn]at h1;cases h1);refine ae ?_;refine⟨.inr rfl,_,_,.tmp Zr .nil,ZI,?_,rfl⟩;rw[l7];rfl
 |true=>
  refine ae ?_;refine kK (xl s hs (i+w)) Zr ?_;refine ae ?_;by_cases sr:(kB s).getD (i+w) 0=58;rotate_left
  ·have l7:=hst2 (fun h=>sr h.2);rw[show decide (((kB s).getD (i+w) 0:Int)=58)=false from Zf Zo];refine ae ?_;refine⟨.inr rfl,_,_,.tmp Zr .nil,ZI,?_,rfl⟩;rw[l7];rfl
  have l7:=Ps ⟨hn,sr⟩;have aS:i+w < s.size:=by
   rcases Nat.lt_or_ge (i+w) s.size with h|h
   ·exact h
   ·rw[Vh,Vp Zo]at sr;cases sr
  rw[show decide (((kB s).getD (i+w) 0:Int)=58)=true from Zt Zo];refine ae ?_;exact⟨(n+1,i+w+1),⟨by simp only;omega,by simp only;omega,by simp only;rw[l7,Qi]⟩,by simp only;omega,ZU,ao.nil⟩
theorem fY(s:ByteArray)(hs:s.size<=140737488355328):aw Tryz.prog 85 [.string s] [] (fun v Post=>v=vi (kR s)/\Post=[]):=by
 refine aw.intro low85 (by simp[n85]) ?_;have hlen:=kV s;refine ae ?_;refine kK (lx s hs) Zr ?_;by_cases h0:s=⟨#[]⟩
 ·subst h0;exact zCA
 obtain⟨c,r,hc,hr,tw,iv⟩:=dH h0;refine ae ?_;rw[show decide ((s.size:Int)=0)=false from Zf Zo];cases hn:zn s with
 |true=>
  refine ae ?_;refine⟨.inr rfl,_,_,.tmp Zr .nil,ZI,?_,rfl⟩;unfold kR oP;rw[show gp (kB s)=true from hn];rfl
 |false=>
  have AY:gp (kB s)=false:=hn;have ec:kR s=if(cA c.toNat||decide (c.toNat=124))=true then(if ew (kB s)=(kB s).length then 1 else -1)else zU (kq (kB s)) 0:=by
   unfold kR oP;rw[if_neg (by rw[AY];simp)];simp only[hr]
  have hsg:=JP s hs 0 iv;rw[vy,Qu]at hsg;refine ae ?_;refine wF Zr Zr (j:=0) rfl hc ?_;refine ae ?_;refine kK (pR _ tw) Zr ?_;have Ny:(cA c.toNat||decide (c.toNat=124))=true->kR s=(if ew (kB s)=(kB s).length then 1 else -1):=fun h=>by rw[ec,if_pos h]
  cases hb:cA c.toNat with
  |true=>
   have Ny:=Ny (by simp[hb]);generalize ew (kB s)=z at hsg Ny;exact zB6
  |false=>
   refine ae ?_;refine wF Zr Zr (j:=0) rfl hc ?_;refine ae ?_;by_cases LW:c.toNat=124
   ·have Ny:=Ny (by simp[LW]);generalize ew (kB s)=z at hsg Ny;rw[show decide ((c.toNat:Int)=124)=true from Zt Zo];exact zB6
   rw[show decide ((c.toNat:Int)=124)=false from Zf Zo];rw[if_neg (by simp[hb,LW])]at ec;refine ae ?_;refine kK (A7 s hs) Zr ?_;refine ae ?_;refine⟨.inr rfl,_,_,.tmp Zr .nil,ZI,?_,rfl⟩;rw[ec];rfl
noncomputable def F217:aQ:=bb (o:=gF pq Tryz.f217 [])
theorem n217:F217.n=115:=rfl
theorem low217:aY Tryz.prog 217 []=some F217:=by kernel_rfl
noncomputable def F218:aQ:=bb (o:=gF pq Tryz.f218 [])
theorem n218:F218.n=49:=rfl
theorem low218:aY Tryz.prog 218 []=some F218:=by kernel_rfl
noncomputable def F184:aQ:=bb (o:=gF pq Tryz.f184 [])
theorem n184:F184.n=72:=rfl
theorem low184:aY Tryz.prog 184 []=some F184:=by kernel_rfl
noncomputable def F185:aQ:=bb (o:=gF pq Tryz.f185 [])
theorem n185:F185.n=11:=rfl
theorem low185:aY Tryz.prog 185 []=some F185:=by kernel_rfl
noncomputable def F149:aQ:=bb (o:=gF pq Tryz.f149 [])
theorem n149:F149.n=98:=rfl
theorem low149:aY Tryz.prog 149 []=some F149:=by kernel_rfl
noncomputable def F151:aQ:=bb (o:=gF pq Tryz.f151 [])
theorem n151:F151.n=34:=rfl
theorem low151:aY Tryz.prog 151 []=some F151:=by kernel_rfl
noncomputable def F88:aQ:=bb (o:=gF pq Tryz.f88 [])
theorem n88:F88.n=80:=rfl
theorem low88:aY Tryz.prog 88 []=some F88:=by kernel_rfl
noncomputable def F219:aQ:=bb (o:=gF pq Tryz.f219 [])
theorem n219:F219.n=14:=rfl
theorem low219:aY Tryz.prog 219 []=some F219:=by kernel_rfl
noncomputable def F186:aQ:=bb (o:=gF pq Tryz.f186 [])
theorem n186:F186.n=14:=rfl
theorem low186:aY Tryz.prog 186 []=some F186:=by kernel_rfl
noncomputable def F187:aQ:=bb (o:=gF pq Tryz.f187 [])
theorem n187:F187.n=57:=rfl
theorem low187:aY Tryz.prog 187 []=some F187:=by kernel_rfl
noncomputable def F153:aQ:=bb (o:=gF pq Tryz.f153 [(4,[[0,1,2,3,4,5,6],[0,2,1,3,4,5,6]])])
theorem n153:F153.n=25:=rfl
theorem low153:aY Tryz.prog 153 [(4,[[0,1,2,3,4,5,6],[0,2,1,3,4,5,6]])]=some F153:=by kernel_rfl
noncomputable def F152:aQ:=bb (o:=gF pq Tryz.f152 [])
theorem n152:F152.n=28:=rfl
theorem low152:aY Tryz.prog 152 []=some F152:=by kernel_rfl
noncomputable def F89:aQ:=bb (o:=gF pq Tryz.f89 [])
theorem n89:F89.n=44:=rfl
theorem low89:aY Tryz.prog 89 []=some F89:=by kernel_rfl
noncomputable def F150:aQ:=bb (o:=gF pq Tryz.f150 [])
theorem n150:F150.n=16:=rfl
theorem low150:aY Tryz.prog 150 []=some F150:=by kernel_rfl
end Go.Proofs.YtijnokbblmbpkaaGreatDoor
namespace Go.V
open Go
def cR(p:Bool)(d:Nat)(m:Bool):Rs:=if p then some (d,m)else none
theorem ml {p q:Bool}{d e:Nat}{m k:Bool}(h:p=q)(h2:q=true->d=e/\m=k):cR p d m=cR q e k:=by
 subst h;cases p with
 |false=>rfl
 |true=>obtain⟨rfl,rfl⟩:=h2 rfl;rfl
theorem jm(b p:Bool)(d:Nat)(m:Bool):kQ b (cR p d m)=cR (b&&p) d m:=by cases b <;> cases p <;> rfl
theorem pX(p:Bool)(d:Nat)(m:Bool):wi (cR p d m)=cR p (d+1) m:=by cases p <;> rfl
theorem eE(b p:Bool)(d:Nat)(m:Bool):wo b (cR p d m)=cR p d (b||m):=by cases p <;> rfl
theorem pS(p q:Bool)(d e:Nat)(m k:Bool):zr (cR p d m) (cR q e k)=cR (p&&q) (max d e) (m||k):=by cases p <;> cases q <;> rfl
theorem zero_c:(some (0,false):Rs)=cR true 0 false:=rfl
theorem eQ(r:Rs)(l:List Rs):jc (r::l)=zr r (jc l):=by
 cases r with
 |none=>cases h:jc l <;> rfl
 |some p=>cases h:jc l <;> simp[jc,zr,h]
theorem xq(r:Rs):zr r (some (0,false))=r:=by
 cases r with
 |none=>rfl
 |some p=>simp[zr]
theorem J7(r:Rs):zr (some (0,false)) r=r:=by
 cases r with
 |none=>rfl
 |some p=>simp[zr]
theorem tC(l r:List Rs):jc (l++r)=zr (jc l) (jc r):=by
 induction l with
 |nil=>simp only[QS,jc,J7]
 |cons x l ih=>
  rw[vr,eQ,eQ,ih];cases x <;> cases jc l <;> cases jc r <;> simp[zr,Nat.max_assoc,vP]
def mx {α:Type}(f:α->Nat):List α->Nat
 |[]=>0
 |x::r=>max (f x) (mx f r)
theorem Zy {α:Type}{f:α->Nat}{K:Nat}:∀{l:List α},(∀x∈l,f x<=K)->mx f l<=K:=by
 intro l
 induction l with
 |nil=>intro _;exact Qv _
 |cons x r ih=>
  intro h;have h1:=h x Zs;have h2:=ih fun y hy=>h y B9
  simp only[mx];omega
theorem Ee {α:Type}{g:α->Rs}{p:α->Bool}{d:α->Nat}{m:α->Bool}:∀{l:List α},(∀x∈l,g x=cR (p x) (d x) (m x))->jc (l.map g)=cR (l.all p) (mx d l) (l.any m):=by
 intro l
 induction l with
 |nil=>intro _;rfl
 |cons x r ih=>
  intro h;rw[QC,eQ,h x Zs,ih fun y hy=>h y B9,pS];rfl
mutual
def zJ:Lt->Nat
 |.mk k _ _ _ items=>if k=10 then D5 items+1 else 0
def D5:List Lt->Nat
 |[]=>0
 |x::r=>max (zJ x) (D5 r)
end
mutual
def lg:Lt->Bool
 |.mk k _ _ t items=>decide (255 < items.length)||(decide (k=11)&&decide (255 < t.size))||CL items
def CL:List Lt->Bool
 |[]=>false
 |x::r=>lg x||CL r
end
theorem sJ:∀l:List Lt,D5 l=mx zJ l:=by
 intro l
 induction l with
 |nil=>rfl
 |cons x r ih=>simp only[D5,mx,ih]
theorem GK:∀l:List Lt,CL l=l.any lg:=by
 intro l
 induction l with
 |nil=>rfl
 |cons x r ih=>simp only[CL,vf,ih]
theorem Rh:∀(N:Nat) (x:Lt),x.size<=N->∀i,jK x i=cR (jK x i).isSome (zJ x) (lg x):=by
 intro N
 induction N with
 |zero=>intro x hx;have:=x.size_pos;omega
 |succ N ih=>
  intro x hx i;cases x with
  |mk k n b t items=>
  simp only[Lt.size]at hx;have hk:∀y∈items,jK y true=cR (jK y true).isSome (zJ y) (lg y):=fun y hy=>ih y (by have:=Lt.aD hy;omega) true
  have leaf:∀(c q:Bool),(c=true->items=[]/\k≠10/\q=(decide (k=11)&&decide (255 < t.size)))->kQ c (some (0,q))=cR (kQ c (some (0,q))).isSome (zJ (.mk k n b t items)) (lg (.mk k n b t items)):=by
   intro c q h;cases c with
   |false=>rfl
   |true=>
    obtain⟨h1,h2,h3⟩:=h rfl;subst h1;simp only[zJ,lg,if_neg h2,CL,Q6,<- h3];simp[kQ,cR]
  simp only[jK];split
  ·exact leaf _ _ fun h=>by simp only[vF,decide_eq_true_eq]at h;exact⟨vz h.2.2.2.2,Zo,by simp;omega⟩
  split
  ·exact zDW
  split
  ·exact leaf _ _ fun h=>by simp only[vF,decide_eq_true_eq]at h;exact⟨vz h.2.2.2,Zo,by simp;omega⟩
  split
  ·exact leaf _ _ fun h=>by simp only[decide_eq_true_eq]at h;exact⟨vz h.2.2.2,Zo,by simp;omega⟩
  split
  ·exact zDW
  split
  ·exact leaf _ _ fun h=>by simp only[decide_eq_true_eq]at h;exact⟨vz h.2.2,Zo,by simp;omega⟩
  split
  ·rename_i OX;exact leaf _ _ fun h=>by simp only[decide_eq_true_eq]at h;exact⟨vz h.2.2,Zo,by simp[OX]⟩
  split
  ·rename_i xL;subst xL;rw[cS,Ee hk,eE,pX,jm];simp only[zJ,lg,if_pos,sJ,GK];generalize (_&&List.all items _:Bool)=c;cases c <;> simp[cR]
  ·rfl
theorem dO {l:Lt}(h:wk l=true):zJ l=0/\lg l=false:=by
 cases l with
 |mk k n b t items=>
 have h:=of_decide_eq_true h;simp only[Lt.kind,Lt.n,Lt.bits,Lt.text,Lt.items]at h;obtain⟨rfl,_,_,_,h5⟩:=h;obtain rfl:=vz h5;simp[zJ,lg,CL]
def wg(k:Nat)(s:ByteArray)(lit:Lt)(args ab:List ByteArray)(m:Nat):Bool:=
 if k=1 then(jK lit false).isSome&&decide (s.size=0/\args.length=0/\ab.length=0)
 else if k=2 then zn s&&wk lit&&decide (args.length=0/\ab.length=0)
 else if k=3 then jO s&&wk lit&&decide (args.length=0/\ab.length=0)
 else if k=4 then decide (0<=kR s)&&wk lit&&decide (args.length=0/\ab.length=0)
 else if k=5 then decide (2 < m)&&wk lit&&decide (s.size=0/\args.length=0/\ab.length=0)
 else if k=6 then decide (0<=kR s)&&wk lit&&decide (args.length=0/\ab.length=0)
 else if k=7 then args.all jO&&ab.all jO&&wk lit&&decide (s.size=0)
 else if k=8∨k=9 then wk lit&&decide (s.size=0/\args.length=0/\ab.length=0)
 else false
def zq(k:Nat)(s:ByteArray):Int:=
 if k=3∨k=9 then 1 else if k=4 then kR s+1 else if k=6 then kR s else if k=5∨k=7∨k=8 then -1 else 0
def gW(k m i:Nat)(x:Nd):Bool:=
 !(jR x&&!(decide (i=0)&&(decide (k=4)||decide (k=5))))&&!(decide (x.kind=9)&&!(decide (i+1=m)&&decide (k=7)))&&(decide (x.kind=6)==(decide (k=5)&&decide (0 < i)))
mutual
def jY:Nd->Bool
 |.mk k s lit args ab kids _=>wg k s lit args ab kids.length&&!(decide (0<=zq k s)&&decide (zq k s≠kids.length))&&ke k kids.length 0 kids
def ke(k m:Nat):Nat->List Nd->Bool
 |_,[]=>true
 |i,x::r=>jY x&&gW k m i x&&ke k m (i+1) r
end
mutual
def jh:Nd->Bool
 |.mk k _ lit args ab kids _=>lg lit||decide (15 < args.length)||decide (63 < ab.length)||(decide (k=4)&&decide (16 < kids.length))||(decide (k=6)&&decide (15 < kids.length))||(decide (k=5)&&decide (256 < kids.length))||(decide (k=8)&&decide (255 < kids.length))||Ed kids
def Ed:List Nd->Bool
 |[]=>false
 |x::r=>jh x||Ed r
end
def fZ(k:Nat)(s:ByteArray)(i:Nat):Nat:=
 if i=0/\(k=4∨k=5)then(if yE s=5 then 5 else 4)else if(k=4/\0 < i)∨k=6 then(if yE s=4 then 5 else 4)else 1
def tY(k:Nat)(s:ByteArray)(i:Nat)(x:Nd):Bool:=decide (x.kind≠6)&&decide (x.kind≠9)&&decide (wI x < fZ k s i)
def pQ(k:Nat)(s:ByteArray)(kids:List Nd):ByteArray:=if k=5 then(kids.drop 1).head?.elim ⟨#[]⟩ Nd.name else s
mutual
def jp:Nd->Nat
 |.mk k s lit _ _ kids _=>max (zJ lit) (jx k (pQ k s kids) 0 kids)+if k=7∨k=8 then 1 else 0
def jx(k:Nat)(s:ByteArray):Nat->List Nd->Nat
 |_,[]=>0
 |i,x::r=>max (jp x+if tY k s i x then 1 else 0) (jx k s (i+1) r)
end
theorem CP:∀l:List Nd,Ed l=l.any jh:=by
 intro l
 induction l with
 |nil=>rfl
 |cons x r ih=>simp only[Ed,vf,ih]
def yA(x:Nd):Bool:=!jR x&&decide (x.kind≠9/\x.kind≠6)
theorem fN {x:Nd}(h:jR x=true):x.kind=2:=by
 simp only[jR,vF,decide_eq_true_eq]at h;exact h.1
theorem iz {k m i:Nat}{x:Nd}(h4:¬(i=0/\(k=4∨k=5)))(h5:¬(k=5/\0 < i))(h7:¬(k=7/\i+1=m)):gW k m i x=yA x:=by
 have e1:(decide (i=0)&&(decide (k=4)||decide (k=5)))=false:=by
  rw[vI];intro h;simp at h;exact h4 h
 have e2:(decide (k=5)&&decide (0 < i))=false:=by
  rw[vI];intro h;simp only[vF,decide_eq_true_eq]at h;exact h5 h
 have e3:(decide (i+1=m)&&decide (k=7))=false:=by
  rw[vI];intro h;simp only[vF,decide_eq_true_eq]at h;exact h7 ⟨h.2,h.1⟩
 simp only[gW,yA,e1,e2,e3];by_cases a:x.kind=9 <;> by_cases b:x.kind=6 <;> cases jR x <;> simp[a,b]
theorem o8(x:Nd):1<=wI x:=by
 unfold wI yE
 repeat' split
 all_goals omega
theorem iM {x:Nd}{p:Nat}{f m:Bool}{d:Nat}:ja x p (cR f d m)=cR (f&&yA x) (d+if wI x < p then 1 else 0) m:=by
 unfold ja yS yA;by_cases hl:wI x < p
 ·rw[if_pos hl,if_pos hl,pX,jm,jm]
  congr 1
  cases f <;> cases jR x <;> simp
 ·rw[if_neg hl,if_neg hl,jm,jm]
  congr 1
  cases f <;> cases jR x <;> simp
theorem fA {k m:Nat}:∀{l:List Nd} {i:Nat},(∀j x,l[j]? =some x->gW k m (i+j) x=yA x)->ke k m i l=l.all fun x=>jY x&&yA x:=by
 intro l
 induction l with
 |nil=>intro i _;rfl
 |cons x r ih=>
  intro i h;have h0:=h 0 x rfl;rw[Qj]at h0;simp only[ke,vd,h0];rw[ih (i:=i+1) fun j y hy=>by rw[Qi,Nat.add_comm 1 j];exact h (j+1) y hy]
theorem fq {k:Nat}{s:ByteArray}{p:Nat}:∀{l:List Nd} {i:Nat},(∀j x,l[j]? =some x->yA x=true/\fZ k s (i+j)=p)->jx k s i l=mx (fun x=>jp x+if wI x < p then 1 else 0) l:=by
 intro l
 induction l with
 |nil=>intro i _;rfl
 |cons x r ih=>
  intro i h;obtain⟨h0,h1⟩:=h 0 x rfl;rw[Qj]at h1;simp only[yA,vF,decide_eq_true_eq]at h0;simp only[jx,mx,tY,h1];rw[ih (i:=i+1) fun j y hy=>by rw[Qi,Nat.add_comm 1 j];exact h (j+1) y hy];simp[h0.2.1,h0.2.2]
theorem oz {k m:Nat}:∀{l r:List Nd} {i:Nat},ke k m i (l++r)=(ke k m i l&&ke k m (i+l.length) r):=by
 intro l
 induction l with
 |nil=>intro r i;simp[ke]
 |cons x l ih=>
  intro r i;simp only[vr,ke,ih,Vz];rw[show i+1+l.length=i+(l.length+1) by omega];simp only[Bool.and_assoc]
theorem AS {k:Nat}{s:ByteArray}:∀{l r:List Nd} {i:Nat},jx k s i (l++r)=max (jx k s i l) (jx k s (i+l.length) r):=by
 intro l
 induction l with
 |nil=>intro r i;simp[jx]
 |cons x l ih=>
  intro r i;simp only[vr,jx,ih,Vz];rw[show i+1+l.length=i+(l.length+1) by omega,Nat.max_assoc]
end Go.V
namespace Go.Proofs.YtijnokbblmbpkaaGreatDoor
open Go Go.V
set_option maxHeartbeats 1600000
set_option maxRecDepth 100000
theorem JY(s:ByteArray):aw Tryz.prog 132 [.string s] [] (fun v Post=>v=.bool (fO.contains (kB s))/\Post=[]):=by
 refine aw.intro low132 (by simp[n132]) ?_;have aL:∀t:ByteArray,kB t∈fO->s=t->fO.contains (kB s)=true:=fun t ht e=>by
  subst e;exact vt.2 ht
 refine ae ?_;by_cases h1:s=⟨#[115,101,108,102]⟩
 ·have hf:=aL _ Zd h1;rw[Zt h1];exact Uw
 rw[Zf h1];refine ae ?_;by_cases h2:s=⟨#[115,117,112,101,114]⟩
 ·have hf:=aL _ Zd h2;rw[Zt h2];exact Uw
 rw[Zf h2];refine ae ?_;by_cases h3:s=⟨#[110,105,108]⟩
 ·have hf:=aL _ Zd h3;rw[Zt h3];exact Uw
 rw[Zf h3];refine ae ?_;by_cases h4:s=⟨#[116,114,117,101]⟩
 ·have hf:=aL _ Zd h4;rw[Zt h4];exact Uw
 rw[Zf h4];refine ae ?_;by_cases h5:s=⟨#[102,97,108,115,101]⟩
 ·have hf:=aL _ Zd h5;refine kG (Post:=[]) (.inr rfl) (.tmp Zr .nil) ⟨by rw[hf,Zt h5];rfl,rfl⟩ ZI
 have dt:fO.contains (kB s)=false:=by
  exact zBF
 refine kG (Post:=[]) (.inr rfl) (.tmp Zr .nil) ⟨by rw[dt,Zf h5];rfl,rfl⟩ ZI
theorem xJ(s:ByteArray)(hs:s.size<=140737488355328):aw Tryz.prog 148 [.string s] [] (fun v Post=>v=.bool (jO s)/\Post=[]):=by
 refine aw.intro low148 (by simp[n148]) ?_;refine ae ?_;refine kK (lx s hs) Zr ?_;refine ae ?_;refine kK (JY s) Zr ?_;have hf:jO s=(!fO.contains (kB s)&&zn s):=rfl;rw[hf];generalize fO.contains (kB s)=b;cases zn s with
 |true=>
  refine ae ?_;exact kG (Post:=[]) (.inr rfl) (.tmp Zr .nil) ⟨by cases b <;> rfl,rfl⟩ ZI
 |false=>
  refine ae ?_;exact kG (Post:=[]) (.inr rfl) (.tmp Zr .nil) ⟨by cases b <;> rfl,rfl⟩ ZI
theorem iY(B:List kC)(v:Value)(l:List ByteArray)(h:dG B v l):aw Tryz.prog 86 [v] [B] (fun u Post=>u=.bool (l.all jO)/\Post=[B]):=by
 obtain⟨a,c,rfl,hl,hr⟩:=h;refine aw.intro low86 (by simp[n86]) ?_;refine ae ?_;refine VC.loop (α:=Nat) (bi:=fun k=>[(0,.slice a l.length c),(3,vi k)]) (Hf:=fun _=>[B]) (I:=fun k=>k<=l.length/\(l.take k).all jO=true) (μ:=fun k=>l.length - k) 0 ⟨Qv _,rfl⟩ ZU ZI ?_
 rintro k ⟨i1,i2⟩
 refine ae ?_;by_cases hk:k < l.length;rotate_left
 ·rw[Zf Zo];rw[Qg Zo]at i2;refine ae ?_;exact kG (Post:=[B]) (.inr rfl) (.tmp Zr .nil) ⟨by rw[i2];rfl,rfl⟩ ZI
 rw[Zt Zo];obtain⟨t,ht⟩:∃t,l[k]? =some t:=⟨_,Zg hk⟩;obtain⟨b,o,rfl,hm,eC⟩:=hr k t ht;have cH:l.take (k+1)=l.take k++[t]:=by rw[Qe,ht];rfl
 refine ae ?_;refine kK (xJ t eC) Zr ?_;cases hf:jO t with
 |true=>
  refine ae ?_;exact⟨k+1,⟨Zo,by rw[cH];simp[i2,hf]⟩,Zo,ZU,ZI⟩
 |false=>
  have:l.all jO=false:=by
   rw[vI];intro h;have:=ve.1 h t (Zv ht);rw[hf]at this;cases this
  refine ae ?_;exact kG (Post:=[B]) (.inr rfl) (.tmp Zr .nil) ⟨by rw[this];rfl,rfl⟩ ZI
theorem Be(l:List Rs):(jc l).isSome=l.all Option.isSome:=by
 induction l with
 |nil=>rfl
 |cons r l ih=>
  rw[eQ,vd,<- ih];cases r <;> cases jc l <;> rfl
structure LitQ where
 ok:Bool
 n:Int
 b:Nat
 t:ByteArray
 sv:Value
 l:Nat
theorem Ba(A:List kC)(hE:nE A):∀(N:Nat) (x:Lt),x.size<=N->x.size<=1099511627776->∀vs,zk A x vs->∀inside:Bool,aw Tryz.prog 217 [.agg vs.toArray,.bool inside] [A] (fun v Post=>v=.bool (jK x inside).isSome/\Post=[A]):=by
 intro N
 induction N with
 |zero=>intro x hx;have:=x.size_pos;omega
 |succ N ih=>
  intro x hx hbd vs ma inside;have hvs2:=ma;cases ma with
  |@mk k n b t items a c bk o us wf ha hm hr=>
  refine aw.intro low217 (by simp[n217]) ?_;refine jF ?_;refine kX Zr (fun q=>?_);simp only[Value.cells];refine jF ?_;refine VC.join (α:=LitQ) (fun s=>[(2,kF q),(5,.bool s.ok)]) (fun s=>[A,kA q 0 [cv k,vi s.n,uv s.b,.string s.t,s.sv]])
   (fun s=>(∃a c,s.sv=.slice a s.l c)/\(jK (.mk k n b t items) inside).isSome=(s.ok&&decide (s.n=0/\s.b=0/\s.t.size=0/\s.l=0))) ?_ ?_
  ·have lR:=wf.kind;obtain⟨L7,AY⟩:=wf.n;have hz:(⟨#[]⟩:ByteArray).size=0:=rfl;have sm:∀(b:Bool) (r:Rs),(kQ b r).isSome=(b&&r.isSome):=fun b r=>by cases b <;> rfl
   have same:∀(y:Bool),(jK (.mk k n b t items) inside).isSome=(y&&decide (n=0/\b=0/\t.size=0/\items.length=0))->∃s':LitQ,((∃a c,s'.sv=.slice a s'.l c)/\(jK (.mk k n b t items) inside).isSome=(s'.ok&&decide (s'.n=0/\s'.b=0/\s'.t.size=0/\s'.l=0)))/\s'=⟨y,n,b,t,.slice a items.length c,items.length⟩:=fun y h=>⟨_,⟨⟨_,_,rfl⟩,h⟩,rfl⟩
   by_cases k1:k=1
   ·subst k1;exact zCU
   by_cases k2:k=2
   ·subst k2;exact zCU
   by_cases k3:k=3
   ·subst k3;exact zCU
   by_cases k4:k=4
   ·subst k4;refine ae ?_;by_cases h1:-1152921504606846976<=n;rotate_left
    ·rw[show decide (n ≥ -1152921504606846976)=false from Zf h1];exact zEO
    rw[show decide (n ≥ -1152921504606846976)=true from Zt h1];refine ae ?_;refine⟨⟨decide (n<=1152921504606846975),0,b,t,_,_⟩,⟨⟨_,_,rfl⟩,?_⟩,ZU,ZI⟩;simp[jK,sm,h1]
   by_cases k5:k=5
   ·subst k5;refine ae ?_;refine kH (A6 A hE t wf.text) Zr ZP (fun v Post hv=>?_);obtain⟨hq,rfl⟩:=hv;obtain⟨kk,nn,tt,ee,rfl,Wk⟩:=hq.large;simp only[aJ];refine ae ?_;refine kO (fun q2=>?_);refine ae ?_;have fin:∀y:Bool,y=mZ (kB t)->((jK (.mk 5 n b t items) inside).isSome=(y&&decide (n=0/\b=0/\(⟨#[]⟩:ByteArray).size=0/\items.length=0))):=fun y h=>by
     rw[h,hz];simp[jK,sm]
    by_cases h1:ee=0;rotate_left
    ·rw[show decide ((ee:Int)=0)=false from Zf Zo];refine ae ?_;exact⟨⟨false,n,b,⟨#[]⟩,_,_⟩,⟨⟨_,_,rfl⟩,fin _ (vI.2 fun h=>h1 (Wk.2 h).1).symm⟩,ZU,ZI⟩
    rw[show decide ((ee:Int)=0)=true from Zt Zo];refine ae ?_;by_cases h2:kk=5;rotate_left
    ·rw[show decide ((kk:Int)=5)=false from Zf Zo];refine ae ?_;exact⟨⟨false,n,b,⟨#[]⟩,_,_⟩,⟨⟨_,_,rfl⟩,fin _ (vI.2 fun h=>h2 (Wk.2 h).2.1).symm⟩,ZU,ZI⟩
    rw[show decide ((kk:Int)=5)=true from Zt Zo];refine ae ?_;refine⟨⟨decide (tt=t),n,b,⟨#[]⟩,_,_⟩,⟨⟨_,_,rfl⟩,fin _ ?_⟩,ZU,ZI⟩;rw[vJ,decide_eq_true_eq];exact⟨fun h=>Wk.1 ⟨h1,h2,h⟩,fun h=>(Wk.2 h).2.2⟩
   by_cases k6:k=6
   ·subst k6;have hbits:=wf.bits;refine ae ?_;refine⟨⟨!decide (((b / 4503599627370496&&&2047:Nat):Int)=2047),n,0,t,.slice a items.length c,items.length⟩,⟨⟨_,_,rfl⟩,?_⟩,ZU,by show ao _ [A,kA q 0 [cv 6,vi n,.int .u64 0,.string t,.slice a items.length c]];exact bS⟩;have e:b*2 % 18446744073709551616 / 9007199254740992=(b / 4503599627370496&&&2047):=by
     rw[show(2047:Nat)=2 ^ 11 - 1 from rfl,Qk];omega
    have e0:jK (.mk 6 n b t items) inside=kQ (decide (b*2 % 18446744073709551616 / 9007199254740992≠2047/\n=0/\t.size=0/\items.length=0)) (some (0,false)):=by
     simp only[jK];rfl
    rw[e0,sm,e];generalize (b / 4503599627370496&&&2047)=z;by_cases hz:z=2047
    ·subst hz;simp
    ·have:¬(z:Int)=2047:=by omega
     simp[hz,this]
   by_cases k7:k=7
   ·subst k7;refine ae ?_;by_cases h1:0<=n;rotate_left
    ·rw[show decide (n ≥ 0)=false from Zf h1];exact zEO
    rw[show decide (n ≥ 0)=true from Zt h1];refine ae ?_;refine⟨⟨decide (n<=255),0,b,t,_,_⟩,⟨⟨_,_,rfl⟩,?_⟩,ZU,ZI⟩;simp[jK,sm,h1]
   by_cases k8:k=8
   ·subst k8;exact zCD
   by_cases k9:k=9
   ·subst k9;exact zCD
   by_cases k11:k=11
   ·subst k11;exact zCD
   by_cases k10:k=10
   ·subst k10;have bz:=wf.many;have au:(jK (.mk 10 n b t items) inside).isSome=(items.all (fun y=>(jK y true).isSome)&&decide (n=0/\b=0/\t.size=0/\(0:Nat)=0)):=by
     have h1:(jc (tB items)).isSome=items.all fun y=>(jK y true).isSome:=by
      rw[Be,cS,List.all_map];rfl
     rw[<- h1];simp only[jK];simp[sm];cases jc (tB items) <;> simp[wo,wi]
    refine ae ?_;refine VC.loop (α:=Nat×Bool) (bi:=fun s=>[(2,kF q),(5,.bool s.2),(8,vi s.1)]) (Hf:=fun s=>[A,kA q 0 [cv 10,vi n,uv b,.string t,.slice a items.length c]])
     (I:=fun s=>s.1<=items.length/\s.2=(items.take s.1).all fun y=>(jK y true).isSome) (μ:=fun s=>items.length - s.1) (0,true) ⟨Qv _,rfl⟩ ZU ZI ?_
    rintro⟨j,ok⟩ ⟨i1,i2⟩
    simp only at i1 i2;dsimp only;refine ae ?_;by_cases hj:j < items.length;rotate_left
    ·rw[show decide ((j:Int) < (items.length:Int))=false from Zf Zo];rw[Qg Zo]at i2;refine ae ?_;refine⟨⟨ok,n,b,t,Nz,0⟩,⟨⟨_,_,rfl⟩,?_⟩,ZU,ZI⟩;rw[au,<- i2]
    rw[show decide ((j:Int) < (items.length:Int))=true from Zt Zo];cases ok with
    |false=>
     refine ae ?_;refine⟨⟨false,n,b,t,Nz,0⟩,⟨⟨_,_,rfl⟩,?_⟩,ZU,ZI⟩;have:(items.all fun y=>(jK y true).isSome)=false:=by
      rw[vI];intro h;have h2:((items.take j).all fun y=>(jK y true).isSome)=true:=ve.2 fun y hy=>ve.1 h y (QN hy)
      rw[h2]at i2;cases i2
     rw[au,this]
    |true=>
     obtain rfl:=ha Zo;obtain⟨y,hy⟩:∃y,items[j]? =some y:=⟨_,Zg hj⟩;have bK:=hr j y hy;have cQ:=hm j hj;have Un:=Lt.aD (Zv hy);simp only[Lt.size]at hx hbd;have aC:=ih y Zo Zo _ bK true;have fT:=bK.len;generalize us j=uj at bK cQ aC fT;have cH:items.take (j+1)=items.take j++[y]:=by rw[Qe,hy];rfl
     refine ae ?_;refine kS Zr Dt fT ?_;refine ae ?_;refine kH aC Zr ZP (fun v Post hv=>?_);obtain⟨rfl,rfl⟩:=hv;simp only[aJ];refine ae ?_;refine⟨(j+1,(jK y true).isSome),⟨by simp only;omega,?_⟩,by simp only;omega,ZU,ZI⟩;simp only[cH,List.all_append,<- i2,vd,List.all_nil,vH,vU]
   have dt:jK (.mk k n b t items) inside=none:=by
    simp only[jK];rw[if_neg Zo,if_neg k4,if_neg k5,if_neg k6,if_neg k7,if_neg Zo,if_neg k11,if_neg k10]
   refine ae ?_;rw[show decide ((k:Int)=1)=false from Zf Zo];refine ae ?_;rw[show decide ((k:Int)=2)=false from Zf Zo];refine ae ?_;rw[show decide ((k:Int)=3)=false from Zf Zo];refine ae ?_;rw[show decide ((k:Int)=4)=false from Zf Zo];refine ae ?_;rw[show decide ((k:Int)=5)=false from Zf Zo];refine ae ?_;rw[show decide ((k:Int)=6)=false from Zf Zo];refine ae ?_;rw[show decide ((k:Int)=7)=false from Zf Zo];refine ae ?_;rw[show decide ((k:Int)=8)=false from Zf Zo];refine ae ?_;rw[show decide ((k:Int)=9)=false from Zf Zo];refine ae ?_;rw[show decide ((k:Int)=11)=false from Zf Zo];refine ae ?_;rw[show decide ((k:Int)=10)=false from Zf Zo];refine ae ?_;refine⟨⟨false,n,b,t,_,_⟩,⟨⟨_,_,rfl⟩,?_⟩,ZU,ZI⟩;rw[dt];rfl
  rintro⟨ok,n',b',t',sv,l⟩ ⟨⟨a',c',gT⟩,hq⟩
  simp only at gT hq;subst gT;dsimp only;rw[hq];have hz:(⟨#[]⟩:ByteArray).size=0:=rfl;cases ok with
  |false=>
   exact T0
  |true=>
   refine ae ?_;by_cases h1:n'=0;rotate_left
   ·rw[Zf h1];exact zD0
   rw[Zt h1];refine ae ?_;by_cases h2:b'=0;rotate_left
   ·rw[show decide ((b':Int)=0)=false from Zf Zo];refine ae ?_;exact kG (Post:=[A]) (.inr rfl) (.tmp Zr .nil) ⟨by simp[bH,h2],rfl⟩ ZI
   rw[show decide ((b':Int)=0)=true from Zt Zo];refine ae ?_;by_cases h3:t'=⟨#[]⟩;rotate_left
   ·have:¬t'.size=0:=fun e=>h3 (jU (by rw[Q3.1 ((kV t').trans e)];rfl))
    rw[Zf h3];refine ae ?_;exact kG (Post:=[A]) (.inr rfl) (.tmp Zr .nil) ⟨by simp[bH,this],rfl⟩ ZI
   rw[Zt h3];refine ae ?_;refine kG (Post:=[A]) (.inr rfl) (.tmp Zr .nil) ⟨?_,rfl⟩ ZI;simp only[bH,h1,h2,h3,hz,true_and,vU,Value.bool.injEq];exact decide_eq_decide.2 ⟨fun h=>by omega,fun h=>by omega⟩
end Go.Proofs.YtijnokbblmbpkaaGreatDoor

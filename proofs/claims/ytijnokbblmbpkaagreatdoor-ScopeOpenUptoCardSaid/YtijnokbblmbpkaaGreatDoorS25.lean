/-
  The code of functions, as terms: printed by a program, proved to be what the seat has.
-/
import Derived.Test.YtijnokbblmbpkaaGreatDoorS9
import Derived.KernelRfl
import Derived.Test.YtijnokbblmbpkaaGreatDoorProg
import Derived.Test.YtijnokbblmbpkaaGreatDoorS10
import Derived.Test.YtijnokbblmbpkaaGreatDoorS11
import Derived.Test.YtijnokbblmbpkaaGreatDoorS7
import Derived.Test.YtijnokbblmbpkaaGreatDoorS21
set_option linter.all false
namespace Go.Proofs.YtijnokbblmbpkaaGreatDoor
open Go Go.V
set_option maxRecDepth 100000
def X9:aQ:=laid (X:=⟨21,[.tmp 2],(qS [qz 2 false] [0] (qS [qm 3 0,qo 4 (.bin .eql (.tmp 3) (.const (.string ⟨#[115,101,108,102]⟩))),qm 5 4,qu 5 (qm 6 0),
 qu 5 (qo 7 (.bin .eql (.tmp 6) (.const (.string ⟨#[115,117,112,101,114]⟩)))),qr 8 5 7,qm 9 8,qu 9 (qm 10 0),
 qu 9 (qo 11 (.bin .eql (.tmp 10) (.const (.string ⟨#[110,105,108]⟩)))),qr 12 9 11,qm 13 12,qu 13 (qm 14 0),
 qu 13 (qo 15 (.bin .eql (.tmp 14) (.const (.string ⟨#[116,114,117,101]⟩)))),qr 16 13 15,qm 17 16,qu 17 (qm 18 0),
 qu 17 (qo 19 (.bin .eql (.tmp 18) (.const (.string ⟨#[102,97,108,115,101]⟩)))),qr 20 17 19,qm 2 20] [2] .ret))⟩)
theorem n132:X9.n=21:=rfl
theorem aam:nU Tryz.prog (XL X9) (zA []) 132=some X9:=by kernel_rfl
def Ya:aQ:=laid (X:=⟨16,[.tmp 2],(qS [qz 2 false] [0] (qS [qo 3 (.mv (.const (.string ⟨#[43,45,42,47,92,126,60,62,61,64,37,38,63,44,33]⟩)))] [0,3] (.seq (qS [qk 4 0] [0,3,4] (.block 0 (.loop (.seq (qS [qm 5 4,qm 6 3,qo 7 (.Dc (.tmp 6)),qb 8 .lss 5 7] [0,3,4,8] (qC 8 .skip (.exit 0))) (.seq (.block 1 (qS [qm 11 3,qm 12 4,qo 13 (.tT (.tmp 11) (.tmp 12)),qm 14 0,qb 15 .eql 13 14] [0,3,4,15] (qC 15 (qS [qz 2 true] [2] .ret) .skip))) (.ly [qm 9 4,qc 10 .add 9 1,qm 4 10] [0,3,4])))))) (qS [qz 2 false] [2] .ret))))⟩)
theorem n145:Ya.n=16:=rfl
theorem aap:nU Tryz.prog (XL Ya) (zA []) 145=some Ya:=by kernel_rfl
def Yb:aQ:=laid (X:=⟨45,[.tmp 4],(qS [qk 4 0] [0,1] (.seq (qS [qm 6 0,qm 7 1,qo 8 (.tT (.tmp 6) (.tmp 7)),qo 9 (.bin .eql (.tmp 8) (.const (.int .u8 124)))] [0,1,9] (qC 9 (qS [qm 10 1,qc 11 .add 10 1,qm 4 11] [4] .ret) .skip)) (qS [qm 12 1,qm 5 12] [0,1,5] (.seq (.block 0 (.loop (.seq (qS [qm 13 5,qm 14 0,qo 15 (.Dc (.tmp 14)),qb 16 .lss 13 15,qm 17 16,qt 17 (qm 18 0),qt 17 (qm 19 5),
 qt 17 (qo 20 (.tT (.tmp 18) (.tmp 19))),qt 17 (qx 21 145 [20]),qa 22 17 21,qm 23 22,qt 23 (qm 24 5),qt 23 (qm 25 1),qt 23 (qb 26 .gtr 24 25),
 qt 23 (qm 27 26),qt 27 (qm 28 0),qt 27 (qm 29 5),qt 27 (qo 30 (.tT (.tmp 28) (.tmp 29))),
 qt 27 (qo 31 (.bin .eql (.tmp 30) (.const (.int .u8 45)))),qt 23 (qa 32 27 31),qt 23 (qm 33 32),qt 33 (qm 34 0),qt 33 (qm 35 5),
 qt 33 (qc 36 .add 35 1),qt 33 (qx 37 183 [34,36]),qt 33 (qx 38 182 [37]),qt 23 (qa 39 33 38),qt 23 (qo 40 (.un .not (.tmp 39))),qa 41 23 40] [0,1,5,41] (qC 41 .skip (.exit 0))) (.block 1 (.ly [qm 42 5,qc 43 .add 42 1,qm 5 43] [0,1,5]))))) (qS [qm 44 5,qm 4 44] [4] .ret)))))⟩)
theorem n146:Yb.n=45:=rfl
theorem aaq:nU Tryz.prog (XL Yb) (zA []) 146=some Yb:=by kernel_rfl
def Yc:aQ:=laid (X:=⟨21,[.tmp 2],(qS [qz 2 false] [0] (qS [qm 3 0,qo 4 (.bin .geq (.tmp 3) (.const (.int .u8 97))),qm 5 4,qt 5 (qm 6 0),
 qt 5 (qo 7 (.bin .leq (.tmp 6) (.const (.int .u8 122)))),qa 8 5 7,qm 9 8,qu 9 (qm 10 0),
 qu 9 (qo 11 (.bin .geq (.tmp 10) (.const (.int .u8 65)))),qu 9 (qm 12 11),qt 12 (qm 13 0),
 qt 12 (qo 14 (.bin .leq (.tmp 13) (.const (.int .u8 90)))),qu 9 (qa 15 12 14),qr 16 9 15,qm 17 16,qu 17 (qm 18 0),
 qu 17 (qo 19 (.bin .eql (.tmp 18) (.const (.int .u8 95)))),qr 20 17 19,qm 2 20] [2] .ret))⟩)
theorem n180:Yc.n=21:=rfl
theorem aaM:nU Tryz.prog (XL Yc) (zA []) 180=some Yc:=by kernel_rfl
def Yd:aQ:=laid (X:=⟨18,[.tmp 4],(qS [qk 4 0] [0,1] (.seq (.block 0 (.loop (.seq (qS [qm 5 1,qm 6 0,qo 7 (.Dc (.tmp 6)),qb 8 .lss 5 7,qm 9 8,qt 9 (qm 10 0),qt 9 (qm 11 1),qt 9 (qo 12 (.tT (.tmp 10) (.tmp 11))),
 qt 9 (qx 13 216 [12]),qa 14 9 13] [0,1,14] (qC 14 .skip (.exit 0))) (.block 1 (.ly [qm 15 1,qc 16 .add 15 1,qm 1 16] [0,1]))))) (qS [qm 17 1,qm 4 17] [4] .ret)))⟩)
theorem n181:Yd.n=18:=rfl
theorem aaN:nU Tryz.prog (XL Yd) (zA []) 181=some Yd:=by kernel_rfl
def Ye:aQ:=laid (X:=⟨9,[.tmp 2],(qS [qz 2 false] [0] (qS [qm 3 0,qo 4 (.bin .geq (.tmp 3) (.const (.int .u8 48))),qm 5 4,qt 5 (qm 6 0),
 qt 5 (qo 7 (.bin .leq (.tmp 6) (.const (.int .u8 57)))),qa 8 5 7,qm 2 8] [2] .ret))⟩)
theorem n182:Ye.n=9:=rfl
theorem aaO:nU Tryz.prog (XL Ye) (zA []) 182=some Ye:=by kernel_rfl
def Yf:aQ:=laid (X:=⟨12,[.tmp 4],(qS [qo 4 (.mv (.const (.int .u8 0)))] [0,1] (.seq (qS [qm 5 1,qm 6 0,qo 7 (.Dc (.tmp 6)),qb 8 .lss 5 7] [0,1,8] (qC 8 (qS [qm 9 0,qm 10 1,qo 11 (.tT (.tmp 9) (.tmp 10)),qm 4 11] [4] .ret) .skip)) (qS [qo 4 (.mv (.const (.int .u8 0)))] [4] .ret)))⟩)
theorem n183:Yf.n=12:=rfl
theorem aaP:nU Tryz.prog (XL Yf) (zA []) 183=some Yf:=by kernel_rfl
def Yg:aQ:=laid (X:=⟨9,[.tmp 2],(qS [qz 2 false] [0] (qS [qm 3 0,qx 4 180 [3],qm 5 4,qu 5 (qm 6 0),qu 5 (qx 7 182 [6]),qr 8 5 7,qm 2 8] [2] .ret))⟩)
theorem n216:Yg.n=9:=rfl
theorem abe:nU Tryz.prog (XL Yg) (zA []) 216=some Yg:=by kernel_rfl
noncomputable def F85:aQ:=bb (o:=gF pq Tryz.f85 [])
theorem n85:F85.n=28:=rfl
theorem low85:aZ Tryz.prog 85 []=some F85:=by kernel_rfl
noncomputable def F144:aQ:=bb (o:=gF pq Tryz.f144 [])
theorem n144:F144.n=23:=rfl
theorem aao:aZ Tryz.prog 144 []=some F144:=by kernel_rfl
noncomputable def F147:aQ:=bb (o:=gF pq Tryz.f147 [])
theorem n147:F147.n=32:=rfl
theorem aar:aZ Tryz.prog 147 []=some F147:=by kernel_rfl
noncomputable def F243:aQ:=bb (o:=gF pq Tryz.f243 [])
theorem n243:F243.n=38:=rfl
theorem abr:aZ Tryz.prog 243 []=some F243:=by kernel_rfl
noncomputable def F259:aQ:=bb (o:=gF pq Tryz.f259 [])
theorem n259:F259.n=14:=rfl
theorem abz:aZ Tryz.prog 259 []=some F259:=by kernel_rfl
noncomputable def F260:aQ:=bb (o:=gF pq Tryz.f260 [])
theorem n260:F260.n=30:=rfl
theorem abA:aZ Tryz.prog 260 []=some F260:=by kernel_rfl
noncomputable def F279:aQ:=bb (o:=gF pq Tryz.f279 [])
theorem n279:F279.n=22:=rfl
theorem abD:aZ Tryz.prog 279 []=some F279:=by kernel_rfl
noncomputable def F86:aQ:=bb (o:=gF pq Tryz.f86 [])
theorem n86:F86.n=18:=rfl
theorem low86:aZ Tryz.prog 86 []=some F86:=by kernel_rfl
noncomputable def F148:aQ:=bb (o:=gF pq Tryz.f148 [])
theorem n148:F148.n=14:=rfl
theorem aas:aZ Tryz.prog 148 []=some F148:=by kernel_rfl
set_option maxHeartbeats 3200000
theorem eU {s:ByteArray}{j c:Nat}(h:(kB s)[j]? =some c):(kB s).drop j=c::(kB s).drop (j+1):=by
 obtain⟨h1,h2⟩:=Vm.1 h;rw[vp h1,h2]
theorem AX {s:ByteArray}{j:Nat}(h:s.size<=j):(kB s).drop j=[]:=vq (by rw[kS];exact h)
theorem pQ(c:Nat)(hc:c < 256):aq Tryz.prog 180 [cv c] [] (fun v Post=>v=.bool (Al c)/\Post=[]):=by
 refine aq.intro aaM (by simp[n180]) ?_
 (repeat' (first|refine SQ ?_|refine qO Zr (fun _=>?_) (fun _=>?_)|refine qR Zr (fun _=>?_) (fun _=>?_)|refine VC.qF Zr (fun _=>?_) (fun _=>?_)|refine VC.cond Zr (fun _=>?_) (fun _=>?_)))
 all_goals refine⟨.inr rfl,_,_,.tmp Zr .nil,ZI,?_,rfl⟩
 all_goals (simp only[bJ,Al,Value.bool.injEq,decide_eq_true_eq,decide_eq_false_iff_not]at*)
 all_goals (rw[vI];simp only[vP,vF,vM,decide_eq_true_eq,decide_eq_false_iff_not,true_iff,iff_true,reduceCtorEq,false_iff,iff_false];omega)
theorem lQ(c:Nat)(hc:c < 256):aq Tryz.prog 182 [cv c] [] (fun v Post=>v=.bool (wG c)/\Post=[]):=by
 refine aq.intro aaO (by simp[n182]) ?_
 (repeat' (first|refine SQ ?_|refine qO Zr (fun _=>?_) (fun _=>?_)|refine qR Zr (fun _=>?_) (fun _=>?_)|refine VC.qF Zr (fun _=>?_) (fun _=>?_)|refine VC.cond Zr (fun _=>?_) (fun _=>?_)))
 all_goals refine⟨.inr rfl,_,_,.tmp Zr .nil,ZI,?_,rfl⟩
 all_goals (simp only[bJ,wG,Value.bool.injEq,decide_eq_true_eq,decide_eq_false_iff_not]at*)
 all_goals (rw[vI];simp only[vP,vF,vM,decide_eq_true_eq,decide_eq_false_iff_not,true_iff,iff_true,reduceCtorEq,false_iff,iff_false];omega)
theorem Fb(c:Nat)(hc:c < 256):aq Tryz.prog 216 [cv c] [] (fun v Post=>v=.bool (nT c)/\Post=[]):=by
 refine aq.intro abe (by simp[n216]) ?_;refine ae ?_;refine kK (pQ c hc) Zr ?_;cases hl:Al c with
 |true=>
  exact zC7
 |false=>
  refine ae ?_;refine kK (lQ c hc) Zr ?_;exact zC7
theorem uQ(s:ByteArray)(hs:s.size<=140737488355328)(k:Nat):aq Tryz.prog 183 [.string s,vi k] [] (fun v Post=>v=cv ((kB s).getD k 0)/\Post=[]):=by
 refine aq.intro aaP (by simp[n183]) ?_;exact zAZ
def AP:ByteArray:=⟨#[43,45,42,47,92,126,60,62,61,64,37,38,63,44,33]⟩
theorem Jn(c:Nat):cu c=(kB AP).contains c:=rfl
theorem pB(c:Nat)(hc:c < 256):aq Tryz.prog 145 [cv c] [] (fun v Post=>v=.bool (cu c)/\Post=[]):=by
 refine aq.intro aap (by simp[n145]) ?_;have hlen:=kS AP;have eu:AP.size=15:=rfl;refine ae ?_;refine VC.loop (α:=Nat) (bn:=fun k=>[(0,cv c),(3,.string AP),(4,vi k)]) (Hf:=fun _=>[]) (I:=fun k=>k<=15/\∀i,i < k->(kB AP)[i]?≠some c) (μ:=fun k=>15 - k) 0 ⟨Qp _,fun i h=>by omega⟩ ZU ao.nil ?_
 rintro k ⟨i1,i2⟩
 generalize hB:AP=B at*;refine ae ?_;by_cases hk:k < 15;rotate_left
 ·rw[Zf Zo];refine ae ?_;refine⟨.inr rfl,_,_,.tmp Zr .nil,ZI,?_,rfl⟩;have:cu c=false:=by
   rw[Jn,hB,vH];intro h;obtain⟨i,hi⟩:=Vo (vm.1 h);have hl:=(Vm.1 hi).1;exact i2 i Zo hi
  simp[bJ,this]
 rw[Zt Zo];obtain⟨d,hd,KX⟩:=jt (s:=B) (i:=k) Zo;refine ae ?_;refine jx Zr Zr (j:=k) rfl hd ?_;refine ae ?_;by_cases he:d.toNat=c
 ·rw[show decide ((d.toNat:Int)=(c:Int))=true from Zt Zo];refine ae ?_;refine⟨.inr rfl,_,_,.tmp Zr .nil,ZI,?_,rfl⟩;have:cu c=true:=by
   rw[Jn,hB];exact vm.2 (Zv (i:=k) (by rw[KX,he]))
  simp[bJ,this]
 ·rw[show decide ((d.toNat:Int)=(c:Int))=false from Zf Zo];refine ae ?_;refine⟨k+1,⟨Zo,fun i hi=>?_⟩,Zo,ZU,ao.nil⟩;by_cases e:i=k
  ·subst e;rw[KX];simpa using he
  ·exact i2 i Zo
def wa(l:List Nat):Nat:=(l.takeWhile nT).length
theorem Sa(l:List Nat):wa l<=l.length:=(List.takeWhile_sublist _).length_le
theorem Cp(s:ByteArray)(hs:s.size<=140737488355328)(i:Nat)(hi:i<=s.size):aq Tryz.prog 181 [.string s,vi i] [] (fun v Post=>v=vi (i+wa ((kB s).drop i):Nat)/\Post=[]):=by
 refine aq.intro aaN (by simp[n181]) ?_;refine ae ?_;refine VC.loop (α:=Nat) (bn:=fun k=>[(0,.string s),(1,vi k)]) (Hf:=fun _=>[]) (I:=fun k=>k<=s.size/\k+wa ((kB s).drop k)=i+wa ((kB s).drop i)) (μ:=fun k=>s.size - k) i ⟨hi,rfl⟩ ZU ao.nil ?_
 rintro k ⟨i1,i2⟩
 refine ae ?_;by_cases hk:k < s.size;rotate_left
 ·rw[Zf Zo];rw[AX Zo]at i2;refine ae ?_;refine⟨.inr rfl,_,_,.tmp Zr .nil,ZI,?_,rfl⟩;rw[<- i2];rfl
 rw[Zt Zo];obtain⟨c,hc,oa⟩:=jt hk;refine ae ?_;refine jx Zr Zr (j:=k) rfl hc ?_;refine ae ?_;refine kK (Fb _ (zU s _ (Zv oa))) Zr ?_;rw[eU oa]at i2;cases hb:nT c.toNat with
 |false=>
  refine ae ?_;refine⟨.inr rfl,_,_,.tmp Zr .nil,ZI,?_,rfl⟩;rw[<- i2];simp[bJ,wa,hb]
 |true=>
  refine ae ?_;refine⟨k+1,⟨Zo,?_⟩,Zo,ZU,ao.nil⟩;rw[<- i2];simp[wa,hb];omega
theorem LW {l:List Nat}{k c:Nat}(h:l[k]? =some c):Ay fw (l.drop k)=if(cu c&&(decide (c≠45)||!wG (l.getD (k+1) 0)))=true then 1+Ay fw (l.drop (k+1))else 0:=by
 rw[<- ti h];obtain⟨h1,h2⟩:=Vm.1 h;rw[vp h1];rfl
theorem IV(s:ByteArray)(hs:s.size<=140737488355328)(i:Nat)(hi:i < s.size):aq Tryz.prog 146 [.string s,vi i] [] (fun v Post=>v=vi (i+ef ((kB s).drop i):Nat)/\Post=[]):=by
 refine aq.intro aaq (by simp[n146]) ?_;have hlen:=kS s;obtain⟨c0,hc0,hc02⟩:=jt hi;have Y8:=eU hc02;refine ae ?_;refine jx Zr Zr (j:=i) rfl hc0 ?_;refine ae ?_;by_cases h0:c0.toNat=124
 ·rw[show decide ((c0.toNat:Int)=124)=true from Zt Zo];refine ae ?_;refine⟨.inr rfl,_,_,.tmp Zr .nil,ZI,?_,rfl⟩;rw[Y8];simp[bJ,ef,h0]
 rw[show decide ((c0.toNat:Int)=124)=false from Zf Zo];have bF:ef ((kB s).drop i)=if cu c0.toNat=true then 1+Ay fw ((kB s).drop (i+1))else 0:=by
  rw[Y8];simp only[ef,if_neg h0]
 refine ae ?_;refine VC.loop (α:=Nat) (bn:=fun k=>[(0,.string s),(1,vi i),(5,vi k)]) (Hf:=fun _=>[]) (I:=fun k=>k<=s.size/\(k=i∨(i < k/\k+Ay fw ((kB s).drop k)=i+ef ((kB s).drop i)))) (μ:=fun k=>s.size - k) i ⟨Zo,.inl rfl⟩ ZU ao.nil ?_
 rintro k ⟨i1,i2⟩
 refine ae ?_;by_cases hk:k < s.size;rotate_left
 ·rw[Zf Zo];rcases i2 with rfl|⟨i2,i3⟩
  ·omega
  exact zED
 rw[Zt Zo];obtain⟨c,hc,oa⟩:=jt hk;refine ae ?_;refine jx Zr Zr (j:=k) rfl hc ?_;refine ae ?_;refine kK (pB _ (zU s _ (Zv oa))) Zr ?_;have bB:=LW oa;have hi0:k=i->c=c0:=fun e=>by subst e;rw[hc0]at hc;cases hc;rfl
 cases hb:cu c.toNat with
 |false=>
  refine ae ?_;refine⟨.inr rfl,_,_,.tmp Zr .nil,ZI,?_,rfl⟩;rcases i2 with rfl|⟨i2,i3⟩
  ·rw[bF,<- hi0 rfl,hb];rfl
  ·rw[<- i3,bB,hb];rfl
 |true=>
  rw[hb,vS]at bB;refine ae ?_;rcases i2 with rfl|⟨i2,i3⟩
  ·rw[show decide ((k:Int) > (k:Int))=false from Zf Zo];refine ae ?_;refine⟨k+1,⟨Zo,.inr ⟨Zo,?_⟩⟩,Zo,ZU,ao.nil⟩;rw[bF,<- hi0 rfl,hb];simp only[if_true];omega
  rw[show decide ((k:Int) > (i:Int))=true from Zt Zo];refine ae ?_;refine jx Zr Zr (j:=k) rfl hc ?_;refine ae ?_;by_cases Mr:c.toNat=45;rotate_left
  ·rw[show decide ((c.toNat:Int)=45)=false from Zf Zo];refine ae ?_;refine⟨k+1,⟨Zo,.inr ⟨Zo,?_⟩⟩,Zo,ZU,ao.nil⟩;rw[<- i3,bB];simp[Mr];omega
  rw[show decide ((c.toNat:Int)=45)=true from Zt Zo];refine ae ?_;refine kK (uQ s hs (k+1)) Zr ?_;refine ae ?_;refine kK (lQ ((kB s).getD (k+1) 0) (by
   rw[Vb];cases h:(kB s)[k+1]? with
   |none=>decide
   |some x=>exact zU s _ (Zv h))) Zr ?_
  generalize (kB s).getD (k+1) 0=d at bB|-;cases KY:wG d with
  |true=>
   refine ae ?_;refine⟨.inr rfl,_,_,.tmp Zr .nil,ZI,?_,rfl⟩;rw[<- i3,bB];simp[bJ,Mr,KY]
  |false=>
   refine ae ?_;refine⟨k+1,⟨Zo,.inr ⟨Zo,?_⟩⟩,Zo,ZU,ao.nil⟩;rw[<- i3,bB];simp[KY];omega
theorem Mk(l:List Nat):l.all nT=decide (wa l=l.length):=by
 induction l with
 |nil=>rfl
 |cons c r ih=>
  simp only[vY,wa,List.takeWhile_cons];cases hc:nT c with
  |false=>simp
  |true=>
   simp only[vS,if_true,Vu,ih,wa,Nat.add_right_cancel_iff];exact decide_eq_decide.2 Iff.rfl
theorem iL(s:ByteArray)(hs:s.size<=140737488355328):aq Tryz.prog 144 [.string s] [] (fun v Post=>v=.bool (zz s)/\Post=[]):=by
 refine aq.intro aao (by simp[n144]) ?_;have hlen:=kS s;unfold zz fR;refine ae ?_;by_cases h0:s=⟨#[]⟩
 ·subst h0;exact zC6
 obtain⟨c,r,hc,hr,sT,gT⟩:=dt h0;rw[Zt (show(s.size:Int) > 0 by omega)];refine ae ?_;by_cases h40:s.size<=40;rotate_left
 ·exact zCS
 rw[Zt Zo];refine ae ?_;refine jx Zr Zr (j:=0) rfl hc ?_;refine ae ?_;refine kK (pQ _ sT) Zr ?_;cases hl:Al c.toNat with
 |false=>
  refine ae ?_;refine⟨.inr rfl,_,_,.tmp Zr .nil,ZI,?_,rfl⟩;simp[bJ,hr,hl]
 |true=>
  have hw:=Cp s hs 0 Zo;rw[vr,Qo]at hw;refine ae ?_;refine kK hw Zr ?_;refine ae ?_;refine⟨.inr rfl,_,_,.tmp Zr .nil,ZI,?_,rfl⟩;have h2:(c.toNat::r).length<=40:=by rw[<- hr];omega
  have au:=Mk (kB s);exact zBT
def Bj:List Nat->List Nat->Bool
 |_,[]=>false
 |[],_::_=>true
 |a::x,b::y=>decide (a < b)||(decide (a=b)&&Bj x y)
theorem Ij:∀(a b:List UInt8),Op.bytesLess a b=Bj (a.map UInt8.toNat) (b.map UInt8.toNat):=by
 intro a
 induction a with
 |nil=>intro b;cases b <;> rfl
 |cons x a ih=>
  intro b;cases b with
  |nil=>rfl
  |cons y b=>
   have e1:decide (x < y)=decide (x.toNat < y.toNat):=decide_eq_decide.2 UInt8.lt_iff_toNat_lt;have e2:(x==y)=decide (x.toNat=y.toNat):=by
    rw[vI,beq_iff_eq,decide_eq_true_eq];exact UInt8.toNat_inj.symm
   simp only[Op.bytesLess,Q7,Bj,ih,e1,e2]
def oS(m:Nat)(l:List Nat):Nat:=l.foldl (fun n c=>n*10+(c - 48)) m
theorem ni(m c:Nat)(l:List Nat):oS m (c::l)=oS (m*10+(c - 48)) l:=by unfold oS;exact Va ..
theorem O3(l:List Nat):zG l=oS 0 l:=by unfold oS zG;exact Eq.refl _
theorem Jv:∀(a b:List Nat) (m n:Nat),a.length=b.length->a.all wG=true->m < n->oS m a < oS n b:=by
 intro a
 induction a with
 |nil=>intro b m n h _ hm;cases b with
  |nil=>exact hm
  |cons=>cases h
 |cons c a ih=>
  intro b m n h hd hm;cases b with
  |nil=>cases h
  |cons d b=>
   simp only[vY,vF]at hd;have hc:=hd.1;simp only[wG,vF,decide_eq_true_eq]at hc;rw[ni,ni];exact ih b _ _ (by simpa using h) hd.2 Zo
theorem Ov:∀(a b:List Nat) (m:Nat),a.length=b.length->a.all wG=true->b.all wG=true->Bj a b=decide (oS m a < oS m b)/\(oS m a=oS m b->a=b):=by
 intro a
 induction a with
 |nil=>intro b m h _ _;cases b with
  |nil=>simp[Bj]
  |cons=>cases h
 |cons c a ih=>
  intro b m h hd KX;cases b with
  |nil=>cases h
  |cons d b=>
   simp only[vY,vF]at hd KX;have hc:=hd.1;have KY:=KX.1;simp only[wG,vF,decide_eq_true_eq]at hc KY;have hl:a.length=b.length:=by simpa using h
   rw[ni,ni];simp only[Bj];rcases Nat.lt_trichotomy c d with h1|h1|h1
   ·have:=Jv a b (m*10+(c - 48)) (m*10+(d - 48)) hl hd.2 Zo;rw[Zt h1,Zt this];exact⟨rfl,fun e=>by omega⟩
   ·subst h1;obtain⟨i1,i2⟩:=ih b (m*10+(c - 48)) hl hd.2 KX.2;rw[i1];exact⟨Zs,fun e=>by rw[i2 e]⟩
   ·have:=Jv b a (m*10+(d - 48)) (m*10+(c - 48)) hl.symm KX.2 Zo;rw[Zf (show ¬c < d by omega),Zf (show ¬c=d by omega),Zf (show ¬oS (m*10+(c - 48)) a < oS (m*10+(d - 48)) b by omega)];exact⟨rfl,fun e=>by omega⟩
theorem Td(s t:ByteArray)(hl:s.size=t.size)(hs:(kB s).all wG=true)(ht:(kB t).all wG=true):(!(Op.bytesLess s.toList t.toList||decide (s=t)))=decide (zG (kB t) < zG (kB s)):=by
 obtain⟨h1,h2⟩:=Ov (kB s) (kB t) 0 (by rw[kS,kS,hl]) hs ht;rw[Ij,Lib.toList_data,Lib.toList_data,show s.data.toList.map UInt8.toNat=kB s from rfl,show t.data.toList.map UInt8.toNat=kB t from rfl,h1,O3,O3];by_cases e:s=t
 ·subst e;simp
 ·have ck:oS 0 (kB s)≠oS 0 (kB t):=fun h=>e (jS (h2 h))
  simp only[e,decide_false,vR]
  (rw[vI];simp only[vP,vF,vM,decide_eq_true_eq,decide_eq_false_iff_not,true_iff,iff_true,reduceCtorEq,false_iff,iff_false];omega)
def pY(m:Bool):ByteArray:=if m then⟨#[49,49,53,50,57,50,49,53,48,52,54,48,54,56,52,54,57,55,54]⟩else⟨#[49,49,53,50,57,50,49,53,48,52,54,48,54,56,52,54,57,55,53]⟩
theorem Bq(m:Bool):(pY m).size=19/\(kB (pY m)).all wG=true/\zG (kB (pY m))=if m=true then 1152921504606846976 else 1152921504606846975:=by cases m <;> decide
theorem Fi(s t:ByteArray)(hs:s.size<=140737488355328)(ht:t.size<=140737488355328)(hds:(kB s).all wG=true)(hdt:(kB t).all wG=true):
 aq Tryz.prog 279 [.string s,.string t] [] (fun v Post=>v=.bool (decide (t.size < s.size∨(s.size=t.size/\zG (kB t) < zG (kB s))))/\Post=[]):=by
 refine aq.intro abD (by simp[n279]) ?_;refine ae ?_;by_cases h1:t.size < s.size
 ·rw[show decide ((s.size:Int) > (t.size:Int))=true from Zt Zo];refine ae ?_;refine⟨.inr rfl,_,_,.tmp Zr .nil,ZI,?_,rfl⟩;simp[bJ,h1]
 rw[show decide ((s.size:Int) > (t.size:Int))=false from Zf Zo];refine ae ?_;by_cases h2:s.size=t.size;rotate_left
 ·rw[show decide ((s.size:Int)=(t.size:Int))=false from Zf Zo];refine ae ?_;refine⟨.inr rfl,_,_,.tmp Zr .nil,ZI,?_,rfl⟩;simp[bJ,h1,h2]
 rw[show decide ((s.size:Int)=(t.size:Int))=true from Zt Zo];refine ae ?_;have hg:=Td s t h2 hds hdt;refine⟨.inr rfl,_,_,.tmp Zr .nil,ZI,?_,rfl⟩;simp only[bJ,hg];simp[h1,h2]
theorem F7(s:ByteArray)(hs:s.size<=140737488355328):aq Tryz.prog 259 [.string s] [] (fun v Post=>∃t,v=.string t/\kB t=jy (kB s)/\t.size<=s.size/\Post=[]):=by
 refine aq.intro abz (by simp[n259]) ?_;refine ae ?_;refine VC.loop (α:=ByteArray) (bn:=fun t=>[(0,.string t)]) (Hf:=fun _=>[]) (I:=fun t=>t.size<=s.size/\jy (kB t)=jy (kB s)) (μ:=fun t=>t.size) s ⟨Qh _,rfl⟩ ZU ao.nil ?_
 rintro t ⟨i1,i2⟩
 have hlen:=kS t;refine ae ?_;have stop:jy (kB t)=kB t->∃u,Value.string t=.string u/\kB u=jy (kB s)/\u.size<=s.size/\([]:SH)=[]:=fun h=>⟨t,rfl,by rw[<- i2,h],i1,rfl⟩
 by_cases h1:1 < t.size;rotate_left
 ·rw[show decide ((t.size:Int) > 1)=false from Zf Zo];have lF:=stop (by
   match h:kB t with
   |[]=>rfl
   |[c]=>rw[jy.eq_2];intro c' r h';simp at h'
   |c::d::r=>rw[h]at hlen;simp at hlen;omega)
  refine ae ?_;exact kG (Post:=[]) (.inr rfl) (.tmp Zr .nil) lF ao.nil
 rw[show decide ((t.size:Int) > 1)=true from Zt Zo];obtain⟨c,hc,oa⟩:=jt (s:=t) (i:=0) Zo;obtain⟨d,hd,KX⟩:=jt (s:=t) (i:=1) Zo;have NE:kB t=c.toNat::d.toNat::(kB t).drop 2:=by
  rw[<- eU KX,<- eU oa];rfl
 refine ae ?_;refine jx Zr Zr (j:=0) rfl hc ?_;refine ae ?_;by_cases h48:c.toNat=48;rotate_left
 ·rw[show decide ((c.toNat:Int)=48)=false from Zf Zo];have lF:=stop (by
   rw[NE,jy.eq_2];intro c' r h';simp at h';exact h48 h'.1)
  refine ae ?_;exact kG (Post:=[]) (.inr rfl) (.tmp Zr .nil) lF ao.nil
 rw[show decide ((c.toNat:Int)=48)=true from Zt Zo];refine ae ?_;refine dh (l:=1) (h:=t.size) Zr (.num Zr) .Sh ⟨Zo,Zo⟩ ?_;refine ae ?_;refine⟨t.extract 1 t.size,⟨by rw[ByteArray.size_extract];omega,?_⟩,by rw[ByteArray.size_extract];omega,ZU,ao.nil⟩;rw[<- i2,ja,NE,h48];rw[show(48::d.toNat::(kB t).drop 2).take t.size=48::d.toNat::(kB t).drop 2 from QZ (by
  have:=congrArg List.length NE;rw[hlen]at this;simp at this|-;omega)]
 rfl
set_option maxHeartbeats 800000
theorem AA {t:ByteArray}(m:Bool)(hd:(kB t).all wG=true):((pY m).size < t.size∨(t.size=(pY m).size/\zG (kB (pY m)) < zG (kB t)))↔¬wg m (kB t):=by
 obtain⟨h1,_,h3⟩:=Bq m;have hlen:=kS t;have aO:=UT (kB t) 0 0 (fun c hc=>vZ.1 hd c hc) Zd;rw[show(kB t).foldl (fun n c=>n*10+(c - 48)) 0=zG (kB t) by simp only[zG]]at aO;rw[h1,h3];unfold wg;rw[hlen,Qo]at*;by_cases hs:t.size < 19
 ·have h4:(10:Nat) ^ t.size<=10 ^ 18:=Nat.pow_le_pow_right Zo Zo;have h5:(10:Nat) ^ 18=1000000000000000000:=by decide
  cases m <;> simp <;> omega
 ·cases m <;> simp <;> omega
theorem Dh(A:List kC)(hE:mQ A)(t:ByteArray)(h0:kB t≠[])(hd:(kB t).all wG=true)(hl:t.size<=255)(m:Bool):aq Tryz.prog 260 [.string t,.bool m] [A] (fun v Post=>lL m t v/\Post=[A]):=by
 refine aq.intro abA (by simp[n260]) ?_;have hlen:=kS t;have Y5:zi .add (.string ⟨#[45]⟩) (.string t)=some (.string (⟨#[45]⟩++t)):=if_pos (by show 1+t.size<=9223372036854775807;omega);have H5:=AA m hd;obtain⟨g1,g2,g3⟩:=Bq m;refine ae ?_;refine kN (fun b=>?_);refine ae ?_;by_cases hz:t=⟨#[48]⟩
 ·rw[Zt hz];refine ae ?_;refine⟨.inr rfl,_,_,.aJ (us:=[cv 4,vi 0,uv 0,.string ⟨#[]⟩,Nz]) Zr Zr GV .nil,ZI,.inl ⟨?_,?_⟩,rfl⟩
  ·rw[hz];cases m <;> exact⟨Zd,Zd⟩
  ·rw[hz];cases m <;> rfl
 rw[Zf hz];refine ae ?_;have CW:=Fi t (pY m) Zo Zo hd g2;have hlo1:wg m (kB t)->aq Tryz.prog 279 [.string t,.string (pY m)] [] (fun v Post=>v=.bool false/\Post=[]):=fun h=>by
  rw[Zf (fun h2=>H5.1 h2 h)]at CW;exact CW
 have hlo2:¬wg m (kB t)->aq Tryz.prog 279 [.string t,.string (pY m)] [] (fun v Post=>v=.bool true/\Post=[]):=fun h=>by
  rw[Zt (H5.2 h)]at CW;exact CW
 have eo:∀u:ByteArray,¬wg m (kB t)->kB u=(if m=true then 45::kB t else kB t)->lL m t (.agg #[cv 5,vi 0,uv 0,.string u,Nz]):=fun u h1 h2=>.inr ⟨h1,u,rfl,h2⟩
 cases m with
 |true=>
  refine ae ?_;by_cases JK:wg true (kB t);rotate_left
  ·refine kK (hlo2 JK) Zr ?_;refine ae ?_;refine fA Zr Zr Y5 ?_;refine ae ?_;refine⟨.inr rfl,_,_,.aJ (us:=[cv 5,vi 0,uv 0,.string (⟨#[45]⟩++t),Nz]) Zr Zr GV .nil,ZI,eo _ JK (by rw[nZ];rfl),rfl⟩
  refine kK (hlo1 JK) Zr ?_;refine ae ?_;refine kJ (gD A hE t h0 hd (by have:=JK.1;omega)) Zr ZP (fun v Post hv=>?_);rcases hv with⟨⟨hn,rfl⟩|⟨hn,_⟩,rfl⟩
  rotate_left
  ·have:=JK.2;simp only[if_true]at this;omega
  simp only[aH];have CY:=JK.2;simp only[if_true]at CY;have ep:lL true t (.agg #[cv 4,vi (-(zG (kB t):Int)),uv 0,.string ⟨#[]⟩,Nz]):=.inl ⟨JK,rfl⟩;generalize zG (kB t)=N at*;refine ae ?_;rw[show IntKind.i64.wrap (0 - (N:Int))=-(N:Int) by rw[Int.zero_sub];exact wrap64 ⟨Zo,Zo⟩];refine ae ?_;exact⟨.inr rfl,_,_,.aJ (us:=[cv 4,vi (-(N:Int)),uv 0,.string ⟨#[]⟩,Nz]) Zr Zr GV .nil,ZI,ep,rfl⟩
 |false=>
  refine ae ?_;by_cases JK:wg false (kB t);rotate_left
  ·refine kK (hlo2 JK) Zr ?_;refine ae ?_;refine⟨.inr rfl,_,_,.aJ (us:=[cv 5,vi 0,uv 0,.string t,Nz]) Zr Zr GV .nil,ZI,eo _ JK rfl,rfl⟩
  refine kK (hlo1 JK) Zr ?_;refine ae ?_;refine kJ (gD A hE t h0 hd (by have:=JK.1;omega)) Zr ZP (fun v Post hv=>?_);rcases hv with⟨⟨hn,rfl⟩|⟨hn,_⟩,rfl⟩
  rotate_left
  ·have:=JK.2;simp only[vK,if_false]at this;omega
  simp only[aH];have ep:lL false t (.agg #[cv 4,vi (zG (kB t):Int),uv 0,.string ⟨#[]⟩,Nz]):=.inl ⟨JK,rfl⟩;generalize zG (kB t)=N at*;refine ae ?_;exact⟨.inr rfl,_,_,.aJ (us:=[cv 4,vi (N:Int),uv 0,.string ⟨#[]⟩,Nz]) Zr Zr GV .nil,ZI,ep,rfl⟩
theorem Aj(A:List kC)(hE:mQ A)(s:ByteArray)(hs:s.size<=140737488355328):aq Tryz.prog 243 [.string s] [A] (fun v Post=>Ea s v/\Post=[A]):=by
 refine aq.intro abr (by simp[n243]) ?_;have DZ:=kS s;have JB:yE (kB s)=false->Ea s (.tuple #[.agg #[cv 0,vi 0,uv 0,.string ⟨#[]⟩,Nz],vi 144]):=fun h=>.inl ⟨h,rfl⟩
 have hm:decide ((kB s).getD 0 0=45)=zH (kB s):=by
  unfold zH;cases kB s <;> simp
 have Sm:=uQ s hs 0;refine jD ?_;refine kN (fun b=>?_);refine jD ?_;refine kK Sm Zr ?_;generalize hg0:(kB s).getD 0 0=z0 at hm|-;refine jD ?_;refine VC.join (α:=ByteArray) (fun d=>[(0,.string d),(2,kF b),(4,.bool (zH (kB s)))]) (fun _=>[kA b 0 [.int .u8 0,.int .i64 0,.int .u64 0,.string ⟨#[]⟩,.slice none 0 0],A]) (fun d=>kB d=wu (kB s)/\d.size<=s.size) ?_ ?_
 ·by_cases Mr:z0=45
  ·rw[show decide ((z0:Int)=45)=true from Zt Zo];rw[Zt Mr]at hm;have gT:0 < s.size:=by
    rcases Qf s.size with h|h
    ·rw[Vb,Vj Zo]at hg0;simp at hg0;omega
    ·exact h
   refine ae ?_;refine dh (l:=1) (h:=s.size) Zr (.num Zr) .Sh ⟨Zo,Zo⟩ ?_;refine ae ?_;refine⟨s.extract 1 s.size,⟨?_,by rw[ByteArray.size_extract];omega⟩,by rw[<- hm];exact tX,ZI⟩;rw[ja,QZ Zo];unfold wu;have h1:(kB s).head? =some 45:=by
    have:=hm.symm;unfold zH at this;exact of_decide_eq_true this
   rw[if_pos h1,List.drop_one]
  ·rw[show decide ((z0:Int)=45)=false from Zf Zo];rw[Zf Mr]at hm;refine ae ?_;refine⟨s,⟨?_,Qh _⟩,by rw[<- hm];exact tX,ZI⟩;unfold wu;have h1:¬(kB s).head? =some 45:=by
    have:=hm.symm;unfold zH at this;exact of_decide_eq_false this
   rw[if_neg h1]
 rintro d ⟨hd,hds⟩
 have hld:=kS d;generalize Sv:zH (kB s)=m;refine ae ?_;refine VC.loop (α:=Nat) (bn:=fun k=>[(0,.string d),(2,kF b),(4,.bool m),(5,vi k)]) (Hf:=fun _=>[kA b 0 [.int .u8 0,.int .i64 0,.int .u64 0,.string ⟨#[]⟩,Nz],A]) (I:=fun k=>k<=d.size/\∀i c,i < k->(kB d)[i]? =some c->wG c=true) (μ:=fun k=>d.size - k) 0 ⟨Qp _,fun i c h=>by omega⟩ ZU ZI ?_
 rintro k ⟨i1,i2⟩
 refine ae ?_;by_cases hk:k < d.size
 ·rw[Zt Zo];obtain⟨c,hc,oa⟩:=jt hk;refine ae ?_;refine jx Zr Zr (j:=k) rfl hc ?_;refine ae ?_;refine kK (lQ _ (zU d _ (Zv oa))) Zr ?_;cases hb:wG c.toNat with
  |true=>
   refine ae ?_;refine⟨k+1,⟨Zo,fun i x hi hx=>?_⟩,Zo,ZU,ZI⟩;by_cases e:i=k
   ·subst e;rw[oa]at hx;cases hx;exact hb
   ·exact i2 i x Zo hx
  |false=>
   have gp:yE (kB s)=false:=by
    unfold yE;rw[<- hd];have:(kB d).all wG=false:=by
     rw[vH];intro h;have:=vZ.1 h _ (Zv oa);rw[hb]at this;cases this
    rw[this];simp
   refine ae ?_;exact⟨.inr rfl,_,_,.aJ (us:=[cv 0,vi 0,uv 0,.string ⟨#[]⟩,Nz]) Zr Zr GV (.tmp Zr .nil),ZI,JB gp,rfl⟩
 rw[Zf Zo];have au:(kB d).all wG=true:=by
  rw[vZ];intro c hc;obtain⟨i,hi⟩:=Vo hc;exact i2 i c (by have:=(Vm.1 hi).1;omega) hi
 refine ae ?_;refine kJ (F7 d Zo) Zr ZP (fun v Post hv=>?_);obtain⟨t,rfl,ht,hts,rfl⟩:=hv;have aO:=kS t;have hg:yE (kB s)=(decide (kB d≠[])&&decide (t.size<=255)):=by
  unfold yE;rw[<- hd,<- ht,aO,au,Bool.and_true]
 simp only[QL];refine ae ?_;by_cases h0:kB d=[]
 ·have hb:yE (kB s)=false:=by rw[hg,Zf (fun h=>h h0)];rfl
  have:t.size=0:=by rw[<- aO,ht,h0];rfl
  rw[show decide ((t.size:Int) < 1)=true from Zt Zo];exact zDJ
 have T7:kB t≠[]:=by rw[ht];exact Bv h0
 have:0 < t.size:=by rw[<- aO];exact List.length_pos_iff.2 T7
 rw[show decide ((t.size:Int) < 1)=false from Zf Zo];refine ae ?_;by_cases tK:t.size<=255;rotate_left
 ·rw[Zt (show(t.size:Int) > 255 by omega)];have hb:yE (kB s)=false:=by rw[hg,Zf tK];simp
  exact zDJ
 rw[Zf (show ¬(t.size:Int) > 255 by omega)];have hgt:yE (kB s)=true:=by rw[hg,Zt tK,Zt h0];rfl
 refine ae ?_;refine kJ (Dh A hE t T7 (by rw[ht];exact yf au) tK m) Zr ZP (fun v Post hv=>?_);obtain⟨hw,rfl⟩:=hv;have fin:∀u,lL m t u->Ea s (.tuple #[u,vi 0]):=fun u hu=>.inr ⟨hgt,t,u,by rw[ht,hd],by rw[Sv];exact hu,rfl⟩
 have ep:=fin _ hw;simp only[aH];rcases hw with⟨_,rfl⟩|⟨_,u,rfl,_⟩
 ·generalize (if m=true then -(zG (kB t):Int)else(zG (kB t):Int))=z at ep|-;refine ae ?_;exact⟨.inr rfl,_,_,.aJ (us:=[cv 4,vi z,uv 0,.string ⟨#[]⟩,Nz]) Zr Zr GV (.tmp Zr .nil),ZI,ep,rfl⟩
 ·refine ae ?_;exact⟨.inr rfl,_,_,.aJ (us:=[cv 5,vi 0,uv 0,.string u,Nz]) Zr Zr GV (.tmp Zr .nil),ZI,ep,rfl⟩
set_option maxHeartbeats 3200000
theorem GM(l:List Nat):∃w r,l=w++r/\w.length=wa l/\w.all nT=true/\∀c q,r=c::q->nT c=false:=by
 unfold wa
 induction l with
 |nil=>exact⟨[],[],rfl,rfl,rfl,fun c q h=>by cases h⟩
 |cons c r ih=>
  cases hc:nT c with
  |false=>exact⟨[],c::r,rfl,by simp[hc],rfl,fun d q h=>by cases h;exact hc⟩
  |true=>
   obtain⟨w,q,rfl,h2,h3,h4⟩:=ih;exact⟨c::w,q,rfl,by simp[hc,h2],by simp[hc,h3],h4⟩
theorem Gq {c:Nat}{l:List Nat}(h:c∈l):∃p q,l=p++c::q/\c∉p:=by
 induction l with
 |nil=>cases h
 |cons d r ih=>
  by_cases hd:c=d
  ·subst hd;exact⟨[],r,rfl,Zs⟩
  ·obtain⟨p,q,rfl,hp⟩:=ih (by simpa[hd]using h);exact⟨d::p,q,rfl,by simp[hd,hp]⟩
theorem inn58:nT 58=false:=rfl
theorem no58 {w:List Nat}(h:w.all nT=true):58∉w:=fun hm=>by
 have:=vZ.1 h 58 hm;rw[inn58]at this;cases this
theorem OT {w:List Nat}(h:fR w=true):w.all nT=true:=by
 cases w with
 |nil=>rfl
 |cons c r=>
  simp only[fR,vF]at h;exact h.2
theorem Bh {l:List Nat}(hl:l≠[])(n:Nat):
 zK (kg l) n=if(fR (l.take (wa l))=true/\l.getD (wa l) 0=58)then zK (kg (l.drop (wa l+1))) (n+1)else -1:=by
 obtain⟨w,r,h1,h2,h3,h4⟩:=GM l;rw[<- h2];have ht:l.take w.length=w:=by rw[h1];simp
 rw[ht];by_cases hc:fR w=true/\l.getD w.length 0=58
 ·rw[if_pos hc];obtain⟨hn,rT⟩:=hc;have hr:∃q,r=58::q:=by
   rw[h1,Vb,Ve (Qh _),Qn]at rT;cases r with
   |nil=>simp at rT
   |cons c q=>simp at rT;exact⟨q,by rw[rT]⟩
  obtain⟨q,rfl⟩:=hr;rw[h1,mo (no58 h3)];rw[show(w++58::q).drop (w.length+1)=q by simp];simp only[zK];rw[if_neg Zs,if_pos (by simp[hn])]
 ·rw[if_neg hc];have bad:∀p ps,kg l=p::ps->p≠[]->pP p=false->zK (kg l) n=-1:=fun p ps e h0 h=>by rw[e];exact rY h0 h
  by_cases rT:58∈l
  ·obtain⟨p,q,hpq,hp⟩:=Gq rT;refine bad (p++[58]) (kg q) (by rw[hpq,mo hp]) Zs ?_;unfold pP;rw[vH];intro h;simp at h;refine hc ?_;have E2:p=w:=by
    have hpi:=OT h;have e:p++58::q=w++r:=by rw[<- hpq,h1]
    rcases List.append_eq_append_iff.1 e with⟨a,rfl,ha⟩|⟨a,rfl,ha⟩
    ·cases a with
     |nil=>simp
     |cons c a=>
      simp only[vj,vh]at ha;rw[<- ha.1]at h3;exact absurd Zs (no58 h3)
    ·cases a with
     |nil=>simp
     |cons c a=>
      have:=h4 c (a++58::q) (by rw[ha];rfl);have h5:=vZ.1 hpi c Zs;rw[this]at h5;cases h5
   subst E2;refine⟨h,?_⟩;rw[hpq];simp
  ·refine bad l [] (s8 rT) hl ?_;unfold pP;rw[vH];intro h;simp only[vF,decide_eq_true_eq]at h;exact rT (List.mem_of_getLast? h.1)
theorem Ak(s:ByteArray)(hs:s.size<=140737488355328):aq Tryz.prog 147 [.string s] [] (fun v Post=>v=vi (zK (kg (kB s)) 0)/\Post=[]):=by
 refine aq.intro aar (by simp[n147]) ?_;have hlen:=kS s;refine ae ?_;refine VC.loop (α:=Nat×Nat) (bn:=fun z=>[(0,.string s),(3,vi z.1),(4,vi z.2)]) (Hf:=fun _=>[]) (I:=fun z=>z.2<=s.size/\z.1<=z.2/\zK (kg ((kB s).drop z.2)) z.1=zK (kg (kB s)) 0) (μ:=fun z=>s.size - z.2) (0,0) ⟨Qp _,Qh _,rfl⟩ ZU ao.nil ?_
 rintro⟨n,i⟩ ⟨i1,i2,i3⟩
 simp only at i1 i2 i3;dsimp only;refine ae ?_;by_cases hk:i < s.size;rotate_left
 ·rw[Zf Zo];exact zED
 rw[Zt Zo];have hw:=Cp s hs i Zo;have hwl:=Sa ((kB s).drop i);rw[Vv,hlen]at hwl;obtain⟨c,hc,oa⟩:=jt hk;have ck:(kB s).drop i≠[]:=by rw[eU oa];simp
 have lF:=Bh ck n;rw[i3,List.drop_drop]at lF;have hga:((kB s).drop i).getD (wa ((kB s).drop i)) 0=(kB s).getD (i+wa ((kB s).drop i)) 0:=by
  rw[Vb,Vb,Vi]
 rw[hga]at lF;have hex:kB (s.extract i (i+wa ((kB s).drop i)))=((kB s).drop i).take (wa ((kB s).drop i)):=by
  rw[ja,List.drop_take,Nat.add_sub_cancel_left]
 rw[<- hex]at lF;have N2:=fun h=>lF.trans (if_pos h)
 have hst2:=fun h=>lF.trans (if_neg h)
 clear lF;generalize hwe:wa ((kB s).drop i)=w at*;refine ae ?_;refine kK hw Zr ?_;refine ae ?_;refine dh (l:=i) (h:=i+w) Zr (.num Zr) (.num Zr) ⟨Zo,Zo⟩ ?_;refine ae ?_;refine kK (iL (s.extract i (i+w)) (by rw[ByteArray.size_extract];omega)) Zr ?_;cases hn:zz (s.extract i (i+w))with
 |false=>
  have lF:=hst2 (fun h=>by have h1:zz (s.extract i (i+w))=true:=h.1;rw[hn]at h1;cases h1);refine ae ?_;refine⟨.inr rfl,_,_,.tmp Zr .nil,ZI,?_,rfl⟩;rw[lF];rfl
 |true=>
  refine ae ?_;refine kK (uQ s hs (i+w)) Zr ?_;refine ae ?_;by_cases rT:(kB s).getD (i+w) 0=58;rotate_left
  ·have lF:=hst2 (fun h=>rT h.2);rw[show decide (((kB s).getD (i+w) 0:Int)=58)=false from Zf Zo];refine ae ?_;refine⟨.inr rfl,_,_,.tmp Zr .nil,ZI,?_,rfl⟩;rw[lF];rfl
  have lF:=N2 ⟨hn,rT⟩;have aO:i+w < s.size:=by
   rcases Nat.lt_or_ge (i+w) s.size with h|h
   ·exact h
   ·rw[Vb,Vj Zo]at rT;cases rT
  rw[show decide (((kB s).getD (i+w) 0:Int)=58)=true from Zt Zo];refine ae ?_;exact⟨(n+1,i+w+1),⟨by simp only;omega,by simp only;omega,by simp only;rw[lF,Qc]⟩,by simp only;omega,ZU,ao.nil⟩
theorem fK(s:ByteArray)(hs:s.size<=140737488355328):aq Tryz.prog 85 [.string s] [] (fun v Post=>v=vi (kR s)/\Post=[]):=by
 refine aq.intro low85 (by simp[n85]) ?_;have hlen:=kS s;refine ae ?_;refine kK (iL s hs) Zr ?_;by_cases h0:s=⟨#[]⟩
 ·subst h0;exact zC6
 obtain⟨c,r,hc,hr,sT,gT⟩:=dt h0;refine ae ?_;rw[show decide ((s.size:Int)=0)=false from Zf Zo];cases hn:zz s with
 |true=>
  refine ae ?_;refine⟨.inr rfl,_,_,.tmp Zr .nil,ZI,?_,rfl⟩;unfold kR oz;rw[show fR (kB s)=true from hn];rfl
 |false=>
  have CY:fR (kB s)=false:=hn;have dQ:kR s=if(cu c.toNat||decide (c.toNat=124))=true then(if ef (kB s)=(kB s).length then 1 else -1)else zK (kg (kB s)) 0:=by
   unfold kR oz;rw[if_neg (by rw[CY];simp)];simp only[hr]
  have hsg:=IV s hs 0 gT;rw[vr,Qo]at hsg;refine ae ?_;refine jx Zr Zr (j:=0) rfl hc ?_;refine ae ?_;refine kK (pB _ sT) Zr ?_;have Mt:(cu c.toNat||decide (c.toNat=124))=true->kR s=(if ef (kB s)=(kB s).length then 1 else -1):=fun h=>by rw[dQ,if_pos h]
  cases hb:cu c.toNat with
  |true=>
   have Mt:=Mt (by simp[hb]);generalize ef (kB s)=z at hsg Mt;exact zB4
  |false=>
   refine ae ?_;refine jx Zr Zr (j:=0) rfl hc ?_;refine ae ?_;by_cases KP:c.toNat=124
   ·have Mt:=Mt (by simp[KP]);generalize ef (kB s)=z at hsg Mt;rw[show decide ((c.toNat:Int)=124)=true from Zt Zo];exact zB4
   rw[show decide ((c.toNat:Int)=124)=false from Zf Zo];rw[if_neg (by simp[hb,KP])]at dQ;refine ae ?_;refine kK (Ak s hs) Zr ?_;refine ae ?_;refine⟨.inr rfl,_,_,.tmp Zr .nil,ZI,?_,rfl⟩;rw[dQ];rfl
noncomputable def F217:aQ:=bb (o:=gF pq Tryz.f217 [])
theorem n217:F217.n=115:=rfl
theorem abf:aZ Tryz.prog 217 []=some F217:=by kernel_rfl
noncomputable def F218:aQ:=bb (o:=gF pq Tryz.f218 [])
theorem n218:F218.n=49:=rfl
theorem abg:aZ Tryz.prog 218 []=some F218:=by kernel_rfl
noncomputable def F184:aQ:=bb (o:=gF pq Tryz.f184 [])
theorem n184:F184.n=72:=rfl
theorem aaQ:aZ Tryz.prog 184 []=some F184:=by kernel_rfl
noncomputable def F185:aQ:=bb (o:=gF pq Tryz.f185 [])
theorem n185:F185.n=11:=rfl
theorem aaR:aZ Tryz.prog 185 []=some F185:=by kernel_rfl
noncomputable def F149:aQ:=bb (o:=gF pq Tryz.f149 [])
theorem n149:F149.n=98:=rfl
theorem aat:aZ Tryz.prog 149 []=some F149:=by kernel_rfl
noncomputable def F151:aQ:=bb (o:=gF pq Tryz.f151 [])
theorem n151:F151.n=34:=rfl
theorem aav:aZ Tryz.prog 151 []=some F151:=by kernel_rfl
noncomputable def F88:aQ:=bb (o:=gF pq Tryz.f88 [])
theorem n88:F88.n=80:=rfl
theorem low88:aZ Tryz.prog 88 []=some F88:=by kernel_rfl
noncomputable def F219:aQ:=bb (o:=gF pq Tryz.f219 [])
theorem n219:F219.n=14:=rfl
theorem abh:aZ Tryz.prog 219 []=some F219:=by kernel_rfl
noncomputable def F186:aQ:=bb (o:=gF pq Tryz.f186 [])
theorem n186:F186.n=14:=rfl
theorem aaS:aZ Tryz.prog 186 []=some F186:=by kernel_rfl
noncomputable def F187:aQ:=bb (o:=gF pq Tryz.f187 [])
theorem n187:F187.n=57:=rfl
theorem aaT:aZ Tryz.prog 187 []=some F187:=by kernel_rfl
noncomputable def F153:aQ:=bb (o:=gF pq Tryz.f153 [(4,[[0,1,2,3,4,5,6],[0,2,1,3,4,5,6]])])
theorem n153:F153.n=25:=rfl
theorem aax:aZ Tryz.prog 153 [(4,[[0,1,2,3,4,5,6],[0,2,1,3,4,5,6]])]=some F153:=by kernel_rfl
noncomputable def F152:aQ:=bb (o:=gF pq Tryz.f152 [])
theorem n152:F152.n=28:=rfl
theorem aaw:aZ Tryz.prog 152 []=some F152:=by kernel_rfl
noncomputable def F89:aQ:=bb (o:=gF pq Tryz.f89 [])
theorem n89:F89.n=44:=rfl
theorem low89:aZ Tryz.prog 89 []=some F89:=by kernel_rfl
noncomputable def F150:aQ:=bb (o:=gF pq Tryz.f150 [])
theorem n150:F150.n=16:=rfl
theorem aau:aZ Tryz.prog 150 []=some F150:=by kernel_rfl
end Go.Proofs.YtijnokbblmbpkaaGreatDoor
namespace Go.V
open Go
def cR(p:Bool)(d:Nat)(m:Bool):Rs:=if p then some (d,m)else none
theorem lO {p q:Bool}{d e:Nat}{m k:Bool}(h:p=q)(h2:q=true->d=e/\m=k):cR p d m=cR q e k:=by
 subst h;cases p with
 |false=>rfl
 |true=>obtain⟨rfl,rfl⟩:=h2 rfl;rfl
theorem ji(b p:Bool)(d:Nat)(m:Bool):kP b (cR p d m)=cR (b&&p) d m:=by cases b <;> cases p <;> rfl
theorem pF(p:Bool)(d:Nat)(m:Bool):wV (cR p d m)=cR p (d+1) m:=by cases p <;> rfl
theorem ez(b p:Bool)(d:Nat)(m:Bool):wd b (cR p d m)=cR p d (b||m):=by cases p <;> rfl
theorem pC(p q:Bool)(d e:Nat)(m k:Bool):zh (cR p d m) (cR q e k)=cR (p&&q) (max d e) (m||k):=by cases p <;> cases q <;> rfl
theorem zero_c:(some (0,false):Rs)=cR true 0 false:=rfl
theorem eD(r:Rs)(l:List Rs):jb (r::l)=zh r (jb l):=by
 cases r with
 |none=>cases h:jb l <;> rfl
 |some p=>cases h:jb l <;> simp[jb,zh,h]
theorem uU(r:Rs):zh r (some (0,false))=r:=by
 cases r with
 |none=>rfl
 |some p=>simp[zh]
theorem Jf(r:Rs):zh (some (0,false)) r=r:=by
 cases r with
 |none=>rfl
 |some p=>simp[zh]
theorem sY(l r:List Rs):jb (l++r)=zh (jb l) (jb r):=by
 induction l with
 |nil=>simp only[QL,jb,Jf]
 |cons x l ih=>
  rw[vj,eD,eD,ih];cases x <;> cases jb l <;> cases jb r <;> simp[zh,Nat.max_assoc,vO]
def mx {α:Type}(f:α->Nat):List α->Nat
 |[]=>0
 |x::r=>max (f x) (mx f r)
theorem XQ {α:Type}{f:α->Nat}{K:Nat}:∀{l:List α},(∀x∈l,f x<=K)->mx f l<=K:=by
 intro l
 induction l with
 |nil=>intro _;exact Qp _
 |cons x r ih=>
  intro h;have h1:=h x Zs;have h2:=ih fun y hy=>h y (by simp[hy])
  simp only[mx];omega
theorem Dm {α:Type}{g:α->Rs}{p:α->Bool}{d:α->Nat}{m:α->Bool}:∀{l:List α},(∀x∈l,g x=cR (p x) (d x) (m x))->jb (l.map g)=cR (l.all p) (mx d l) (l.any m):=by
 intro l
 induction l with
 |nil=>intro _;rfl
 |cons x r ih=>
  intro h;rw[Q7,eD,h x Zs,ih fun y hy=>h y (by simp[hy]),pC];rfl
mutual
def z9:Lt->Nat
 |.mk k _ _ _ items=>if k=10 then Df items+1 else 0
def Df:List Lt->Nat
 |[]=>0
 |x::r=>max (z9 x) (Df r)
end
mutual
def iG:Lt->Bool
 |.mk k _ _ t items=>decide (255 < items.length)||(decide (k=11)&&decide (255 < t.size))||Bm items
def Bm:List Lt->Bool
 |[]=>false
 |x::r=>iG x||Bm r
end
theorem r9:∀l:List Lt,Df l=mx z9 l:=by
 intro l
 induction l with
 |nil=>rfl
 |cons x r ih=>simp only[Df,mx,ih]
theorem Fh:∀l:List Lt,Bm l=l.any iG:=by
 intro l
 induction l with
 |nil=>rfl
 |cons x r ih=>simp only[Bm,vd,ih]
theorem Ow:∀(N:Nat) (x:Lt),x.size<=N->∀i,jL x i=cR (jL x i).isSome (z9 x) (iG x):=by
 intro N
 induction N with
 |zero=>intro x hx;have:=x.size_pos;omega
 |succ N ih=>
  intro x hx i;cases x with
  |mk k n b t items=>
  simp only[Lt.size]at hx;have hk:∀y∈items,jL y true=cR (jL y true).isSome (z9 y) (iG y):=fun y hy=>ih y (by have:=Lt.aD hy;omega) true
  have leaf:∀(c q:Bool),(c=true->items=[]/\k≠10/\q=(decide (k=11)&&decide (255 < t.size)))->kP c (some (0,q))=cR (kP c (some (0,q))).isSome (z9 (.mk k n b t items)) (iG (.mk k n b t items)):=by
   intro c q h;cases c with
   |false=>rfl
   |true=>
    obtain⟨h1,h2,h3⟩:=h rfl;subst h1;simp only[z9,iG,if_neg h2,Bm,Q0,<- h3];simp[kP,cR]
  simp only[jL];split
  ·exact leaf _ _ fun h=>by simp only[vF,decide_eq_true_eq]at h;exact⟨vt h.2.2.2.2,Zo,by simp;omega⟩
  split
  ·exact zDQ
  split
  ·exact leaf _ _ fun h=>by simp only[vF,decide_eq_true_eq]at h;exact⟨vt h.2.2.2,Zo,by simp;omega⟩
  split
  ·exact leaf _ _ fun h=>by simp only[decide_eq_true_eq]at h;exact⟨vt h.2.2.2,Zo,by simp;omega⟩
  split
  ·exact zDQ
  split
  ·exact leaf _ _ fun h=>by simp only[decide_eq_true_eq]at h;exact⟨vt h.2.2,Zo,by simp;omega⟩
  split
  ·rename_i Nu;exact leaf _ _ fun h=>by simp only[decide_eq_true_eq]at h;exact⟨vt h.2.2,Zo,by simp[Nu]⟩
  split
  ·rename_i xn;subst xn;rw[cJ,Dm hk,ez,pF,ji];simp only[z9,iG,if_pos,r9,Fh];generalize (_&&List.all items _:Bool)=c;cases c <;> simp[cR]
  ·rfl
theorem dE {l:Lt}(h:wY l=true):z9 l=0/\iG l=false:=by
 cases l with
 |mk k n b t items=>
 have h:=of_decide_eq_true h;simp only[Lt.kind,Lt.n,Lt.bits,Lt.text,Lt.items]at h;obtain⟨rfl,_,_,_,h5⟩:=h;obtain rfl:=vt h5;simp[z9,iG,Bm]
def wT(k:Nat)(s:ByteArray)(lit:Lt)(args ab:List ByteArray)(m:Nat):Bool:=
 if k=1 then(jL lit false).isSome&&decide (s.size=0/\args.length=0/\ab.length=0)
 else if k=2 then zz s&&wY lit&&decide (args.length=0/\ab.length=0)
 else if k=3 then jO s&&wY lit&&decide (args.length=0/\ab.length=0)
 else if k=4 then decide (0<=kR s)&&wY lit&&decide (args.length=0/\ab.length=0)
 else if k=5 then decide (2 < m)&&wY lit&&decide (s.size=0/\args.length=0/\ab.length=0)
 else if k=6 then decide (0<=kR s)&&wY lit&&decide (args.length=0/\ab.length=0)
 else if k=7 then args.all jO&&ab.all jO&&wY lit&&decide (s.size=0)
 else if k=8∨k=9 then wY lit&&decide (s.size=0/\args.length=0/\ab.length=0)
 else false
def zg(k:Nat)(s:ByteArray):Int:=
 if k=3∨k=9 then 1 else if k=4 then kR s+1 else if k=6 then kR s else if k=5∨k=7∨k=8 then -1 else 0
def gz(k m i:Nat)(x:Nd):Bool:=
 !(jQ x&&!(decide (i=0)&&(decide (k=4)||decide (k=5))))&&!(decide (x.kind=9)&&!(decide (i+1=m)&&decide (k=7)))&&(decide (x.kind=6)==(decide (k=5)&&decide (0 < i)))
mutual
def jV:Nd->Bool
 |.mk k s lit args ab kids _=>wT k s lit args ab kids.length&&!(decide (0<=zg k s)&&decide (zg k s≠kids.length))&&ke k kids.length 0 kids
def ke(k m:Nat):Nat->List Nd->Bool
 |_,[]=>true
 |i,x::r=>jV x&&gz k m i x&&ke k m (i+1) r
end
mutual
def jd:Nd->Bool
 |.mk k _ lit args ab kids _=>iG lit||decide (15 < args.length)||decide (63 < ab.length)||(decide (k=4)&&decide (16 < kids.length))||(decide (k=6)&&decide (15 < kids.length))||(decide (k=5)&&decide (256 < kids.length))||(decide (k=8)&&decide (255 < kids.length))||Dl kids
def Dl:List Nd->Bool
 |[]=>false
 |x::r=>jd x||Dl r
end
def fL(k:Nat)(s:ByteArray)(i:Nat):Nat:=
 if i=0/\(k=4∨k=5)then(if y8 s=5 then 5 else 4)else if(k=4/\0 < i)∨k=6 then(if y8 s=4 then 5 else 4)else 1
def tB(k:Nat)(s:ByteArray)(i:Nat)(x:Nd):Bool:=decide (x.kind≠6)&&decide (x.kind≠9)&&decide (jz x < fL k s i)
def pA(k:Nat)(s:ByteArray)(kids:List Nd):ByteArray:=if k=5 then(kids.drop 1).head?.elim ⟨#[]⟩ Nd.name else s
mutual
def jm:Nd->Nat
 |.mk k s lit _ _ kids _=>max (z9 lit) (js k (pA k s kids) 0 kids)+if k=7∨k=8 then 1 else 0
def js(k:Nat)(s:ByteArray):Nat->List Nd->Nat
 |_,[]=>0
 |i,x::r=>max (jm x+if tB k s i x then 1 else 0) (js k s (i+1) r)
end
theorem Bp:∀l:List Nd,Dl l=l.any jd:=by
 intro l
 induction l with
 |nil=>rfl
 |cons x r ih=>simp only[Dl,vd,ih]
def zt(x:Nd):Bool:=!jQ x&&decide (x.kind≠9/\x.kind≠6)
theorem fB {x:Nd}(h:jQ x=true):x.kind=2:=by
 simp only[jQ,vF,decide_eq_true_eq]at h;exact h.1
theorem gV {k m i:Nat}{x:Nd}(h4:¬(i=0/\(k=4∨k=5)))(h5:¬(k=5/\0 < i))(h7:¬(k=7/\i+1=m)):gz k m i x=zt x:=by
 have e1:(decide (i=0)&&(decide (k=4)||decide (k=5)))=false:=by
  rw[vH];intro h;simp at h;exact h4 h
 have e2:(decide (k=5)&&decide (0 < i))=false:=by
  rw[vH];intro h;simp only[vF,decide_eq_true_eq]at h;exact h5 h
 have e3:(decide (i+1=m)&&decide (k=7))=false:=by
  rw[vH];intro h;simp only[vF,decide_eq_true_eq]at h;exact h7 ⟨h.2,h.1⟩
 simp only[gz,zt,e1,e2,e3];by_cases a:x.kind=9 <;> by_cases b:x.kind=6 <;> cases jQ x <;> simp[a,b]
theorem oN(x:Nd):1<=jz x:=by
 unfold jz y8
 repeat' split
 all_goals omega
theorem ik {x:Nd}{p:Nat}{f m:Bool}{d:Nat}:jY x p (cR f d m)=cR (f&&zt x) (d+if jz x < p then 1 else 0) m:=by
 unfold jY yc zt;by_cases hl:jz x < p
 ·rw[if_pos hl,if_pos hl,pF,ji,ji]
  congr 1
  cases f <;> cases jQ x <;> simp
 ·rw[if_neg hl,if_neg hl,ji,ji]
  congr 1
  cases f <;> cases jQ x <;> simp
theorem eW {k m:Nat}:∀{l:List Nd} {i:Nat},(∀j x,l[j]? =some x->gz k m (i+j) x=zt x)->ke k m i l=l.all fun x=>jV x&&zt x:=by
 intro l
 induction l with
 |nil=>intro i _;rfl
 |cons x r ih=>
  intro i h;have h0:=h 0 x rfl;rw[Qd]at h0;simp only[ke,vY,h0];rw[ih (i:=i+1) fun j y hy=>by rw[Qc,Nat.add_comm 1 j];exact h (j+1) y hy]
theorem eT {k:Nat}{s:ByteArray}{p:Nat}:∀{l:List Nd} {i:Nat},(∀j x,l[j]? =some x->zt x=true/\fL k s (i+j)=p)->js k s i l=mx (fun x=>jm x+if jz x < p then 1 else 0) l:=by
 intro l
 induction l with
 |nil=>intro i _;rfl
 |cons x r ih=>
  intro i h;obtain⟨h0,h1⟩:=h 0 x rfl;rw[Qd]at h1;simp only[zt,vF,decide_eq_true_eq]at h0;simp only[js,mx,tB,h1];rw[ih (i:=i+1) fun j y hy=>by rw[Qc,Nat.add_comm 1 j];exact h (j+1) y hy];simp[h0.2.1,h0.2.2]
theorem n6 {k m:Nat}:∀{l r:List Nd} {i:Nat},ke k m i (l++r)=(ke k m i l&&ke k m (i+l.length) r):=by
 intro l
 induction l with
 |nil=>intro r i;simp[ke]
 |cons x l ih=>
  intro r i;simp only[vj,ke,ih,Vu];rw[show i+1+l.length=i+(l.length+1) by omega];simp only[Bool.and_assoc]
theorem Ac {k:Nat}{s:ByteArray}:∀{l r:List Nd} {i:Nat},js k s i (l++r)=max (js k s i l) (js k s (i+l.length) r):=by
 intro l
 induction l with
 |nil=>intro r i;simp[js]
 |cons x l ih=>
  intro r i;simp only[vj,js,ih,Vu];rw[show i+1+l.length=i+(l.length+1) by omega,Nat.max_assoc]
end Go.V
namespace Go.Proofs.YtijnokbblmbpkaaGreatDoor
open Go Go.V
set_option maxHeartbeats 1600000
set_option maxRecDepth 100000
theorem I5(s:ByteArray):aq Tryz.prog 132 [.string s] [] (fun v Post=>v=.bool (fC.contains (kB s))/\Post=[]):=by
 refine aq.intro aam (by simp[n132]) ?_;have aY:∀t:ByteArray,kB t∈fC->s=t->fC.contains (kB s)=true:=fun t ht e=>by
  subst e;exact vm.2 ht
 refine ae ?_;by_cases h1:s=⟨#[115,101,108,102]⟩
 ·have hf:=aY _ Zd h1;rw[Zt h1];exact SM
 rw[Zf h1];refine ae ?_;by_cases h2:s=⟨#[115,117,112,101,114]⟩
 ·have hf:=aY _ Zd h2;rw[Zt h2];exact SM
 rw[Zf h2];refine ae ?_;by_cases h3:s=⟨#[110,105,108]⟩
 ·have hf:=aY _ Zd h3;rw[Zt h3];exact SM
 rw[Zf h3];refine ae ?_;by_cases h4:s=⟨#[116,114,117,101]⟩
 ·have hf:=aY _ Zd h4;rw[Zt h4];exact SM
 rw[Zf h4];refine ae ?_;by_cases h5:s=⟨#[102,97,108,115,101]⟩
 ·have hf:=aY _ Zd h5;refine kG (Post:=[]) (.inr rfl) (.tmp Zr .nil) ⟨by rw[hf,Zt h5];rfl,rfl⟩ ZI
 have dR:fC.contains (kB s)=false:=by
  exact zBC
 refine kG (Post:=[]) (.inr rfl) (.tmp Zr .nil) ⟨by rw[dR,Zf h5];rfl,rfl⟩ ZI
theorem xk(s:ByteArray)(hs:s.size<=140737488355328):aq Tryz.prog 148 [.string s] [] (fun v Post=>v=.bool (jO s)/\Post=[]):=by
 refine aq.intro aas (by simp[n148]) ?_;refine ae ?_;refine kK (iL s hs) Zr ?_;refine ae ?_;refine kK (I5 s) Zr ?_;have hf:jO s=(!fC.contains (kB s)&&zz s):=rfl;rw[hf];generalize fC.contains (kB s)=b;cases zz s with
 |true=>
  refine ae ?_;exact kG (Post:=[]) (.inr rfl) (.tmp Zr .nil) ⟨by cases b <;> rfl,rfl⟩ ZI
 |false=>
  refine ae ?_;exact kG (Post:=[]) (.inr rfl) (.tmp Zr .nil) ⟨by cases b <;> rfl,rfl⟩ ZI
theorem iB(B:List kC)(v:Value)(l:List ByteArray)(h:eg B v l):aq Tryz.prog 86 [v] [B] (fun u Post=>u=.bool (l.all jO)/\Post=[B]):=by
 obtain⟨a,c,rfl,hl,hr⟩:=h;refine aq.intro low86 (by simp[n86]) ?_;refine ae ?_;refine VC.loop (α:=Nat) (bn:=fun k=>[(0,.slice a l.length c),(3,vi k)]) (Hf:=fun _=>[B]) (I:=fun k=>k<=l.length/\(l.take k).all jO=true) (μ:=fun k=>l.length - k) 0 ⟨Qp _,rfl⟩ ZU ZI ?_
 rintro k ⟨i1,i2⟩
 refine ae ?_;by_cases hk:k < l.length;rotate_left
 ·rw[Zf Zo];rw[QZ Zo]at i2;refine ae ?_;exact kG (Post:=[B]) (.inr rfl) (.tmp Zr .nil) ⟨by rw[i2];rfl,rfl⟩ ZI
 rw[Zt Zo];obtain⟨t,ht⟩:∃t,l[k]? =some t:=⟨_,Zg hk⟩;obtain⟨b,o,rfl,hm,eu⟩:=hr k t ht;have cy:l.take (k+1)=l.take k++[t]:=by rw[QX,ht];rfl
 refine ae ?_;refine kK (xk t eu) Zr ?_;cases hf:jO t with
 |true=>
  refine ae ?_;exact⟨k+1,⟨Zo,by rw[cy];simp[i2,hf]⟩,Zo,ZU,ZI⟩
 |false=>
  have:l.all jO=false:=by
   rw[vH];intro h;have:=vZ.1 h t (Zv ht);rw[hf]at this;cases this
  refine ae ?_;exact kG (Post:=[B]) (.inr rfl) (.tmp Zr .nil) ⟨by rw[this];rfl,rfl⟩ ZI
theorem Aq(l:List Rs):(jb l).isSome=l.all Option.isSome:=by
 induction l with
 |nil=>rfl
 |cons r l ih=>
  rw[eD,vY,<- ih];cases r <;> cases jb l <;> rfl
structure LitQ where
 ok:Bool
 n:Int
 b:Nat
 t:ByteArray
 sv:Value
 l:Nat
theorem Ao(A:List kC)(hE:mQ A):∀(N:Nat) (x:Lt),x.size<=N->x.size<=1099511627776->∀vs,zw A x vs->∀inside:Bool,aq Tryz.prog 217 [.agg vs.toArray,.bool inside] [A] (fun v Post=>v=.bool (jL x inside).isSome/\Post=[A]):=by
 intro N
 induction N with
 |zero=>intro x hx;have:=x.size_pos;omega
 |succ N ih=>
  intro x hx hbd vs lJ inside;have hvs2:=lJ;cases lJ with
  |@mk k n b t items a c bk o us wf ha hm hr=>
  refine aq.intro abf (by simp[n217]) ?_;refine jD ?_;refine kY Zr (fun q=>?_);simp only[Value.cells];refine jD ?_;refine VC.join (α:=LitQ) (fun s=>[(2,kF q),(5,.bool s.ok)]) (fun s=>[A,kA q 0 [cv k,vi s.n,uv s.b,.string s.t,s.sv]])
   (fun s=>(∃a c,s.sv=.slice a s.l c)/\(jL (.mk k n b t items) inside).isSome=(s.ok&&decide (s.n=0/\s.b=0/\s.t.size=0/\s.l=0))) ?_ ?_
  ·have lp:=wf.kind;obtain⟨K4,CY⟩:=wf.n;have hz:(⟨#[]⟩:ByteArray).size=0:=rfl;have sm:∀(b:Bool) (r:Rs),(kP b r).isSome=(b&&r.isSome):=fun b r=>by cases b <;> rfl
   have same:∀(y:Bool),(jL (.mk k n b t items) inside).isSome=(y&&decide (n=0/\b=0/\t.size=0/\items.length=0))->∃s':LitQ,((∃a c,s'.sv=.slice a s'.l c)/\(jL (.mk k n b t items) inside).isSome=(s'.ok&&decide (s'.n=0/\s'.b=0/\s'.t.size=0/\s'.l=0)))/\s'=⟨y,n,b,t,.slice a items.length c,items.length⟩:=fun y h=>⟨_,⟨⟨_,_,rfl⟩,h⟩,rfl⟩
   by_cases k1:k=1
   ·subst k1;exact zCP
   by_cases k2:k=2
   ·subst k2;exact zCP
   by_cases k3:k=3
   ·subst k3;exact zCP
   by_cases k4:k=4
   ·subst k4;refine ae ?_;by_cases h1:-1152921504606846976<=n;rotate_left
    ·rw[show decide (n ≥ -1152921504606846976)=false from Zf h1];exact zEI
    rw[show decide (n ≥ -1152921504606846976)=true from Zt h1];refine ae ?_;refine⟨⟨decide (n<=1152921504606846975),0,b,t,_,_⟩,⟨⟨_,_,rfl⟩,?_⟩,ZU,ZI⟩;simp[jL,sm,h1]
   by_cases k5:k=5
   ·subst k5;refine ae ?_;refine kJ (Aj A hE t wf.text) Zr ZP (fun v Post hv=>?_);obtain⟨hq,rfl⟩:=hv;obtain⟨kk,nn,tt,ee,rfl,Tw⟩:=hq.large;simp only[aH];refine ae ?_;refine kN (fun q2=>?_);refine ae ?_;have fin:∀y:Bool,y=mg (kB t)->((jL (.mk 5 n b t items) inside).isSome=(y&&decide (n=0/\b=0/\(⟨#[]⟩:ByteArray).size=0/\items.length=0))):=fun y h=>by
     rw[h,hz];simp[jL,sm]
    by_cases h1:ee=0;rotate_left
    ·rw[show decide ((ee:Int)=0)=false from Zf Zo];refine ae ?_;exact⟨⟨false,n,b,⟨#[]⟩,_,_⟩,⟨⟨_,_,rfl⟩,fin _ (vH.2 fun h=>h1 (Tw.2 h).1).symm⟩,ZU,ZI⟩
    rw[show decide ((ee:Int)=0)=true from Zt Zo];refine ae ?_;by_cases h2:kk=5;rotate_left
    ·rw[show decide ((kk:Int)=5)=false from Zf Zo];refine ae ?_;exact⟨⟨false,n,b,⟨#[]⟩,_,_⟩,⟨⟨_,_,rfl⟩,fin _ (vH.2 fun h=>h2 (Tw.2 h).2.1).symm⟩,ZU,ZI⟩
    rw[show decide ((kk:Int)=5)=true from Zt Zo];refine ae ?_;refine⟨⟨decide (tt=t),n,b,⟨#[]⟩,_,_⟩,⟨⟨_,_,rfl⟩,fin _ ?_⟩,ZU,ZI⟩;rw[vI,decide_eq_true_eq];exact⟨fun h=>Tw.1 ⟨h1,h2,h⟩,fun h=>(Tw.2 h).2.2⟩
   by_cases k6:k=6
   ·subst k6;have hbits:=wf.bits;refine ae ?_;refine⟨⟨!decide (((b / 4503599627370496&&&2047:Nat):Int)=2047),n,0,t,.slice a items.length c,items.length⟩,⟨⟨_,_,rfl⟩,?_⟩,ZU,by show ao _ [A,kA q 0 [cv 6,vi n,.int .u64 0,.string t,.slice a items.length c]];exact bQ⟩;have e:b*2 % 18446744073709551616 / 9007199254740992=(b / 4503599627370496&&&2047):=by
     rw[show(2047:Nat)=2 ^ 11 - 1 from rfl,Qe];omega
    have e0:jL (.mk 6 n b t items) inside=kP (decide (b*2 % 18446744073709551616 / 9007199254740992≠2047/\n=0/\t.size=0/\items.length=0)) (some (0,false)):=by
     simp only[jL];rfl
    rw[e0,sm,e];generalize (b / 4503599627370496&&&2047)=z;by_cases hz:z=2047
    ·subst hz;simp
    ·have:¬(z:Int)=2047:=by omega
     simp[hz,this]
   by_cases k7:k=7
   ·subst k7;refine ae ?_;by_cases h1:0<=n;rotate_left
    ·rw[show decide (n ≥ 0)=false from Zf h1];exact zEI
    rw[show decide (n ≥ 0)=true from Zt h1];refine ae ?_;refine⟨⟨decide (n<=255),0,b,t,_,_⟩,⟨⟨_,_,rfl⟩,?_⟩,ZU,ZI⟩;simp[jL,sm,h1]
   by_cases k8:k=8
   ·subst k8;exact zC9
   by_cases k9:k=9
   ·subst k9;exact zC9
   by_cases k11:k=11
   ·subst k11;exact zC9
   by_cases k10:k=10
   ·subst k10;have bA:=wf.many;have au:(jL (.mk 10 n b t items) inside).isSome=(items.all (fun y=>(jL y true).isSome)&&decide (n=0/\b=0/\t.size=0/\(0:Nat)=0)):=by
     have h1:(jb (sX items)).isSome=items.all fun y=>(jL y true).isSome:=by
      rw[Aq,cJ,List.all_map];rfl
     rw[<- h1];simp only[jL];simp[sm];cases jb (sX items) <;> simp[wd,wV]
    refine ae ?_;refine VC.loop (α:=Nat×Bool) (bn:=fun s=>[(2,kF q),(5,.bool s.2),(8,vi s.1)]) (Hf:=fun s=>[A,kA q 0 [cv 10,vi n,uv b,.string t,.slice a items.length c]])
     (I:=fun s=>s.1<=items.length/\s.2=(items.take s.1).all fun y=>(jL y true).isSome) (μ:=fun s=>items.length - s.1) (0,true) ⟨Qp _,rfl⟩ ZU ZI ?_
    rintro⟨j,ok⟩ ⟨i1,i2⟩
    simp only at i1 i2;dsimp only;refine ae ?_;by_cases hj:j < items.length;rotate_left
    ·rw[show decide ((j:Int) < (items.length:Int))=false from Zf Zo];rw[QZ Zo]at i2;refine ae ?_;refine⟨⟨ok,n,b,t,Nz,0⟩,⟨⟨_,_,rfl⟩,?_⟩,ZU,ZI⟩;rw[au,<- i2]
    rw[show decide ((j:Int) < (items.length:Int))=true from Zt Zo];cases ok with
    |false=>
     refine ae ?_;refine⟨⟨false,n,b,t,Nz,0⟩,⟨⟨_,_,rfl⟩,?_⟩,ZU,ZI⟩;have:(items.all fun y=>(jL y true).isSome)=false:=by
      rw[vH];intro h;have h2:((items.take j).all fun y=>(jL y true).isSome)=true:=vZ.2 fun y hy=>vZ.1 h y (QI hy)
      rw[h2]at i2;cases i2
     rw[au,this]
    |true=>
     obtain rfl:=ha Zo;obtain⟨y,hy⟩:∃y,items[j]? =some y:=⟨_,Zg hj⟩;have bL:=hr j y hy;have cH:=hm j hj;have SA:=Lt.aD (Zv hy);simp only[Lt.size]at hx hbd;have aE:=ih y Zo Zo _ bL true;have fH:=bL.len;generalize us j=uj at bL cH aE fH;have cy:items.take (j+1)=items.take j++[y]:=by rw[QX,hy];rfl
     refine ae ?_;refine kX Zr Cv fH ?_;refine ae ?_;refine kJ aE Zr ZP (fun v Post hv=>?_);obtain⟨rfl,rfl⟩:=hv;simp only[aH];refine ae ?_;refine⟨(j+1,(jL y true).isSome),⟨by simp only;omega,?_⟩,by simp only;omega,ZU,ZI⟩;simp only[cy,List.all_append,<- i2,vY,List.all_nil,Bool.and_true,vS]
   have dR:jL (.mk k n b t items) inside=none:=by
    simp only[jL];rw[if_neg Zo,if_neg k4,if_neg k5,if_neg k6,if_neg k7,if_neg Zo,if_neg k11,if_neg k10]
   refine ae ?_;rw[show decide ((k:Int)=1)=false from Zf Zo];refine ae ?_;rw[show decide ((k:Int)=2)=false from Zf Zo];refine ae ?_;rw[show decide ((k:Int)=3)=false from Zf Zo];refine ae ?_;rw[show decide ((k:Int)=4)=false from Zf Zo];refine ae ?_;rw[show decide ((k:Int)=5)=false from Zf Zo];refine ae ?_;rw[show decide ((k:Int)=6)=false from Zf Zo];refine ae ?_;rw[show decide ((k:Int)=7)=false from Zf Zo];refine ae ?_;rw[show decide ((k:Int)=8)=false from Zf Zo];refine ae ?_;rw[show decide ((k:Int)=9)=false from Zf Zo];refine ae ?_;rw[show decide ((k:Int)=11)=false from Zf Zo];refine ae ?_;rw[show decide ((k:Int)=10)=false from Zf Zo];refine ae ?_;refine⟨⟨false,n,b,t,_,_⟩,⟨⟨_,_,rfl⟩,?_⟩,ZU,ZI⟩;rw[dR];rfl
  rintro⟨ok,n',b',t',sv,l⟩ ⟨⟨a',c',gq⟩,hq⟩
  simp only at gq hq;subst gq;dsimp only;rw[hq];have hz:(⟨#[]⟩:ByteArray).size=0:=rfl;cases ok with
  |false=>
   exact Se
  |true=>
   refine ae ?_;by_cases h1:n'=0;rotate_left
   ·rw[Zf h1];exact zCU
   rw[Zt h1];refine ae ?_;by_cases h2:b'=0;rotate_left
   ·rw[show decide ((b':Int)=0)=false from Zf Zo];refine ae ?_;exact kG (Post:=[A]) (.inr rfl) (.tmp Zr .nil) ⟨by simp[bJ,h2],rfl⟩ ZI
   rw[show decide ((b':Int)=0)=true from Zt Zo];refine ae ?_;by_cases h3:t'=⟨#[]⟩;rotate_left
   ·have:¬t'.size=0:=fun e=>h3 (jS (by rw[Vx.1 ((kS t').trans e)];rfl))
    rw[Zf h3];refine ae ?_;exact kG (Post:=[A]) (.inr rfl) (.tmp Zr .nil) ⟨by simp[bJ,this],rfl⟩ ZI
   rw[Zt h3];refine ae ?_;refine kG (Post:=[A]) (.inr rfl) (.tmp Zr .nil) ⟨?_,rfl⟩ ZI;simp only[bJ,h1,h2,h3,hz,true_and,vS,Value.bool.injEq];exact decide_eq_decide.2 ⟨fun h=>by omega,fun h=>by omega⟩
end Go.Proofs.YtijnokbblmbpkaaGreatDoor

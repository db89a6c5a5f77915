/-
  What a node has: the document's table, node by node.
-/
import Derived.Test.YtijnokbblmbpkaaGreatDoorM26
import Derived.Test.YtijnokbblmbpkaaGreatDoorM10
import Derived.Test.YtijnokbblmbpkaaGreatDoorM12
import Derived.Test.YtijnokbblmbpkaaGreatDoorM5
set_option linter.all false
namespace Go.Proofs.YtijnokbblmbpkaaGreatDoor
open Go Go.V
set_option maxHeartbeats 1600000
set_option maxRecDepth 100000
theorem P8:∀(l:List (List Nat)) (n:Nat),-1<=zU l n/\zU l n<=n+l.length:=by
 intro l
 induction l with
 |nil=>intro n;simp only[zU,Q6];omega
 |cons p l ih=>
  intro n;simp only[zU,Vz];split
  ·omega
  ·split
   ·have:=ih (n+1);omega
   ·omega
theorem rV(s:ByteArray)(hs:s.size<=140737488355328):-1<=kR s/\kR s<=140737488355329:=by
 have hlen:=kV s;unfold kR;generalize kB s=l at hlen;have h1:=P8 (kq l) 0;have h2:=yU l;cases l with
 |nil=>decide
 |cons c r=>
  unfold oP;dsimp only;split
  ·omega
  ·split
   ·split <;> omega
   ·omega
theorem tT(k:Nat)(s:ByteArray)(c2 c3 c4 c5 c6 c7 c8 c9 rH:Value):aw Tryz.prog 185 [.agg #[cv k,.string s,c2,c3,c4,c5,c6,c7,c8,c9,rH]] [] (fun v Post=>v=.bool (zI k s)/\Post=[]):=by
 refine aw.intro low185 (by simp[n185]) ?_;exact zAR
theorem tQ {s:ByteArray}:s.size=0↔s=⟨#[]⟩:=⟨fun e=>jU (by rw[Q3.1 ((kV s).trans e)];rfl),fun e=>by rw[e];rfl⟩
def lT(lk:Nat)(ln:Int)(lb:Nat)(lt:ByteArray)(lm:Nat):Bool:=decide (lk=0/\ln=0/\lb=0/\lt.size=0/\lm=0)
theorem ME(k:Nat)(s:ByteArray)(lk:Nat)(ln:Int)(lb:Nat)(lt:ByteArray)(la:Option Addr)(lm lc:Nat)(aa:Option Addr)(am ac:Nat)(ta:Option Addr)(tm tc:Nat)(c9 rH:Value):
 aw Tryz.prog 218 [.agg #[cv k,.string s,cv lk,vi ln,uv lb,.string lt,.slice la lm lc,.slice aa am ac,.slice ta tm tc,c9,rH]] [] (fun v Post=>v=.bool (lT lk ln lb lt lm&&decide (s.size=0/\am=0/\tm=0))/\Post=[]):=by
 refine aw.intro low218 (by simp[n218]) ?_;refine ae ?_;refine kX Zr (fun q=>?_);simp only[Value.cells];refine ae ?_;by_cases h1:s.size=0;rotate_left
 ·rw[show decide (s=⟨#[]⟩)=false from Zf (by first|exact fun e=>h1 (tQ.2 e)|exact tQ.1 h1)];refine ae ?_;exact kG (Post:=[]) (.inr rfl) (.tmp Zr .nil) ⟨by simp[bH,lT,h1],rfl⟩ ZI
 rw[show decide (s=⟨#[]⟩)=true from Zt (by first|exact fun e=>h1 (tQ.2 e)|exact tQ.1 h1)];refine ae ?_;by_cases h2:lk=0;rotate_left
 ·rw[show decide ((lk:Int)=0)=false from Zf Zo];refine ae ?_;exact kG (Post:=[]) (.inr rfl) (.tmp Zr .nil) ⟨by simp[bH,lT,h2],rfl⟩ ZI
 rw[show decide ((lk:Int)=0)=true from Zt Zo];refine ae ?_;by_cases h3:ln=0;rotate_left
 ·rw[show decide (ln=0)=false from Zf (by assumption)];refine ae ?_;exact kG (Post:=[]) (.inr rfl) (.tmp Zr .nil) ⟨by simp[bH,lT,h3],rfl⟩ ZI
 rw[show decide (ln=0)=true from Zt (by assumption)];refine ae ?_;by_cases h4:lb=0;rotate_left
 ·rw[show decide ((lb:Int)=0)=false from Zf Zo];refine ae ?_;exact kG (Post:=[]) (.inr rfl) (.tmp Zr .nil) ⟨by simp[bH,lT,h4],rfl⟩ ZI
 rw[show decide ((lb:Int)=0)=true from Zt Zo];refine ae ?_;by_cases h5:lt.size=0;rotate_left
 ·rw[show decide (lt=⟨#[]⟩)=false from Zf (by first|exact fun e=>h5 (tQ.2 e)|exact tQ.1 h5)];refine ae ?_;exact kG (Post:=[]) (.inr rfl) (.tmp Zr .nil) ⟨by simp[bH,lT,h5],rfl⟩ ZI
 rw[show decide (lt=⟨#[]⟩)=true from Zt (by first|exact fun e=>h5 (tQ.2 e)|exact tQ.1 h5)];refine ae ?_;by_cases h6:lm=0;rotate_left
 ·rw[show decide ((lm:Int)=0)=false from Zf Zo];refine ae ?_;exact kG (Post:=[]) (.inr rfl) (.tmp Zr .nil) ⟨by simp[bH,lT,h6],rfl⟩ ZI
 rw[show decide ((lm:Int)=0)=true from Zt Zo];refine ae ?_;by_cases h7:am=0;rotate_left
 ·rw[show decide ((am:Int)=0)=false from Zf Zo];refine ae ?_;exact kG (Post:=[]) (.inr rfl) (.tmp Zr .nil) ⟨by simp[bH,lT,h7],rfl⟩ ZI
 rw[show decide ((am:Int)=0)=true from Zt Zo];refine ae ?_;refine kG (Post:=[]) (.inr rfl) (.tmp Zr .nil) ⟨?_,rfl⟩ ZI;simp only[bH,lT,h1,h2,h3,h4,h5,h6,h7,true_and,decide_true,vU,Value.bool.injEq];exact decide_eq_decide.2 ⟨fun h=>by omega,fun h=>by omega⟩
structure OneS where
 ok:Bool
 n:Int
 s:ByteArray
 lk:Nat
 ln:Int
 lb:Nat
 lt:ByteArray
 la:Option Addr
 lm:Nat
 lc:Nat
 aa:Option Addr
 am:Nat
 ac:Nat
 ta:Option Addr
 tm:Nat
 tc:Nat
theorem Sj(A:List kC)(hE:nE A)(x:Nd)(hb:x.w<=274877906944)(vs:List Value)(h:jJ A x vs):aw Tryz.prog 184 [.agg vs.toArray] [A] (fun v Post=>v=.tuple #[.bool (wg x.kind x.name x.lit x.args x.ab x.kids.length),vi (zq x.kind x.name)]/\Post=[A]):=by
 have h0:=h;cases h with
 |@mk k s lit args ab kids p lv av tv a c bk o us wf hl bJ bF ha hm hr ss=>
 simp only[Nd.w]at hb;have mO:=Ba A hE _ lit (Qn _) Zo lv hl false;have Ud:=iY A av args bJ;have hft:=iY A tv ab bF;simp only[Nd.kind,Nd.name,Nd.lit,Nd.args,Nd.ab,Nd.kids];have KC:=hl.len;cases hl with
 |@mk lk ln lb lt items la lc Mq lo Mr NP NM NN NO=>
 obtain⟨aa,ac,rfl,tq,ec⟩:=bJ;obtain⟨ta,tc,rfl,sE,KH⟩:=bF;have lR:=wf.kind;have eC:=wf.name;have bz:=wf.many;have hZ:wk (.mk lk ln lb lt items)=lT lk ln lb lt items.length:=rfl;refine aw.intro low184 (by simp[n184]) ?_;simp only[aJ];refine jF ?_;refine kX Zr (fun q=>?_);simp only[Value.cells];refine jF ?_;refine VC.join (α:=OneS) (fun z=>[(1,kF q),(4,.bool z.ok),(5,vi z.n)]) (fun z=>[A,kA q 0 (rA k z.s z.lk z.ln z.lb z.lt z.la z.lm z.lc z.aa z.am z.ac z.ta z.tm z.tc a kids.length c p)])
  (fun z=>wg k s (.mk lk ln lb lt items) args ab kids.length=(z.ok&&(lT z.lk z.ln z.lb z.lt z.lm&&decide (z.s.size=0/\z.am=0/\z.tm=0)))/\zq k s=z.n) ?_ ?_
 ·have hz:(⟨#[]⟩:ByteArray).size=0:=rfl;by_cases k1:k=1
  ·subst k1;refine ae ?_;refine kH mO Zr ZP (fun v Post hv=>?_);obtain⟨rfl,rfl⟩:=hv;simp only[aJ];refine ae ?_;refine⟨⟨(jK (.mk lk ln lb lt items) false).isSome,0,s,0,0,0,⟨#[]⟩,none,0,0,aa,args.length,ac,ta,ab.length,tc⟩,⟨?_,rfl⟩,ZU,by show ao _ [A,kA q 0 [cv 1,.string s,.int .u8 0,.int .i64 0,.int .u64 0,.string ⟨#[]⟩,Nz,.slice aa args.length ac,.slice ta ab.length tc,.slice a kids.length c,vi p]];exact bS⟩;simp[wg,lT,hz]
  by_cases k2:k=2
  ·subst k2;refine ae ?_;refine kK (lx s eC) Zr ?_;refine ae ?_;refine⟨⟨zn s,0,⟨#[]⟩,lk,ln,lb,lt,la,items.length,lc,aa,args.length,ac,ta,ab.length,tc⟩,⟨?_,rfl⟩,ZU,ZI⟩;simp only[hz];simp[wg,hZ,Bool.and_assoc]
  by_cases k3:k=3
  ·subst k3;refine ae ?_;refine kK (xJ s eC) Zr ?_;refine ae ?_;refine⟨⟨jO s,1,⟨#[]⟩,lk,ln,lb,lt,la,items.length,lc,aa,args.length,ac,ta,ab.length,tc⟩,⟨?_,rfl⟩,ZU,ZI⟩;simp only[hz];simp[wg,hZ,Bool.and_assoc]
  have hag:-1<=kR s/\kR s<=140737488355329:=rV s eC;by_cases k4:k=4
  ·subst k4;refine ae ?_;refine kK (fY s eC) Zr ?_;obtain⟨z,hzz⟩:∃z,kR s=z:=⟨_,rfl⟩;rw[hzz]at hag|-;refine ae ?_;refine⟨⟨decide (z+1 > 0),z+1,⟨#[]⟩,lk,ln,lb,lt,la,items.length,lc,aa,args.length,ac,ta,ab.length,tc⟩,⟨?_,by simp[zq,hzz]⟩,ZU,ZI⟩;simp only[hz];rw[show decide (z+1 > 0)=decide (0<=z)from decide_eq_decide.2 ⟨fun h=>by omega,fun h=>by omega⟩];simp[wg,hZ,hzz,Bool.and_assoc]
  by_cases k5:k=5
  ·subst k5;refine ae ?_;refine⟨⟨decide ((kids.length:Int) > 2),-1,s,lk,ln,lb,lt,la,items.length,lc,aa,args.length,ac,ta,ab.length,tc⟩,⟨?_,rfl⟩,ZU,ZI⟩;rw[show decide ((kids.length:Int) > 2)=decide (2 < kids.length)from decide_eq_decide.2 ⟨fun h=>by omega,fun h=>by omega⟩];simp[wg,hZ,Bool.and_assoc]
  by_cases k6:k=6
  ·subst k6;refine ae ?_;refine kK (fY s eC) Zr ?_;obtain⟨z,hzz⟩:∃z,kR s=z:=⟨_,rfl⟩;rw[hzz]at hag|-;refine ae ?_;refine⟨⟨decide (z ≥ 0),z,⟨#[]⟩,lk,ln,lb,lt,la,items.length,lc,aa,args.length,ac,ta,ab.length,tc⟩,⟨?_,by simp[zq,hzz]⟩,ZU,ZI⟩;simp only[hz];rw[show decide (z ≥ 0)=decide (0<=z)from rfl];simp[wg,hZ,hzz,Bool.and_assoc]
  by_cases k7:k=7
  ·subst k7;refine ae ?_;refine kH Ud Zr ZP (fun v Post hv=>?_);obtain⟨rfl,rfl⟩:=hv;simp only[aJ];cases hfa0:args.all jO with
   |false=>
    refine ae ?_;refine⟨⟨false,-1,s,lk,ln,lb,lt,la,items.length,lc,none,0,0,none,0,0⟩,⟨?_,rfl⟩,ZU,ZI⟩;simp[wg,hfa0]
   |true=>
    refine ae ?_;refine kH hft Zr ZP (fun v Post hv=>?_);obtain⟨rfl,rfl⟩:=hv;simp only[aJ];refine ae ?_;refine⟨⟨ab.all jO,-1,s,lk,ln,lb,lt,la,items.length,lc,none,0,0,none,0,0⟩,⟨?_,rfl⟩,ZU,ZI⟩;simp only[wg,hfa0,hZ,show ¬(7:Nat)=1 by omega,show ¬(7:Nat)=2 by omega,show ¬(7:Nat)=3 by omega,show ¬(7:Nat)=4 by omega,show ¬(7:Nat)=5 by omega,show ¬(7:Nat)=6 by omega,if_false,if_true,vU,and_self,and_true,Bool.and_assoc]
  by_cases k8:k=8
  ·subst k8;refine ae ?_;refine⟨⟨true,-1,s,lk,ln,lb,lt,la,items.length,lc,aa,args.length,ac,ta,ab.length,tc⟩,⟨?_,rfl⟩,ZU,ZI⟩;simp[wg,hZ]
  by_cases k9:k=9
  ·subst k9;refine ae ?_;refine⟨⟨true,1,s,lk,ln,lb,lt,la,items.length,lc,aa,args.length,ac,ta,ab.length,tc⟩,⟨?_,rfl⟩,ZU,ZI⟩;simp[wg,hZ]
  refine ae ?_;rw[show decide ((k:Int)=1)=false from Zf Zo];refine ae ?_;rw[show decide ((k:Int)=2)=false from Zf Zo];refine ae ?_;rw[show decide ((k:Int)=3)=false from Zf Zo];refine ae ?_;rw[show decide ((k:Int)=4)=false from Zf Zo];refine ae ?_;rw[show decide ((k:Int)=5)=false from Zf Zo];refine ae ?_;rw[show decide ((k:Int)=6)=false from Zf Zo];refine ae ?_;rw[show decide ((k:Int)=7)=false from Zf Zo];refine ae ?_;rw[show decide ((k:Int)=8)=false from Zf Zo];refine ae ?_;rw[show decide ((k:Int)=9)=false from Zf Zo];refine ae ?_;refine⟨⟨false,0,s,lk,ln,lb,lt,la,items.length,lc,aa,args.length,ac,ta,ab.length,tc⟩,⟨?_,?_⟩,ZU,ZI⟩
  ·simp[wg,k1,k2,k3,k4,k5,k6,k7,k8,k9]
  ·simp[zq,k1,k2,k3,k4,k5,k6,k7,k8,k9]
 ·rintro⟨ok,n,s',lk',ln',lb',lt',la',lm',lc',aa',am',ac',ta',tm',tc'⟩ ⟨E3,iN⟩
  simp only at E3 iN;dsimp only;rw[E3,iN];have hn:=ME k s' lk' ln' lb' lt' la' lm' lc' aa' am' ac' ta' tm' tc' (.slice a kids.length c) (vi p);cases ok with
  |true=>
   refine ae ?_;refine kK hn Zr ?_;refine ae ?_;exact kG (Post:=[A]) (.inr rfl) (.tmp Zr (.tmp Zr .nil)) ⟨rfl,rfl⟩ ZI
  |false=>
   refine ae ?_;exact kG (Post:=[A]) (.inr rfl) (.tmp Zr (.tmp Zr .nil)) ⟨rfl,rfl⟩ ZI
theorem Mn:∀(N:Nat) (l:List Nat),l.length<=N->l≠[]->∀n:Nat,0<=zU (kq l) n->l.getLast? =some 58:=by
 intro N
 induction N with
 |zero=>intro l hl h0;exact absurd (Q3.1 Zo) h0
 |succ N ih=>
  intro l hl h0 n h;rw[Cy h0]at h;split at h
  ·rename_i hc;have hw:wn l < l.length:=by
    rcases Nat.lt_or_ge (wn l) l.length with h1|h1
    ·exact h1
    ·have:=hc.2;rw[Vh,Vp h1]at this;cases this
   have aB:l[wn l]? =some 58:=by
    have:=hc.2;rw[Vh,Zg hw]at this;rw[Zg hw];simpa using this
   by_cases hr:l.drop (wn l+1)=[]
   ·have:l.length<=wn l+1:=by simpa using hr
    rw[List.getLast?_eq_getElem?,show l.length - 1=wn l by omega,aB]
   ·have h2:=ih (l.drop (wn l+1)) (by rw[Q0];omega) hr (n+1) h;rw[List.getLast?_drop]at h2;split at h2
    ·cases h2
    ·exact h2
  ·omega
theorem Ip {s:ByteArray}(h:1 < kR s):(kB s).getLast? =some 58:=by
 unfold kR at h;generalize kB s=l at h|-;cases l with
 |nil=>exact absurd h Zd
 |cons c r=>
  unfold oP at h;dsimp only at h;split at h
  ·omega
  ·split at h
   ·split at h <;> omega
   ·exact Mn _ _ (Qn _) Zs 0 Zo
theorem xn(s:ByteArray)(hs:s.size<=140737488355328)(ha:0<=kR s):aw Tryz.prog 219 [.string s] [] (fun v Post=>v=vi (yE s)/\Post=[]):=by
 refine aw.intro low219 (by simp[n219]) ?_;have hlen:=kV s;have hl:=@Ip s;have hb:yE s=if kR s=0 then 5 else if kR s=1/\(kB s).getLast?≠some 58 then 4 else 3:=rfl;have bZ:0 < s.size:=by
  rcases Ql s.size with h2|h2
  ·have:kB s=[]:=Q3.1 Zo;unfold kR at ha;rw[this]at ha;exact absurd ha Zd
  ·exact h2
 refine ae ?_;refine kK (fY s hs) Zr ?_;obtain⟨z,hz⟩:∃z,kR s=z:=⟨_,rfl⟩;rw[hz]at hb ha hl|-;refine ae ?_;by_cases h0:z=0
 ·rw[Zt h0];rw[if_pos h0]at hb;exact zAV
 rw[Zf h0];rw[if_neg h0]at hb;obtain⟨c,hc,oA⟩:=w7 (s:=s) (i:=s.size - 1) Zo;have Cu:(kB s).getLast? =some c.toNat:=by rw[List.getLast?_eq_getElem?,hlen];exact oA
 rw[Cu]at hb hl;refine ae ?_;refine wF Zr Zr (j:=s.size - 1) Zo hc ?_;refine ae ?_;by_cases sr:c.toNat=58
 ·rw[show decide ((c.toNat:Int)=58)=true from Zt Zo];rw[if_neg (by simp[sr])]at hb;exact zAV
 rw[show decide ((c.toNat:Int)=58)=false from Zf Zo];have h1:z=1:=by
  rcases Int.lt_or_le 1 z with h|h
  ·exact absurd (X3 (hl h)) sr
  ·omega
 rw[if_pos ⟨h1,by simp[sr]⟩]at hb;exact zAV
theorem GI(k:Nat)(s:ByteArray)(hs:s.size<=140737488355328)(ha:k=4->0<=kR s)(c2 c3 c4 c5 c6 c7 c8 c9 rH:Value):aw Tryz.prog 186 [.agg #[cv k,.string s,c2,c3,c4,c5,c6,c7,c8,c9,rH]] [] (fun v Post=>v=vi (eD k s)/\Post=[]):=by
 refine aw.intro low186 (by simp[n186]) ?_;refine ae ?_;refine kX Zr (fun q=>?_);simp only[Value.cells];refine ae ?_;by_cases h3:k=3
 ·subst h3;exact zCG
 rw[show decide ((k:Int)=3)=false from Zf Zo];refine ae ?_;by_cases h5:k=5
 ·subst h5;exact zCG
 rw[show decide ((k:Int)=5)=false from Zf Zo];refine ae ?_;by_cases h4:k=4
 ·subst h4;refine ae ?_;refine kK (xn s hs (ha rfl)) Zr ?_;exact zCG
 exact zDH
theorem D6(A:List kC):∀(N:Nat) (x:Lt),x.size<=N->∀vs,zk A x vs->aw Tryz.prog 151 [.agg vs.toArray] [A] (fun v Post=>v=.bool (lg x)/\Post=[A]):=by
 intro N
 induction N with
 |zero=>intro x hx;have:=x.size_pos;omega
 |succ N ih=>
  intro x hx vs ma;cases ma with
  |@mk k n b t items a c bk o us wf ha hm hr=>
  simp only[Lt.size]at hx;have bz:=wf.many;have htx:=wf.text;have lR:=wf.kind;have au:lg (.mk k n b t items)=(decide (255 < items.length)||(decide (k=11)&&decide (255 < t.size))||items.any lg):=by simp only[lg,GK]
  rw[au];refine aw.intro low151 (by simp[n151]) ?_;refine jF ?_;refine kX Zr (fun q=>?_);simp only[Value.cells];refine jF ?_;refine VC.join (α:=Unit) (fun _=>[(1,kF q)]) (fun _=>[A,kA q 0 [cv k,vi n,uv b,.string t,.slice a items.length c]]) (fun _=>(decide (255 < items.length)||(decide (k=11)&&decide (255 < t.size)))=false) ?_ ?_
  ·refine ae ?_;by_cases h1:255 < items.length
   ·rw[show decide ((items.length:Int) > 255)=true from Zt Zo];exact zD0
   rw[show decide ((items.length:Int) > 255)=false from Zf Zo];refine ae ?_;by_cases h2:k=11;rotate_left
   ·rw[show decide ((k:Int)=11)=false from Zf Zo];refine ae ?_;exact⟨(),by simp[h1,h2],ZU,ZI⟩
   rw[show decide ((k:Int)=11)=true from Zt Zo];refine ae ?_;by_cases h3:255 < t.size
   ·rw[show decide ((t.size:Int) > 255)=true from Zt Zo];refine ae ?_;exact kG (Post:=[A]) (.inr rfl) (.tmp Zr .nil) ⟨by simp[bH,h2,h3],rfl⟩ ZI
   rw[show decide ((t.size:Int) > 255)=false from Zf Zo];refine ae ?_;exact⟨(),by simp[h1,h3],ZU,ZI⟩
  rintro⟨⟩ h1
  rw[h1,vM];refine ae ?_;refine VC.loop (α:=Nat) (bi:=fun j=>[(1,kF q),(3,vi j)]) (Hf:=fun _=>[A,kA q 0 [cv k,vi n,uv b,.string t,.slice a items.length c]])
   (I:=fun j=>j<=items.length/\(items.take j).any lg=false) (μ:=fun j=>items.length - j) 0 ⟨Qv _,rfl⟩ ZU ZI ?_
  rintro j ⟨i1,i2⟩
  refine ae ?_;by_cases hj:j < items.length;rotate_left
  ·rw[show decide ((j:Int) < (items.length:Int))=false from Zf Zo];rw[Qg Zo]at i2;exact zC6
  rw[show decide ((j:Int) < (items.length:Int))=true from Zt Zo];obtain rfl:=ha Zo;obtain⟨y,hy⟩:∃y,items[j]? =some y:=⟨_,Zg hj⟩;have bK:=hr j y hy;have cQ:=hm j hj;have Un:=Lt.aD (Zv hy);have aC:=ih y Zo _ bK;have fT:=bK.len;generalize us j=uj at bK cQ aC fT;have cH:items.take (j+1)=items.take j++[y]:=by rw[Qe,hy];rfl
  refine ae ?_;refine kS Zr Dt fT ?_;refine ae ?_;refine kH aC Zr ZP (fun v Post hv=>?_);obtain⟨rfl,rfl⟩:=hv;simp only[aJ];cases hmy:lg y with
  |true=>
   have:items.any lg=true:=vh.2 ⟨y,Zv hy,hmy⟩;refine ae ?_;exact kG (Post:=[A]) (.inr rfl) (.tmp Zr .nil) ⟨by rw[this];rfl,rfl⟩ ZI
  |false=>
   refine ae ?_;exact⟨j+1,⟨Zo,by rw[cH];simp[i2,hmy]⟩,Zo,ZU,ZI⟩
theorem MB {α:Type}(f:α->Nat)(l r:List α):mx f (l++r)=max (mx f l) (mx f r):=by
 induction l with
 |nil=>simp[mx]
 |cons x l ih=>simp only[vr,mx,ih];omega
theorem GJ:∀(N:Nat) (x:Lt),x.size<=N->zJ x<=x.size:=by
 intro N
 induction N with
 |zero=>intro x hx;have:=x.size_pos;omega
 |succ N ih=>
  intro x hx;cases x with
  |mk k n b t items=>
  simp only[Lt.size]at hx|-;simp only[zJ,sJ];split
  ·have:=Zy (f:=zJ) (K:=Lt.aq items) (l:=items) fun y hy=>by
    have h1:=Lt.aD hy;have h2:=ih y Zo;omega
   omega
  ·omega
theorem A9(A:List kC):∀(N:Nat) (x:Lt),x.size<=N->x.size<=1099511627776->∀vs,zk A x vs->aw Tryz.prog 152 [.agg vs.toArray] [A] (fun v Post=>v=vi (zJ x)/\Post=[A]):=by
 intro N
 induction N with
 |zero=>intro x hx;have:=x.size_pos;omega
 |succ N ih=>
  intro x hx hb vs ma;cases ma with
  |@mk k n b t items a c bk o us wf ha hm hr=>
  simp only[Lt.size]at hx hb;have bz:=wf.many;have lR:=wf.kind;refine aw.intro low152 (by simp[n152]) ?_;simp only[zJ,sJ];refine ae ?_;refine kX Zr (fun q=>?_);simp only[Value.cells];refine ae ?_;by_cases xL:k=10;rotate_left
  ·rw[if_neg xL,show decide ((k:Int)=10)=false from Zf Zo];exact zB4
  rw[if_pos xL,show decide ((k:Int)=10)=true from Zt Zo];refine ae ?_;refine VC.loop (α:=Nat) (bi:=fun j=>[(1,kF q),(3,vi (mx zJ (items.take j))),(4,vi j)]) (Hf:=fun _=>[A,kA q 0 [cv k,vi n,uv b,.string t,.slice a items.length c]])
   (I:=fun j=>j<=items.length) (μ:=fun j=>items.length - j) 0 (Qv _) ZU ZI ?_
  rintro j i1
  have hle:=Zy (f:=zJ) (K:=Lt.aq items) (l:=items.take j) fun y hy=>by
   have h1:=Lt.aD (QN hy);have h2:=GJ _ y (Qn _);omega
  by_cases hj:j < items.length;rotate_left
  ·rw[Qg Zo]at hle|-;generalize mx zJ items=M at hle|-;refine ae ?_;rw[show decide ((j:Int) < (items.length:Int))=false from Zf Zo];exact zB4
  obtain rfl:=ha Zo;obtain⟨y,hy⟩:∃y,items[j]? =some y:=⟨_,Zg hj⟩;have bK:=hr j y hy;have cQ:=hm j hj;have Un:=Lt.aD (Zv hy);have aC:=ih y Zo Zo _ bK;have fT:=bK.len;generalize us j=uj at bK cQ aC fT;have cH:mx zJ (items.take (j+1))=max (mx zJ (items.take j)) (zJ y):=by rw[Qe,hy,MB];simp[mx]
  generalize mx zJ (items.take j)=M at hle cH|-;have hly:=GJ _ y (Qn _);refine ae ?_;rw[show decide ((j:Int) < (items.length:Int))=true from Zt Zo];refine ae ?_;refine kS Zr Dt fT ?_;refine ae ?_;refine kH aC Zr ZP (fun v Post hv=>?_);obtain⟨rfl,rfl⟩:=hv;simp only[aJ];generalize zJ y=d at cH hly|-;refine ae ?_;by_cases hd:M < d
  ·rw[show decide ((d:Int) > (M:Int))=true from Zt Zo];rw[show max M d=d by omega]at cH;refine ae ?_;refine⟨j+1,Zo,Zo,by rw[cH];exact AO,ZI⟩
  ·rw[show decide ((d:Int) > (M:Int))=false from Zf Zo];rw[show max M d=M by omega]at cH;refine ae ?_;refine⟨j+1,Zo,Zo,by rw[cH];exact AO,ZI⟩
end Go.Proofs.YtijnokbblmbpkaaGreatDoor
namespace Go.V
open Go
theorem Zp {l:List Nd}(h:l≠[]):∃r x,l=r++[x]:=⟨l.dropLast,l.getLast h,(List.dropLast_concat_getLast h).symm⟩
theorem sS(s:ByteArray):fH s=if yE s=5 then 5 else 4:=by
 unfold fH yE
 repeat' split
 all_goals omega
theorem HD {x:Nd}(h:jR x=true):wI x=6:=by
 have:=fN h;simp[wI,this]
theorem F7 {x:Nd}{s:ByteArray}{f m:Bool}{d:Nat}:zV x s (cR f d m)=cR (f&&decide (x.kind≠9/\x.kind≠6)) (d+if wI x < fH s then 1 else 0) m:=by
 unfold zV;by_cases h:jR x=true
 ·rw[if_pos h];have hk:=fN h;have hl:=HD h;have:¬wI x < fH s:=by
   rw[hl,sS];split <;> omega
  rw[if_neg this];simp[hk]
 ·rw[if_neg h,iM];simp only[Bool.not_eq_true]at h;simp[yA,h]
theorem lf {k m:Nat}(hk:k=4∨k=5)(x:Nd):gW k m 0 x=decide (x.kind≠9/\x.kind≠6):=by
 unfold gW;have h7:decide (k=7)=false:=Zf Zo;rw[h7];have Nw:(decide (k=4)||decide (k=5))=true:=by simp;exact hk
 rw[Nw];by_cases a:x.kind=9 <;> by_cases b:x.kind=6 <;> simp[a,b]
theorem IL {k m i:Nat}{l:List Nd}(h:ke k m i l=true):∀x∈l,jY x=true:=by
 induction l generalizing i with
 |nil=>intro x hx;cases hx
 |cons y r ih=>
  simp only[ke,vF]at h;intro x hx;rcases QH.1 hx with rfl|hx
  ·exact h.1.1
  ·exact ih h.2 x hx
theorem CT:∀(N:Nat) (x:Nd),x.w<=N->kN x=cR (jY x) (jp x) (jh x):=by
 intro N
 induction N with
 |zero=>intro x hx;have:=x.nC;omega
 |succ N ih=>
  intro x hx;cases x with
  |mk k s lit args ab kids p=>
  simp only[Nd.w]at hx;have hk:∀y∈kids,kN y=cR (jY y) (jp y) (jh y):=fun y hy=>ih y (by have:=Nd.cy hy;omega)
  have hv:∀(l:List Nd) (pl:Nat),(∀y∈l,y∈kids)->jc (eP pl l (l.map kN))=cR (l.all fun x=>jY x&&yA x) (mx (fun x=>jp x+if wI x < pl then 1 else 0) l) (l.any jh):=fun l pl hl=>by
   rw[dY];exact Ee fun x hx=>by rw[hk x (hl x hx),iM]
  have kp:∀{l:List Nd},(l.all fun x=>jY x&&yA x)=true->∀x∈l,yA x=true:=fun {l} h x hx=>by
   have:=ve.1 h x hx;simp only[vF]at this;exact this.2
  have l1:∀x:Nd,(if wI x < 1 then 1 else 0)=0:=fun x=>if_neg (by have:=o8 x;omega)
  have one:∀(h3:k=3∨k=9) (y:Nd),kids=[y]->ke k 1 0 kids=(jY y&&yA y)/\(yA y=true->jx k (pQ k s kids) 0 kids=jp y):=by
   rintro h3 y rfl
   constructor
   ·simp only[ke,vH];rw[iz Zo Zo Zo]
   ·intro hy;rw[fq (p:=1) (fun j x hx=>?_)]
    ·simp only[mx,l1];omega
    ·cases j with
     |zero=>cases hx;exact⟨hy,by unfold fZ;rw[if_neg Zo,if_neg Zo]⟩
     |succ j=>simp at hx
  have cb:∀(b c m:Bool) (d:Nat),0<=zq k s->zq k s≠kids.length->cR (b&&!(decide (0<=zq k s)&&decide (zq k s≠kids.length))&&c) d m=none:=fun b c m d h1 h2=>by
   rw[Zt h1,Zt h2];cases b <;> rfl
  have cg:¬(0<=zq k s/\zq k s≠kids.length)->(!(decide (0<=zq k s)&&decide (zq k s≠kids.length)))=true:=fun h=>by
   rw[vN,vE];simp only[decide_eq_false_iff_not];omega
  have mn:∀(c:Bool) (r:Rs),c=false->kQ c r=none:=fun c r h=>by subst h;rfl
  simp only[kN,jq,ju];simp only[jY,jh,jp,CP];by_cases h1:k=1
  ·subst h1;rw[if_pos rfl,Rh _ lit (Qn _) false,jm];cases kids with
   |nil=>
    rw[cg Io];refine ml (by simp[wg,ke];cases (jK lit false).isSome <;> simp) (fun h=>?_);simp only[wg,if_true,vF,decide_eq_true_eq]at h;simp[jx,h.1.1.2.2.1,h.1.1.2.2.2]
   |cons y r=>
    rw[cb _ _ _ _ Io (by simp[zq];omega)];simp[cR]
  rw[if_neg h1];by_cases h2:k=2
  ·subst h2;rw[if_pos rfl,zero_c,jm];cases kids with
   |nil=>
    rw[cg Io];refine ml (by simp[wg,ke];cases zn s <;> cases wk lit <;> simp) (fun h=>?_);simp only[wg,show ¬(2:Nat)=1 by omega,if_false,if_true,vF,decide_eq_true_eq]at h;obtain⟨g1,g2⟩:=dO h.1.1.1.2;simp[jx,h.1.1.2.1,h.1.1.2.2,g1,g2]
   |cons y r=>
    rw[cb _ _ _ _ Io (by simp[zq];omega)];simp[cR]
  rw[if_neg h2];by_cases h3:k=3
  ·subst h3;rw[if_pos rfl];rcases kids with _|⟨y,_|⟨z,r⟩⟩
   ·rw[cb _ _ _ _ Io Io];simp[kQ]
   ·obtain⟨o1,o2⟩:=one (.inl rfl) y rfl;rw[cg Io];show kQ _ (ja y 1 (kN y))=_;rw[hk y Zs,iM,l1,jm,show ke 3 [y].length 0 [y]=(jY y&&yA y)from o1];refine ml ?_ (fun h=>?_)
    ·simp[wg];cases jY y&&yA y <;> cases wk lit <;> cases jO s <;> simp
    ·simp only[wg,show ¬(3:Nat)=1 by omega,show ¬(3:Nat)=2 by omega,if_false,if_true,vF,decide_eq_true_eq]at h;obtain⟨g1,g2⟩:=dO h.1.1.1.2;rw[o2 h.2.2];simp[h.1.1.2.1,h.1.1.2.2,g1,g2]
   ·rw[cb _ _ _ _ Io (by simp[zq];omega)];simp[kQ]
  rw[if_neg h3];by_cases h4:k=4
  ·subst h4;rw[if_pos rfl];rcases kids with _|⟨y,l⟩
   ·by_cases ha:0<=kR s
    ·rw[cb _ _ _ _ (by simp[zq];omega) (by simp[zq];omega)];simp[kQ]
    ·rw[mn _ _ (by simp[ha])];simp[wg,ha,cR]
   ·have bM:ke 4 (y::l).length 1 l=l.all fun x=>jY x&&yA x:=fA fun j x _=>iz Zo Zo Zo
    show kQ _ (zr (zV y s (kN y)) (ik s l (l.map kN)))=_;rw[hk y Zs,F7,ik,hv l (lY s) fun z hz=>by simp[hz],eE,jm,pS,jm];have ce:zq 4 s=kR s+1:=by simp[zq]
    rw[ce];have Pj:ke 4 (l.length+1) (0+1) l=l.all fun x=>jY x&&yA x:=bM
    refine ml ?_ (fun h=>?_)
    ·simp only[ke,bM,lf (.inl rfl),wg,Vz,Pj,Int.natCast_add,Int.natCast_one];simp only[show ¬(4:Nat)=1 by omega,show ¬(4:Nat)=2 by omega,show ¬(4:Nat)=3 by omega,show ¬((4:Nat)=3∨(4:Nat)=9) by omega,if_false,if_true,Vz];rw[vJ];simp only[vF,vN,vE,decide_eq_true_eq,decide_eq_false_iff_not];constructor
     ·rintro⟨⟨⟨⟨a1,a2⟩,a3⟩,a4⟩,⟨a5,a6⟩,a7,a8⟩
      exact⟨⟨⟨⟨a4,a3⟩,a1,a2⟩,.inr Zo⟩,⟨a5,a6⟩,a8⟩
     ·rintro⟨⟨⟨⟨a4,a3⟩,a1,a2⟩,a7⟩,⟨a5,a6⟩,a8⟩
      exact⟨⟨⟨⟨a1,a2⟩,a3⟩,a4⟩,⟨a5,a6⟩,Zo,a8⟩
    ·simp only[ke,bM,Vz,Pj,wg,show ¬(4:Nat)=1 by omega,show ¬(4:Nat)=2 by omega,show ¬(4:Nat)=3 by omega,show ¬((4:Nat)=3∨(4:Nat)=9) by omega,if_false,if_true,Vz,vF,decide_eq_true_eq,vN,vE,decide_eq_false_iff_not]at h;obtain⟨g1,g2⟩:=dO h.1.1.1.2;obtain⟨⟨⟨⟨c1,c2⟩,c3,c4⟩,c5⟩,⟨c6,c7⟩,c8⟩:=h;have DJ:=kp c8;have tq:(l.length:Int)=kR s:=by omega
     rw[lf (.inl rfl)]at c7;simp only[decide_eq_true_eq]at c7;have hd:jx 4 s 1 l=mx (fun x=>jp x+if wI x < lY s then 1 else 0) l:=fq fun j x hx=>⟨DJ x (Zv hx),by unfold fZ lY;rw[if_neg Zo,if_pos Zo]⟩
     simp only[jx,pQ,show ¬(4:Nat)=5 by omega,if_false,hd,g1,g2,c3,c4,vf];constructor
     ·have:tY 4 s 0 y=decide (wI y < fH s):=by
       simp[tY,c7.1,c7.2,fZ,sS]
      rw[this];simp
     ·have e1:decide (15 < kR s)=decide (16 < (y::l).length):=by
       rw[vJ,decide_eq_true_eq,decide_eq_true_eq,Vz];omega
      rw[e1];cases jh y <;> simp
  rw[if_neg h4];by_cases h6:k=6
  ·subst h6;have bM:ke 6 kids.length 0 kids=kids.all fun x=>jY x&&yA x:=fA fun j x _=>iz Zo Zo Zo
   rw[if_pos rfl,ik,hv kids (lY s) fun z hz=>hz,eE,jm,jm];have ce:zq 6 s=kR s:=by simp[zq]
   rw[ce];refine ml ?_ (fun h=>?_)
   ·simp only[bM,wg,show ¬(6:Nat)=1 by omega,show ¬(6:Nat)=2 by omega,show ¬(6:Nat)=3 by omega,show ¬(6:Nat)=4 by omega,show ¬(6:Nat)=5 by omega,show ¬((6:Nat)=3∨(6:Nat)=9) by omega,if_false,if_true];rw[vJ];simp only[vF,vN,vE,decide_eq_true_eq,decide_eq_false_iff_not];constructor
    ·rintro⟨⟨⟨a1,a2⟩,a3⟩,a4,a5⟩
     exact⟨⟨⟨⟨Zo,a3⟩,a1,a2⟩,.inr Zo⟩,a5⟩
    ·rintro⟨⟨⟨⟨a4,a3⟩,a1,a2⟩,a6⟩,a5⟩
     exact⟨⟨⟨a1,a2⟩,a3⟩,Zo,a5⟩
   ·simp only[bM,wg,show ¬(6:Nat)=1 by omega,show ¬(6:Nat)=2 by omega,show ¬(6:Nat)=3 by omega,show ¬(6:Nat)=4 by omega,show ¬(6:Nat)=5 by omega,show ¬((6:Nat)=3∨(6:Nat)=9) by omega,if_false,if_true,vF,decide_eq_true_eq,vN,vE,decide_eq_false_iff_not]at h;obtain⟨⟨⟨⟨c1,c2⟩,c3,c4⟩,c5⟩,c8⟩:=h;obtain⟨g1,g2⟩:=dO c2;have DJ:=kp c8;have hd:jx 6 s 0 kids=mx (fun x=>jp x+if wI x < lY s then 1 else 0) kids:=fq fun j x hx=>⟨DJ x (Zv hx),by unfold fZ lY;rw[if_neg Zo,if_pos Zo]⟩
    have e1:decide (15 < kR s)=decide (15 < kids.length):=by
     rw[vJ,decide_eq_true_eq,decide_eq_true_eq];omega
    simp only[pQ,show ¬(6:Nat)=5 by omega,if_false,hd,g1,g2,c3,c4,e1];simp
  rw[if_neg h6];by_cases h5:k=5
  ·subst h5;rw[if_pos rfl];rcases kids with _|⟨y,_|⟨z,l⟩⟩
   ·rw[mn _ _ Zs];simp[wg,cR]
   ·rw[mn _ _ Zs];simp[wg,cR]
   ·have hfk:∀{r:List Nd} {i:Nat},0 < i->ke 5 (y::z::l).length i r=r.all fun x=>jY x&&decide (x.kind=6):=by
     intro r
     induction r with
     |nil=>intro i _;rfl
     |cons u r ihr=>
      intro i hi;simp only[ke,vd,ihr (i:=i+1) Zo]
      congr 2
      have hs:jR u=true->u.kind=2:=fN;unfold gW;rw[Zf (show ¬i=0 by omega),Zt hi];by_cases h6:u.kind=6
      ·have:jR u=false:=by rw[vI];intro h;have:=hs h;omega
       simp[h6,this]
      ·simp[h6]
    have hmsg:jc (qJ (z::l) ((z::l).map kN))=cR ((z::l).all fun x=>jY x&&decide (x.kind=6)) (mx jp (z::l)) ((z::l).any jh):=by
     rw[sO];exact Ee fun x hx=>by rw[hk x (by simp only[QH]at hx|-;exact .inr hx),jm,Bool.and_comm]
    show kQ _ (wo _ (zr (jc (qJ (z::l) ((z::l).map kN))) (zV y z.name (kN y))))=_;rw[hmsg,hk y Zs,F7,pS,eE,jm];have H9:=hfk (r:=z::l) (i:=1) Zo;rw[cg Io];refine ml ?_ (fun h=>?_)
    ·rw[ke,H9];simp only[lf (.inr rfl),wg];simp only[show ¬(5:Nat)=1 by omega,show ¬(5:Nat)=2 by omega,show ¬(5:Nat)=3 by omega,show ¬(5:Nat)=4 by omega,show ¬(5:Nat)=6 by omega,show ¬((5:Nat)=3∨(5:Nat)=9) by omega,if_false,if_true];rw[vJ];simp only[vF,vN,vE,decide_eq_true_eq,decide_eq_false_iff_not];constructor
     ·rintro⟨⟨⟨a1,a2,a3,a4⟩,a5⟩,a6,a7,a8⟩
      exact⟨⟨⟨⟨a4,a5⟩,a1,a2,a3⟩,trivial⟩,⟨a7,a8⟩,a6⟩
     ·rintro⟨⟨⟨⟨a4,a5⟩,a1,a2,a3⟩,_⟩,⟨a7,a8⟩,a6⟩
      exact⟨⟨⟨a1,a2,a3,a4⟩,a5⟩,a6,a7,a8⟩
    ·rw[ke,H9]at h;simp only[wg,lf (.inr rfl),show ¬(5:Nat)=1 by omega,show ¬(5:Nat)=2 by omega,show ¬(5:Nat)=3 by omega,show ¬(5:Nat)=4 by omega,if_false,if_true,vF,decide_eq_true_eq]at h;obtain⟨⟨⟨⟨c1,c2⟩,c0,c3,c4⟩,c5⟩,⟨c6,c7⟩,c8⟩:=h;obtain⟨g1,g2⟩:=dO c2;have h6:∀x∈z::l,x.kind=6:=fun x hx=>by
      have:=ve.1 c8 x hx;simp only[vF,decide_eq_true_eq]at this;exact this.2
     have hd:∀{r:List Nd} {i:Nat} {q:ByteArray},(∀x∈r,x.kind=6)->jx 5 q i r=mx jp r:=by
      intro r
      induction r with
      |nil=>intro i q _;rfl
      |cons u r ihr=>
       intro i q hr;simp only[jx,mx,ihr fun x hx=>hr x (by simp[hx])];simp[tY,hr u Zs]
     have hbr:tY 5 z.name 0 y=decide (wI y < fH z.name):=by
      simp[tY,c7.1,c7.2,fZ,sS]
     have DD:pQ 5 s (y::z::l)=z.name:=rfl;rw[DD];rw[jx,hd h6,hbr];simp only[g1,g2,c3,c4,vf];constructor
     ·simp[Nat.max_comm]
     ·cases jh y <;> simp
  rw[if_neg h5];by_cases h7:k=7
  ·subst h7;rw[if_pos rfl];have l7:jc (wp kids (kids.map kN))=cR (ke 7 kids.length 0 kids) (jx 7 s 0 kids) (kids.any jh):=by
    rcases(Classical.em (kids=[])).imp_right Zp with rfl|⟨l,x,rfl⟩
    ·rfl
    ·have hl:=hv l 1 (fun z hz=>by simp[hz]);rw[dY]at hl;have gS:ke 7 (l++[x]).length 0 l=l.all fun x=>jY x&&yA x:=fA fun j y hy=>iz Zo Zo (by
      have:=(Vt.1 hy).1;rw[Vy,Q8];omega)
     have pL:(if x.kind=9 then kN x else ja x 1 (kN x))=cR (jY x&&gW 7 (l++[x]).length (0+l.length) x) (jp x) (jh x):=by
      exact zB5
     rw[tS,tC,hl,eQ,pL,show jc []=some (0,false)from rfl,xq,pS];rw[oz,AS,gS];refine ml ?_ (fun h=>?_)
     ·simp[ke]
     ·have tq:(l.all fun x=>jY x&&yA x)=true:=by
       rw[vF]at h;exact h.1
      have DJ:=kp tq;have eB:jY x&&gW 7 (l++[x]).length (0+l.length) x=true:=by
       simp only[ke,vH,vF]at h|-;exact⟨h.2.1,by simpa using h.2.2⟩
      have hd:jx 7 s 0 l=mx (fun x=>jp x+if wI x < 1 then 1 else 0) l:=fq fun j y hy=>⟨DJ y (Zv hy),by unfold fZ;rw[if_neg Zo,if_neg Zo]⟩
      have hb:tY 7 s (0+l.length) x=false:=by
       unfold tY fZ;rw[if_neg Zo,if_neg Zo,Zf (show ¬wI x < 1 by have:=o8 x;omega)];simp
      simp only[hd,jx,hb];simp
   unfold wy;rw[l7,pX,eE,jm,eE,jm,jm];refine ml ?_ (fun h=>?_)
   ·rw[cg Io];simp only[wg,show ¬(7:Nat)=1 by omega,show ¬(7:Nat)=2 by omega,show ¬(7:Nat)=3 by omega,show ¬(7:Nat)=4 by omega,show ¬(7:Nat)=5 by omega,show ¬(7:Nat)=6 by omega,if_false,if_true];cases args.all jO <;> cases ab.all jO <;> cases wk lit <;> cases decide (s.size=0) <;> simp
   ·simp only[wg,show ¬(7:Nat)=1 by omega,show ¬(7:Nat)=2 by omega,show ¬(7:Nat)=3 by omega,show ¬(7:Nat)=4 by omega,show ¬(7:Nat)=5 by omega,show ¬(7:Nat)=6 by omega,if_false,if_true,vF,decide_eq_true_eq]at h;obtain⟨⟨⟨⟨c1,c2⟩,c3⟩,c4⟩,c5⟩:=h;obtain⟨g1,g2⟩:=dO c2;simp only[pQ,show ¬(7:Nat)=5 by omega,if_false,g1,g2];refine⟨Zs,?_⟩;cases kids.any jh <;> cases decide (15 < args.length) <;> cases decide (63 < ab.length) <;> rfl
  rw[if_neg h7];by_cases h8:k=8
  ·subst h8;have bM:ke 8 kids.length 0 kids=kids.all fun x=>jY x&&yA x:=fA fun j x _=>iz Zo Zo Zo
   rw[if_pos rfl,hv kids 1 fun z hz=>hz,eE,pX,jm,cg Io];refine ml ?_ (fun h=>?_)
   ·simp only[bM,wg,show ¬(8:Nat)=1 by omega,show ¬(8:Nat)=2 by omega,show ¬(8:Nat)=3 by omega,show ¬(8:Nat)=4 by omega,show ¬(8:Nat)=5 by omega,show ¬(8:Nat)=6 by omega,show ¬(8:Nat)=7 by omega,if_false,true_or,if_true];cases wk lit <;> simp
   ·simp only[bM,wg,show ¬(8:Nat)=1 by omega,show ¬(8:Nat)=2 by omega,show ¬(8:Nat)=3 by omega,show ¬(8:Nat)=4 by omega,show ¬(8:Nat)=5 by omega,show ¬(8:Nat)=6 by omega,show ¬(8:Nat)=7 by omega,if_false,true_or,if_true,vF,decide_eq_true_eq]at h;obtain⟨⟨⟨c1,c2,c3,c4⟩,c5⟩,c8⟩:=h;obtain⟨g1,g2⟩:=dO c1;have DJ:=kp (l:=kids) (ve.2 fun x hx=>by simpa using ve.1 c8 x hx);have hd:jx 8 s 0 kids=mx (fun x=>jp x+if wI x < 1 then 1 else 0) kids:=fq fun j x hx=>⟨DJ x (Zv hx),by unfold fZ;rw[if_neg Zo,if_neg Zo]⟩
    simp only[pQ,show ¬(8:Nat)=5 by omega,if_false,hd,g1,g2,c3,c4];simp
  rw[if_neg h8];by_cases h9:k=9
  ·subst h9;rw[if_pos rfl];rcases kids with _|⟨y,_|⟨z,r⟩⟩
   ·rw[cb _ _ _ _ Io Io];simp[kQ]
   ·obtain⟨o1,o2⟩:=one (.inr rfl) y rfl;rw[cg Io];show kQ _ (ja y 1 (kN y))=_;rw[hk y Zs,iM,l1,jm,show ke 9 [y].length 0 [y]=(jY y&&yA y)from o1];refine ml ?_ (fun h=>?_)
    ·simp[wg];cases jY y&&yA y <;> cases wk lit <;> simp
    ·simp only[wg,show ¬(9:Nat)=1 by omega,show ¬(9:Nat)=2 by omega,show ¬(9:Nat)=3 by omega,show ¬(9:Nat)=4 by omega,show ¬(9:Nat)=5 by omega,show ¬(9:Nat)=6 by omega,show ¬(9:Nat)=7 by omega,if_false,or_true,if_true,vF,decide_eq_true_eq]at h;obtain⟨⟨⟨c1,c2,c3,c4⟩,c5⟩,c6,c7⟩:=h;obtain⟨g1,g2⟩:=dO c1;rw[o2 c7];simp[g1,g2,c3,c4]
   ·rw[cb _ _ _ _ Io (by simp[zq];omega)];simp[kQ]
  rw[if_neg h9];simp[wg,cR,h1,h2,h3,h4,h5,h6,h7,h8,h9]
theorem J5 {P:Program}{Z:Exit->Act->World->Prop}{Q:Act->World->Prop}{l m:List (RO×Oper)}:∀{a w},cr P Z (fun a w=>cr P Z Q m a w) l a w->cr P Z Q (l++m) a w:=by
 induction l with
 |nil=>intro a w h;exact h
 |cons x l ih=>
  intro a w h;have key:cr P Z (fun a w=>cr P Z Q m a w) (x::l)=wA P Z x (cr P Z (fun a w=>cr P Z Q m a w) l):=by funext a w;rfl
  show wA P Z x (cr P Z Q (l++m)) a w;have h2:wA P Z x (cr P Z (fun a w=>cr P Z Q m a w) l) a w:=h;have h3:cr P Z (cr P Z Q (l++m)) [x] a w:=HT (l:=[x]) (Q:=cr P Z (fun a w=>cr P Z Q m a w) l) (fun a w g=>ih g) h2;exact h3
section
variable {P:Program} {n:Nat} {rs l1 l2:List RO} {Γ:Env} {H:SH} {Z:List PanicEntry->Env->SH->Prop} {K:Env->SH->Prop}
theorem VO.app(h:VO P n l1 Γ H Z (fun ay H'=>VO P n l2 ay H' Z K)):VO P n (l1++l2) Γ H Z K:=by
 intro l hl a w F ZZ Q ha hs hq hz;obtain⟨Wj,fQ⟩:=hl;obtain⟨p,q,rfl,hp,iN⟩:=List.map_eq_append_iff.1 Wj;refine J5 (h p ⟨hp,fun x hx=>fQ x (Zw _ hx)⟩ a w F ZZ _ ha hs (fun a' w' ay H' k g1 g2 g3 g4=>?_) hz);refine k q ⟨iN,fun x hx=>fQ x (QG _ hx)⟩ a' w' F ZZ Q g1 g3 (fun a2 w2 cu H2 k2 e1 e2 e3 e4=>hq a2 w2 cu H2 k2 e1 (e2.trans g2) e3 (g4.trans e4)) (fun ch a2 w2 cu H2 k2 e1 e2 e3 e4=>hz ch a2 w2 cu H2 k2 e1 (e2.trans g2) e3 (g4.trans e4))
def cutAt(t:Nat):List RO->List RO×List RO
 |[]=>([],[])
 |r::l=>if r.dst=some t then([r],l)else((r::(cutAt t l).1),(cutAt t l).2)
theorem Ov(t:Nat):∀l:List RO,l=(cutAt t l).1++(cutAt t l).2:=by
 intro l
 induction l with
 |nil=>rfl
 |cons r l ih=>
  simp only[cutAt];split
  ·rfl
  ·simp only[vr];rw[<- ih]
theorem VO.bool(t:Nat)(b:Bool)(hc:cutAt t rs=(l1,l2))(h1:VO P n l1 Γ H Z (fun ay H'=>look ay t=some (.bool b)/\Sub ay Γ/\ao H' H))(h2:VO P n l2 ((t,.bool b)::Γ) H Z K):VO P n rs Γ H Z K:=by
 have he:=Ov t rs;rw[hc]at he;rw[he];refine VO.app (h1.mono fun ay H' ⟨g1,g2,g3⟩=>VO.sub ?_ (VO.imp g3 h2));intro s v hs;simp only[look]at hs;split at hs
 ·rename_i e;cases hs
  first
   |(subst e;exact g1)
   |(rw[<- e];exact g1)
   |(rw[e];exact g1)
 ·exact g2 s v hs
end
end Go.V
namespace Go.Proofs.YtijnokbblmbpkaaGreatDoor
open Go Go.V
set_option maxHeartbeats 1600000
set_option maxRecDepth 100000
theorem UN(k:Nat)(s:ByteArray)(hs:s.size<=140737488355328):-1<=zq k s/\zq k s<=140737488355330:=by
 have:=rV s hs;unfold zq
 repeat' split
 all_goals omega
theorem E7(A:List kC)(hE:nE A):∀(N:Nat) (x:Nd),x.w<=N->x.w<=274877906944->∀vs,jJ A x vs->aw Tryz.prog 149 [.agg vs.toArray] [A] (fun v Post=>v=.bool (jY x)/\Post=[A]):=by
 intro N
 induction N with
 |zero=>intro x hx;have:=x.nC;omega
 |succ N ih=>
  intro x hx hb vs h;have ed:=Sj A hE x hb vs h;obtain⟨e1,e2,e3,e4,e5,e6,e7,e8,e9,uf,ug,uh,ui,a,cc,bk,o,us,ma,bz,ha,hm,hr⟩:=R0 h;have hwx:Nd.ws x.kids+1<=x.w:=by cases x;simp only[Nd.w,Nd.kids];omega
  have eC:x.name.size<=140737488355328:=by cases h with|mk wf=>exact wf.name
  have lR:x.kind < 256:=by cases h with|mk wf=>exact wf.kind
  have hform:jY x=(wg x.kind x.name x.lit x.args x.ab x.kids.length&&!(decide (0<=zq x.kind x.name)&&decide (zq x.kind x.name≠x.kids.length))&&ke x.kind x.kids.length 0 x.kids):=by cases x;simp only[jY,Nd.kind,Nd.name,Nd.lit,Nd.args,Nd.ab,Nd.kids];rfl
  rw[hform];have oB:=UN x.kind x.name eC;generalize hOne:wg x.kind x.name x.lit x.args x.ab x.kids.length=on at ed|-;generalize hCnt:zq x.kind x.name=cn at ed oB|-;rw[ma]at ed|-;generalize x.kind=k at ed lR|-;refine aw.intro low149 (by simp[n149]) ?_;refine jF ?_;refine kX Zr (fun q=>?_);simp only[Value.cells];refine jF ?_;refine kH ed Zr ZP (fun v Post hv=>?_);obtain⟨rfl,rfl⟩:=hv;simp only[aJ];refine jF ?_;refine VC.join (α:=Unit) (fun _=>[(1,kF q)]) (fun _=>[A,kA q 0 (rA k x.name e1 e2 e3 e4 e5 e6 e7 e8 e9 uf ug uh ui a x.kids.length cc x.at_)]) (fun _=>(on&&!(decide (0<=cn)&&decide (cn≠x.kids.length)))=true) ?_ ?_
  ·refine ae ?_;cases on with
   |false=>
    exact T0
   |true=>
    refine ae ?_;by_cases h1:0<=cn;rotate_left
    ·skip
     rw[show decide (cn ≥ 0)=false from Zf Zo];refine ae ?_;exact⟨(),by simp[h1],ZU,ZI⟩
    rw[show decide (cn ≥ 0)=true from Zt Zo];refine ae ?_;by_cases h2:cn=x.kids.length
    ·skip
     rw[show decide (cn=(x.kids.length:Int))=true from Zt Zo];refine ae ?_;exact⟨(),by simp[h2],ZU,ZI⟩
    ·skip
     rw[show decide (cn=(x.kids.length:Int))=false from Zf Zo];refine ae ?_;exact kG (Post:=[A]) (.inr rfl) (.tmp Zr .nil) ⟨by simp[bH,h1,h2],rfl⟩ ZI
  rintro⟨⟩ aP
  rw[aP,vU];refine ae ?_;refine VC.loop (α:=Nat) (bi:=fun j=>[(1,kF q),(5,vi j)]) (Hf:=fun _=>[A,kA q 0 (rA k x.name e1 e2 e3 e4 e5 e6 e7 e8 e9 uf ug uh ui a x.kids.length cc x.at_)])
   (I:=fun j=>j<=x.kids.length/\ke k x.kids.length 0 x.kids=ke k x.kids.length j (x.kids.drop j)) (μ:=fun j=>x.kids.length - j) 0 ⟨Qv _,rfl⟩ ZU ZI ?_
  rintro j ⟨i1,i2⟩
  refine ae ?_;by_cases hj:j < x.kids.length;rotate_left
  ·rw[show decide ((j:Int) < (x.kids.length:Int))=false from Zf Zo];rw[vx Zo]at i2;exact zC6
  rw[show decide ((j:Int) < (x.kids.length:Int))=true from Zt Zo];obtain rfl:=ha Zo;obtain⟨y,hy⟩:∃y,x.kids[j]? =some y:=⟨_,Zg hj⟩;have bK:=hr j y hy;have cQ:=hm j hj;have fT:=bK.len;have hzw:y.w<=Nd.ws x.kids:=Nd.cy (Zv hy);have aC:=ih y Zo Zo _ bK;have Gk:x.kids.drop j=y::x.kids.drop (j+1):=by
   exact zDF
  rw[Gk]at i2;simp only[ke]at i2;generalize us j=uj at bK cQ aC fT;have hsn:jR y=zI y.kind y.name:=rfl;obtain⟨f1,f2,f3,f4,f5,f6,f7,f8,f9,f10,f11,f12,f13,f14,f15,f16,f17,rfl,lS,hyk⟩:=dQ bK;refine ae ?_;refine kS Zr Dt rfl ?_;refine ae ?_;refine kO (fun q6=>?_);refine ae ?_;refine kH aC Zr ZP (fun v Post hv=>?_);obtain⟨rfl,rfl⟩:=hv;simp only[aJ];generalize jY y=fy at i2|-;refine ae ?_;refine VO.bool 53 (decide (j=0)&&(decide (k=4)||decide (k=5))) Zr ?_ ?_
  ·by_cases j0:j=0;rotate_left
   ·skip
    rw[show decide ((j:Int)=0)=false from Zf Zo];refine ae ?_;exact⟨by simp[j0],ZU,ZI⟩
   rw[show decide ((j:Int)=0)=true from Zt Zo];refine ae ?_;by_cases k4:k=4
   ·skip
    rw[show decide ((k:Int)=4)=true from Zt Zo];refine ae ?_;exact⟨by simp[j0,k4],ZU,ZI⟩
   rw[show decide ((k:Int)=4)=false from Zf Zo];refine ae ?_;by_cases k5:k=5
   ·skip
    rw[show decide ((k:Int)=5)=true from Zt Zo];refine ae ?_;exact⟨by simp[j0,k4,k5],ZU,ZI⟩
   rw[show decide ((k:Int)=5)=false from Zf Zo];refine ae ?_;exact⟨by simp[j0,k4,k5],ZU,ZI⟩
  generalize xR:(decide (j=0)&&(decide (k=4)||decide (k=5)))=fst;refine ae ?_;refine VO.bool 64 (decide (j+1=x.kids.length)&&decide (k=7)) Zr ?_ ?_
  ·by_cases j0:j+1=x.kids.length;rotate_left
   ·skip
    rw[show decide ((j:Int)=(x.kids.length:Int) - 1)=false from Zf Zo];refine ae ?_;exact⟨by simp[j0],ZU,ZI⟩
   rw[show decide ((j:Int)=(x.kids.length:Int) - 1)=true from Zt Zo];refine ae ?_;by_cases k7:k=7
   ·skip
    rw[show decide ((k:Int)=7)=true from Zt Zo];refine ae ?_;exact⟨by simp[j0,k7],ZU,ZI⟩
   rw[show decide ((k:Int)=7)=false from Zf Zo];refine ae ?_;exact⟨by simp[j0,k7],ZU,ZI⟩
  generalize hlst:(decide (j+1=x.kids.length)&&decide (k=7))=lst;refine ae ?_;refine VO.bool 71 (decide (k=5)&&decide (0 < j)) Zr ?_ ?_
  ·by_cases k5:k=5;rotate_left
   ·skip
    rw[show decide ((k:Int)=5)=false from Zf Zo];refine ae ?_;exact⟨by simp[k5],ZU,ZI⟩
   rw[show decide ((k:Int)=5)=true from Zt Zo];refine ae ?_;by_cases j0:0 < j
   ·skip
    rw[show decide ((j:Int) > 0)=true from Zt Zo];refine ae ?_;exact⟨by simp[k5,j0],ZU,ZI⟩
   rw[show decide ((j:Int) > 0)=false from Zf Zo];refine ae ?_;exact⟨by simp[k5,j0],ZU,ZI⟩
  generalize hmsg:(decide (k=5)&&decide (0 < j))=msg;have hkb:gW k x.kids.length j y=(!(zI y.kind y.name&&!fst)&&!(decide (y.kind=9)&&!lst)&&(decide (y.kind=6)==msg)):=by
   unfold gW;rw[xR,hlst,hmsg,hsn]
  have hsup:=tT y.kind y.name (cv f1) (vi f2) (uv f3) (.string f4) (.slice f5 f6 f7) (.slice f8 f9 f10) (.slice f11 f12 f13) (.slice f14 f15 f16) (vi f17);generalize zI y.kind y.name=su at hsup hkb;refine ae ?_;refine VO.bool 97 (!(fy&&gW k x.kids.length j y)) Zr ?_ ?_
  ·rw[hkb];cases fy with
   |false=>
    refine ae ?_;exact⟨Zs,ZU,ZI⟩
   |true=>
    refine ae ?_;refine kK hsup Zr ?_;refine VO.bool 81 (su&&!fst) Zr ?_ ?_
    ·cases su with
     |false=>
      refine ae ?_;exact⟨Zs,ZU,ZI⟩
     |true=>
      refine ae ?_;exact⟨Zs,ZU,ZI⟩
    generalize (su&&!fst)=b1;cases b1 with
    |true=>
     refine ae ?_;exact⟨Zs,ZU,ZI⟩
    |false=>
     refine ae ?_;refine VO.bool 90 (decide (y.kind=9)&&!lst) Zr ?_ ?_
     ·by_cases k9:y.kind=9
      ·skip
       rw[show decide ((y.kind:Int)=9)=true from Zt Zo];refine ae ?_;exact⟨by simp[k9],ZU,ZI⟩
      ·skip
       exact zES
     generalize (decide (y.kind=9)&&!lst)=b2;cases b2 with
     |true=>
      refine ae ?_;exact⟨Zs,ZU,ZI⟩
     |false=>
      refine ae ?_;refine⟨?_,ZU,ZI⟩;rw[show decide ((y.kind:Int)=6)=decide (y.kind=6)from decide_eq_decide.2 ⟨fun h=>by omega,fun h=>by omega⟩];cases decide (y.kind=6) <;> cases msg <;> rfl
  generalize (fy&&gW k x.kids.length j y)=good at i2|-;cases good with
  |true=>
   refine ae ?_;exact⟨j+1,⟨Zo,by rw[i2];simp⟩,Zo,ZU,ZI⟩
  |false=>
   refine ae ?_;exact kG (Post:=[A]) (.inr rfl) (.tmp Zr .nil) ⟨by rw[i2];simp[bH],rfl⟩ ZI
theorem Lf(A:List kC):∀(N:Nat) (x:Nd),x.w<=N->∀vs,jJ A x vs->aw Tryz.prog 88 [.agg vs.toArray] [A] (fun v Post=>v=.bool (jh x)/\Post=[A]):=by
 intro N
 induction N with
 |zero=>intro x hx;have:=x.nC;omega
 |succ N ih=>
  intro x hx vs h;cases h with
  |@mk k s lit args ab kids p lv av tv a c bk o us wf hl bJ bF ha hm hr ss=>
  simp only[Nd.w]at hx;have mO:=D6 A _ lit (Qn _) lv hl;have bz:=wf.many;have lR:=wf.kind;cases hl with
  |@mk lk ln lb lt items la lc Mq lo Mr NP NM NN NO=>
  obtain⟨aa,ac,rfl,tq,ec⟩:=bJ;obtain⟨ta,tc,rfl,sE,KH⟩:=bF;have au:jh (.mk k s (.mk lk ln lb lt items) args ab kids p)=(((lg (.mk lk ln lb lt items)||decide (15 < args.length))||decide (63 < ab.length))||(((decide (k=4)&&decide (16 < kids.length))||(decide (k=6)&&decide (15 < kids.length)))||(decide (k=5)&&decide (256 < kids.length)))||(decide (k=8)&&decide (255 < kids.length))||kids.any jh):=by
   simp only[jh,CP,vP]
  rw[au];generalize lg (.mk lk ln lb lt items)=lm at mO|-;refine aw.intro low88 (by simp[n88]) ?_;simp only[aJ];refine jF ?_;refine kX Zr (fun q=>?_);simp only[Value.cells];refine jF ?_;refine kH mO Zr ZP (fun v Post hv=>?_);obtain⟨rfl,rfl⟩:=hv;simp only[aJ];refine jF ?_;refine VC.join (α:=Unit) (fun _=>[(1,kF q)]) (fun _=>[A,kA q 0 (rA k s lk ln lb lt la items.length lc aa args.length ac ta ab.length tc a kids.length c p)]) (fun _=>((lm||decide (15 < args.length))||decide (63 < ab.length))=false) ?_ ?_
  ·refine ae ?_;cases lm with
   |true=>
    exact T0
   |false=>
    refine ae ?_;by_cases h1:15 < args.length
    ·skip
     rw[show decide ((args.length:Int) > 15)=true from Zt Zo];exact zD0
    rw[show decide ((args.length:Int) > 15)=false from Zf Zo];refine ae ?_;by_cases h2:63 < ab.length
    ·skip
     rw[show decide ((ab.length:Int) > 63)=true from Zt Zo];refine ae ?_;exact kG (Post:=[A]) (.inr rfl) (.tmp Zr .nil) ⟨by simp[bH,h2],rfl⟩ ZI
    rw[show decide ((ab.length:Int) > 63)=false from Zf Zo];refine ae ?_;exact⟨(),by simp[h1,h2],ZU,ZI⟩
  rintro⟨⟩ ep
  rw[ep,vM];refine ae ?_;refine VO.bool 42 ((decide (k=4)&&decide (16 < kids.length))||(decide (k=6)&&decide (15 < kids.length))) Zr ?_ ?_
  ·by_cases k4:k=4
   ·skip
    rw[show decide ((k:Int)=4)=true from Zt Zo];refine ae ?_;by_cases h1:16 < kids.length
    ·skip
     rw[show decide ((kids.length:Int) > 16)=true from Zt Zo];refine ae ?_;exact⟨by simp[k4,h1],ZU,ZI⟩
    rw[show decide ((kids.length:Int) > 16)=false from Zf Zo];refine ae ?_;rw[show decide ((k:Int)=6)=false from Zf Zo];refine ae ?_;exact⟨by simp[k4,h1],ZU,ZI⟩
   rw[show decide ((k:Int)=4)=false from Zf Zo];refine ae ?_;by_cases k6:k=6
   ·skip
    rw[show decide ((k:Int)=6)=true from Zt Zo];refine ae ?_;by_cases h1:15 < kids.length
    ·skip
     rw[show decide ((kids.length:Int) > 15)=true from Zt Zo];refine ae ?_;exact⟨by simp[k6,h1],ZU,ZI⟩
    rw[show decide ((kids.length:Int) > 15)=false from Zf Zo];refine ae ?_;exact⟨by simp[k6,h1],ZU,ZI⟩
   rw[show decide ((k:Int)=6)=false from Zf Zo];refine ae ?_;exact⟨by simp[k4,k6],ZU,ZI⟩
  generalize ((decide (k=4)&&decide (16 < kids.length))||(decide (k=6)&&decide (15 < kids.length)))=b1;refine jF ?_;refine VC.join (α:=Unit) (fun _=>[(1,kF q)]) (fun _=>[A,kA q 0 (rA k s lk ln lb lt la items.length lc aa args.length ac ta ab.length tc a kids.length c p)]) (fun _=>((b1||(decide (k=5)&&decide (256 < kids.length)))||(decide (k=8)&&decide (255 < kids.length)))=false) ?_ ?_
  ·refine ae ?_;cases b1 with
   |true=>
    exact T0
   |false=>
    refine ae ?_;refine VO.bool 54 (decide (k=5)&&decide (256 < kids.length)) Zr ?_ ?_
    ·by_cases k5:k=5
     ·skip
      rw[show decide ((k:Int)=5)=true from Zt Zo];refine ae ?_;by_cases h1:256 < kids.length
      ·skip
       rw[show decide ((kids.length:Int) > 256)=true from Zt Zo];refine ae ?_;exact⟨by simp[k5,h1],ZU,ZI⟩
      rw[show decide ((kids.length:Int) > 256)=false from Zf Zo];refine ae ?_;exact⟨by simp[k5,h1],ZU,ZI⟩
     rw[show decide ((k:Int)=5)=false from Zf Zo];refine ae ?_;exact⟨by simp[k5],ZU,ZI⟩
    generalize (decide (k=5)&&decide (256 < kids.length))=b2;cases b2 with
    |true=>
     exact T0
    |false=>
     refine ae ?_;by_cases k8:k=8
     ·skip
      rw[show decide ((k:Int)=8)=true from Zt Zo];refine ae ?_;by_cases h1:255 < kids.length
      ·skip
       rw[show decide ((kids.length:Int) > 255)=true from Zt Zo];refine ae ?_;exact kG (Post:=[A]) (.inr rfl) (.tmp Zr .nil) ⟨by simp[bH,k8,h1],rfl⟩ ZI
      rw[show decide ((kids.length:Int) > 255)=false from Zf Zo];refine ae ?_;exact⟨(),by simp[h1],ZU,ZI⟩
     rw[show decide ((k:Int)=8)=false from Zf Zo];refine ae ?_;exact⟨(),by simp[k8],ZU,ZI⟩
  rintro⟨⟩ p7
  rw[p7,vM];refine ae ?_;refine VC.loop (α:=Nat) (bi:=fun j=>[(1,kF q),(5,vi j)]) (Hf:=fun _=>[A,kA q 0 (rA k s lk ln lb lt la items.length lc aa args.length ac ta ab.length tc a kids.length c p)])
   (I:=fun j=>j<=kids.length/\(kids.take j).any jh=false) (μ:=fun j=>kids.length - j) 0 ⟨Qv _,rfl⟩ ZU ZI ?_
  rintro j ⟨i1,i2⟩
  refine ae ?_;by_cases hj:j < kids.length;rotate_left
  ·rw[Qg Zo]at i2;rw[show decide ((j:Int) < (kids.length:Int))=false from Zf Zo];exact zC6
  rw[show decide ((j:Int) < (kids.length:Int))=true from Zt Zo];obtain rfl:=ha Zo;obtain⟨y,hy⟩:∃y,kids[j]? =some y:=⟨_,Zg hj⟩;have bK:=hr j y hy;have cQ:=hm j hj;have fT:=bK.len;have hzw:y.w<=Nd.ws kids:=Nd.cy (Zv hy);have aC:=ih y Zo _ bK;have cH:kids.take (j+1)=kids.take j++[y]:=by rw[Qe,hy];rfl
  generalize us j=uj at bK cQ aC fT;refine ae ?_;refine kS Zr Dt fT ?_;refine ae ?_;refine kH aC Zr ZP (fun v Post hv=>?_);obtain⟨rfl,rfl⟩:=hv;simp only[aJ];cases hmy:jh y with
  |true=>
   have:kids.any jh=true:=vh.2 ⟨y,Zv hy,hmy⟩;refine ae ?_;exact kG (Post:=[A]) (.inr rfl) (.tmp Zr .nil) ⟨by rw[this];rfl,rfl⟩ ZI
  |false=>
   refine ae ?_;exact⟨j+1,⟨Zo,by rw[cH];simp[i2,hmy]⟩,Zo,ZU,ZI⟩
theorem LS {k m:Nat}:∀{l:List Nd} {i:Nat},ke k m i l=true->∀j y,l[j]? =some y->jY y=true/\gW k m (i+j) y=true:=by
 intro l
 induction l with
 |nil=>intro i _ j y h;simp at h
 |cons z r ih=>
  intro i h j y hy;simp only[ke,vF]at h;cases j with
  |zero=>cases hy;exact h.1
  |succ j=>
   have:=ih h.2 j y (by simpa using hy)
   rwa [show i+1+j=i+(j+1) by omega]at this
theorem si {x:Nd}(h:jY x=true):∀j y,x.kids[j]? =some y->jY y=true/\gW x.kind x.kids.length j y=true:=by
 cases x with
 |mk k s lit args ab kids p=>
 simp only[jY,vF]at h;intro j y hy;have:=LS h.2 j y hy
 rwa [Qu]at this
theorem oY {x:Nd}(h:jY x=true)(hk:x.kind=4∨x.kind=6):0<=kR x.name:=by
 cases x with
 |mk k s lit args ab kids p=>
 simp only[jY,vF]at h;have h1:=h.1.1;simp only[Nd.kind,Nd.name]at hk|-;rcases hk with rfl|rfl
 ·simp[wg]at h1;exact h1.1.1
 ·simp[wg]at h1;exact h1.1.1
theorem LR {x:Nd}(h:jY x=true)(hk:x.kind=5):∃y,x.kids[1]? =some y/\y.kind=6/\0<=kR y.name/\pQ x.kind x.name x.kids=y.name:=by
 have bh:=si h;cases x with
 |mk k s lit args ab kids p=>
 simp only[jY,vF]at h;have h1:=h.1.1;simp only[Nd.kind,Nd.name,Nd.kids]at hk bh|-;subst hk;simp[wg]at h1;rcases kids with _|⟨y,_|⟨z,r⟩⟩
 ·simp at h1
 ·simp at h1
 ·obtain⟨g1,g2⟩:=bh 1 z rfl;have g3:z.kind=6:=by simp[gW]at g2;exact g2.2
  exact⟨z,rfl,g3,oY g1 (.inr g3),rfl⟩
theorem Lm(A:List kC)(x:Nd)(vs:List Value)(h:jJ A x vs)(hf:jY x=true)(i:Nat):aw Tryz.prog 187 [.agg vs.toArray,vi i] [A] (fun v Post=>v=vi (fZ x.kind (pQ x.kind x.name x.kids) i)/\Post=[A]):=by
 obtain⟨e1,e2,e3,e4,e5,e6,e7,e8,e9,uf,ug,uh,ui,a,cc,bk,o,us,ma,bz,ha,hm,hr⟩:=R0 h;have eC:x.name.size<=140737488355328:=by cases h with|mk wf=>exact wf.name
 have lR:x.kind < 256:=by cases h with|mk wf=>exact wf.kind
 have ec:=@oY x hf;have hca:=@LR x hf;have DD:¬x.kind=5->pQ x.kind x.name x.kids=x.name:=fun e=>if_neg e
 rw[ma];generalize hS:pQ x.kind x.name x.kids=S at hca DD|-;generalize x.kind=k at*;generalize x.name=s at*;refine aw.intro low187 (by simp[n187]) ?_;refine jF ?_;refine kX Zr (fun q=>?_);simp only[Value.cells];refine jF ?_;refine VO.bool 16 (decide (i=0)&&decide (k=4)) Zr ?_ ?_
 ·by_cases i0:i=0
  ·skip
   rw[show decide ((i:Int)=0)=true from Zt Zo];refine ae ?_;exact⟨by simp only[X4,Value.bool.injEq,i0,decide_true,vU];exact decide_eq_decide.2 ⟨fun h=>by omega,fun h=>by omega⟩,ZU,ZI⟩
  ·skip
   rw[show decide ((i:Int)=0)=false from Zf Zo];refine ae ?_;exact⟨by simp[i0],ZU,ZI⟩
 refine jF ?_;refine VC.join (α:=Unit) (fun _=>[(1,vi i),(2,kF q),(5,.string S),(6,.bool (decide (i=0)&&(decide (k=4)||decide (k=5))))]) (fun _=>[A,kA q 0 (rA k s e1 e2 e3 e4 e5 e6 e7 e8 e9 uf ug uh ui a x.kids.length cc x.at_)]) (fun _=>S.size<=140737488355328) ?_ ?_
 ·refine ae ?_;by_cases k5:k=5
  ·obtain⟨z,hz,hz6,hza,hSz⟩:=hca k5;have hl:=(Vt.1 hz).1;obtain rfl:=ha Zo;have Mh:=hr 1 z hz;have Zc:=hm 1 hl;generalize us 1=uj at Mh Zc;obtain⟨f1,f2,f3,f4,f5,f6,f7,f8,f9,f10,f11,f12,f13,f14,f15,f16,f17,rfl,lS,hyk⟩:=dQ Mh;have gh:kC.cell bk (o+1*11+1) (.string z.name)∈A:=Zc _ (kJ.2 ⟨1,_,rfl,rfl⟩);rw[Nat.one_mul]at gh;subst k5;refine ae ?_;rw[hSz];refine⟨(),lS,?_,ZI⟩;rw[show decide ((i:Int)=0)=(decide (i=0)&&(decide ((5:Nat)=4)||decide ((5:Nat)=5))) by simp];exact AO
  ·skip
   rw[show decide ((k:Int)=5)=false from Zf Zo];refine ae ?_;rw[DD k5]at*;refine⟨(),eC,?_,ZI⟩;rw[Zf k5,vT];exact AO
 rintro⟨⟩ hSs
 have tu:=fun h=>xn S hSs h
 refine ae ?_;refine VO.bool 38 ((decide (k=4)&&decide (0 < i))||decide (k=6)) Zr ?_ ?_
 ·by_cases k4:k=4
  ·skip
   rw[show decide ((k:Int)=4)=true from Zt Zo];refine ae ?_;by_cases i0:0 < i
   ·skip
    rw[show decide ((i:Int) > 0)=true from Zt Zo];refine ae ?_;exact⟨by simp[k4,i0],ZU,ZI⟩
   rw[show decide ((i:Int) > 0)=false from Zf Zo];refine ae ?_;rw[show decide ((k:Int)=6)=false from Zf Zo];refine ae ?_;exact⟨by simp[k4,i0],ZU,ZI⟩
  rw[show decide ((k:Int)=4)=false from Zf Zo];refine ae ?_;exact⟨by simp only[X4,Value.bool.injEq,k4,decide_false,vK,vM];exact decide_eq_decide.2 ⟨fun h=>by omega,fun h=>by omega⟩,ZU,ZI⟩
 have hSa:k=4∨k=5∨k=6->0<=kR S:=fun h=>by
  by_cases k5:k=5
  ·obtain⟨z,_,_,hza,hSz⟩:=hca k5;rw[hSz];exact hza
  ·rw[DD k5];exact ec Zo
 have hd:fZ k S i=if(decide (i=0)&&(decide (k=4)||decide (k=5)))=true then(if yE S=5 then 5 else 4)else if((decide (k=4)&&decide (0 < i))||decide (k=6))=true then(if yE S=4 then 5 else 4)else 1:=by
  unfold fZ;simp
 have hr1:(decide (i=0)&&(decide (k=4)||decide (k=5)))=true->0<=kR S:=fun h=>by
  simp only[vF,vR,decide_eq_true_eq]at h;exact hSa Zo
 have du:((decide (k=4)&&decide (0 < i))||decide (k=6))=true->0<=kR S:=fun h=>by
  simp only[vF,vR,decide_eq_true_eq]at h;exact hSa Zo
 rw[hd];generalize (decide (i=0)&&(decide (k=4)||decide (k=5)))=b1 at hr1|-;generalize ((decide (k=4)&&decide (0 < i))||decide (k=6))=b2 at du|-;cases b1 with
 |true=>
  have tu:=tu (hr1 rfl);generalize yE S=bs at tu|-;refine ae ?_;refine kK tu Zr ?_;by_cases h5:bs=5
  ·subst h5;exact T0
  ·refine ae ?_;rw[show decide ((bs:Int)=5)=false from Zf Zo];refine ae ?_;exact kG (Post:=[A]) (.inr rfl) (.tmp Zr .nil) ⟨by simp[bH,h5],rfl⟩ ZI
 |false=>
  cases b2 with
  |true=>
   have tu:=tu (du rfl);generalize yE S=bs at tu|-;refine ae ?_;refine kK tu Zr ?_;by_cases h5:bs=4
   ·subst h5;exact T0
   ·refine ae ?_;rw[show decide ((bs:Int)=4)=false from Zf Zo];refine ae ?_;exact kG (Post:=[A]) (.inr rfl) (.tmp Zr .nil) ⟨by simp[bH,h5],rfl⟩ ZI
  |false=>
   exact T0
end Go.Proofs.YtijnokbblmbpkaaGreatDoor

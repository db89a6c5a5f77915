/-
  What a node has: the document's table, node by node.
-/
import Derived.Test.YtijnokbblmbpkaaGreatDoorS25
import Derived.Test.YtijnokbblmbpkaaGreatDoorS10
import Derived.Test.YtijnokbblmbpkaaGreatDoorS12
import Derived.Test.YtijnokbblmbpkaaGreatDoorS5
set_option linter.all false
namespace Go.Proofs.YtijnokbblmbpkaaGreatDoor
open Go Go.V
set_option maxHeartbeats 1600000
set_option maxRecDepth 100000
theorem Oo:∀(l:List (List Nat)) (n:Nat),-1<=zK l n/\zK l n<=n+l.length:=by
 intro l
 induction l with
 |nil=>intro n;simp only[zK,Q0];omega
 |cons p l ih=>
  intro n;simp only[zK,Vu];split
  ·omega
  ·split
   ·have:=ih (n+1);omega
   ·omega
theorem rC(s:ByteArray)(hs:s.size<=140737488355328):-1<=kR s/\kR s<=140737488355329:=by
 have hlen:=kS s;unfold kR;generalize kB s=l at hlen;have h1:=Oo (kg l) 0;have h2:=yd l;cases l with
 |nil=>decide
 |cons c r=>
  unfold oz;dsimp only;split
  ·omega
  ·split
   ·split <;> omega
   ·omega
theorem tu(k:Nat)(s:ByteArray)(c2 c3 c4 c5 c6 c7 c8 c9 re:Value):aq Tryz.prog 185 [.agg #[cv k,.string s,c2,c3,c4,c5,c6,c7,c8,c9,re]] [] (fun v Post=>v=.bool (z8 k s)/\Post=[]):=by
 refine aq.intro aaR (by simp[n185]) ?_;exact zAR
theorem tj {s:ByteArray}:s.size=0↔s=⟨#[]⟩:=⟨fun e=>jS (by rw[Vx.1 ((kS s).trans e)];rfl),fun e=>by rw[e];rfl⟩
def lr(lk:Nat)(ln:Int)(lb:Nat)(lt:ByteArray)(lm:Nat):Bool:=decide (lk=0/\ln=0/\lb=0/\lt.size=0/\lm=0)
theorem Lx(k:Nat)(s:ByteArray)(lk:Nat)(ln:Int)(lb:Nat)(lt:ByteArray)(la:Option Addr)(lm lc:Nat)(aa:Option Addr)(am ac:Nat)(ta:Option Addr)(tm tc:Nat)(c9 re:Value):
 aq Tryz.prog 218 [.agg #[cv k,.string s,cv lk,vi ln,uv lb,.string lt,.slice la lm lc,.slice aa am ac,.slice ta tm tc,c9,re]] [] (fun v Post=>v=.bool (lr lk ln lb lt lm&&decide (s.size=0/\am=0/\tm=0))/\Post=[]):=by
 refine aq.intro abg (by simp[n218]) ?_;refine ae ?_;refine kY Zr (fun q=>?_);simp only[Value.cells];refine ae ?_;by_cases h1:s.size=0;rotate_left
 ·rw[show decide (s=⟨#[]⟩)=false from Zf (by first|exact fun e=>h1 (tj.2 e)|exact tj.1 h1)];refine ae ?_;exact kG (Post:=[]) (.inr rfl) (.tmp Zr .nil) ⟨by simp[bJ,lr,h1],rfl⟩ ZI
 rw[show decide (s=⟨#[]⟩)=true from Zt (by first|exact fun e=>h1 (tj.2 e)|exact tj.1 h1)];refine ae ?_;by_cases h2:lk=0;rotate_left
 ·rw[show decide ((lk:Int)=0)=false from Zf Zo];refine ae ?_;exact kG (Post:=[]) (.inr rfl) (.tmp Zr .nil) ⟨by simp[bJ,lr,h2],rfl⟩ ZI
 rw[show decide ((lk:Int)=0)=true from Zt Zo];refine ae ?_;by_cases h3:ln=0;rotate_left
 ·rw[show decide (ln=0)=false from Zf (by assumption)];refine ae ?_;exact kG (Post:=[]) (.inr rfl) (.tmp Zr .nil) ⟨by simp[bJ,lr,h3],rfl⟩ ZI
 rw[show decide (ln=0)=true from Zt (by assumption)];refine ae ?_;by_cases h4:lb=0;rotate_left
 ·rw[show decide ((lb:Int)=0)=false from Zf Zo];refine ae ?_;exact kG (Post:=[]) (.inr rfl) (.tmp Zr .nil) ⟨by simp[bJ,lr,h4],rfl⟩ ZI
 rw[show decide ((lb:Int)=0)=true from Zt Zo];refine ae ?_;by_cases h5:lt.size=0;rotate_left
 ·rw[show decide (lt=⟨#[]⟩)=false from Zf (by first|exact fun e=>h5 (tj.2 e)|exact tj.1 h5)];refine ae ?_;exact kG (Post:=[]) (.inr rfl) (.tmp Zr .nil) ⟨by simp[bJ,lr,h5],rfl⟩ ZI
 rw[show decide (lt=⟨#[]⟩)=true from Zt (by first|exact fun e=>h5 (tj.2 e)|exact tj.1 h5)];refine ae ?_;by_cases h6:lm=0;rotate_left
 ·rw[show decide ((lm:Int)=0)=false from Zf Zo];refine ae ?_;exact kG (Post:=[]) (.inr rfl) (.tmp Zr .nil) ⟨by simp[bJ,lr,h6],rfl⟩ ZI
 rw[show decide ((lm:Int)=0)=true from Zt Zo];refine ae ?_;by_cases h7:am=0;rotate_left
 ·rw[show decide ((am:Int)=0)=false from Zf Zo];refine ae ?_;exact kG (Post:=[]) (.inr rfl) (.tmp Zr .nil) ⟨by simp[bJ,lr,h7],rfl⟩ ZI
 rw[show decide ((am:Int)=0)=true from Zt Zo];refine ae ?_;refine kG (Post:=[]) (.inr rfl) (.tmp Zr .nil) ⟨?_,rfl⟩ ZI;simp only[bJ,lr,h1,h2,h3,h4,h5,h6,h7,true_and,decide_true,vS,Value.bool.injEq];exact decide_eq_decide.2 ⟨fun h=>by omega,fun h=>by omega⟩
structure OneS where
 ok:Bool
 n:Int
 s:ByteArray
 lk:Nat
 ln:Int
 lb:Nat
 lt:ByteArray
 la:Option Addr
 lm:Nat
 lc:Nat
 aa:Option Addr
 am:Nat
 ac:Nat
 ta:Option Addr
 tm:Nat
 tc:Nat
theorem Pc(A:List kC)(hE:mQ A)(x:Nd)(hb:x.w<=274877906944)(vs:List Value)(h:jJ A x vs):aq Tryz.prog 184 [.agg vs.toArray] [A] (fun v Post=>v=.tuple #[.bool (wT x.kind x.name x.lit x.args x.ab x.kids.length),vi (zg x.kind x.name)]/\Post=[A]):=by
 have h0:=h;cases h with
 |@mk k s lit args ab kids p lv av tv a c bk o us wf hl bK bG ha hm hr rU=>
 simp only[Nd.w]at hb;have oL:=Ao A hE _ lit (Qh _) Zo lv hl false;have Sq:=iB A av args bK;have Zn:=iB A tv ab bG;simp only[Nd.kind,Nd.name,Nd.lit,Nd.args,Nd.ab,Nd.kids];have K2:=hl.len;cases hl with
 |@mk lk ln lb lt items la lc Lj lo Lk MD MA MB MC=>
 obtain⟨aa,ac,rfl,sQ,dQ⟩:=bK;obtain⟨ta,tc,rfl,ue,JL⟩:=bG;have lp:=wf.kind;have eu:=wf.name;have bA:=wf.many;have hZ:wY (.mk lk ln lb lt items)=lr lk ln lb lt items.length:=rfl;refine aq.intro aaQ (by simp[n184]) ?_;simp only[aH];refine jD ?_;refine kY Zr (fun q=>?_);simp only[Value.cells];refine jD ?_;refine VC.join (α:=OneS) (fun z=>[(1,kF q),(4,.bool z.ok),(5,vi z.n)]) (fun z=>[A,kA q 0 (rA k z.s z.lk z.ln z.lb z.lt z.la z.lm z.lc z.aa z.am z.ac z.ta z.tm z.tc a kids.length c p)])
  (fun z=>wT k s (.mk lk ln lb lt items) args ab kids.length=(z.ok&&(lr z.lk z.ln z.lb z.lt z.lm&&decide (z.s.size=0/\z.am=0/\z.tm=0)))/\zg k s=z.n) ?_ ?_
 ·have hz:(⟨#[]⟩:ByteArray).size=0:=rfl;by_cases k1:k=1
  ·subst k1;refine ae ?_;refine kJ oL Zr ZP (fun v Post hv=>?_);obtain⟨rfl,rfl⟩:=hv;simp only[aH];refine ae ?_;refine⟨⟨(jL (.mk lk ln lb lt items) false).isSome,0,s,0,0,0,⟨#[]⟩,none,0,0,aa,args.length,ac,ta,ab.length,tc⟩,⟨?_,rfl⟩,ZU,by show ao _ [A,kA q 0 [cv 1,.string s,.int .u8 0,.int .i64 0,.int .u64 0,.string ⟨#[]⟩,Nz,.slice aa args.length ac,.slice ta ab.length tc,.slice a kids.length c,vi p]];exact bQ⟩;simp[wT,lr,hz]
  by_cases k2:k=2
  ·subst k2;refine ae ?_;refine kK (iL s eu) Zr ?_;refine ae ?_;refine⟨⟨zz s,0,⟨#[]⟩,lk,ln,lb,lt,la,items.length,lc,aa,args.length,ac,ta,ab.length,tc⟩,⟨?_,rfl⟩,ZU,ZI⟩;simp only[hz];simp[wT,hZ,Bool.and_assoc]
  by_cases k3:k=3
  ·subst k3;refine ae ?_;refine kK (xk s eu) Zr ?_;refine ae ?_;refine⟨⟨jO s,1,⟨#[]⟩,lk,ln,lb,lt,la,items.length,lc,aa,args.length,ac,ta,ab.length,tc⟩,⟨?_,rfl⟩,ZU,ZI⟩;simp only[hz];simp[wT,hZ,Bool.and_assoc]
  have hag:-1<=kR s/\kR s<=140737488355329:=rC s eu;by_cases k4:k=4
  ·subst k4;refine ae ?_;refine kK (fK s eu) Zr ?_;obtain⟨z,ι⟩:∃z,kR s=z:=⟨_,rfl⟩;rw[ι]at hag|-;refine ae ?_;refine⟨⟨decide (z+1 > 0),z+1,⟨#[]⟩,lk,ln,lb,lt,la,items.length,lc,aa,args.length,ac,ta,ab.length,tc⟩,⟨?_,by simp[zg,ι]⟩,ZU,ZI⟩;simp only[hz];rw[show decide (z+1 > 0)=decide (0<=z)from decide_eq_decide.2 ⟨fun h=>by omega,fun h=>by omega⟩];simp[wT,hZ,ι,Bool.and_assoc]
  by_cases k5:k=5
  ·subst k5;refine ae ?_;refine⟨⟨decide ((kids.length:Int) > 2),-1,s,lk,ln,lb,lt,la,items.length,lc,aa,args.length,ac,ta,ab.length,tc⟩,⟨?_,rfl⟩,ZU,ZI⟩;rw[show decide ((kids.length:Int) > 2)=decide (2 < kids.length)from decide_eq_decide.2 ⟨fun h=>by omega,fun h=>by omega⟩];simp[wT,hZ,Bool.and_assoc]
  by_cases k6:k=6
  ·subst k6;refine ae ?_;refine kK (fK s eu) Zr ?_;obtain⟨z,ι⟩:∃z,kR s=z:=⟨_,rfl⟩;rw[ι]at hag|-;refine ae ?_;refine⟨⟨decide (z ≥ 0),z,⟨#[]⟩,lk,ln,lb,lt,la,items.length,lc,aa,args.length,ac,ta,ab.length,tc⟩,⟨?_,by simp[zg,ι]⟩,ZU,ZI⟩;simp only[hz];rw[show decide (z ≥ 0)=decide (0<=z)from rfl];simp[wT,hZ,ι,Bool.and_assoc]
  by_cases k7:k=7
  ·subst k7;refine ae ?_;refine kJ Sq Zr ZP (fun v Post hv=>?_);obtain⟨rfl,rfl⟩:=hv;simp only[aH];cases hfa0:args.all jO with
   |false=>
    refine ae ?_;refine⟨⟨false,-1,s,lk,ln,lb,lt,la,items.length,lc,none,0,0,none,0,0⟩,⟨?_,rfl⟩,ZU,ZI⟩;simp[wT,hfa0]
   |true=>
    refine ae ?_;refine kJ Zn Zr ZP (fun v Post hv=>?_);obtain⟨rfl,rfl⟩:=hv;simp only[aH];refine ae ?_;refine⟨⟨ab.all jO,-1,s,lk,ln,lb,lt,la,items.length,lc,none,0,0,none,0,0⟩,⟨?_,rfl⟩,ZU,ZI⟩;simp only[wT,hfa0,hZ,show ¬(7:Nat)=1 by omega,show ¬(7:Nat)=2 by omega,show ¬(7:Nat)=3 by omega,show ¬(7:Nat)=4 by omega,show ¬(7:Nat)=5 by omega,show ¬(7:Nat)=6 by omega,if_false,if_true,vS,and_self,and_true,Bool.and_assoc]
  by_cases k8:k=8
  ·subst k8;refine ae ?_;refine⟨⟨true,-1,s,lk,ln,lb,lt,la,items.length,lc,aa,args.length,ac,ta,ab.length,tc⟩,⟨?_,rfl⟩,ZU,ZI⟩;simp[wT,hZ]
  by_cases k9:k=9
  ·subst k9;refine ae ?_;refine⟨⟨true,1,s,lk,ln,lb,lt,la,items.length,lc,aa,args.length,ac,ta,ab.length,tc⟩,⟨?_,rfl⟩,ZU,ZI⟩;simp[wT,hZ]
  refine ae ?_;rw[show decide ((k:Int)=1)=false from Zf Zo];refine ae ?_;rw[show decide ((k:Int)=2)=false from Zf Zo];refine ae ?_;rw[show decide ((k:Int)=3)=false from Zf Zo];refine ae ?_;rw[show decide ((k:Int)=4)=false from Zf Zo];refine ae ?_;rw[show decide ((k:Int)=5)=false from Zf Zo];refine ae ?_;rw[show decide ((k:Int)=6)=false from Zf Zo];refine ae ?_;rw[show decide ((k:Int)=7)=false from Zf Zo];refine ae ?_;rw[show decide ((k:Int)=8)=false from Zf Zo];refine ae ?_;rw[show decide ((k:Int)=9)=false from Zf Zo];refine ae ?_;refine⟨⟨false,0,s,lk,ln,lb,lt,la,items.length,lc,aa,args.length,ac,ta,ab.length,tc⟩,⟨?_,?_⟩,ZU,ZI⟩
  ·simp[wT,k1,k2,k3,k4,k5,k6,k7,k8,k9]
  ·simp[zg,k1,k2,k3,k4,k5,k6,k7,k8,k9]
 ·rintro⟨ok,n,s',lk',ln',lb',lt',la',lm',lc',aa',am',ac',ta',tm',tc'⟩ ⟨D4,im⟩
  simp only at D4 im;dsimp only;rw[D4,im];have hn:=Lx k s' lk' ln' lb' lt' la' lm' lc' aa' am' ac' ta' tm' tc' (.slice a kids.length c) (vi p);cases ok with
  |true=>
   refine ae ?_;refine kK hn Zr ?_;refine ae ?_;exact kG (Post:=[A]) (.inr rfl) (.tmp Zr (.tmp Zr .nil)) ⟨rfl,rfl⟩ ZI
  |false=>
   refine ae ?_;exact kG (Post:=[A]) (.inr rfl) (.tmp Zr (.tmp Zr .nil)) ⟨rfl,rfl⟩ ZI
theorem Lh:∀(N:Nat) (l:List Nat),l.length<=N->l≠[]->∀n:Nat,0<=zK (kg l) n->l.getLast? =some 58:=by
 intro N
 induction N with
 |zero=>intro l hl h0;exact absurd (Vx.1 Zo) h0
 |succ N ih=>
  intro l hl h0 n h;rw[Bh h0]at h;split at h
  ·rename_i hc;have hw:wa l < l.length:=by
    rcases Nat.lt_or_ge (wa l) l.length with h1|h1
    ·exact h1
    ·have:=hc.2;rw[Vb,Vj h1]at this;cases this
   have aA:l[wa l]? =some 58:=by
    have:=hc.2;rw[Vb,Zg hw]at this;rw[Zg hw];simpa using this
   by_cases hr:l.drop (wa l+1)=[]
   ·have:l.length<=wa l+1:=by simpa using hr
    rw[List.getLast?_eq_getElem?,show l.length - 1=wa l by omega,aA]
   ·have h2:=ih (l.drop (wa l+1)) (by rw[Vv];omega) hr (n+1) h;rw[List.getLast?_drop]at h2;split at h2
    ·cases h2
    ·exact h2
  ·omega
theorem Hl {s:ByteArray}(h:1 < kR s):(kB s).getLast? =some 58:=by
 unfold kR at h;generalize kB s=l at h|-;cases l with
 |nil=>exact absurd h Zd
 |cons c r=>
  unfold oz at h;dsimp only at h;split at h
  ·omega
  ·split at h
   ·split at h <;> omega
   ·exact Lh _ _ (Qh _) Zs 0 Zo
theorem uS(s:ByteArray)(hs:s.size<=140737488355328)(ha:0<=kR s):aq Tryz.prog 219 [.string s] [] (fun v Post=>v=vi (y8 s)/\Post=[]):=by
 refine aq.intro abh (by simp[n219]) ?_;have hlen:=kS s;have hl:=@Hl s;have hb:y8 s=if kR s=0 then 5 else if kR s=1/\(kB s).getLast?≠some 58 then 4 else 3:=rfl;have ck:0 < s.size:=by
  rcases Qf s.size with h2|h2
  ·have:kB s=[]:=Vx.1 Zo;unfold kR at ha;rw[this]at ha;exact absurd ha Zd
  ·exact h2
 refine ae ?_;refine kK (fK s hs) Zr ?_;obtain⟨z,hz⟩:∃z,kR s=z:=⟨_,rfl⟩;rw[hz]at hb ha hl|-;refine ae ?_;by_cases h0:z=0
 ·rw[Zt h0];rw[if_pos h0]at hb;exact zAU
 rw[Zf h0];rw[if_neg h0]at hb;obtain⟨c,hc,oa⟩:=jt (s:=s) (i:=s.size - 1) Zo;have Be:(kB s).getLast? =some c.toNat:=by rw[List.getLast?_eq_getElem?,hlen];exact oa
 rw[Be]at hb hl;refine ae ?_;refine jx Zr Zr (j:=s.size - 1) Zo hc ?_;refine ae ?_;by_cases rT:c.toNat=58
 ·rw[show decide ((c.toNat:Int)=58)=true from Zt Zo];rw[if_neg (by simp[rT])]at hb;exact zAU
 rw[show decide ((c.toNat:Int)=58)=false from Zf Zo];have h1:z=1:=by
  rcases Int.lt_or_le 1 z with h|h
  ·exact absurd (Qx (hl h)) rT
  ·omega
 rw[if_pos ⟨h1,by simp[rT]⟩]at hb;exact zAU
theorem Ff(k:Nat)(s:ByteArray)(hs:s.size<=140737488355328)(ha:k=4->0<=kR s)(c2 c3 c4 c5 c6 c7 c8 c9 re:Value):aq Tryz.prog 186 [.agg #[cv k,.string s,c2,c3,c4,c5,c6,c7,c8,c9,re]] [] (fun v Post=>v=vi (ew k s)/\Post=[]):=by
 refine aq.intro aaS (by simp[n186]) ?_;refine ae ?_;refine kY Zr (fun q=>?_);simp only[Value.cells];refine ae ?_;by_cases h3:k=3
 ·subst h3;exact zCC
 rw[show decide ((k:Int)=3)=false from Zf Zo];refine ae ?_;by_cases h5:k=5
 ·subst h5;exact zCC
 rw[show decide ((k:Int)=5)=false from Zf Zo];refine ae ?_;by_cases h4:k=4
 ·subst h4;refine ae ?_;refine kK (uS s hs (ha rfl)) Zr ?_;exact zCC
 exact zDA
theorem Dg(A:List kC):∀(N:Nat) (x:Lt),x.size<=N->∀vs,zw A x vs->aq Tryz.prog 151 [.agg vs.toArray] [A] (fun v Post=>v=.bool (iG x)/\Post=[A]):=by
 intro N
 induction N with
 |zero=>intro x hx;have:=x.size_pos;omega
 |succ N ih=>
  intro x hx vs lJ;cases lJ with
  |@mk k n b t items a c bk o us wf ha hm hr=>
  simp only[Lt.size]at hx;have bA:=wf.many;have htx:=wf.text;have lp:=wf.kind;have au:iG (.mk k n b t items)=(decide (255 < items.length)||(decide (k=11)&&decide (255 < t.size))||items.any iG):=by simp only[iG,Fh]
  rw[au];refine aq.intro aav (by simp[n151]) ?_;refine jD ?_;refine kY Zr (fun q=>?_);simp only[Value.cells];refine jD ?_;refine VC.join (α:=Unit) (fun _=>[(1,kF q)]) (fun _=>[A,kA q 0 [cv k,vi n,uv b,.string t,.slice a items.length c]]) (fun _=>(decide (255 < items.length)||(decide (k=11)&&decide (255 < t.size)))=false) ?_ ?_
  ·refine ae ?_;by_cases h1:255 < items.length
   ·rw[show decide ((items.length:Int) > 255)=true from Zt Zo];exact zCU
   rw[show decide ((items.length:Int) > 255)=false from Zf Zo];refine ae ?_;by_cases h2:k=11;rotate_left
   ·rw[show decide ((k:Int)=11)=false from Zf Zo];refine ae ?_;exact⟨(),by simp[h1,h2],ZU,ZI⟩
   rw[show decide ((k:Int)=11)=true from Zt Zo];refine ae ?_;by_cases h3:255 < t.size
   ·rw[show decide ((t.size:Int) > 255)=true from Zt Zo];refine ae ?_;exact kG (Post:=[A]) (.inr rfl) (.tmp Zr .nil) ⟨by simp[bJ,h2,h3],rfl⟩ ZI
   rw[show decide ((t.size:Int) > 255)=false from Zf Zo];refine ae ?_;exact⟨(),by simp[h1,h3],ZU,ZI⟩
  rintro⟨⟩ h1
  rw[h1,vL];refine ae ?_;refine VC.loop (α:=Nat) (bn:=fun j=>[(1,kF q),(3,vi j)]) (Hf:=fun _=>[A,kA q 0 [cv k,vi n,uv b,.string t,.slice a items.length c]])
   (I:=fun j=>j<=items.length/\(items.take j).any iG=false) (μ:=fun j=>items.length - j) 0 ⟨Qp _,rfl⟩ ZU ZI ?_
  rintro j ⟨i1,i2⟩
  refine ae ?_;by_cases hj:j < items.length;rotate_left
  ·rw[show decide ((j:Int) < (items.length:Int))=false from Zf Zo];rw[QZ Zo]at i2;exact zC2
  rw[show decide ((j:Int) < (items.length:Int))=true from Zt Zo];obtain rfl:=ha Zo;obtain⟨y,hy⟩:∃y,items[j]? =some y:=⟨_,Zg hj⟩;have bL:=hr j y hy;have cH:=hm j hj;have SA:=Lt.aD (Zv hy);have aE:=ih y Zo _ bL;have fH:=bL.len;generalize us j=uj at bL cH aE fH;have cy:items.take (j+1)=items.take j++[y]:=by rw[QX,hy];rfl
  refine ae ?_;refine kX Zr Cv fH ?_;refine ae ?_;refine kJ aE Zr ZP (fun v Post hv=>?_);obtain⟨rfl,rfl⟩:=hv;simp only[aH];cases hmy:iG y with
  |true=>
   have:items.any iG=true:=ve.2 ⟨y,Zv hy,hmy⟩;refine ae ?_;exact kG (Post:=[A]) (.inr rfl) (.tmp Zr .nil) ⟨by rw[this];rfl,rfl⟩ ZI
  |false=>
   refine ae ?_;exact⟨j+1,⟨Zo,by rw[cy];simp[i2,hmy]⟩,Zo,ZU,ZI⟩
theorem Lu {α:Type}(f:α->Nat)(l r:List α):mx f (l++r)=max (mx f l) (mx f r):=by
 induction l with
 |nil=>simp[mx]
 |cons x l ih=>simp only[vj,mx,ih];omega
theorem Fg:∀(N:Nat) (x:Lt),x.size<=N->z9 x<=x.size:=by
 intro N
 induction N with
 |zero=>intro x hx;have:=x.size_pos;omega
 |succ N ih=>
  intro x hx;cases x with
  |mk k n b t items=>
  simp only[Lt.size]at hx|-;simp only[z9,r9];split
  ·have:=XQ (f:=z9) (K:=Lt.aw items) (l:=items) fun y hy=>by
    have h1:=Lt.aD hy;have h2:=ih y Zo;omega
   omega
  ·omega
theorem Am(A:List kC):∀(N:Nat) (x:Lt),x.size<=N->x.size<=1099511627776->∀vs,zw A x vs->aq Tryz.prog 152 [.agg vs.toArray] [A] (fun v Post=>v=vi (z9 x)/\Post=[A]):=by
 intro N
 induction N with
 |zero=>intro x hx;have:=x.size_pos;omega
 |succ N ih=>
  intro x hx hb vs lJ;cases lJ with
  |@mk k n b t items a c bk o us wf ha hm hr=>
  simp only[Lt.size]at hx hb;have bA:=wf.many;have lp:=wf.kind;refine aq.intro aaw (by simp[n152]) ?_;simp only[z9,r9];refine ae ?_;refine kY Zr (fun q=>?_);simp only[Value.cells];refine ae ?_;by_cases xn:k=10;rotate_left
  ·rw[if_neg xn,show decide ((k:Int)=10)=false from Zf Zo];exact zBO
  rw[if_pos xn,show decide ((k:Int)=10)=true from Zt Zo];refine ae ?_;refine VC.loop (α:=Nat) (bn:=fun j=>[(1,kF q),(3,vi (mx z9 (items.take j))),(4,vi j)]) (Hf:=fun _=>[A,kA q 0 [cv k,vi n,uv b,.string t,.slice a items.length c]])
   (I:=fun j=>j<=items.length) (μ:=fun j=>items.length - j) 0 (Qp _) ZU ZI ?_
  rintro j i1
  have hle:=XQ (f:=z9) (K:=Lt.aw items) (l:=items.take j) fun y hy=>by
   have h1:=Lt.aD (QI hy);have h2:=Fg _ y (Qh _);omega
  by_cases hj:j < items.length;rotate_left
  ·rw[QZ Zo]at hle|-;generalize mx z9 items=M at hle|-;refine ae ?_;rw[show decide ((j:Int) < (items.length:Int))=false from Zf Zo];exact zBO
  obtain rfl:=ha Zo;obtain⟨y,hy⟩:∃y,items[j]? =some y:=⟨_,Zg hj⟩;have bL:=hr j y hy;have cH:=hm j hj;have SA:=Lt.aD (Zv hy);have aE:=ih y Zo Zo _ bL;have fH:=bL.len;generalize us j=uj at bL cH aE fH;have cy:mx z9 (items.take (j+1))=max (mx z9 (items.take j)) (z9 y):=by rw[QX,hy,Lu];simp[mx]
  generalize mx z9 (items.take j)=M at hle cy|-;have hly:=Fg _ y (Qh _);refine ae ?_;rw[show decide ((j:Int) < (items.length:Int))=true from Zt Zo];refine ae ?_;refine kX Zr Cv fH ?_;refine ae ?_;refine kJ aE Zr ZP (fun v Post hv=>?_);obtain⟨rfl,rfl⟩:=hv;simp only[aH];generalize z9 y=d at cy hly|-;refine ae ?_;by_cases hd:M < d
  ·rw[show decide ((d:Int) > (M:Int))=true from Zt Zo];rw[show max M d=d by omega]at cy;refine ae ?_;refine⟨j+1,Zo,Zo,by rw[cy];exact tX,ZI⟩
  ·rw[show decide ((d:Int) > (M:Int))=false from Zf Zo];rw[show max M d=M by omega]at cy;refine ae ?_;refine⟨j+1,Zo,Zo,by rw[cy];exact tX,ZI⟩
end Go.Proofs.YtijnokbblmbpkaaGreatDoor
namespace Go.V
open Go
theorem XM {l:List Nd}(h:l≠[]):∃r x,l=r++[x]:=⟨l.dropLast,l.getLast h,(List.dropLast_concat_getLast h).symm⟩
theorem sq(s:ByteArray):fq s=if y8 s=5 then 5 else 4:=by
 unfold fq y8
 repeat' split
 all_goals omega
theorem Gw {x:Nd}(h:jQ x=true):jz x=6:=by
 have:=fB h;simp[jz,this]
theorem EK {x:Nd}{s:ByteArray}{f m:Bool}{d:Nat}:zL x s (cR f d m)=cR (f&&decide (x.kind≠9/\x.kind≠6)) (d+if jz x < fq s then 1 else 0) m:=by
 unfold zL;by_cases h:jQ x=true
 ·rw[if_pos h];have hk:=fB h;have hl:=Gw h;have:¬jz x < fq s:=by
   rw[hl,sq];split <;> omega
  rw[if_neg this];simp[hk]
 ·rw[if_neg h,ik];simp only[Bool.not_eq_true]at h;simp[zt,h]
theorem iF {k m:Nat}(hk:k=4∨k=5)(x:Nd):gz k m 0 x=decide (x.kind≠9/\x.kind≠6):=by
 unfold gz;have h7:decide (k=7)=false:=Zf Zo;rw[h7];have Mr:(decide (k=4)||decide (k=5))=true:=by simp;exact hk
 rw[Mr];by_cases a:x.kind=9 <;> by_cases b:x.kind=6 <;> simp[a,b]
theorem HK {k m i:Nat}{l:List Nd}(h:ke k m i l=true):∀x∈l,jV x=true:=by
 induction l generalizing i with
 |nil=>intro x hx;cases hx
 |cons y r ih=>
  simp only[ke,vF]at h;intro x hx;rcases QC.1 hx with rfl|hx
  ·exact h.1.1
  ·exact ih h.2 x hx
theorem Bt:∀(N:Nat) (x:Nd),x.w<=N->kO x=cR (jV x) (jm x) (jd x):=by
 intro N
 induction N with
 |zero=>intro x hx;have:=x.mN;omega
 |succ N ih=>
  intro x hx;cases x with
  |mk k s lit args ab kids p=>
  simp only[Nd.w]at hx;have hk:∀y∈kids,kO y=cR (jV y) (jm y) (jd y):=fun y hy=>ih y (by have:=Nd.cq hy;omega)
  have hv:∀(l:List Nd) (pl:Nat),(∀y∈l,y∈kids)->jb (eB pl l (l.map kO))=cR (l.all fun x=>jV x&&zt x) (mx (fun x=>jm x+if jz x < pl then 1 else 0) l) (l.any jd):=fun l pl hl=>by
   rw[dP];exact Dm fun x hx=>by rw[hk x (hl x hx),ik]
  have kp:∀{l:List Nd},(l.all fun x=>jV x&&zt x)=true->∀x∈l,zt x=true:=fun {l} h x hx=>by
   have:=vZ.1 h x hx;simp only[vF]at this;exact this.2
  have l1:∀x:Nd,(if jz x < 1 then 1 else 0)=0:=fun x=>if_neg (by have:=oN x;omega)
  have one:∀(h3:k=3∨k=9) (y:Nd),kids=[y]->ke k 1 0 kids=(jV y&&zt y)/\(zt y=true->js k (pA k s kids) 0 kids=jm y):=by
   rintro h3 y rfl
   constructor
   ·simp only[ke,Bool.and_true];rw[gV Zo Zo Zo]
   ·intro hy;rw[eT (p:=1) (fun j x hx=>?_)]
    ·simp only[mx,l1];omega
    ·cases j with
     |zero=>cases hx;exact⟨hy,by unfold fL;rw[if_neg Zo,if_neg Zo]⟩
     |succ j=>simp at hx
  have cb:∀(b c m:Bool) (d:Nat),0<=zg k s->zg k s≠kids.length->cR (b&&!(decide (0<=zg k s)&&decide (zg k s≠kids.length))&&c) d m=none:=fun b c m d h1 h2=>by
   rw[Zt h1,Zt h2];cases b <;> rfl
  have cg:¬(0<=zg k s/\zg k s≠kids.length)->(!(decide (0<=zg k s)&&decide (zg k s≠kids.length)))=true:=fun h=>by
   rw[vM,vE];simp only[decide_eq_false_iff_not];omega
  have mn:∀(c:Bool) (r:Rs),c=false->kP c r=none:=fun c r h=>by subst h;rfl
  simp only[kO,jn,jr];simp only[jV,jd,jm,Bp];by_cases h1:k=1
  ·subst h1;rw[if_pos rfl,Ow _ lit (Qh _) false,ji];cases kids with
   |nil=>
    rw[cg Hk];refine lO (by simp[wT,ke];cases (jL lit false).isSome <;> simp) (fun h=>?_);simp only[wT,if_true,vF,decide_eq_true_eq]at h;simp[js,h.1.1.2.2.1,h.1.1.2.2.2]
   |cons y r=>
    rw[cb _ _ _ _ Hk (by simp[zg];omega)];simp[cR]
  rw[if_neg h1];by_cases h2:k=2
  ·subst h2;rw[if_pos rfl,zero_c,ji];cases kids with
   |nil=>
    rw[cg Hk];refine lO (by simp[wT,ke];cases zz s <;> cases wY lit <;> simp) (fun h=>?_);simp only[wT,show ¬(2:Nat)=1 by omega,if_false,if_true,vF,decide_eq_true_eq]at h;obtain⟨g1,g2⟩:=dE h.1.1.1.2;simp[js,h.1.1.2.1,h.1.1.2.2,g1,g2]
   |cons y r=>
    rw[cb _ _ _ _ Hk (by simp[zg];omega)];simp[cR]
  rw[if_neg h2];by_cases h3:k=3
  ·subst h3;rw[if_pos rfl];rcases kids with _|⟨y,_|⟨z,r⟩⟩
   ·rw[cb _ _ _ _ Hk Hk];simp[kP]
   ·obtain⟨o1,o2⟩:=one (.inl rfl) y rfl;rw[cg Hk];show kP _ (jY y 1 (kO y))=_;rw[hk y Zs,ik,l1,ji,show ke 3 [y].length 0 [y]=(jV y&&zt y)from o1];refine lO ?_ (fun h=>?_)
    ·simp[wT];cases jV y&&zt y <;> cases wY lit <;> cases jO s <;> simp
    ·simp only[wT,show ¬(3:Nat)=1 by omega,show ¬(3:Nat)=2 by omega,if_false,if_true,vF,decide_eq_true_eq]at h;obtain⟨g1,g2⟩:=dE h.1.1.1.2;rw[o2 h.2.2];simp[h.1.1.2.1,h.1.1.2.2,g1,g2]
   ·rw[cb _ _ _ _ Hk (by simp[zg];omega)];simp[kP]
  rw[if_neg h3];by_cases h4:k=4
  ·subst h4;rw[if_pos rfl];rcases kids with _|⟨y,l⟩
   ·by_cases ha:0<=kR s
    ·rw[cb _ _ _ _ (by simp[zg];omega) (by simp[zg];omega)];simp[kP]
    ·rw[mn _ _ (by simp[ha])];simp[wT,ha,cR]
   ·have bO:ke 4 (y::l).length 1 l=l.all fun x=>jV x&&zt x:=eW fun j x _=>gV Zo Zo Zo
    show kP _ (zh (zL y s (kO y)) (gN s l (l.map kO)))=_;rw[hk y Zs,EK,gN,hv l (lD s) fun z hz=>by simp[hz],ez,ji,pC,ji];have ce:zg 4 s=kR s+1:=by simp[zg]
    rw[ce];have NT:ke 4 (l.length+1) (0+1) l=l.all fun x=>jV x&&zt x:=bO
    refine lO ?_ (fun h=>?_)
    ·simp only[ke,bO,iF (.inl rfl),wT,Vu,NT,Int.natCast_add,Int.natCast_one];simp only[show ¬(4:Nat)=1 by omega,show ¬(4:Nat)=2 by omega,show ¬(4:Nat)=3 by omega,show ¬((4:Nat)=3∨(4:Nat)=9) by omega,if_false,if_true,Vu];rw[vI];simp only[vF,vM,vE,decide_eq_true_eq,decide_eq_false_iff_not];constructor
     ·rintro⟨⟨⟨⟨a1,a2⟩,a3⟩,a4⟩,⟨a5,a6⟩,a7,a8⟩
      exact⟨⟨⟨⟨a4,a3⟩,a1,a2⟩,.inr Zo⟩,⟨a5,a6⟩,a8⟩
     ·rintro⟨⟨⟨⟨a4,a3⟩,a1,a2⟩,a7⟩,⟨a5,a6⟩,a8⟩
      exact⟨⟨⟨⟨a1,a2⟩,a3⟩,a4⟩,⟨a5,a6⟩,Zo,a8⟩
    ·simp only[ke,bO,Vu,NT,wT,show ¬(4:Nat)=1 by omega,show ¬(4:Nat)=2 by omega,show ¬(4:Nat)=3 by omega,show ¬((4:Nat)=3∨(4:Nat)=9) by omega,if_false,if_true,Vu,vF,decide_eq_true_eq,vM,vE,decide_eq_false_iff_not]at h;obtain⟨g1,g2⟩:=dE h.1.1.1.2;obtain⟨⟨⟨⟨c1,c2⟩,c3,c4⟩,c5⟩,⟨c6,c7⟩,c8⟩:=h;have Tu:=kp c8;have sQ:(l.length:Int)=kR s:=by omega
     rw[iF (.inl rfl)]at c7;simp only[decide_eq_true_eq]at c7;have hd:js 4 s 1 l=mx (fun x=>jm x+if jz x < lD s then 1 else 0) l:=eT fun j x hx=>⟨Tu x (Zv hx),by unfold fL lD;rw[if_neg Zo,if_pos Zo]⟩
     simp only[js,pA,show ¬(4:Nat)=5 by omega,if_false,hd,g1,g2,c3,c4,vd];constructor
     ·have:tB 4 s 0 y=decide (jz y < fq s):=by
       simp[tB,c7.1,c7.2,fL,sq]
      rw[this];simp
     ·have e1:decide (15 < kR s)=decide (16 < (y::l).length):=by
       rw[vI,decide_eq_true_eq,decide_eq_true_eq,Vu];omega
      rw[e1];cases jd y <;> simp
  rw[if_neg h4];by_cases h6:k=6
  ·subst h6;have bO:ke 6 kids.length 0 kids=kids.all fun x=>jV x&&zt x:=eW fun j x _=>gV Zo Zo Zo
   rw[if_pos rfl,gN,hv kids (lD s) fun z hz=>hz,ez,ji,ji];have ce:zg 6 s=kR s:=by simp[zg]
   rw[ce];refine lO ?_ (fun h=>?_)
   ·simp only[bO,wT,show ¬(6:Nat)=1 by omega,show ¬(6:Nat)=2 by omega,show ¬(6:Nat)=3 by omega,show ¬(6:Nat)=4 by omega,show ¬(6:Nat)=5 by omega,show ¬((6:Nat)=3∨(6:Nat)=9) by omega,if_false,if_true];rw[vI];simp only[vF,vM,vE,decide_eq_true_eq,decide_eq_false_iff_not];constructor
    ·rintro⟨⟨⟨a1,a2⟩,a3⟩,a4,a5⟩
     exact⟨⟨⟨⟨Zo,a3⟩,a1,a2⟩,.inr Zo⟩,a5⟩
    ·rintro⟨⟨⟨⟨a4,a3⟩,a1,a2⟩,a6⟩,a5⟩
     exact⟨⟨⟨a1,a2⟩,a3⟩,Zo,a5⟩
   ·simp only[bO,wT,show ¬(6:Nat)=1 by omega,show ¬(6:Nat)=2 by omega,show ¬(6:Nat)=3 by omega,show ¬(6:Nat)=4 by omega,show ¬(6:Nat)=5 by omega,show ¬((6:Nat)=3∨(6:Nat)=9) by omega,if_false,if_true,vF,decide_eq_true_eq,vM,vE,decide_eq_false_iff_not]at h;obtain⟨⟨⟨⟨c1,c2⟩,c3,c4⟩,c5⟩,c8⟩:=h;obtain⟨g1,g2⟩:=dE c2;have Tu:=kp c8;have hd:js 6 s 0 kids=mx (fun x=>jm x+if jz x < lD s then 1 else 0) kids:=eT fun j x hx=>⟨Tu x (Zv hx),by unfold fL lD;rw[if_neg Zo,if_pos Zo]⟩
    have e1:decide (15 < kR s)=decide (15 < kids.length):=by
     rw[vI,decide_eq_true_eq,decide_eq_true_eq];omega
    simp only[pA,show ¬(6:Nat)=5 by omega,if_false,hd,g1,g2,c3,c4,e1];simp
  rw[if_neg h6];by_cases h5:k=5
  ·subst h5;rw[if_pos rfl];rcases kids with _|⟨y,_|⟨z,l⟩⟩
   ·rw[mn _ _ Zs];simp[wT,cR]
   ·rw[mn _ _ Zs];simp[wT,cR]
   ·have hfk:∀{r:List Nd} {i:Nat},0 < i->ke 5 (y::z::l).length i r=r.all fun x=>jV x&&decide (x.kind=6):=by
     intro r
     induction r with
     |nil=>intro i _;rfl
     |cons u r ihr=>
      intro i hi;simp only[ke,vY,ihr (i:=i+1) Zo]
      congr 2
      have hs:jQ u=true->u.kind=2:=fB;unfold gz;rw[Zf (show ¬i=0 by omega),Zt hi];by_cases h6:u.kind=6
      ·have:jQ u=false:=by rw[vH];intro h;have:=hs h;omega
       simp[h6,this]
      ·simp[h6]
    have ZC:jb (pZ (z::l) ((z::l).map kO))=cR ((z::l).all fun x=>jV x&&decide (x.kind=6)) (mx jm (z::l)) ((z::l).any jd):=by
     rw[sh];exact Dm fun x hx=>by rw[hk x (by simp only[QC]at hx|-;exact .inr hx),ji,Bool.and_comm]
    show kP _ (wd _ (zh (jb (pZ (z::l) ((z::l).map kO))) (zL y z.name (kO y))))=_;rw[ZC,hk y Zs,EK,pC,ez,ji];have G2:=hfk (r:=z::l) (i:=1) Zo;rw[cg Hk];refine lO ?_ (fun h=>?_)
    ·rw[ke,G2];simp only[iF (.inr rfl),wT];simp only[show ¬(5:Nat)=1 by omega,show ¬(5:Nat)=2 by omega,show ¬(5:Nat)=3 by omega,show ¬(5:Nat)=4 by omega,show ¬(5:Nat)=6 by omega,show ¬((5:Nat)=3∨(5:Nat)=9) by omega,if_false,if_true];rw[vI];simp only[vF,vM,vE,decide_eq_true_eq,decide_eq_false_iff_not];constructor
     ·rintro⟨⟨⟨a1,a2,a3,a4⟩,a5⟩,a6,a7,a8⟩
      exact⟨⟨⟨⟨a4,a5⟩,a1,a2,a3⟩,trivial⟩,⟨a7,a8⟩,a6⟩
     ·rintro⟨⟨⟨⟨a4,a5⟩,a1,a2,a3⟩,_⟩,⟨a7,a8⟩,a6⟩
      exact⟨⟨⟨a1,a2,a3,a4⟩,a5⟩,a6,a7,a8⟩
    ·rw[ke,G2]at h;simp only[wT,iF (.inr rfl),show ¬(5:Nat)=1 by omega,show ¬(5:Nat)=2 by omega,show ¬(5:Nat)=3 by omega,show ¬(5:Nat)=4 by omega,if_false,if_true,vF,decide_eq_true_eq]at h;obtain⟨⟨⟨⟨c1,c2⟩,c0,c3,c4⟩,c5⟩,⟨c6,c7⟩,c8⟩:=h;obtain⟨g1,g2⟩:=dE c2;have h6:∀x∈z::l,x.kind=6:=fun x hx=>by
      have:=vZ.1 c8 x hx;simp only[vF,decide_eq_true_eq]at this;exact this.2
     have hd:∀{r:List Nd} {i:Nat} {q:ByteArray},(∀x∈r,x.kind=6)->js 5 q i r=mx jm r:=by
      intro r
      induction r with
      |nil=>intro i q _;rfl
      |cons u r ihr=>
       intro i q hr;simp only[js,mx,ihr fun x hx=>hr x (by simp[hx])];simp[tB,hr u Zs]
     have hbr:tB 5 z.name 0 y=decide (jz y < fq z.name):=by
      simp[tB,c7.1,c7.2,fL,sq]
     have CR:pA 5 s (y::z::l)=z.name:=rfl;rw[CR];rw[js,hd h6,hbr];simp only[g1,g2,c3,c4,vd];constructor
     ·simp[Nat.max_comm]
     ·cases jd y <;> simp
  rw[if_neg h5];by_cases h7:k=7
  ·subst h7;rw[if_pos rfl];have lF:jb (we kids (kids.map kO))=cR (ke 7 kids.length 0 kids) (js 7 s 0 kids) (kids.any jd):=by
    rcases(Classical.em (kids=[])).imp_right XM with rfl|⟨l,x,rfl⟩
    ·rfl
    ·have hl:=hv l 1 (fun z hz=>by simp[hz]);rw[dP]at hl;have fG:ke 7 (l++[x]).length 0 l=l.all fun x=>jV x&&zt x:=eW fun j y hy=>gV Zo Zo (by
      have:=(Vm.1 hy).1;rw[Vt,Q3];omega)
     have hx1:(if x.kind=9 then kO x else jY x 1 (kO x))=cR (jV x&&gz 7 (l++[x]).length (0+l.length) x) (jm x) (jd x):=by
      exact zB3
     rw[tq,sY,hl,eD,hx1,show jb []=some (0,false)from rfl,uU,pC];rw[n6,Ac,fG];refine lO ?_ (fun h=>?_)
     ·simp[ke]
     ·have sQ:(l.all fun x=>jV x&&zt x)=true:=by
       rw[vF]at h;exact h.1
      have Tu:=kp sQ;have ep:jV x&&gz 7 (l++[x]).length (0+l.length) x=true:=by
       simp only[ke,Bool.and_true,vF]at h|-;exact⟨h.2.1,by simpa using h.2.2⟩
      have hd:js 7 s 0 l=mx (fun x=>jm x+if jz x < 1 then 1 else 0) l:=eT fun j y hy=>⟨Tu y (Zv hy),by unfold fL;rw[if_neg Zo,if_neg Zo]⟩
      have hb:tB 7 s (0+l.length) x=false:=by
       unfold tB fL;rw[if_neg Zo,if_neg Zo,Zf (show ¬jz x < 1 by have:=oN x;omega)];simp
      simp only[hd,js,hb];simp
   unfold wk;rw[lF,pF,ez,ji,ez,ji,ji];refine lO ?_ (fun h=>?_)
   ·rw[cg Hk];simp only[wT,show ¬(7:Nat)=1 by omega,show ¬(7:Nat)=2 by omega,show ¬(7:Nat)=3 by omega,show ¬(7:Nat)=4 by omega,show ¬(7:Nat)=5 by omega,show ¬(7:Nat)=6 by omega,if_false,if_true];cases args.all jO <;> cases ab.all jO <;> cases wY lit <;> cases decide (s.size=0) <;> simp
   ·simp only[wT,show ¬(7:Nat)=1 by omega,show ¬(7:Nat)=2 by omega,show ¬(7:Nat)=3 by omega,show ¬(7:Nat)=4 by omega,show ¬(7:Nat)=5 by omega,show ¬(7:Nat)=6 by omega,if_false,if_true,vF,decide_eq_true_eq]at h;obtain⟨⟨⟨⟨c1,c2⟩,c3⟩,c4⟩,c5⟩:=h;obtain⟨g1,g2⟩:=dE c2;simp only[pA,show ¬(7:Nat)=5 by omega,if_false,g1,g2];refine⟨Zs,?_⟩;cases kids.any jd <;> cases decide (15 < args.length) <;> cases decide (63 < ab.length) <;> rfl
  rw[if_neg h7];by_cases h8:k=8
  ·subst h8;have bO:ke 8 kids.length 0 kids=kids.all fun x=>jV x&&zt x:=eW fun j x _=>gV Zo Zo Zo
   rw[if_pos rfl,hv kids 1 fun z hz=>hz,ez,pF,ji,cg Hk];refine lO ?_ (fun h=>?_)
   ·simp only[bO,wT,show ¬(8:Nat)=1 by omega,show ¬(8:Nat)=2 by omega,show ¬(8:Nat)=3 by omega,show ¬(8:Nat)=4 by omega,show ¬(8:Nat)=5 by omega,show ¬(8:Nat)=6 by omega,show ¬(8:Nat)=7 by omega,if_false,true_or,if_true];cases wY lit <;> simp
   ·simp only[bO,wT,show ¬(8:Nat)=1 by omega,show ¬(8:Nat)=2 by omega,show ¬(8:Nat)=3 by omega,show ¬(8:Nat)=4 by omega,show ¬(8:Nat)=5 by omega,show ¬(8:Nat)=6 by omega,show ¬(8:Nat)=7 by omega,if_false,true_or,if_true,vF,decide_eq_true_eq]at h;obtain⟨⟨⟨c1,c2,c3,c4⟩,c5⟩,c8⟩:=h;obtain⟨g1,g2⟩:=dE c1;have Tu:=kp (l:=kids) (vZ.2 fun x hx=>by simpa using vZ.1 c8 x hx);have hd:js 8 s 0 kids=mx (fun x=>jm x+if jz x < 1 then 1 else 0) kids:=eT fun j x hx=>⟨Tu x (Zv hx),by unfold fL;rw[if_neg Zo,if_neg Zo]⟩
    simp only[pA,show ¬(8:Nat)=5 by omega,if_false,hd,g1,g2,c3,c4];simp
  rw[if_neg h8];by_cases h9:k=9
  ·subst h9;rw[if_pos rfl];rcases kids with _|⟨y,_|⟨z,r⟩⟩
   ·rw[cb _ _ _ _ Hk Hk];simp[kP]
   ·obtain⟨o1,o2⟩:=one (.inr rfl) y rfl;rw[cg Hk];show kP _ (jY y 1 (kO y))=_;rw[hk y Zs,ik,l1,ji,show ke 9 [y].length 0 [y]=(jV y&&zt y)from o1];refine lO ?_ (fun h=>?_)
    ·simp[wT];cases jV y&&zt y <;> cases wY lit <;> simp
    ·simp only[wT,show ¬(9:Nat)=1 by omega,show ¬(9:Nat)=2 by omega,show ¬(9:Nat)=3 by omega,show ¬(9:Nat)=4 by omega,show ¬(9:Nat)=5 by omega,show ¬(9:Nat)=6 by omega,show ¬(9:Nat)=7 by omega,if_false,or_true,if_true,vF,decide_eq_true_eq]at h;obtain⟨⟨⟨c1,c2,c3,c4⟩,c5⟩,c6,c7⟩:=h;obtain⟨g1,g2⟩:=dE c1;rw[o2 c7];simp[g1,g2,c3,c4]
   ·rw[cb _ _ _ _ Hk (by simp[zg];omega)];simp[kP]
  rw[if_neg h9];simp[wT,cR,h1,h2,h3,h4,h5,h6,h7,h8,h9]
theorem Jd {P:Program}{Z:Exit->Act->World->Prop}{Q:Act->World->Prop}{l m:List (RO×Oper)}:∀{a w},cp P Z (fun a w=>cp P Z Q m a w) l a w->cp P Z Q (l++m) a w:=by
 induction l with
 |nil=>intro a w h;exact h
 |cons x l ih=>
  intro a w h;have key:cp P Z (fun a w=>cp P Z Q m a w) (x::l)=ju P Z x (cp P Z (fun a w=>cp P Z Q m a w) l):=by funext a w;rfl
  show ju P Z x (cp P Z Q (l++m)) a w;have h2:ju P Z x (cp P Z (fun a w=>cp P Z Q m a w) l) a w:=h;have h3:cp P Z (cp P Z Q (l++m)) [x] a w:=GO (l:=[x]) (Q:=cp P Z (fun a w=>cp P Z Q m a w) l) (fun a w g=>ih g) h2;exact h3
section
variable {P:Program} {n:Nat} {rs l1 l2:List RO} {Γ:Env} {H:SH} {Z:List PanicEntry->Env->SH->Prop} {K:Env->SH->Prop}
theorem VO.app(h:VO P n l1 Γ H Z (fun ay H'=>VO P n l2 ay H' Z K)):VO P n (l1++l2) Γ H Z K:=by
 intro l hl a w F ZZ Q ha hs hq hz;obtain⟨Tv,fE⟩:=hl;obtain⟨p,q,rfl,hp,im⟩:=List.map_eq_append_iff.1 Tv;refine Jd (h p ⟨hp,fun x hx=>fE x (Zw _ hx)⟩ a w F ZZ _ ha hs (fun a' w' ay H' k g1 g2 g3 g4=>?_) hz);refine k q ⟨im,fun x hx=>fE x (QB _ hx)⟩ a' w' F ZZ Q g1 g3 (fun a2 w2 cY H2 k2 e1 e2 e3 e4=>hq a2 w2 cY H2 k2 e1 (e2.trans g2) e3 (g4.trans e4)) (fun ch a2 w2 cY H2 k2 e1 e2 e3 e4=>hz ch a2 w2 cY H2 k2 e1 (e2.trans g2) e3 (g4.trans e4))
def cutAt(t:Nat):List RO->List RO×List RO
 |[]=>([],[])
 |r::l=>if r.dst=some t then([r],l)else((r::(cutAt t l).1),(cutAt t l).2)
theorem Na(t:Nat):∀l:List RO,l=(cutAt t l).1++(cutAt t l).2:=by
 intro l
 induction l with
 |nil=>rfl
 |cons r l ih=>
  simp only[cutAt];split
  ·rfl
  ·simp only[vj];rw[<- ih]
theorem VO.bool(t:Nat)(b:Bool)(hc:cutAt t rs=(l1,l2))(h1:VO P n l1 Γ H Z (fun ay H'=>look ay t=some (.bool b)/\Sub ay Γ/\ao H' H))(h2:VO P n l2 ((t,.bool b)::Γ) H Z K):VO P n rs Γ H Z K:=by
 have he:=Na t rs;rw[hc]at he;rw[he];refine VO.app (h1.mono fun ay H' ⟨g1,g2,g3⟩=>VO.sub ?_ (VO.imp g3 h2));intro s v hs;simp only[look]at hs;split at hs
 ·rename_i e;cases hs
  first
   |(subst e;exact g1)
   |(rw[<- e];exact g1)
   |(rw[e];exact g1)
 ·exact g2 s v hs
end
end Go.V
namespace Go.Proofs.YtijnokbblmbpkaaGreatDoor
open Go Go.V
set_option maxHeartbeats 1600000
set_option maxRecDepth 100000
theorem S4(k:Nat)(s:ByteArray)(hs:s.size<=140737488355328):-1<=zg k s/\zg k s<=140737488355330:=by
 have:=rC s hs;unfold zg
 repeat' split
 all_goals omega
theorem D7(A:List kC)(hE:mQ A):∀(N:Nat) (x:Nd),x.w<=N->x.w<=274877906944->∀vs,jJ A x vs->aq Tryz.prog 149 [.agg vs.toArray] [A] (fun v Post=>v=.bool (jV x)/\Post=[A]):=by
 intro N
 induction N with
 |zero=>intro x hx;have:=x.mN;omega
 |succ N ih=>
  intro x hx hb vs h;have dT:=Pc A hE x hb vs h;obtain⟨e1,e2,e3,e4,e5,e6,e7,e8,e9,tF,tG,tH,tI,a,cc,bk,o,us,lJ,bA,ha,hm,hr⟩:=OV h;have hwx:Nd.ws x.kids+1<=x.w:=by cases x;simp only[Nd.w,Nd.kids];omega
  have eu:x.name.size<=140737488355328:=by cases h with|mk wf=>exact wf.name
  have lp:x.kind < 256:=by cases h with|mk wf=>exact wf.kind
  have hform:jV x=(wT x.kind x.name x.lit x.args x.ab x.kids.length&&!(decide (0<=zg x.kind x.name)&&decide (zg x.kind x.name≠x.kids.length))&&ke x.kind x.kids.length 0 x.kids):=by cases x;simp only[jV,Nd.kind,Nd.name,Nd.lit,Nd.args,Nd.ab,Nd.kids];rfl
  rw[hform];have ob:=S4 x.kind x.name eu;generalize hOne:wT x.kind x.name x.lit x.args x.ab x.kids.length=on at dT|-;generalize hCnt:zg x.kind x.name=cn at dT ob|-;rw[lJ]at dT|-;generalize x.kind=k at dT lp|-;refine aq.intro aat (by simp[n149]) ?_;refine jD ?_;refine kY Zr (fun q=>?_);simp only[Value.cells];refine jD ?_;refine kJ dT Zr ZP (fun v Post hv=>?_);obtain⟨rfl,rfl⟩:=hv;simp only[aH];refine jD ?_;refine VC.join (α:=Unit) (fun _=>[(1,kF q)]) (fun _=>[A,kA q 0 (rA k x.name e1 e2 e3 e4 e5 e6 e7 e8 e9 tF tG tH tI a x.kids.length cc x.at_)]) (fun _=>(on&&!(decide (0<=cn)&&decide (cn≠x.kids.length)))=true) ?_ ?_
  ·refine ae ?_;cases on with
   |false=>
    exact Se
   |true=>
    refine ae ?_;by_cases h1:0<=cn;rotate_left
    ·skip
     rw[show decide (cn ≥ 0)=false from Zf Zo];refine ae ?_;exact⟨(),by simp[h1],ZU,ZI⟩
    rw[show decide (cn ≥ 0)=true from Zt Zo];refine ae ?_;by_cases h2:cn=x.kids.length
    ·skip
     rw[show decide (cn=(x.kids.length:Int))=true from Zt Zo];refine ae ?_;exact⟨(),by simp[h2],ZU,ZI⟩
    ·skip
     rw[show decide (cn=(x.kids.length:Int))=false from Zf Zo];refine ae ?_;exact kG (Post:=[A]) (.inr rfl) (.tmp Zr .nil) ⟨by simp[bJ,h1,h2],rfl⟩ ZI
  rintro⟨⟩ aM
  rw[aM,vS];refine ae ?_;refine VC.loop (α:=Nat) (bn:=fun j=>[(1,kF q),(5,vi j)]) (Hf:=fun _=>[A,kA q 0 (rA k x.name e1 e2 e3 e4 e5 e6 e7 e8 e9 tF tG tH tI a x.kids.length cc x.at_)])
   (I:=fun j=>j<=x.kids.length/\ke k x.kids.length 0 x.kids=ke k x.kids.length j (x.kids.drop j)) (μ:=fun j=>x.kids.length - j) 0 ⟨Qp _,rfl⟩ ZU ZI ?_
  rintro j ⟨i1,i2⟩
  refine ae ?_;by_cases hj:j < x.kids.length;rotate_left
  ·rw[show decide ((j:Int) < (x.kids.length:Int))=false from Zf Zo];rw[vq Zo]at i2;exact zC2
  rw[show decide ((j:Int) < (x.kids.length:Int))=true from Zt Zo];obtain rfl:=ha Zo;obtain⟨y,hy⟩:∃y,x.kids[j]? =some y:=⟨_,Zg hj⟩;have bL:=hr j y hy;have cH:=hm j hj;have fH:=bL.len;have hzw:y.w<=Nd.ws x.kids:=Nd.cq (Zv hy);have aE:=ih y Zo Zo _ bL;have EX:x.kids.drop j=y::x.kids.drop (j+1):=by
   exact zD8
  rw[EX]at i2;simp only[ke]at i2;generalize us j=uj at bL cH aE fH;have hsn:jQ y=z8 y.kind y.name:=rfl;obtain⟨f1,f2,f3,f4,f5,f6,f7,f8,f9,f10,f11,f12,f13,f14,f15,f16,f17,rfl,lq,hyk⟩:=dG bL;refine ae ?_;refine kX Zr Cv rfl ?_;refine ae ?_;refine kN (fun q6=>?_);refine ae ?_;refine kJ aE Zr ZP (fun v Post hv=>?_);obtain⟨rfl,rfl⟩:=hv;simp only[aH];generalize jV y=fy at i2|-;refine ae ?_;refine VO.bool 53 (decide (j=0)&&(decide (k=4)||decide (k=5))) Zr ?_ ?_
  ·by_cases j0:j=0;rotate_left
   ·skip
    rw[show decide ((j:Int)=0)=false from Zf Zo];refine ae ?_;exact⟨by simp[j0],ZU,ZI⟩
   rw[show decide ((j:Int)=0)=true from Zt Zo];refine ae ?_;by_cases k4:k=4
   ·skip
    rw[show decide ((k:Int)=4)=true from Zt Zo];refine ae ?_;exact⟨by simp[j0,k4],ZU,ZI⟩
   rw[show decide ((k:Int)=4)=false from Zf Zo];refine ae ?_;by_cases k5:k=5
   ·skip
    rw[show decide ((k:Int)=5)=true from Zt Zo];refine ae ?_;exact⟨by simp[j0,k4,k5],ZU,ZI⟩
   rw[show decide ((k:Int)=5)=false from Zf Zo];refine ae ?_;exact⟨by simp[j0,k4,k5],ZU,ZI⟩
  generalize xy:(decide (j=0)&&(decide (k=4)||decide (k=5)))=fst;refine ae ?_;refine VO.bool 64 (decide (j+1=x.kids.length)&&decide (k=7)) Zr ?_ ?_
  ·by_cases j0:j+1=x.kids.length;rotate_left
   ·skip
    rw[show decide ((j:Int)=(x.kids.length:Int) - 1)=false from Zf Zo];refine ae ?_;exact⟨by simp[j0],ZU,ZI⟩
   rw[show decide ((j:Int)=(x.kids.length:Int) - 1)=true from Zt Zo];refine ae ?_;by_cases k7:k=7
   ·skip
    rw[show decide ((k:Int)=7)=true from Zt Zo];refine ae ?_;exact⟨by simp[j0,k7],ZU,ZI⟩
   rw[show decide ((k:Int)=7)=false from Zf Zo];refine ae ?_;exact⟨by simp[j0,k7],ZU,ZI⟩
  generalize hlst:(decide (j+1=x.kids.length)&&decide (k=7))=lst;refine ae ?_;refine VO.bool 71 (decide (k=5)&&decide (0 < j)) Zr ?_ ?_
  ·by_cases k5:k=5;rotate_left
   ·skip
    rw[show decide ((k:Int)=5)=false from Zf Zo];refine ae ?_;exact⟨by simp[k5],ZU,ZI⟩
   rw[show decide ((k:Int)=5)=true from Zt Zo];refine ae ?_;by_cases j0:0 < j
   ·skip
    rw[show decide ((j:Int) > 0)=true from Zt Zo];refine ae ?_;exact⟨by simp[k5,j0],ZU,ZI⟩
   rw[show decide ((j:Int) > 0)=false from Zf Zo];refine ae ?_;exact⟨by simp[k5,j0],ZU,ZI⟩
  generalize ZC:(decide (k=5)&&decide (0 < j))=msg;have hkb:gz k x.kids.length j y=(!(z8 y.kind y.name&&!fst)&&!(decide (y.kind=9)&&!lst)&&(decide (y.kind=6)==msg)):=by
   unfold gz;rw[xy,hlst,ZC,hsn]
  have hsup:=tu y.kind y.name (cv f1) (vi f2) (uv f3) (.string f4) (.slice f5 f6 f7) (.slice f8 f9 f10) (.slice f11 f12 f13) (.slice f14 f15 f16) (vi f17);generalize z8 y.kind y.name=su at hsup hkb;refine ae ?_;refine VO.bool 97 (!(fy&&gz k x.kids.length j y)) Zr ?_ ?_
  ·rw[hkb];cases fy with
   |false=>
    refine ae ?_;exact⟨Zs,ZU,ZI⟩
   |true=>
    refine ae ?_;refine kK hsup Zr ?_;refine VO.bool 81 (su&&!fst) Zr ?_ ?_
    ·cases su with
     |false=>
      refine ae ?_;exact⟨Zs,ZU,ZI⟩
     |true=>
      refine ae ?_;exact⟨Zs,ZU,ZI⟩
    generalize (su&&!fst)=b1;cases b1 with
    |true=>
     refine ae ?_;exact⟨Zs,ZU,ZI⟩
    |false=>
     refine ae ?_;refine VO.bool 90 (decide (y.kind=9)&&!lst) Zr ?_ ?_
     ·by_cases k9:y.kind=9
      ·skip
       rw[show decide ((y.kind:Int)=9)=true from Zt Zo];refine ae ?_;exact⟨by simp[k9],ZU,ZI⟩
      ·skip
       exact zEM
     generalize (decide (y.kind=9)&&!lst)=b2;cases b2 with
     |true=>
      refine ae ?_;exact⟨Zs,ZU,ZI⟩
     |false=>
      refine ae ?_;refine⟨?_,ZU,ZI⟩;rw[show decide ((y.kind:Int)=6)=decide (y.kind=6)from decide_eq_decide.2 ⟨fun h=>by omega,fun h=>by omega⟩];cases decide (y.kind=6) <;> cases msg <;> rfl
  generalize (fy&&gz k x.kids.length j y)=good at i2|-;cases good with
  |true=>
   refine ae ?_;exact⟨j+1,⟨Zo,by rw[i2];simp⟩,Zo,ZU,ZI⟩
  |false=>
   refine ae ?_;exact kG (Post:=[A]) (.inr rfl) (.tmp Zr .nil) ⟨by rw[i2];simp[bJ],rfl⟩ ZI
theorem Kh(A:List kC):∀(N:Nat) (x:Nd),x.w<=N->∀vs,jJ A x vs->aq Tryz.prog 88 [.agg vs.toArray] [A] (fun v Post=>v=.bool (jd x)/\Post=[A]):=by
 intro N
 induction N with
 |zero=>intro x hx;have:=x.mN;omega
 |succ N ih=>
  intro x hx vs h;cases h with
  |@mk k s lit args ab kids p lv av tv a c bk o us wf hl bK bG ha hm hr rU=>
  simp only[Nd.w]at hx;have oL:=Dg A _ lit (Qh _) lv hl;have bA:=wf.many;have lp:=wf.kind;cases hl with
  |@mk lk ln lb lt items la lc Lj lo Lk MD MA MB MC=>
  obtain⟨aa,ac,rfl,sQ,dQ⟩:=bK;obtain⟨ta,tc,rfl,ue,JL⟩:=bG;have au:jd (.mk k s (.mk lk ln lb lt items) args ab kids p)=(((iG (.mk lk ln lb lt items)||decide (15 < args.length))||decide (63 < ab.length))||(((decide (k=4)&&decide (16 < kids.length))||(decide (k=6)&&decide (15 < kids.length)))||(decide (k=5)&&decide (256 < kids.length)))||(decide (k=8)&&decide (255 < kids.length))||kids.any jd):=by
   simp only[jd,Bp,vO]
  rw[au];generalize iG (.mk lk ln lb lt items)=lm at oL|-;refine aq.intro low88 (by simp[n88]) ?_;simp only[aH];refine jD ?_;refine kY Zr (fun q=>?_);simp only[Value.cells];refine jD ?_;refine kJ oL Zr ZP (fun v Post hv=>?_);obtain⟨rfl,rfl⟩:=hv;simp only[aH];refine jD ?_;refine VC.join (α:=Unit) (fun _=>[(1,kF q)]) (fun _=>[A,kA q 0 (rA k s lk ln lb lt la items.length lc aa args.length ac ta ab.length tc a kids.length c p)]) (fun _=>((lm||decide (15 < args.length))||decide (63 < ab.length))=false) ?_ ?_
  ·refine ae ?_;cases lm with
   |true=>
    exact Se
   |false=>
    refine ae ?_;by_cases h1:15 < args.length
    ·skip
     rw[show decide ((args.length:Int) > 15)=true from Zt Zo];exact zCU
    rw[show decide ((args.length:Int) > 15)=false from Zf Zo];refine ae ?_;by_cases h2:63 < ab.length
    ·skip
     rw[show decide ((ab.length:Int) > 63)=true from Zt Zo];refine ae ?_;exact kG (Post:=[A]) (.inr rfl) (.tmp Zr .nil) ⟨by simp[bJ,h2],rfl⟩ ZI
    rw[show decide ((ab.length:Int) > 63)=false from Zf Zo];refine ae ?_;exact⟨(),by simp[h1,h2],ZU,ZI⟩
  rintro⟨⟩ eC
  rw[eC,vL];refine ae ?_;refine VO.bool 42 ((decide (k=4)&&decide (16 < kids.length))||(decide (k=6)&&decide (15 < kids.length))) Zr ?_ ?_
  ·by_cases k4:k=4
   ·skip
    rw[show decide ((k:Int)=4)=true from Zt Zo];refine ae ?_;by_cases h1:16 < kids.length
    ·skip
     rw[show decide ((kids.length:Int) > 16)=true from Zt Zo];refine ae ?_;exact⟨by simp[k4,h1],ZU,ZI⟩
    rw[show decide ((kids.length:Int) > 16)=false from Zf Zo];refine ae ?_;rw[show decide ((k:Int)=6)=false from Zf Zo];refine ae ?_;exact⟨by simp[k4,h1],ZU,ZI⟩
   rw[show decide ((k:Int)=4)=false from Zf Zo];refine ae ?_;by_cases k6:k=6
   ·skip
    rw[show decide ((k:Int)=6)=true from Zt Zo];refine ae ?_;by_cases h1:15 < kids.length
    ·skip
     rw[show decide ((kids.length:Int) > 15)=true from Zt Zo];refine ae ?_;exact⟨by simp[k6,h1],ZU,ZI⟩
    rw[show decide ((kids.length:Int) > 15)=false from Zf Zo];refine ae ?_;exact⟨by simp[k6,h1],ZU,ZI⟩
   rw[show decide ((k:Int)=6)=false from Zf Zo];refine ae ?_;exact⟨by simp[k4,k6],ZU,ZI⟩
  generalize ((decide (k=4)&&decide (16 < kids.length))||(decide (k=6)&&decide (15 < kids.length)))=b1;refine jD ?_;refine VC.join (α:=Unit) (fun _=>[(1,kF q)]) (fun _=>[A,kA q 0 (rA k s lk ln lb lt la items.length lc aa args.length ac ta ab.length tc a kids.length c p)]) (fun _=>((b1||(decide (k=5)&&decide (256 < kids.length)))||(decide (k=8)&&decide (255 < kids.length)))=false) ?_ ?_
  ·refine ae ?_;cases b1 with
   |true=>
    exact Se
   |false=>
    refine ae ?_;refine VO.bool 54 (decide (k=5)&&decide (256 < kids.length)) Zr ?_ ?_
    ·by_cases k5:k=5
     ·skip
      rw[show decide ((k:Int)=5)=true from Zt Zo];refine ae ?_;by_cases h1:256 < kids.length
      ·skip
       rw[show decide ((kids.length:Int) > 256)=true from Zt Zo];refine ae ?_;exact⟨by simp[k5,h1],ZU,ZI⟩
      rw[show decide ((kids.length:Int) > 256)=false from Zf Zo];refine ae ?_;exact⟨by simp[k5,h1],ZU,ZI⟩
     rw[show decide ((k:Int)=5)=false from Zf Zo];refine ae ?_;exact⟨by simp[k5],ZU,ZI⟩
    generalize (decide (k=5)&&decide (256 < kids.length))=b2;cases b2 with
    |true=>
     exact Se
    |false=>
     refine ae ?_;by_cases k8:k=8
     ·skip
      rw[show decide ((k:Int)=8)=true from Zt Zo];refine ae ?_;by_cases h1:255 < kids.length
      ·skip
       rw[show decide ((kids.length:Int) > 255)=true from Zt Zo];refine ae ?_;exact kG (Post:=[A]) (.inr rfl) (.tmp Zr .nil) ⟨by simp[bJ,k8,h1],rfl⟩ ZI
      rw[show decide ((kids.length:Int) > 255)=false from Zf Zo];refine ae ?_;exact⟨(),by simp[h1],ZU,ZI⟩
     rw[show decide ((k:Int)=8)=false from Zf Zo];refine ae ?_;exact⟨(),by simp[k8],ZU,ZI⟩
  rintro⟨⟩ sR
  rw[sR,vL];refine ae ?_;refine VC.loop (α:=Nat) (bn:=fun j=>[(1,kF q),(5,vi j)]) (Hf:=fun _=>[A,kA q 0 (rA k s lk ln lb lt la items.length lc aa args.length ac ta ab.length tc a kids.length c p)])
   (I:=fun j=>j<=kids.length/\(kids.take j).any jd=false) (μ:=fun j=>kids.length - j) 0 ⟨Qp _,rfl⟩ ZU ZI ?_
  rintro j ⟨i1,i2⟩
  refine ae ?_;by_cases hj:j < kids.length;rotate_left
  ·rw[QZ Zo]at i2;rw[show decide ((j:Int) < (kids.length:Int))=false from Zf Zo];exact zC2
  rw[show decide ((j:Int) < (kids.length:Int))=true from Zt Zo];obtain rfl:=ha Zo;obtain⟨y,hy⟩:∃y,kids[j]? =some y:=⟨_,Zg hj⟩;have bL:=hr j y hy;have cH:=hm j hj;have fH:=bL.len;have hzw:y.w<=Nd.ws kids:=Nd.cq (Zv hy);have aE:=ih y Zo _ bL;have cy:kids.take (j+1)=kids.take j++[y]:=by rw[QX,hy];rfl
  generalize us j=uj at bL cH aE fH;refine ae ?_;refine kX Zr Cv fH ?_;refine ae ?_;refine kJ aE Zr ZP (fun v Post hv=>?_);obtain⟨rfl,rfl⟩:=hv;simp only[aH];cases hmy:jd y with
  |true=>
   have:kids.any jd=true:=ve.2 ⟨y,Zv hy,hmy⟩;refine ae ?_;exact kG (Post:=[A]) (.inr rfl) (.tmp Zr .nil) ⟨by rw[this];rfl,rfl⟩ ZI
  |false=>
   refine ae ?_;exact⟨j+1,⟨Zo,by rw[cy];simp[i2,hmy]⟩,Zo,ZU,ZI⟩
theorem KM {k m:Nat}:∀{l:List Nd} {i:Nat},ke k m i l=true->∀j y,l[j]? =some y->jV y=true/\gz k m (i+j) y=true:=by
 intro l
 induction l with
 |nil=>intro i _ j y h;simp at h
 |cons z r ih=>
  intro i h j y hy;simp only[ke,vF]at h;cases j with
  |zero=>cases hy;exact h.1
  |succ j=>
   have:=ih h.2 j y (by simpa using hy)
   rwa [show i+1+j=i+(j+1) by omega]at this
theorem rR {x:Nd}(h:jV x=true):∀j y,x.kids[j]? =some y->jV y=true/\gz x.kind x.kids.length j y=true:=by
 cases x with
 |mk k s lit args ab kids p=>
 simp only[jV,vF]at h;intro j y hy;have:=KM h.2 j y hy
 rwa [Qo]at this
theorem oJ {x:Nd}(h:jV x=true)(hk:x.kind=4∨x.kind=6):0<=kR x.name:=by
 cases x with
 |mk k s lit args ab kids p=>
 simp only[jV,vF]at h;have h1:=h.1.1;simp only[Nd.kind,Nd.name]at hk|-;rcases hk with rfl|rfl
 ·simp[wT]at h1;exact h1.1.1
 ·simp[wT]at h1;exact h1.1.1
theorem KL {x:Nd}(h:jV x=true)(hk:x.kind=5):∃y,x.kids[1]? =some y/\y.kind=6/\0<=kR y.name/\pA x.kind x.name x.kids=y.name:=by
 have bh:=rR h;cases x with
 |mk k s lit args ab kids p=>
 simp only[jV,vF]at h;have h1:=h.1.1;simp only[Nd.kind,Nd.name,Nd.kids]at hk bh|-;subst hk;simp[wT]at h1;rcases kids with _|⟨y,_|⟨z,r⟩⟩
 ·simp at h1
 ·simp at h1
 ·obtain⟨g1,g2⟩:=bh 1 z rfl;have g3:z.kind=6:=by simp[gz]at g2;exact g2.2
  exact⟨z,rfl,g3,oJ g1 (.inr g3),rfl⟩
theorem Kn(A:List kC)(x:Nd)(vs:List Value)(h:jJ A x vs)(hf:jV x=true)(i:Nat):aq Tryz.prog 187 [.agg vs.toArray,vi i] [A] (fun v Post=>v=vi (fL x.kind (pA x.kind x.name x.kids) i)/\Post=[A]):=by
 obtain⟨e1,e2,e3,e4,e5,e6,e7,e8,e9,tF,tG,tH,tI,a,cc,bk,o,us,lJ,bA,ha,hm,hr⟩:=OV h;have eu:x.name.size<=140737488355328:=by cases h with|mk wf=>exact wf.name
 have lp:x.kind < 256:=by cases h with|mk wf=>exact wf.kind
 have dQ:=@oJ x hf;have hca:=@KL x hf;have CR:¬x.kind=5->pA x.kind x.name x.kids=x.name:=fun e=>if_neg e
 rw[lJ];generalize hS:pA x.kind x.name x.kids=S at hca CR|-;generalize x.kind=k at*;generalize x.name=s at*;refine aq.intro aaT (by simp[n187]) ?_;refine jD ?_;refine kY Zr (fun q=>?_);simp only[Value.cells];refine jD ?_;refine VO.bool 16 (decide (i=0)&&decide (k=4)) Zr ?_ ?_
 ·by_cases i0:i=0
  ·skip
   rw[show decide ((i:Int)=0)=true from Zt Zo];refine ae ?_;exact⟨by simp only[Qy,Value.bool.injEq,i0,decide_true,vS];exact decide_eq_decide.2 ⟨fun h=>by omega,fun h=>by omega⟩,ZU,ZI⟩
  ·skip
   rw[show decide ((i:Int)=0)=false from Zf Zo];refine ae ?_;exact⟨by simp[i0],ZU,ZI⟩
 refine jD ?_;refine VC.join (α:=Unit) (fun _=>[(1,vi i),(2,kF q),(5,.string S),(6,.bool (decide (i=0)&&(decide (k=4)||decide (k=5))))]) (fun _=>[A,kA q 0 (rA k s e1 e2 e3 e4 e5 e6 e7 e8 e9 tF tG tH tI a x.kids.length cc x.at_)]) (fun _=>S.size<=140737488355328) ?_ ?_
 ·refine ae ?_;by_cases k5:k=5
  ·obtain⟨z,hz,hz6,hza,hSz⟩:=hca k5;have hl:=(Vm.1 hz).1;obtain rfl:=ha Zo;have La:=hr 1 z hz;have XH:=hm 1 hl;generalize us 1=uj at La XH;obtain⟨f1,f2,f3,f4,f5,f6,f7,f8,f9,f10,f11,f12,f13,f14,f15,f16,f17,rfl,lq,hyk⟩:=dG La;have eX:kC.cell bk (o+1*11+1) (.string z.name)∈A:=XH _ (kI.2 ⟨1,_,rfl,rfl⟩);rw[Nat.one_mul]at eX;subst k5;refine ae ?_;rw[hSz];refine⟨(),lq,?_,ZI⟩;rw[show decide ((i:Int)=0)=(decide (i=0)&&(decide ((5:Nat)=4)||decide ((5:Nat)=5))) by simp];exact tX
  ·skip
   rw[show decide ((k:Int)=5)=false from Zf Zo];refine ae ?_;rw[CR k5]at*;refine⟨(),eu,?_,ZI⟩;rw[Zf k5,vR];exact tX
 rintro⟨⟩ hSs
 have sS:=fun h=>uS S hSs h
 refine ae ?_;refine VO.bool 38 ((decide (k=4)&&decide (0 < i))||decide (k=6)) Zr ?_ ?_
 ·by_cases k4:k=4
  ·skip
   rw[show decide ((k:Int)=4)=true from Zt Zo];refine ae ?_;by_cases i0:0 < i
   ·skip
    rw[show decide ((i:Int) > 0)=true from Zt Zo];refine ae ?_;exact⟨by simp[k4,i0],ZU,ZI⟩
   rw[show decide ((i:Int) > 0)=false from Zf Zo];refine ae ?_;rw[show decide ((k:Int)=6)=false from Zf Zo];refine ae ?_;exact⟨by simp[k4,i0],ZU,ZI⟩
  rw[show decide ((k:Int)=4)=false from Zf Zo];refine ae ?_;exact⟨by simp only[Qy,Value.bool.injEq,k4,decide_false,vJ,vL];exact decide_eq_decide.2 ⟨fun h=>by omega,fun h=>by omega⟩,ZU,ZI⟩
 have hSa:k=4∨k=5∨k=6->0<=kR S:=fun h=>by
  by_cases k5:k=5
  ·obtain⟨z,_,_,hza,hSz⟩:=hca k5;rw[hSz];exact hza
  ·rw[CR k5];exact dQ Zo
 have hd:fL k S i=if(decide (i=0)&&(decide (k=4)||decide (k=5)))=true then(if y8 S=5 then 5 else 4)else if((decide (k=4)&&decide (0 < i))||decide (k=6))=true then(if y8 S=4 then 5 else 4)else 1:=by
  unfold fL;simp
 have hr1:(decide (i=0)&&(decide (k=4)||decide (k=5)))=true->0<=kR S:=fun h=>by
  simp only[vF,vP,decide_eq_true_eq]at h;exact hSa Zo
 have dS:((decide (k=4)&&decide (0 < i))||decide (k=6))=true->0<=kR S:=fun h=>by
  simp only[vF,vP,decide_eq_true_eq]at h;exact hSa Zo
 rw[hd];generalize (decide (i=0)&&(decide (k=4)||decide (k=5)))=b1 at hr1|-;generalize ((decide (k=4)&&decide (0 < i))||decide (k=6))=b2 at dS|-;cases b1 with
 |true=>
  have sS:=sS (hr1 rfl);generalize y8 S=bs at sS|-;refine ae ?_;refine kK sS Zr ?_;by_cases h5:bs=5
  ·subst h5;exact Se
  ·refine ae ?_;rw[show decide ((bs:Int)=5)=false from Zf Zo];refine ae ?_;exact kG (Post:=[A]) (.inr rfl) (.tmp Zr .nil) ⟨by simp[bJ,h5],rfl⟩ ZI
 |false=>
  cases b2 with
  |true=>
   have sS:=sS (dS rfl);generalize y8 S=bs at sS|-;refine ae ?_;refine kK sS Zr ?_;by_cases h5:bs=4
   ·subst h5;exact Se
   ·refine ae ?_;rw[show decide ((bs:Int)=4)=false from Zf Zo];refine ae ?_;exact kG (Post:=[A]) (.inr rfl) (.tmp Zr .nil) ⟨by simp[bJ,h5],rfl⟩ ZI
  |false=>
   exact Se
end Go.Proofs.YtijnokbblmbpkaaGreatDoor

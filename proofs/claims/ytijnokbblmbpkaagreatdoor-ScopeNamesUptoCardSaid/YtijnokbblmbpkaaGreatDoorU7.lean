/-
  A part of the proof.
-/
import Derived.Test.YtijnokbblmbpkaaGreatDoorU6
import Derived.KernelRfl
import Derived.Test.YtijnokbblmbpkaaGreatDoorProg
import Derived.Test.YtijnokbblmbpkaaGreatDoorU3
import Derived.Shelf.Strconv.ParseIntPublic10
import Derived.Test.YtijnokbblmbpkaaGreatDoorU4
set_option linter.all false
set_option maxRecDepth 100000
set_option maxHeartbeats 3200000
namespace Go.Proofs.YtijnokbblmbpkaaGreatDoor
open Go Go.V
noncomputable section
def F104:aO:=aZ (o:=gF pq Tryz.f104 [])
theorem low104:Zo9 104 [] F104:=Zx9
def F168:aO:=aZ (o:=gF pq Tryz.f168 [])
theorem low168:Zo9 168 [] F168:=Zx9
def F167:aO:=aZ (o:=gF pq Tryz.f167 [])
theorem low167:Zo9 167 [] F167:=Zx9
def F201:aO:=aZ (o:=gF pq Tryz.f201 [])
theorem low201:Zo9 201 [] F201:=Zx9
def F166:aO:=aZ (o:=gF pq Tryz.f166 [])
theorem low166:Zo9 166 [] F166:=Zx9
def F106:aO:=aZ (o:=gF pq Tryz.f106 [])
theorem low106:Zo9 106 [] F106:=Zx9
def F202:aO:=aZ (o:=gF pq Tryz.f202 [])
theorem low202:Zo9 202 [] F202:=Zx9
def F205:aO:=aZ (o:=gF pq Tryz.f205 [])
theorem low205:Zo9 205 [] F205:=Zx9
def F250:aO:=aZ (o:=gF pq Tryz.f250 [])
theorem low250:Zo9 250 [] F250:=Zx9
def F230:aO:=aZ (o:=gF pq Tryz.f230 [])
theorem low230:Zo9 230 [] F230:=Zx9
def F228:aO:=aZ (o:=gF pq Tryz.f228 [])
theorem low228:Zo9 228 [] F228:=Zx9
def F229:aO:=aZ (o:=gF pq Tryz.f229 [])
theorem low229:Zo9 229 [] F229:=Zx9
def F206:aO:=aZ (o:=gF pq Tryz.f206 [])
theorem low206:Zo9 206 [] F206:=Zx9
def F170:aO:=aZ (o:=gF pq Tryz.f170 [])
theorem low170:Zo9 170 [] F170:=Zx9
def F203:aO:=aZ (o:=gF pq Tryz.f203 [(3,[[0,1,2,3,4,5],[0,2,3,1,4,5]])])
theorem low203:Zo9 203 [(3,[[0,1,2,3,4,5],[0,2,3,1,4,5]])] F203:=Zx9
def F204:aO:=aZ (o:=gF pq Tryz.f204 [(8,[[0,1,2,3,4,5,6,7],[0,1,3,4,2,5,6,7]])])
theorem low204:Zo9 204 [(8,[[0,1,2,3,4,5,6,7],[0,1,3,4,2,5,6,7]])] F204:=Zx9
def F107:aO:=aZ (o:=gF pq Tryz.f107 [])
theorem low107:Zo9 107 [] F107:=Zx9
def SF:aO:=aZ (o:=gF pq Tryz.f169 [(21,[[0,1,2,3,4,5,6,7,8,9,10,11,12,13,14,15,16],[0,1,2,3,4,5,6,8,9,10,7,11,12,13,14,15,16],[0,1,2,3,4,5,6,8,9,10,11,12,7,13,14,15,16],[0,1,2,3,4,5,6,7,8,9,11,12,10,13,14,15,16],[0,1,2,3,4,5,6,8,9,11,12,7,10,13,14,15,16],[0,1,2,3,4,5,6,8,9,11,12,10,7,13,14,15,16]]),(34,[[0,1,2,3,4,5,6,7,8,9,10,11,12,13]])])
theorem n169:SF.n=257:=rfl
theorem low169:aY Tryz.prog 169 [(21,[[0,1,2,3,4,5,6,7,8,9,10,11,12,13,14,15,16],[0,1,2,3,4,5,6,8,9,10,7,11,12,13,14,15,16],[0,1,2,3,4,5,6,8,9,10,11,12,7,13,14,15,16],[0,1,2,3,4,5,6,7,8,9,11,12,10,13,14,15,16],[0,1,2,3,4,5,6,8,9,11,12,7,10,13,14,15,16],[0,1,2,3,4,5,6,8,9,11,12,10,7,13,14,15,16]]),(34,[[0,1,2,3,4,5,6,7,8,9,10,11,12,13]])]=some SF:=by kernel_rfl
def F102:DIR:=Eh (X:=⟨20,[.cq 2],[(.mY [qo 2 (.alloc 44 [.int .i64 0])] [0,2]),(.mY [qo 4 (.build [.bool false,.bool false] []),qB 5 197 4,qm 3 5] [0,2,3])],⟨6,160,[(.tmp 2)]⟩,(qS [qm 7 0,qm 8 3,qo 9 (.rR (.tmp 7) [(.tmp 8)])] [2,3] (.seq (.block 0 (qS [qm 11 3,qn 12 11,qf 13 0 12,ql 14 13,qm 10 14] [2,3,10] (qC 10 (qS [⟨none,none,.store 1 (.tmp 2) (.const (.int .i64 151))⟩] [2] .ret) (qS [qm 16 3,qn 17 16,qf 18 1 17,ql 19 18,qm 15 19] [2,15] (qC 15 (qS [⟨none,none,.store 1 (.tmp 2) (.const (.int .i64 152))⟩] [2] .ret) .skip))))) (qS [⟨none,none,.store 1 (.tmp 2) (.const (.int .i64 0))⟩] [2] .ret)))⟩)
theorem low102:Np Tryz.prog (zW [(0,[0,2]),(1,[0,2,3]),(2,[0,2,3]),(3,[2,3]),(4,[2,3,10]),(5,[2]),(6,[2,15]),(7,[2]),(8,[2])]) (zW []) 102=some F102:=by kernel_rfl
def F47:aO:=aZ (o:=gF pq Tryz.f47 [])
theorem low47:Zo9 47 [] F47:=Zx9
def F103:aO:=aZ (o:=gF pq Tryz.f103 [(0,[[0,1,2,3,4,5,6,7,8,9,10,11,12,13,14,15,16,17],[0,1,3,4,2,5,6,7,8,9,10,11,12,13,14,15,16,17]])])
theorem low103:Zo9 103 [(0,[[0,1,2,3,4,5,6,7,8,9,10,11,12,13,14,15,16,17],[0,1,3,4,2,5,6,7,8,9,10,11,12,13,14,15,16,17]])] F103:=Zx9
end
def zU(k:Nat)(s:ByteArray):Bool:=decide (k=2)&&decide (kB s=[115,117,112,101,114])
def fO(k:Nat)(s:ByteArray):Nat:=if k=3 then 1 else if k=5 then 2 else if k=4 then zw s else 6
theorem Cv(k:Nat)(s:ByteArray)(d c3 g j m A B c9 C:Value):au Tryz.prog 205 [.agg #[cv k,.string s,d,c3,g,j,m,A,B,c9,C]] [] (λv Post=>v=.bool (zU k s)/\Post=[]):=by
 refine au.intro low205 Zn9 ?_;exact zAR
theorem tw(s:ByteArray)(A:s.size<=140737488355328):au Tryz.prog 250 [.string s] [] (λv Post=>v=vi (zw s)/\Post=[]):=by
 refine au.intro low250 Zn9 ?_;have d:=kV s;refine ae ?_;refine kL (gp s A) Zr ?_;have hb:zw s=if kS s=0 then 5 else if kS s=1/\(kB s).getLast?≠some 58 then 4 else 3:=rfl;have m:kS s=1->0 < s.size:=λh=>by
  rcases Qr s.size with h2|h2
  .have:kB s=[]:=Q4.1 Zo;unfold kS at h;rw[this]at h;exact absurd h Zd
  .exact h2
 obtain⟨z,B⟩:∃z,kS s=z:=⟨_,rfl⟩;rw[B]at hb m|-;refine ae ?_;by_cases h0:z=0
 .rw[Zt h0];rw[if_pos h0]at hb;exact zAW
 rw[Zf h0];rw[if_neg h0]at hb;refine ae ?_;by_cases h1:z=1;rotate_left
 .rw[Zf h1];rw[if_neg (λh=>h1 h.1)]at hb;exact zAW
 rw[Zt h1];have lh:=m h1;obtain⟨c,q,C⟩:=wG (s:=s) (i:=s.size - 1) Zo;have g:(kB s).getLast? =some c.toNat:=by rw[List.getLast?_eq_getElem?,d];exact C
 refine ae ?_;refine wO Zr Zr (j:=s.size - 1) Zo q ?_;refine ae ?_;by_cases tN:c.toNat=58
 .rw[show decide ((c.toNat:Int)=58)=true from Zt Zo];rw[if_neg (λh=>h.2 (by rw[g,tN]))]at hb;exact zAW
 .rw[show decide ((c.toNat:Int)=58)=false from Zf Zo];rw[if_pos ⟨h1,by rw[g];simpa using tN⟩]at hb;exact zAW
theorem Lx(k:Nat)(s:ByteArray)(C:s.size<=140737488355328)(d c3 g j m A B c9 D:Value):au Tryz.prog 230 [.agg #[cv k,.string s,d,c3,g,j,m,A,B,c9,D]] [] (λv Post=>v=vi (fO k s)/\Post=[]):=by
 refine au.intro low230 Zn9 ?_;refine ae ?_;refine kX Zr (λq=>?_);simp only[Value.cells];refine ae ?_;by_cases h3:k=3
 .rw[show decide ((k:Int)=3)=true from Zt Zo];refine ae ?_;refine kG (Post:=[]) (.inr rfl) (.tmp Zr .nil) ⟨by simp[bN,fO,h3],rfl⟩ ZI
 rw[show decide ((k:Int)=3)=false from Zf Zo];refine ae ?_;by_cases h5:k=5
 .rw[show decide ((k:Int)=5)=true from Zt Zo];refine ae ?_;refine kG (Post:=[]) (.inr rfl) (.tmp Zr .nil) ⟨by simp[bN,fO,h5],rfl⟩ ZI
 rw[show decide ((k:Int)=5)=false from Zf Zo];refine ae ?_;by_cases h4:k=4
 .rw[show decide ((k:Int)=4)=true from Zt Zo];refine ae ?_;refine kL (tw s C) Zr ?_;refine ae ?_;refine kG (Post:=[]) (.inr rfl) (.tmp Zr .nil) ⟨by simp[bN,fO,h4],rfl⟩ ZI
 exact zDE
theorem iN(s:ByteArray)(d:s.size<=140737488355328):au Tryz.prog 228 [.string s] [] (λv Post=>v=vi (gQ s)/\Post=[]):=by
 refine au.intro low228 Zn9 ?_;refine ae ?_;refine kL (tw s d) Zr ?_;refine ae ?_;refine kG (Post:=[]) (.inr rfl) (.tmp Zr .nil) ⟨?_,rfl⟩ ZI;simp only[bN,gQ,Value.int.injEq,true_and];split <;> omega
theorem dY(s:ByteArray)(d:s.size<=140737488355328):au Tryz.prog 229 [.string s] [] (λv Post=>v=vi (ni s)/\Post=[]):=by
 refine au.intro low229 Zn9 ?_;refine ae ?_;refine kL (tw s d) Zr ?_;refine ae ?_;by_cases h:zw s=4
 .rw[show decide (((zw s:Nat):Int)=4)=true from Zt Zo];exact zER
 .rw[show decide (((zw s:Nat):Int)=4)=false from Zf Zo];exact zER
noncomputable section
def F227:aO:=aZ (o:=gF pq Tryz.f227 [])
theorem low227:Zo9 227 [] F227:=Zx9
def F247:aO:=aZ (o:=gF pq Tryz.f247 [])
theorem low247:Zo9 247 [] F247:=Zx9
def F264:aO:=aZ (o:=gF pq Tryz.f264 [])
theorem low264:Zo9 264 [] F264:=Zx9
def F281:aO:=aZ (o:=gF pq Tryz.f281 [])
theorem low281:Zo9 281 [] F281:=Zx9
def F248:aO:=aZ (o:=gF pq Tryz.f248 [])
theorem low248:Zo9 248 [] F248:=Zx9
def F265:aO:=aZ (o:=gF pq Tryz.f265 [])
theorem low265:Zo9 265 [] F265:=Zx9
def F282:aO:=aZ (o:=gF pq Tryz.f282 [])
theorem low282:Zo9 282 [] F282:=Zx9
def F249:aO:=aZ (o:=gF pq Tryz.f249 [])
theorem low249:Zo9 249 [] F249:=Zx9
end
open Go Go.V Go.Shelf
shelf_lay LaysC.n174 Nm 174 at Tryz as Tryz.sl174
def oD(A:List kC):Prop:=∃ev,kC.cell (Tryz.sl174_ren.g 16) 0 ev∈A/\(ev=.nilIface∨∃te pe,ev=.iface te pe)
theorem Rv:∀(l:List UInt8) (d k:Nat),(∀c∈l,wX c.toNat=true)->d < 10 ^ k->k+l.length<=19->Lib.parseUintM (2 ^ 64 - 1) d l=.ok ((l.map UInt8.toNat).foldl (λn c=>n*10+(c - 48)) d):=by
 intro l
 induction l with
 |nil=>intro d k _ _ _;rfl
 |cons c r ih=>
  intro d k j ha s;have g:=j c Zs;simp only[wX,vG,decide_eq_true_eq]at g;simp only[Vz]at s;have hp:10 ^ k<=10 ^ 18:=Nat.pow_le_pow_right Zo Zo;have m:(10:Nat) ^ 18=1000000000000000000:=by decide
  have q:(2:Nat) ^ 64 - 1=18446744073709551615:=by decide
  have hs:(10:Nat) ^ (k+1)=10 ^ k*10:=Nat.pow_succ ..;simp only[Lib.parseUintM,if_pos g,if_neg (show ¬1844674407370955162<=d by omega),if_neg (show ¬(2 ^ 64 - 1 < d*10+(c.toNat - 48)) by omega),QD,Vg];exact ih _ (k+1) (λx A=>j x (by simp[A])) Zo Zo
theorem numL_lt:∀(l:List Nat) (d k:Nat),(∀c∈l,wX c=true)->d < 10 ^ k->l.foldl (λn c=>n*10+(c - 48)) d < 10 ^ (k+l.length):=by
 intro l
 induction l with
 |nil=>intro d k _ h;exact h
 |cons c r ih=>
  intro d k g ha;have j:=g c Zs;simp only[wX,vG,decide_eq_true_eq]at j;have hs:(10:Nat) ^ (k+1)=10 ^ k*10:=Nat.pow_succ ..;simp only[Vg,Vz];rw[show k+(r.length+1)=(k+1)+r.length by omega];exact ih _ (k+1) (λx m=>g x (by simp[m])) Zo
theorem numL_ge:∀(l:List Nat) (d k:Nat),10 ^ k<=d->10 ^ (k+l.length)<=l.foldl (λn c=>n*10+(c - 48)) d:=by
 intro l
 induction l with
 |nil=>intro d k h;exact h
 |cons c r ih=>
  intro d k ha;have hs:(10:Nat) ^ (k+1)=10 ^ k*10:=Nat.pow_succ ..;simp only[Vg,Vz];rw[show k+(r.length+1)=(k+1)+r.length by omega];exact ih _ (k+1) Zo
theorem iL(A:List kC)(K:oD A)(s:ByteArray)(J:kB s≠[])(L:(kB s).all wX=true)(hl:s.size<=19):
 au Tryz.prog 266 [.string s,vi 10,vi 64] [A] (λv Post=>((zc (kB s)<=9223372036854775807/\v=.tuple #[vi (zc (kB s)),.nilIface])∨(9223372036854775807 < zc (kB s)/\∃z t p,v=.tuple #[vi z,.iface t p]/\-9223372036854775808<=z/\z<=9223372036854775807))/\Post=[A]):=by
 have D:∀c∈s.data.toList,wX c.toNat=true:=λc q=>vg.1 L _ (QO.2 ⟨c,q,rfl⟩)
 have E:s.data.toList.length=s.size:=by simp
 have M:=Rv s.data.toList 0 0 D Zd Zo;have C:Lib.parseUintM (2 ^ 64 - 1) 0 s.data.toList=.ok (zc (kB s)):=M;have H:s.data.toList≠[]:=λe=>J (by simp[kB,e])
 have j:Lib.parseIntB 64 s.data.toList=if 9223372036854775808<=zc (kB s)then .range else .ok ((zc (kB s):Nat):Int):=by
  unfold Lib.parseIntB;cases d:s.data.toList with
  |nil=>exact absurd d H
  |cons c r=>
   have q:=D c (by rw[d];simp);simp only[wX,vG,decide_eq_true_eq]at q;rw[d]at C;simp only[if_neg (show ¬(c.toNat=43∨c.toNat=45) by omega),Lib.parseUintB,if_neg (show ¬(c::r=[]) by simp),C];have B:¬c.toNat=45:=by omega
   by_cases cU:9223372036854775808<=zc (kB s)
   .simp[B,cU]
   .simp[B,cU]
 obtain⟨ev,G,g⟩:=K;by_cases cU:9223372036854775808<=zc (kB s)
 .rw[if_pos cU]at j;refine au.Eu (by kernel_rfl) (λw F d=>?_);have I:=(d.cell (Zw _ G)).1;refine(Any.strconv_ParseInt_10_at64_range Tryz.sl174 s Zo j ev w I g).mono ?_
  rintro e w' ⟨N,rfl,_,_,m⟩
  refine⟨_,rfl,.inr ⟨Zo,_,_,_,rfl,?_⟩,m⟩;unfold Lib.intSat;split <;> decide
 .rw[if_neg cU]at j;refine au.Eu (by kernel_rfl) (λw F d=>?_);refine(Any.strconv_ParseInt_10_at64_ok Tryz.sl174 s Zo _ j w).mono ?_
  rintro e w' ⟨rfl,m⟩
  refine⟨_,rfl,.inl ⟨Zo,rfl⟩,?_⟩;rcases m with rfl|⟨t,rfl⟩
  .exact .refl _ _
  .exact Lib.bytesWorld_below _ _ _
theorem Aq(s:ByteArray)(hs:s.size<=140737488355328):au Tryz.prog 247 [.string s,.string ⟨#[45]⟩] [] (λv Post=>∃t,v=.tuple #[.string t,.bool (decide ((kB s).head? =some 45))]/\kB t=(if(kB s).head? =some 45 then(kB s).tail else kB s)/\t.size<=s.size/\Post=[]):=by
 have d:=kV s;have j:∀(h:1<=s.size),s.extract 0 1=⟨#[45]⟩↔(kB s).head? =some 45:=λh=>by
  have g:kB (s.extract 0 1)=(kB s).take 1:=by rw[ji,vy]
  cases hx:kB s with
  |nil=>rw[hx]at d;simp at d;omega
  |cons a r=>
   rw[hx]at g;constructor
   .intro e;rw[e]at g;have:[45]=[a]:=g;simp at this;simp[<- this]
   .intro e;simp at e;apply jQ;rw[g,e];rfl
 have m:au Tryz.prog 281 [.string s,.string ⟨#[45]⟩] [] (λv Post=>v=.bool (decide ((kB s).head? =some 45))/\Post=[]):=by
  refine au.intro low281 Zn9 ?_;refine ae ?_;rw[show(((⟨#[45]⟩:ByteArray).size:Nat):Int)=1 from rfl];by_cases h:1<=s.size
  .rw[Zt (show(s.size:Int) ≥ 1 by omega)];refine ae ?_;rw[show(((⟨#[45]⟩:ByteArray).size:Nat):Int)=1 from rfl];refine eD (l:=0) (h:=1) Zr .YW (.num Zr) Zo ?_;refine ae ?_;refine⟨.inr rfl,_,_,.tmp Zr .nil,ZI,?_,rfl⟩;simp only[bN,j h]
  .exact zD0
 have hcut:au Tryz.prog 264 [.string s,.string ⟨#[45]⟩] [] (λv Post=>∃t,v=.tuple #[.string t,.bool (decide ((kB s).head? =some 45))]/\kB t=(if(kB s).head? =some 45 then(kB s).tail else kB s)/\t.size<=s.size/\Post=[]):=by
  refine au.intro low264 Zn9 ?_;refine ae ?_;refine kL m Zr ?_;by_cases h:(kB s).head? =some 45
  .have lh:1<=s.size:=by
    cases g:kB s with
    |nil=>rw[g]at h;cases h
    |cons a r=>rw[<- d,g];simp
   rw[Zt h];refine ae ?_;rw[show(((⟨#[45]⟩:ByteArray).size:Nat):Int)=1 from rfl];refine eD (l:=1) (h:=s.size) Zr (.num Zr) .YW Zo ?_;refine ae ?_;have g:kB (s.extract 1 s.size)=(kB s).tail:=by rw[ji,Ql Zo,List.drop_one]
   refine kG (Post:=[]) (.inr rfl) (.tmp Zr (.tmp Zr .nil)) ⟨_,rfl,by rw[if_pos h,g],?_,rfl⟩ ZI;rw[<- kV,g,<- d];simp
  .rw[Zf h];refine ae ?_;refine kG (Post:=[]) (.inr rfl) (.tmp Zr (.tmp Zr .nil)) ⟨_,rfl,by rw[if_neg h],Qt _,rfl⟩ ZI
 refine au.intro low247 Zn9 ?_;exact zCF
theorem Dz(s:ByteArray)(hs:s.size<=140737488355328):au Tryz.prog 282 [.string s,.int .u8 48] [] (λv Post=>∃t,v=.string t/\kB t=(kB s).dropWhile (λc=>decide (c=48))/\Post=[]):=by
 refine au.intro low282 Zn9 ?_;refine ae ?_;refine VC.loop (α:=ByteArray) (bg:=λt=>[(0,.string t),(1,.int .u8 48)]) (Hf:=λ_=>[]) (I:=λt=>t.size<=s.size/\(kB t).dropWhile (λc=>decide (c=48))=(kB s).dropWhile (λc=>decide (c=48))) (μ:=λt=>t.size) s ⟨Qt _,rfl⟩ ZU ZI ?_
 rintro t ⟨i1,m⟩
 have d:=kV t;refine ae ?_;by_cases h0:t=⟨#[]⟩
 .subst h0;refine ae ?_;refine kG (Post:=[]) (.inr rfl) (.tmp Zr .nil) ⟨_,rfl,by rw[<- m];rfl,rfl⟩ ZI
 obtain⟨c,r,A,g,uQ,lh⟩:=eK h0;rw[Zt (show(t.size:Int) > 0 by omega)];refine ae ?_;refine wO Zr Zr (j:=0) rfl A ?_;refine ae ?_;by_cases h48:c.toNat=48
 .rw[show decide ((c.toNat:Int)=48)=true from Zt Zo];refine ae ?_;refine eD (l:=1) (h:=t.size) Zr (.num Zr) .YW Zo ?_;refine ae ?_;have q:kB (t.extract 1 t.size)=r:=by rw[ji,Ql Zo,List.drop_one,g];rfl
  have hz:(t.extract 1 t.size).size+1=t.size:=by rw[<- kV,q,<- d,g];rfl
  refine⟨t.extract 1 t.size,⟨Zo,?_⟩,Zo,ZU,ZI⟩;rw[q,<- m,g,List.dropWhile_cons_of_pos (by simp[h48])]
 .rw[show decide ((c.toNat:Int)=48)=false from Zf Zo];refine ae ?_;refine kG (Post:=[]) (.inr rfl) (.tmp Zr .nil) ⟨_,rfl,?_,rfl⟩ ZI;rw[<- m,g,List.dropWhile_cons_of_neg (by simp[h48])]
theorem oS(l:List Nat):wP l=if l.dropWhile (λc=>decide (c=48))=[]/\l≠[]then [48]else l.dropWhile (λc=>decide (c=48)):=by
 induction l with
 |nil=>rfl
 |cons a l ih=>
  by_cases ha:a=48
  .subst ha;cases l with
   |nil=>rfl
   |cons b r=>
    rw[wP,ih,show List.dropWhile (λc=>decide (c=48)) (48::b::r)=List.dropWhile (λc=>decide (c=48)) (b::r)from List.dropWhile_cons_of_pos Zs];simp
  .rw[List.dropWhile_cons_of_neg (by simp[ha])];have:wP (a::l)=a::l:=by
    cases l with
    |nil=>simp[wP]
    |cons b r=>simp[wP,ha]
   simp[this]
theorem LX(s:ByteArray)(B:s.size<=140737488355328):au Tryz.prog 248 [.string s] [] (λv Post=>∃t,v=.string t/\kB t=wP (kB s)/\Post=[]):=by
 have d:au Tryz.prog 265 [.string s,.string ⟨#[48]⟩] [] (λv Post=>∃t,v=.string t/\kB t=(kB s).dropWhile (λc=>decide (c=48))/\Post=[]):=by
  refine au.intro low265 Zn9 ?_;refine ae ?_;by_cases h0:s=⟨#[]⟩
  .subst h0;refine ae ?_;refine kG (Post:=[]) (.inr rfl) (.tmp Zr .nil) ⟨_,rfl,rfl,rfl⟩ ZI
  rw[Zf h0];refine ae ?_;refine kH (Dz s B) Zr ZP (λv Post q=>?_);obtain⟨t,rfl,j,rfl⟩:=q;simp only[QV];refine ae ?_;refine kG (Post:=[]) (.inr rfl) (.tmp Zr .nil) ⟨_,rfl,j,rfl⟩ ZI
 refine au.intro low248 Zn9 ?_;refine ae ?_;refine kH d Zr ZP (λv Post q=>?_);obtain⟨t,rfl,j,rfl⟩:=q;simp only[QV];refine ae ?_;have m:=oS (kB s);rw[<- j]at m;by_cases ht:t=⟨#[]⟩
 .rw[Zt ht];have g:kB t=[]:=by rw[ht];rfl
  refine ae ?_;by_cases h0:s=⟨#[]⟩
  .subst h0;refine ae ?_;refine kG (Post:=[]) (.inr rfl) (.tmp Zr .nil) ⟨_,rfl,by rw[g];rfl,rfl⟩ ZI
  .rw[Zf h0,vP];have A:kB s≠[]:=λe=>h0 (jQ (by rw[e];rfl))
   refine ae ?_;refine kG (Post:=[]) (.inr rfl) (.tmp Zr .nil) ⟨_,rfl,by rw[m,if_pos ⟨g,A⟩];rfl,rfl⟩ ZI
 .rw[Zf ht];have g:kB t≠[]:=λe=>ht (jQ (by rw[e];rfl))
  refine ae ?_;refine kG (Post:=[]) (.inr rfl) (.tmp Zr .nil) ⟨_,rfl,by rw[m,if_neg (λh=>g h.1)],rfl⟩ ZI
def z9(m:Bool)(l:List Nat):Prop:=l.length<=19/\zc l<=(if m=true then 1152921504606846976 else 1152921504606846975)
def ny(m:Bool)(t:ByteArray)(v:Value):Prop:=
 (z9 m (kB t)/\v=.agg #[cv 4,vi (if m=true then -(zc (kB t):Int)else(zc (kB t):Int)),uv 0,.string ⟨#[]⟩,Nz])∨
 (¬z9 m (kB t)/\∃u,v=.agg #[cv 5,vi 0,uv 0,.string u,Nz]/\kB u=if m=true then 45::kB t else kB t)
theorem MB(A:List kC)(C:oD A)(t:ByteArray)(B:kB t≠[])(D:(kB t).all wX=true)(hl:t.size<=255)(m:Bool):au Tryz.prog 249 [.string t,.bool m] [A] (λv Post=>ny m t v/\Post=[A]):=by
 refine au.intro low249 Zn9 ?_;have s:=kV t;have hcat:y9 .add (.string ⟨#[45]⟩) (.string t)=some (.string (⟨#[45]⟩++t)):=if_pos (by show 1+t.size<=9223372036854775807;omega);refine ae ?_;refine kK (λb=>?_);refine ae ?_;by_cases h19:t.size<=19;rotate_left
 .rw[Zf (show ¬(t.size:Int)<=19 by omega)];have C8:¬z9 m (kB t):=λg=>by have:=g.1;omega
  cases m with
  |true=>
   exact zB3
  |false=>
   exact zBU
 rw[Zt (show(t.size:Int)<=19 by omega)];refine ae ?_;refine kH (iL A C t B D h19) Zr ZP (λv Post E=>?_);rcases E with⟨⟨hn,rfl⟩|⟨hn,z,ty,pp,rfl,hz⟩,rfl⟩
 .simp only[aE];obtain⟨N,j⟩:∃N,zc (kB t)=N:=⟨_,rfl⟩;rw[j]at hn|-;have d:∀m,z9 m (kB t)↔N<=(if m=true then 1152921504606846976 else 1152921504606846975):=λm=>by
   unfold z9;rw[j];exact⟨λh=>h.2,λh=>⟨Zo,h⟩⟩
  cases m with
  |true=>
   refine ae ?_;rw[show IntKind.i64.wrap (0 - (N:Int))=-(N:Int) by rw[Int.zero_sub];exact wrap64 ⟨Zo,Zo⟩];by_cases g:N<=1152921504606846976
   .have q:z9 true (kB t):=(d true).2 g;rw[Zt (show(-1152921504606846976:Int)<=-(N:Int) by omega)];refine ae ?_;rw[Zt (show -(N:Int)<=1152921504606846975 by omega)];refine ae ?_;refine⟨.inr rfl,_,_,.aI (us:=[cv 4,vi (-(N:Int)),uv 0,.string ⟨#[]⟩,Nz]) Zr Zr Kb .nil,ZI,.inl ⟨q,by rw[j];rfl⟩,rfl⟩
   .have C8:¬z9 true (kB t):=λh=>g ((d true).1 h)
    rw[Zf (show ¬(-1152921504606846976:Int)<=-(N:Int) by omega)];exact zB3
  |false=>
   refine ae ?_;by_cases g:N<=1152921504606846975
   .have q:z9 false (kB t):=(d false).2 g;rw[Zt (show(N:Int)<=1152921504606846975 by omega)];refine ae ?_;refine⟨.inr rfl,_,_,.aI (us:=[cv 4,vi (N:Int),uv 0,.string ⟨#[]⟩,Nz]) Zr Zr Kb .nil,ZI,.inl ⟨q,by rw[j];rfl⟩,rfl⟩
   .have C8:¬z9 false (kB t):=λh=>g ((d false).1 h)
    rw[Zf (show ¬(N:Int)<=1152921504606846975 by omega)];exact zBU
 .simp only[aE];have C8:¬z9 m (kB t):=λg=>by have:=g.2;split at this <;> omega
  cases m with
  |true=>
   exact zB3
  |false=>
   exact zBU
def zK(l:List Nat):List Nat:=if l.head? =some 45 then l.tail else l
def zd(l:List Nat):Bool:=decide (l.head? =some 45)
def yf(l:List Nat):Bool:=decide (zK l≠[])&&decide ((wP (zK l)).length<=255)&&(zK l).all wX
def Hv(s:ByteArray)(v:Value):Prop:=
 (yf (kB s)=false/\v=.tuple #[.agg #[cv 0,vi 0,uv 0,.string ⟨#[]⟩,Nz],vi 144])∨
 (yf (kB s)=true/\∃t u,kB t=wP (zK (kB s))/\ny (zd (kB s)) t u/\v=.tuple #[u,vi 0])
theorem Cb {l:List Nat}(h:l.all wX=true):(wP l).all wX=true:=by
 rw[oS];split
 .rfl
 .rw[vg]at h|-;intro x d;exact h x ((List.dropWhile_sublist _).subset d)
theorem Ey {l:List Nat}(h:l≠[]):wP l≠[]:=by
 rw[oS];split
 .simp
 .rename_i d;intro e;exact d ⟨e,h⟩
theorem F8(A:List kC)(O:oD A)(s:ByteArray)(W:s.size<=140737488355328):au Tryz.prog 227 [.string s] [A] (λv Post=>Hv s v/\Post=[A]):=by
 refine au.intro low227 Zn9 ?_;refine ae ?_;refine kK (λb=>?_);refine ae ?_;refine kH (Aq s W) Zr ZP (λv Post q=>?_);obtain⟨d,rfl,Q,S,rfl⟩:=q;simp only[QV];have g:kB d=zK (kB s):=Q;have U:decide ((kB s).head? =some 45)=zd (kB s):=rfl;rw[U];obtain⟨m,H⟩:∃m,zd (kB s)=m:=⟨_,rfl⟩;rw[H];refine ae ?_;refine kH (LX d Zo) Zr ZP (λv Post q=>?_);obtain⟨t,rfl,E,rfl⟩:=q;simp only[QV];have K:=kV t;have T:=kV d;have M4:yf (kB s)=false->Hv s (.tuple #[.agg #[cv 0,vi 0,uv 0,.string ⟨#[]⟩,Nz],vi 144]):=λh=>.inl ⟨h,rfl⟩
 have D:yf (kB s)=(decide (kB d≠[])&&decide (t.size<=255)&&(kB d).all wX):=by
  unfold yf;rw[<- g,<- E,K]
 refine ae ?_;by_cases h0:d=⟨#[]⟩
 .rw[Zt h0];have hb:yf (kB s)=false:=by rw[D,h0];rfl
  exact zBV
 rw[Zf h0];have B:kB d≠[]:=λe=>h0 (jQ (by rw[e];rfl))
 refine ae ?_;by_cases tM:t.size<=255;rotate_left
 .rw[Zt (show(t.size:Int) > 255 by omega)];have hb:yf (kB s)=false:=by rw[D,Zf tM];simp
  exact zBV
 rw[Zf (show ¬(t.size:Int) > 255 by omega)];refine ae ?_;have L:=Co d Zo 0 Zo (.func (.func 197) #[] #[]) (λ_=>[]) (λk=>wX ((kB d).getD k 0)) (λk x _ hx=>eH.cB (by
  rw[Vh,hx];exact qA _ (zt d _ (Zv hx))))
 refine kH L Zr ZP (λv Post q=>?_);obtain⟨e,j,rfl,e1,e2,M,N,rfl⟩:=q;have C:=ML (l:=kB d) (p:=wX) (e:=e) Zo (λk I=>M k Zo I) (λI=>N Zo);simp only[QV];refine ae ?_;by_cases he:e=(kB d).length;rotate_left
 .have hb:yf (kB s)=false:=by rw[D,C,Zf he];simp
  rw[Zf (show ¬(e:Int)=(d.size:Int) by omega)];exact zBV
 rw[Zt (show(e:Int)=(d.size:Int) by omega)];rw[Zt he]at C;have G:yf (kB s)=true:=by rw[D,C,Zt tM,Zt B];rfl
 refine ae ?_;refine kH (MB A O t (by rw[E];exact Ey B) (by rw[E];exact Cb C) tM m) Zr ZP (λv Post q=>?_);obtain⟨J,rfl⟩:=q;have fin:∀u,ny m t u->Hv s (.tuple #[u,vi 0]):=λu X=>.inr ⟨G,t,u,by rw[E,g],by rw[H];exact X,rfl⟩
 have F:=fin _ J;simp only[aE];rcases J with⟨_,rfl⟩|⟨_,u,rfl,_⟩
 .generalize (if m=true then -(zc (kB t):Int)else(zc (kB t):Int))=z at F|-;refine ae ?_;refine⟨.inr rfl,_,_,.aI (us:=[cv 4,vi z,uv 0,.string ⟨#[]⟩,Nz]) Zr Zr Kb (.tmp Zr .nil),ZI,F,rfl⟩
 .refine ae ?_;refine⟨.inr rfl,_,_,.aI (us:=[cv 5,vi 0,uv 0,.string u,Nz]) Zr Zr Kb (.tmp Zr .nil),ZI,F,rfl⟩
theorem Po(l:List Nat):n6 l=(decide (zK l≠[])&&(zK l).all wX&&decide (wP (zK l)=zK l)&&decide ((zK l).length<=255)&&decide ((if zd l=true then 1152921504606846976 else 1152921504606846975) < zc (zK l))):=by
 unfold n6;cases l with
 |nil=>rfl
 |cons a r=>
  by_cases ha:a=45
  .subst ha;rfl
  .have j:zK (a::r)=a::r:=by simp[zK,ha]
   have q:zd (a::r)=false:=by simp[zd,ha]
   rw[j,q];split;rename_i d m h;split at h
   .rename_i g;cases g;exact absurd rfl ha
   .cases h;rfl
theorem xk {d:List Nat}{m:Bool}(A:d≠[])(C:d.all wX=true)(g:wP d=d):z9 m d↔¬(if m=true then 1152921504606846976 else 1152921504606846975) < zc d:=by
 unfold z9;constructor
 .intro h;have:=h.2;omega
 .intro h;refine⟨?_,Zo⟩;apply Classical.byContradiction;intro s;cases d with
  |nil=>exact A rfl
  |cons c r=>
   have hc:c≠48:=by
    intro e;subst e;cases r with
    |nil=>simp at s
    |cons b q=>
     rw[oS]at g;split at g
     .cases g
     .rw[List.dropWhile_cons_of_pos Zs]at g;have j:=(List.dropWhile_sublist (l:=b::q) (λc=>decide (c=48))).length_le;rw[g]at j;simp at j;omega
   have D:=vg.1 C c Zs;simp only[wX,vG,decide_eq_true_eq]at D;have j:=numL_ge r (0*10+(c - 48)) 0 tj;have B:zc (c::r)=r.foldl (λn c=>n*10+(c - 48)) (0*10+(c - 48)):=rfl;have h3:(10:Nat) ^ 19<=10 ^ (0+r.length):=Nat.pow_le_pow_right Zo (by simp at s;omega);have h4:(10:Nat) ^ 19=10000000000000000000:=by decide
   rw[<- B]at j;split at h <;> omega
theorem RM(l:List Nat):(if zd l=true then 45::zK l else zK l)=l:=by
 cases l with
 |nil=>rfl
 |cons a r=>
  by_cases ha:a=45
  .subst ha;rfl
  .simp[zd,zK,ha]
theorem Hv.large {s:ByteArray}{v:Value}(h:Hv s v):∃(k:Nat) (n:Int) (t:ByteArray) (e:Nat),v=.tuple #[.agg #[cv k,vi n,uv 0,.string t,Nz],vi e]/\(e=0/\k=5/\t=s↔n6 (kB s)=true):=by
 have m:=Po (kB s);rcases h with⟨hg,rfl⟩|⟨hg,t,u,ht,hw,rfl⟩
 .refine⟨0,0,_,144,rfl,⟨λh=>by simp at h,λh=>?_⟩⟩;rw[m]at h;simp only[vG,decide_eq_true_eq]at h;unfold yf at hg;rw[h.1.1.2,Zt h.1.1.1.1,h.1.1.1.2,Zt h.1.2]at hg;cases hg
 .simp only[yf,vG,decide_eq_true_eq]at hg;obtain⟨⟨q,B⟩,A⟩:=hg;have d:=RM (kB s);rcases hw with⟨hs,rfl⟩|⟨hs,u,rfl,hu⟩
  .refine⟨4,_,_,0,rfl,⟨λh=>by simp at h,λh=>?_⟩⟩;rw[m]at h;simp only[vG,decide_eq_true_eq]at h;rw[ht,h.1.1.2]at hs;exact absurd h.2 ((xk q A h.1.1.2).1 hs)
  .refine⟨5,0,u,0,rfl,⟨λh=>?_,λh=>?_⟩⟩
   .have j:wP (zK (kB s))=zK (kB s):=by
     have g:(if zd (kB s)=true then 45::wP (zK (kB s))else wP (zK (kB s)))=(if zd (kB s)=true then 45::zK (kB s)else zK (kB s)):=by
      rw[d,<- ht,<- hu,h.2.2]
     cases hm:zd (kB s)with
     |true=>rw[hm]at g;simpa using g
     |false=>rw[hm]at g;simpa using g
    rw[m];rw[ht,j,xk q A j]at hs;simp only[vG,decide_eq_true_eq];rw[j]at B;exact⟨⟨⟨⟨q,A⟩,j⟩,B⟩,Classical.not_not.1 hs⟩
   .rw[m]at h;simp only[vG,decide_eq_true_eq]at h;refine⟨rfl,rfl,jQ ?_⟩;rw[hu,ht,h.1.1.2,d]
def YR:Value:=.iface 262 (.agg #[vi 150])
def wn:List PanicEntry:=[{v:=YR,recovered:=false}]
theorem jI(b:Bool):ju Tryz.prog 104 [.bool b] [] (λv Post=>b=true/\v=.tuple #[]/\Post=[]) (λd Post=>b=false/\d=wn/\Post=[]):=by
 refine ju.intro low104 Zn9 ?_;cases b with
 |true=>
  refine ae ?_;exact jT (kG (Post:=[]) (.inl rfl) .nil ⟨by trivial,rfl,rfl⟩ ZI)
 |false=>
  refine ae ?_;refine Yc Zr ?_;exact⟨[],ai.nil,by trivial,rfl,rfl⟩
theorem free_spec(s:ByteArray)(j:s.size<=140737488355328):au Tryz.prog 168 [.string s] [] (λv Post=>v=.bool (jF s)/\Post=[]):=by
 refine au.intro low168 Zn9 ?_;have d:∀t:ByteArray,kB t∈zz->s=t->jF s=false:=λt m e=>by
  subst e;have:zz.contains (kB s)=true:=vt.2 m;unfold jF;rw[this];rfl
 refine ae ?_;by_cases h1:s=⟨#[115,101,108,102]⟩
 .have hf:=d _ Zd h1;rw[Zt h1];exact Zy
 rw[Zf h1];refine ae ?_;by_cases h2:s=⟨#[115,117,112,101,114]⟩
 .have hf:=d _ Zd h2;rw[Zt h2];exact Zy
 rw[Zf h2];refine ae ?_;by_cases h3:s=⟨#[110,105,108]⟩
 .have hf:=d _ Zd h3;rw[Zt h3];exact Zy
 rw[Zf h3];refine ae ?_;by_cases h4:s=⟨#[116,114,117,101]⟩
 .have hf:=d _ Zd h4;rw[Zt h4];exact Zy
 rw[Zf h4];refine ae ?_;by_cases h5:s=⟨#[102,97,108,115,101]⟩
 .have hf:=d _ Zd h5;rw[Zt h5];exact Zy
 rw[Zf h5];have g:zz.contains (kB s)=false:=by
  exact zBG
 have hf:jF s=wm s:=by unfold jF;rw[g];rfl
 refine ae ?_;refine kL (oM s j) Zr ?_;exact Zy
theorem I6(s:ByteArray)(d:s.size<=140737488355328):au Tryz.prog 167 [.string s] [] (λv Post=>v=.bool (!jF s)/\Post=[]):=by
 refine au.intro low167 Zn9 ?_;refine ae ?_;refine kL (free_spec s d) Zr ?_;exact zCG
theorem A6(B:List kC)(v:Value)(l:List ByteArray)(h:cO B v l):au Tryz.prog 166 [v,.func (.func 167) #[] #[]] [B] (λu Post=>u=.bool (!l.all jF)/\Post=[B]):=by
 obtain⟨a,c,rfl,hl,E⟩:=h;have D:au Tryz.prog 201 [.slice a l.length c,.func (.func 167) #[] #[]] [B] (λu Post=>(∃i:Int,u=vi i/\decide (0<=i)=!l.all jF)/\Post=[B]):=by
  refine au.intro low201 Zn9 ?_;refine ae ?_;refine VC.loop (α:=Nat) (bg:=λk=>[(0,.slice a l.length c),(1,.func (.func 167) #[] #[]),(7,vi l.length),(8,vi k)]) (Hf:=λ_=>[B]) (I:=λk=>k<=l.length/\(l.take k).all jF=true) (μ:=λk=>l.length - k) 0 ⟨X3 _,rfl⟩ ZU (ai.refl _) ?_
  rintro k ⟨i1,m⟩
  refine ae ?_;by_cases hk:k < l.length;rotate_left
  .rw[Zf (show ¬(k:Int) < (l.length:Int) by omega)];have:l.take k=l:=Ql Zo;rw[this]at m;refine ae ?_;refine kG (Post:=[B]) (.inr rfl) (.tmp Zr .nil) ⟨⟨-1,rfl,by rw[m];rfl⟩,rfl⟩ ZI
  rw[Zt (show(k:Int) < (l.length:Int) by omega)];have s:l[k]? =some l[k]:=Zg hk;obtain⟨b,o,rfl,hm,C⟩:=E k _ s;have q:(l.take (k+1)).all jF=jF l[k]:=by
   rw[Qi,s,List.all_append,m];simp
  have A:jF l[k]=false->l.all jF=false:=λd=>by
   rw[<- Qj (k+1) l,List.all_append,q,d,vL]
  generalize l[k]=t at*;have g:eH Tryz.prog (.func (.func 167) #[] #[]) [.string t] [] (λv Post=>v=.bool (!jF t)/\Post=[]):=eH.cB (I6 t C);refine ae ?_;refine fj Zr g Zr ZP (λv Post j=>?_);obtain⟨rfl,rfl⟩:=j;simp only[QV];cases d:jF t with
  |true=>
   refine ae ?_;exact⟨k+1,⟨Zo,by rw[q,d]⟩,Zo,ZU,ZI⟩
  |false=>
   refine ae ?_;refine kG (Post:=[B]) (.inr rfl) (.tmp Zr .nil) ⟨⟨k,rfl,by rw[A d];simp⟩,rfl⟩ ZI
 refine au.intro low166 Zn9 ?_;refine ae ?_;refine kH D Zr ZP (λv Post j=>?_);obtain⟨⟨i,rfl,h⟩,rfl⟩:=j;simp only[aE];refine ae ?_;refine kG (Post:=[B]) (.inr rfl) (.tmp Zr .nil) ⟨by rw[<- h];rfl,rfl⟩ ZI
abbrev bh (lb:Nat)(m d:Bool):List kC:=kA lb 0 [.bool m,.bool d]
def LkQ(A:List kC)(lb:Nat)(m0 deep:Bool)(r:Rs):Value->SH->Prop:=λv Post=>∃(d:Nat) (m:Bool),r=some (d,m)/\v=vi d/\Post=[A,bh lb (m0||m) deep]
def LkZ(A:List kC)(lb:Nat)(deep:Bool)(r:Rs):List PanicEntry->SH->Prop:=λch Post=>r=none/\ch=wn/\∃m,Post=[A,bh lb m deep]
abbrev CZ (f:Nat)(args:List Value)(A:List kC)(lb:Nat)(m0 deep:Bool)(r:Rs):Prop:=ju Tryz.prog f args [A,bh lb m0 deep] (LkQ A lb m0 deep r) (LkZ A lb deep r)
theorem gN(B:List kC)(v:Value)(l:List ByteArray)(h:cO B v l)(lb d:Nat)(g deep:Bool):ju Tryz.prog 106 [kE lb,vi d,v] [B,bh lb g deep]
 (λv Post=>l.all jF=true/\v=.tuple #[]/\Post=[B,bh lb (g||decide (d < l.length)) deep]) (λch Post=>l.all jF=false/\ch=wn/\∃m,Post=[B,bh lb m deep]):=by
 refine ju.intro low106 Zn9 ?_;have hc:=A6 B v l h;obtain⟨a,c,rfl,hl,hr⟩:=h;cases g with
 |true=>
  exact zB0
 |false=>
  refine ae ?_;by_cases hm:d < l.length
  .rw[show decide ((l.length:Int) > (d:Int))=true from Zt Zo,Zt hm];exact zB0
  .rw[show decide ((l.length:Int) > (d:Int))=false from Zf Zo,Zf hm];refine ae ?_;refine kH hc Zr ZP (λv Post hv=>?_);obtain⟨rfl,rfl⟩:=hv;simp only[aE];refine ae ?_;refine kN (jI _) Zr ZP (λv Post hv=>?_) (λch Post hz=>?_)
   .obtain⟨h1,rfl,rfl⟩:=hv;simp only[QV];refine ae ?_;exact jT (kG (Post:=[B,bh lb false deep]) (.inl rfl) .nil ⟨by simpa using h1,rfl,rfl⟩ ZI)
   .obtain⟨h1,rfl,rfl⟩:=hz;exact⟨[B,bh lb false deep],ZI,by simpa using h1,rfl,false,rfl⟩
theorem sq {A:List kC}{x:Nd}{vs:List Value}(h:jN A x vs):∃d c3 g j m q s c9 B,vs=[cv x.kind,.string x.name,d,c3,g,j,m,q,s,c9,B]/\x.name.size<=140737488355328/\x.kind < 256:=by
 cases h with
 |mk wf hl bD bB ha hm hr=>
  cases hl with
  |mk Se Im qK cP=>exact⟨_,_,_,_,_,_,_,_,_,rfl,wf.name,wf.kind⟩
def zk(A:List kC)(x:Nd)(vs:List Value):Prop:=(∀lb m0 deep,CZ 169 [kE lb,.agg vs.toArray] A lb m0 deep (kM x))/\∀d m,kM x=some (d,m)->d<=1099511627776
theorem Rw(A:List kC)(x:Nd)(vs:List Value)(h:jN A x vs)(N:zk A x vs)(place lb:Nat)(m0 deep:Bool):CZ 206 [kE lb,.agg vs.toArray,vi place] A lb m0 deep (uX x place (kM x)):=by
 obtain⟨C,m⟩:=N;obtain⟨F,c3,G,H,I,J,K,c9,O,rfl,L,hk⟩:=sq h;have D:wE x=fO x.kind x.name:=rfl;have B:=Lx x.kind x.name L F c3 G H I J K c9 O;have E:=C lb m0 deep;refine ju.intro low206 Zn9 ?_;unfold uX;rw[D];generalize x.kind=k at*;generalize x.name=s at*;generalize kM x=r at*;generalize fO k s=lv at*;refine ae ?_;refine kX Zr (λq=>?_);simp only[Value.cells];refine ae ?_;by_cases h9:k=9
 .have aG:kQ (decide (k≠9/\k≠6)) (if lv < place then wy r else r)=none:=by simp[kQ,h9]
  rw[show decide ((k:Int)=9)=true from Zt Zo,vQ];exact DE
 rw[show decide ((k:Int)=9)=false from Zf Zo,vP];refine ae ?_;by_cases h6:k=6
 .have aG:kQ (decide (k≠9/\k≠6)) (if lv < place then wy r else r)=none:=by simp[kQ,h6]
  rw[show decide ((k:Int)=6)=true from Zt Zo,vQ];exact DE
 rw[show decide ((k:Int)=6)=false from Zf Zo,vP];have g:kQ (decide (k≠9/\k≠6)) (if lv < place then wy r else r)=(if lv < place then wy r else r):=by simp[kQ,h9,h6]
 rw[g];refine ae ?_;refine kN (jI true) Zr ZP (λv Post hv=>?_) Kc;obtain⟨_,rfl,rfl⟩:=hv;simp only[QV];refine ae ?_;refine kN E Zr ZP (λv Post hv=>?_) (λch Post hz=>?_);rotate_left
 .obtain⟨M,rfl,m2,rfl⟩:=hz;exact⟨[A,bh lb m2 deep],ZI,by rw[M];split <;> rfl,rfl,m2,rfl⟩
 obtain⟨d,m2,j,rfl,rfl⟩:=hv;have hd:=m d m2 j;simp only[aE];refine ae ?_;refine kL B Zr ?_;refine ae ?_;by_cases aJ:lv < place
 .rw[show decide ((lv:Int) < (place:Int))=true from Zt Zo];refine ae ?_;refine jT (kG (Post:=[A,bh lb (m0||m2) deep]) (.inr rfl) (.tmp Zr .nil) ⟨d+1,m2,by rw[if_pos aJ,j];rfl,rfl,rfl⟩ ZI)
 .rw[show decide ((lv:Int) < (place:Int))=false from Zf Zo];refine ae ?_;refine jT (kG (Post:=[A,bh lb (m0||m2) deep]) (.inr rfl) (.tmp Zr .nil) ⟨d,m2,by rw[if_neg aJ,j],rfl,rfl⟩ ZI)
theorem yQ(A:List kC)(x:Nd)(vs:List Value)(h:jN A x vs)(H:zk A x vs)(place lb:Nat)(m0 deep:Bool):CZ 170 [kE lb,.agg vs.toArray,vi place] A lb m0 deep (jX x place (kM x)):=by
 have I:=Rw A x vs h H place lb m0 deep;obtain⟨m,c3,s,B,C,D,E,c9,J,rfl,fq,hk⟩:=sq h;have j:jR x=zU x.kind x.name:=rfl;have g:=Cv x.kind x.name m c3 s B C D E c9 J;refine ju.intro low170 Zn9 ?_;unfold jX;rw[j];generalize uX x place (kM x)=r at*;refine ae ?_;refine kX Zr (λq=>?_);simp only[Value.cells];refine ae ?_;refine kL g Zr ?_;cases hs:zU x.kind x.name with
 |true=>
  have aG:kQ (!true) r=none:=rfl;exact DE
 |false=>
  have G:kQ (!false) r=r:=rfl;rw[G];refine ae ?_;refine kN (jI true) Zr ZP (λv Post hv=>?_) Kc;obtain⟨_,rfl,rfl⟩:=hv;simp only[QV];refine ae ?_;refine kN I Zr ZP (λv Post hv=>?_) (λch Post hz=>?_);rotate_left
  .obtain⟨F,rfl,m2,rfl⟩:=hz;exact⟨[A,bh lb m2 deep],ZI,F,rfl,m2,rfl⟩
  exact zD1
theorem AA(A:List kC)(x:Nd)(vs:List Value)(h:jN A x vs)(G:zk A x vs)(aQ:ByteArray)(bZ:aQ.size<=140737488355328)(lb:Nat)(m0 deep:Bool):CZ 203 [kE lb,.agg vs.toArray,.string aQ] A lb m0 deep (wx x aQ (kM x)):=by
 have hv:=yQ A x vs h G (gQ aQ) lb m0 deep;have J:=G.1 lb m0 deep;obtain⟨g,c3,j,s,B,C,D,c9,E,rfl,fq,hk⟩:=sq h;have I:jR x=zU x.kind x.name:=rfl;have F:=Cv x.kind x.name g c3 j s B C D c9 E;refine ju.intro low203 Zn9 ?_;unfold wx;rw[I];refine ae ?_;refine kX Zr (λq=>?_);simp only[Value.cells];refine ae ?_;refine kL F Zr ?_;cases hs:zU x.kind x.name with
 |true=>
  rw[if_pos rfl];refine ae ?_;refine kN J Zr ZP (λv Post hv=>?_) (λch Post hz=>?_);rotate_left
  .obtain⟨N,rfl,m2,rfl⟩:=hz;exact⟨[A,bh lb m2 deep],ZI,N,rfl,m2,rfl⟩
  exact zD1
 |false=>
  rw[if_neg Zs];refine ae ?_;generalize jX x (gQ aQ) (kM x)=r at hv|-;cases r with
  |some dm=>
   obtain⟨d,m2⟩:=dm;have hvf:ju Tryz.prog 170 [kE lb,.agg #[cv x.kind,.string x.name,g,c3,j,s,B,C,D,c9,E],vi (gQ aQ)] [A,bh lb m0 deep] (λv Post=>v=vi d/\Post=[A,bh lb (m0||m2) deep]) (λ_ _=>False):=
    ju.mono hv (λv Post ⟨K,S,e,L,M⟩=>by cases e;exact⟨L,M⟩) (λch Post hz=>by cases hz.1)
   refine VC.seq (VC.draws ⟨?_,?_,trivial⟩)
   .exact zBW
   .exact zBW
  |none=>
   have hvz:ju Tryz.prog 170 [kE lb,.agg #[cv x.kind,.string x.name,g,c3,j,s,B,C,D,c9,E],vi (gQ aQ)] [A,bh lb m0 deep] (λv Post=>False) (λch Post=>ch=wn/\∃m,Post=[A,bh lb m deep]):=
    ju.mono hv (λv Post ⟨K,S,e,_⟩=>by cases e) (λch Post hz=>hz.2)
   refine VC.seq (VC.Av (λch H'=>ch=wn/\∃m,ai H' [A,bh lb m deep]) (λH'=>H'=[kA q 0 [cv x.kind,.string x.name,g,c3,j,s,B,C,D,c9,E],A,bh lb m0 deep]) rfl ?_ (λch H' Q=>?_))
   .intro rs cW;rcases QI.1 cW with rfl|cW
    .skip
     refine kI ?_;refine⟨rfl,.agg #[cv x.kind,.string x.name,g,c3,j,s,B,C,D,c9,E],True,λΓ H bq hH=>?_,?_⟩
     .subst hH;exact yC (bq 4 Zd _ rfl) YV HC
     refine kI ?_;refine⟨rfl,vi (gQ aQ),True,λΓ H bq hH=>?_,?_⟩
     .subst hH;exact kL (iN aQ bZ) (by simp only[V.nt,V.ev,bq 14 Zd _ rfl]) HC
     exact zBQ
    rcases QI.1 cW with rfl|cW
    .skip
     refine kI ?_;refine kI ?_;refine⟨rfl,vi (gQ aQ),True,λΓ H bq hH=>?_,?_⟩
     .subst hH;exact kL (iN aQ bZ) (by simp only[V.nt,V.ev,bq 14 Zd _ rfl]) HC
     refine⟨rfl,.agg #[cv x.kind,.string x.name,g,c3,j,s,B,C,D,c9,E],True,λΓ H bq hH=>?_,?_⟩
     .subst hH;exact yC (bq 4 Zd _ rfl) YV HC
     exact zBQ
    .cases cW
   .obtain⟨rfl,m,O⟩:=Q;exact⟨_,O,rfl,rfl,m,rfl⟩
theorem yF {A:List kC}{y:Nd}{vs:List Value}(h:jN A y vs):∃(q:Nat) (s:Int) (B:Nat) (C:ByteArray) (D:Option Addr) (E F:Nat) (G:Option Addr) (H I:Nat) (J:Option Addr) (K L:Nat) (d:Option Addr) (g j:Nat) (m:Int),
 vs=(rA y.kind y.name q s B C D E F G H I J K L d g j m)/\y.name.size<=140737488355328/\y.kind < 256:=by
 cases h with
 |mk wf hl bD bB ha hm hr=>
  obtain⟨_,_,rfl,_⟩:=bD;obtain⟨_,_,rfl,_⟩:=bB;cases hl with
  |mk Se Im qK cP=>exact⟨_,_,_,_,_,_,_,_,_,_,_,_,_,_,_,_,_,rfl,wf.name,wf.kind⟩
structure yW (A:List kC)(l:List Nd)(a:Option Addr)(bk o:Nat)(us:Nat->List Value):Prop where
 at_:0 < l.length->a=some ⟨bk,o,none⟩
 many:l.length<=140737488355328
 mem:∀i,i < l.length->∀y∈kA bk (o+i*11) (us i),y∈A
 rd:∀i x,l[i]? =some x->jN A x (us i)
 ok:∀i x,l[i]? =some x->zk A x (us i)
theorem nz(A:List kC)(l:List Nd)(a:Option Addr)(c bk o:Nat)(us:Nat->List Value)(hk:yW A l a bk o us)(aQ:ByteArray)(bZ:aQ.size<=140737488355328)(lb:Nat)(m0 deep:Bool):
 CZ 204 [kE lb,.string aQ,.slice a l.length c] A lb m0 deep (fB aQ l (l.map kM)):=by
 refine ju.intro low204 Zn9 ?_;unfold Go.V.fB;rw[fk];obtain⟨RR,cr⟩:∃RR,RR=kQ (decide (kS aQ=l.length)) (z7 (decide (15 < kS aQ)) (jm (l.map λx=>jX x (ni aQ) (kM x)))):=⟨_,rfl⟩;rw[<- cr];have bH:=hk.many;refine ae ?_;refine kL (gp aQ bZ) Zr ?_;refine ae ?_;by_cases dD:kS aQ=(l.length:Int);rotate_left
 .have aG:RR=none:=by simp[cr,kQ,dD]
  rw[Zf dD];exact DE
 have CU:RR=z7 (decide (15 < kS aQ)) (jm (l.map λx=>jX x (ni aQ) (kM x))):=by simp[cr,kQ,dD]
 rw[Zt dD];refine ae ?_;refine kN (jI true) Zr ZP (λv Post hv=>?_) Kc;obtain⟨_,rfl,rfl⟩:=hv;simp only[QV];refine ae ?_;obtain⟨m0',hm0'⟩:∃m0',m0'=m0:=⟨_,rfl⟩;cases m0 with
 |true=>
  obtain⟨mB,Nb⟩:∃b,b=(true||decide (15 < kS aQ)):=⟨_,rfl⟩;have Iy:mB=true:=by rw[Nb,Bool.true_or]
  exact zA2
 |false=>
  obtain⟨mB,Nb⟩:∃b,b=(false||decide (15 < kS aQ)):=⟨_,rfl⟩;have Iy:mB=decide (kS aQ > 15):=by rw[Nb,vN]
  exact zA2
theorem nh(A:List kC)(l:List Nd)(a:Option Addr)(c bk o:Nat)(us:Nat->List Value)(m:yW A l a bk o us)(lb:Nat)(g deep:Bool):
 CZ 107 [kE lb,.slice a l.length c] A lb g deep (jm (wM l (l.map kM))):=by
 refine ju.intro low107 Zn9 ?_;have bH:=m.many;refine ae ?_;refine VC.loop (α:=Nat×Nat×Bool) (bg:=λs=>[(0,kE lb),(1,.slice a l.length c),(5,vi s.2.1),(8,.slice a l.length c),(9,vi l.length),(10,vi s.1)]) (Hf:=λs=>[A,bh lb (g||s.2.2) deep])
  (I:=λs=>s.1<=l.length/\jm ((wM l (l.map kM)).take s.1)=some (s.2.1,s.2.2)) (μ:=λs=>l.length - s.1) (0,0,false) ⟨X3 _,rfl⟩ ZU (by show ai _ [A,bh lb (g||false) deep];rw[vV];exact bT) ?_
 rintro⟨j,d,mm⟩ ⟨E,i2⟩
 simp only at E i2;dsimp only;refine ae ?_;by_cases hj:j < l.length;rotate_left
 .rw[show decide ((j:Int) < (l.length:Int))=false from Zf Zo];rw[Ql (by rw[ry];omega)]at i2;refine ae ?_;refine jT (kG (Post:=[A,bh lb (g||mm) deep]) (.inr rfl) (.tmp Zr .nil) ⟨d,mm,i2,rfl,rfl⟩ ZI)
 obtain rfl:=m.at_ Zo;rw[show decide ((j:Int) < (l.length:Int))=true from Zt Zo];obtain⟨y,D⟩:∃y,l[j]? =some y:=⟨_,Zg hj⟩;have C:=m.rd j y D;have cG:=m.mem j hj;have aC:=ru l j y D;have B:=m.ok j y D;generalize us j=uj at C cG B;obtain⟨e1,e2,e3,e4,e5,e6,e7,e8,e9,xD,xE,xF,xG,Kd,Ke,Kf,YX,rfl,fq,mV⟩:=yF C;refine ae ?_;refine kR Zr CS rfl ?_;refine ae ?_;refine kK (λq=>?_);refine ae ?_;by_cases h9:y.kind=9
 .rw[show decide ((y.kind:Int)=9)=true from Zt Zo];refine ae ?_;by_cases hl:j+1=l.length
  .rw[show decide ((j:Int)=(l.length:Int) - 1)=true from Zt Zo];rw[if_pos ⟨h9,hl⟩]at aC;have hv:=B.1 lb (g||mm) deep;exact zAH
  .rw[show decide ((j:Int)=(l.length:Int) - 1)=false from Zf Zo];rw[if_neg (λh=>hl h.2)]at aC;have hv:=yQ A y _ C B 1 lb (g||mm) deep;exact zAH
 .rw[show decide ((y.kind:Int)=9)=false from Zf Zo];rw[if_neg (λh=>h9 h.1)]at aC;have hv:=yQ A y _ C B 1 lb (g||mm) deep;exact zAH
theorem WY {A:List kC}{y:Nd}{vs:List Value}(h:jN A y vs):∃(m:Nat) (q:Int) (s:Nat) (B:ByteArray) (C:Option Addr) (D E:Nat) (F:Option Addr) (G H:Nat) (I:Option Addr) (J K:Nat) (d:Option Addr) (g j:Nat),
 vs=(rA y.kind y.name m q s B C D E F G H I J K d g j y.at_):=by
 exact zCL
structure zX where
 d:Nat
 mm:Bool
 name:ByteArray
 lk:Nat
 ln:Int
 lb:Nat
 lt:ByteArray
 la:Option Addr
 li:Nat
 lc:Nat
 aa:Option Addr
 an:Nat
 ac:Nat
 ta:Option Addr
 tn:Nat
 tc:Nat
def zX.ok(s:zX):Prop:=s.name.size=0/\s.an=0/\s.tn=0/\s.lk=0/\s.ln=0/\s.lb=0/\s.lt.size=0/\s.li=0
instance nodeSDec (s:zX):Decidable s.ok:=by unfold zX.ok;infer_instance
abbrev zX.cells (s:zX)(k:Nat)(p:Int):List Value:=(rA k s.name s.lk s.ln s.lb s.lt s.la s.li s.lc s.aa s.an s.ac s.ta s.tn s.tc none 0 0 p)
noncomputable def nodeSw:IC:=match SF.body with
 |.seq _ (.seq _ (.seq _ (.seq _ (.seq x _))))=>x
 |_=>.skip
def gh(A:List kC)(x:Nd)(vs:List Value):Prop:=∀(lb q r:Nat) (m0 deep:Bool),
 VC Tryz.prog SF.n nodeSw [(0,kE lb),(3,kE q),(5,kE r),(6,vi 0)] [kA r 0 (vs.set 9 Nz),kA q 0 vs,A,bh lb m0 deep]
  (bK (λaw H'=>∃s:zX,(kM x=if s.ok then some (s.d,s.mm)else none)/\V.Sub aw [(5,kE r),(6,vi s.d)]/\ai H' [A,bh lb (m0||s.mm) deep,kA r 0 (s.cells x.kind x.at_)])
    (ZY SF.bO (LkQ A lb m0 deep (kM x)) (LkZ A lb deep (kM x))))
theorem node_of(A:List kC)(x:Nd)(vs:List Value)(h:jN A x vs)(F:gh A x vs)(lb:Nat)(m0 deep:Bool):CZ 169 [kE lb,.agg vs.toArray] A lb m0 deep (kM x):=by
 have D:=F lb;obtain⟨e1,e2,e3,e4,e5,e6,e7,e8,e9,xD,xE,xF,xG,Kd,Ke,Kf,rfl⟩:=WY h;refine ju.intro low169 (by simp[n169]) ?_;refine jH ?_;refine kX Zr (λq=>?_);simp only[Value.cells];refine jH ?_;refine kK (λr=>?_);refine jH ?_;refine VC.join (α:=zX) (λs=>[(5,kE r),(6,vi s.d)]) (λs=>[A,bh lb (m0||s.mm) deep,kA r 0 (s.cells x.kind x.at_)])
  (λs=>kM x=if s.ok then some (s.d,s.mm)else none) ?_ ?_
 .exact D q r m0 deep
 .rintro⟨d,mm,name,m,C,g,lt,la,j,lc,aa,an,ac,ta,B,tc⟩ E
  simp only at E;rw[E];unfold zX.ok;simp only;refine jH ?_;refine kK (λq2=>?_);refine jH ?_;by_cases h1:name=⟨#[]⟩;rotate_left
  .have cV:¬(name.size=0/\an=0/\B=0/\m=0/\C=0/\g=0/\lt.size=0/\j=0):=λh=>h1 (ByteArray.ext (v6 h.1))
   rw[Zf h1];exact Sz
  rw[Zt h1];refine jH ?_;by_cases h2:an=0;rotate_left
  .have cV:¬(name.size=0/\an=0/\B=0/\m=0/\C=0/\g=0/\lt.size=0/\j=0):=λh=>h2 h.2.1
   rw[show decide ((an:Int)=0)=false from Zf Zo];exact Sz
  rw[show decide ((an:Int)=0)=true from Zt Zo];refine jH ?_;by_cases h3:B=0;rotate_left
  .have cV:¬(name.size=0/\an=0/\B=0/\m=0/\C=0/\g=0/\lt.size=0/\j=0):=λh=>h3 h.2.2.1
   rw[show decide ((B:Int)=0)=false from Zf Zo];exact Sz
  rw[show decide ((B:Int)=0)=true from Zt Zo];refine jH ?_;by_cases h4:m=0;rotate_left
  .have cV:¬(name.size=0/\an=0/\B=0/\m=0/\C=0/\g=0/\lt.size=0/\j=0):=λh=>h4 h.2.2.2.1
   rw[show decide ((m:Int)=0)=false from Zf Zo];exact Sz
  rw[show decide ((m:Int)=0)=true from Zt Zo];refine jH ?_;by_cases h5:C=0;rotate_left
  .have cV:¬(name.size=0/\an=0/\B=0/\m=0/\C=0/\g=0/\lt.size=0/\j=0):=λh=>h5 h.2.2.2.2.1
   rw[Zf h5];exact Sz
  rw[Zt h5];refine jH ?_;by_cases h6:g=0;rotate_left
  .have cV:¬(name.size=0/\an=0/\B=0/\m=0/\C=0/\g=0/\lt.size=0/\j=0):=λh=>h6 h.2.2.2.2.2.1
   rw[show decide ((g:Int)=0)=false from Zf Zo];exact Sz
  rw[show decide ((g:Int)=0)=true from Zt Zo];refine jH ?_;by_cases h7:lt=⟨#[]⟩;rotate_left
  .have cV:¬(name.size=0/\an=0/\B=0/\m=0/\C=0/\g=0/\lt.size=0/\j=0):=λh=>h7 (ByteArray.ext (v6 h.2.2.2.2.2.2.1))
   rw[Zf h7];exact Sz
  rw[Zt h7];refine jH ?_;by_cases h8:j=0;rotate_left
  .have cV:¬(name.size=0/\an=0/\B=0/\m=0/\C=0/\g=0/\lt.size=0/\j=0):=λh=>h8 h.2.2.2.2.2.2.2
   rw[show decide ((j:Int)=0)=false from Zf Zo];exact Sz
  rw[show decide ((j:Int)=0)=true from Zt Zo];refine jH ?_;refine kN (jI true) Zr ZP (λv Post hv=>?_) Kc;obtain⟨_,rfl,rfl⟩:=hv;simp only[QV];refine jH ?_;exact jT (kG (Post:=[A,bh lb (m0||mm) deep]) (.inr rfl) (.tmp Zr .nil) ⟨d,mm,if_pos ⟨by rw[h1];rfl,h2,h3,h4,h5,h6,by rw[h7];rfl,h8⟩,rfl,rfl⟩ ZI)
structure pg where
 d:Nat
 mm:Bool
 n:Int
 b:Nat
 t:ByteArray
 sv:Value
 l:Nat
def pg.ok(s:pg):Prop:=s.n=0/\s.b=0/\s.t.size=0/\s.l=0
instance(s:pg):Decidable s.ok:=by unfold pg.ok;infer_instance
theorem Wk(A:List kC)(Q:oD A):∀(N:Nat) (x:Lt),x.size<=N->x.size<=1099511627776->∀vs,zl A x vs->∀(lb:Nat) (m0 deep inside:Bool),CZ 202 [kE lb,.agg vs.toArray,.bool inside] A lb m0 deep (jS x inside):=by
 intro N
 induction N with
 |zero=>intro x hx;have:=x.size_pos;omega
 |succ N ih=>
  intro x hx hbd vs O lb m0 deep inside;have L:=O;cases O with
  |@mk k n b t items a c bk o us wf ha hm hr=>
  refine ju.intro low202 Zn9 ?_;refine jH ?_;refine kX Zr (λq=>?_);simp only[Value.cells];refine jH ?_;refine kK (λr=>?_);refine jH ?_;refine VC.join (α:=pg) (λs=>[(7,vi s.d),(8,kE r)]) (λs=>[A,bh lb (m0||s.mm) deep,kA r 0 [cv k,vi s.n,uv s.b,.string s.t,s.sv]])
   (λs=>(∃a c,s.sv=.slice a s.l c)/\jS (.mk k n b t items) inside=if s.ok then some (s.d,s.mm)else none) ?_ ?_
  .have mT:=wf.kind;obtain⟨O5,Fv⟩:=wf.n;by_cases k1:k=1
   .subst k1;exact zAK
   by_cases k2:k=2
   .subst k2;exact zAK
   by_cases k3:k=3
   .subst k3;exact zAK
   by_cases k4:k=4
   .subst k4;refine ae ?_;by_cases h1:-1152921504606846976<=n;rotate_left
    .have aG:jS (.mk 4 n b t items) inside=none:=by simp[jS,kQ,h1]
     rw[Zf h1];exact DE
    rw[Zt h1];refine ae ?_;by_cases h2:n<=1152921504606846975;rotate_left
    .have aG:jS (.mk 4 n b t items) inside=none:=by simp[jS,kQ,h2]
     rw[Zf h2];exact DE
    exact zBT
   by_cases k5:k=5
   .subst k5;refine ae ?_;refine kH (F8 A Q t wf.text) Zr ZP (λv Post hv=>?_);obtain⟨S,rfl⟩:=hv;obtain⟨J,nn,T,E,rfl,D⟩:=S.large;simp only[aE];refine ae ?_;refine kK (λq2=>?_);refine ae ?_;by_cases h1:E=0;rotate_left
    .have aG:jS (.mk 5 n b t items) inside=none:=by
      have:n6 (kB t)=false:=vJ.2 λh=>h1 (D.2 h).1
      simp[jS,kQ,this]
     rw[show decide ((E:Int)=0)=false from Zf Zo];exact DE
    rw[show decide ((E:Int)=0)=true from Zt Zo];refine ae ?_;by_cases h2:J=5;rotate_left
    .have aG:jS (.mk 5 n b t items) inside=none:=by
      have:n6 (kB t)=false:=vJ.2 λh=>h2 (D.2 h).2.1
      simp[jS,kQ,this]
     rw[show decide ((J:Int)=5)=false from Zf Zo];exact DE
    rw[show decide ((J:Int)=5)=true from Zt Zo];refine ae ?_;by_cases h3:T=t;rotate_left
    .have aG:jS (.mk 5 n b t items) inside=none:=by
      have:n6 (kB t)=false:=vJ.2 λh=>h3 (D.2 h).2.2
      simp[jS,kQ,this]
     rw[Zf h3];exact DE
    rw[Zt h3];refine ae ?_;refine kN (jI true) Zr ZP (λv Post hv=>?_) Kc;obtain⟨_,rfl,rfl⟩:=hv;simp only[QV];refine ae ?_;have H:=D.1 ⟨h1,h2,h3⟩;refine⟨⟨0,false,n,b,⟨#[]⟩,_,_⟩,⟨⟨_,_,rfl⟩,?_⟩,ZU,by rw[vV];exact bT⟩;simp[jS,kQ,pg.ok,H,show(⟨#[]⟩:ByteArray).size=0 from rfl]
   by_cases k6:k=6
   .subst k6;have G:=wf.bits;refine ae ?_;by_cases h1:b*2 % 18446744073709551616 / 9007199254740992=2047
    .have aG:jS (.mk 6 n b t items) inside=none:=by simp[jS,kQ,h1]
     rw[show decide (((b*2 % 18446744073709551616 / 9007199254740992:Nat):Int)=2047)=true from Zt Zo,vQ];exact DE
    rw[show decide (((b*2 % 18446744073709551616 / 9007199254740992:Nat):Int)=2047)=false from Zf Zo,vP];refine ae ?_;refine kN (jI true) Zr ZP (λv Post hv=>?_) Kc;obtain⟨_,rfl,rfl⟩:=hv;simp only[QV];refine ae ?_;refine⟨⟨0,false,n,0,t,.slice a items.length c,items.length⟩,⟨⟨_,_,rfl⟩,?_⟩,ZU,by rw[vV];show ai _ [A,bh lb m0 deep,kA r 0 [cv 6,vi n,.int .u64 0,.string t,.slice a items.length c]];exact bT⟩;simp[jS,kQ,pg.ok,h1]
   by_cases k7:k=7
   .subst k7;refine ae ?_;by_cases h1:0<=n;rotate_left
    .have aG:jS (.mk 7 n b t items) inside=none:=by simp[jS,kQ,h1]
     rw[Zf h1];exact DE
    rw[Zt h1];refine ae ?_;by_cases h2:n<=255;rotate_left
    .have aG:jS (.mk 7 n b t items) inside=none:=by simp[jS,kQ,h2]
     rw[Zf h2];exact DE
    exact zBT
   by_cases k8:k=8
   .subst k8;exact zCP
   by_cases k9:k=9
   .subst k9;exact zCP
   by_cases k11:k=11
   .subst k11;have F:(⟨#[]⟩:ByteArray).size=0:=rfl;cases m0 with
    |true=>
     refine ae ?_;refine⟨⟨0,decide (255 < t.size),n,b,⟨#[]⟩,_,_⟩,⟨⟨_,_,rfl⟩,?_⟩,ZU,by rw[Bool.true_or];exact bT⟩;simp[jS,kQ,pg.ok,F]
    |false=>
     refine ae ?_;by_cases h1:255 < t.size
     .rw[show decide ((t.size:Int) > 255)=true from Zt Zo];refine ae ?_;refine⟨⟨0,true,n,b,⟨#[]⟩,_,_⟩,⟨⟨_,_,rfl⟩,?_⟩,ZU,by rw[Bool.or_true];exact bT⟩;simp[jS,kQ,pg.ok,F,h1]
     .rw[show decide ((t.size:Int) > 255)=false from Zf Zo];refine ae ?_;refine⟨⟨0,false,n,b,⟨#[]⟩,_,_⟩,⟨⟨_,_,rfl⟩,?_⟩,ZU,by rw[vV];exact bT⟩;simp[jS,kQ,pg.ok,F,h1]
   by_cases k10:k=10
   .subst k10;cases m0 with
    |true=>
     have hmm1:∀mm,(true||(decide (255 < items.length)||mm))=(true||mm):=λ_=>by simp
     exact zA8
    |false=>
     refine ae ?_;by_cases tM:255 < items.length
     .have hmm1:∀mm,(false||(decide (255 < items.length)||mm))=(true||mm):=λ_=>by simp[tM]
      rw[show decide ((items.length:Int) > 255)=true from Zt Zo];exact zA8
     .have hmm1:∀mm,(false||(decide (255 < items.length)||mm))=(false||mm):=λ_=>by simp[tM]
      rw[show decide ((items.length:Int) > 255)=false from Zf Zo];refine ae ?_;refine VC.loop (α:=Nat×Nat×Bool) (bg:=λs=>[(0,kE lb),(7,vi s.2.1),(8,kE r),(114,.slice a items.length c),(115,vi items.length),(116,vi s.1)]) (Hf:=λs=>[A,bh lb (false||s.2.2) deep,kA r 0 [cv 10,vi n,uv b,.string t,.slice a items.length c]])
       (I:=λs=>s.1<=items.length/\jm ((items.take s.1).map λx=>jS x true)=some (s.2.1,s.2.2)) (μ:=λs=>items.length - s.1) (0,0,false) ⟨X3 _,rfl⟩ ZU (by rw[vV];exact bT) ?_
      rintro⟨j,d,mm⟩ ⟨i1,i2⟩
      simp only at i1 i2;dsimp only;have bH:=wf.many;simp only[Lt.size]at hbd;have hdb:d<=Lt.ap items:=ik (λr hr d m e=>by
       obtain⟨y,hy,rfl⟩:=QO.1 hr;have h1:=Lt.aD (QP hy);have h2:=Gb _ y (Qt _) true d m e;omega) i2
      refine ae ?_;by_cases hj:j < items.length;rotate_left
      .rw[show decide ((j:Int) < (items.length:Int))=false from Zf Zo];have cA:items.take j=items:=Ql Zo;rw[cA,<- dI]at i2;refine ae ?_;refine⟨⟨d+1,decide (255 < items.length)||mm,n,b,t,Nz,0⟩,⟨⟨_,_,rfl⟩,?_⟩,ZU,?_⟩
       .simp[jS,i2,z7,wy,kQ,pg.ok]
       .rw[hmm1];exact bT
      obtain rfl:=ha Zo;rw[show decide ((j:Int) < (items.length:Int))=true from Zt Zo];obtain⟨y,hy⟩:∃y,items[j]? =some y:=⟨_,Zg hj⟩;have bF:=hr j y hy;have cG:=hm j hj;have UW:y.size<=N:=by
       have h1:=Lt.aD (Zv hy);simp only[Lt.size]at hx;omega
      have Ze:=Lt.aD (Zv hy);have az:=ih y UW Zo _ bF lb (false||mm) deep true;generalize us j=uj at bF cG az;have hyr2:=bF;cases hyr2 with
      |@mk k2 n2 b2 t2 Lo a2 c2 bk2 o2 Kr Se Im qK cP=>
      refine ae ?_;refine kR Zr CS rfl ?_;refine ae ?_;refine kK (λq2=>?_);refine ae ?_;refine kN az Zr ZP (λv Post hv=>?_) (λch Post hz=>?_);rotate_left
      .obtain⟨hb,rfl,m2,rfl⟩:=hz;have aG:jS (.mk 10 n b t items) inside=none:=by
        have h1:jm (uS items)=none:=by
         rw[dI];exact dK (QO.2 ⟨_,Zv hy,hb⟩)
        simp[jS,h1,z7,wy,kQ]
       exact⟨[A,bh lb m2 deep],ZI,aG,rfl,m2,rfl⟩
      obtain⟨e,m2,he,rfl,rfl⟩:=hv;simp only[aE];have cA:items.take (j+1)=items.take j++[.mk k2 n2 b2 t2 Lo]:=by rw[Qi,hy];rfl
      refine ae ?_;rw[show(if(e:Int) > (d:Int)then(e:Int)else(d:Int))=((max d e:Nat):Int) by split <;> omega];refine⟨(j+1,max d e,mm||m2),⟨by simp only;omega,?_⟩,by simp only;omega,ZU,?_⟩
      .simp only[cA,QB,QD,QF,he];exact dL i2
      .simp only[vR];exact bT
   refine ae ?_;rw[show decide ((k:Int)=1)=false from Zf Zo];refine ae ?_;rw[show decide ((k:Int)=2)=false from Zf Zo];refine ae ?_;rw[show decide ((k:Int)=3)=false from Zf Zo];refine ae ?_;rw[show decide ((k:Int)=4)=false from Zf Zo];refine ae ?_;rw[show decide ((k:Int)=5)=false from Zf Zo];refine ae ?_;rw[show decide ((k:Int)=6)=false from Zf Zo];refine ae ?_;rw[show decide ((k:Int)=7)=false from Zf Zo];refine ae ?_;rw[show decide ((k:Int)=11)=false from Zf Zo];refine ae ?_;rw[show decide ((k:Int)=8)=false from Zf Zo];refine ae ?_;rw[show decide ((k:Int)=9)=false from Zf Zo];refine ae ?_;rw[show decide ((k:Int)=10)=false from Zf Zo];refine ae ?_;have aG:jS (.mk k n b t items) inside=none:=by simp[jS,k1,k2,k3,k4,k5,k6,k7,k8,k9,k10,k11]
   refine kN (jI false) Zr ZP Zai (λch Post hz=>?_);obtain⟨_,rfl,rfl⟩:=hz;exact⟨[A,bh lb m0 deep],ZI,aG,rfl,m0,rfl⟩
  .rintro⟨d,mm,B,g,C,sv,l⟩ ⟨⟨a',c',M⟩,K⟩
   simp only at M K;subst M;rw[K];unfold pg.ok;simp only;refine jH ?_;by_cases h1:B=0;rotate_left
   .have cV:¬(B=0/\g=0/\C.size=0/\l=0):=λh=>h1 h.1
    rw[Zf h1];exact Sz
   rw[Zt h1];refine jH ?_;by_cases h2:g=0;rotate_left
   .have cV:¬(B=0/\g=0/\C.size=0/\l=0):=λh=>h2 h.2.1
    rw[show decide ((g:Int)=0)=false from Zf Zo];exact Sz
   rw[show decide ((g:Int)=0)=true from Zt Zo];refine jH ?_;by_cases h3:C=⟨#[]⟩;rotate_left
   .have cV:¬(B=0/\g=0/\C.size=0/\l=0):=λh=>h3 (ByteArray.ext (v6 h.2.2.1))
    rw[Zf h3];exact Sz
   rw[Zt h3];refine jH ?_;by_cases h4:l=0;rotate_left
   .have cV:¬(B=0/\g=0/\C.size=0/\l=0):=λh=>h4 h.2.2.2
    rw[show decide ((l:Int)=0)=false from Zf Zo];exact Sz
   rw[show decide ((l:Int)=0)=true from Zt Zo];refine jH ?_;refine kN (jI true) Zr ZP (λv Post hv=>?_) Kc;obtain⟨_,rfl,rfl⟩:=hv;simp only[QV];refine jH ?_;exact jT (kG (Post:=[A,bh lb (m0||mm) deep]) (.inr rfl) (.tmp Zr .nil) ⟨d,mm,if_pos ⟨h1,h2,by rw[h3];rfl,h4⟩,rfl,rfl⟩ ZI)
theorem node_k1(A:List kC)(L:oD A)(x:Nd)(vs:List Value)(h:jN A x vs)(N:x.w<=274877906944)(H:∀y us,y∈x.kids->jN A y us->zk A y us)(G:x.kind=1):gh A x vs:=by
 intro lb q r m0 deep;cases h with
 |@mk k s lit args ab kids p lv av tv a c bk o us wf hl bD bB ha hm hr rV=>
 simp only[Nd.kind]at G;have I:=hl;cases I with
 |@mk j m g lt items la lc CV lo IY LJ Ly LB LC=>
 have J:=bD;have K:=bB;obtain⟨B,C,rfl,s5,dD⟩:=J;obtain⟨D,E,rfl,rZ,IG⟩:=K;have bp:yW A kids a bk o us:=⟨ha,wf.many,hm,hr,λi y e=>H y (us i) (Zv e) (hr i y e)⟩;have C8:=wf.name;have bH:=wf.many;simp only[Nd.w]at N;obtain⟨F,cr⟩:∃F,F=kM (.mk k s (.mk j m g lt items) args ab kids p):=⟨_,rfl⟩;rw[<- cr];rw[show kM (.mk k s (.mk j m g lt items) args ab kids p)=w8 k s (.mk j m g lt items) args ab kids (kids.map kM) by simp[kM,jl]]at cr;show VC _ _ _ _ [kA r 0 (rA k s j m g lt la items.length lc B args.length C D ab.length E none 0 0 p),kA q 0 (rA k s j m g lt la items.length lc B args.length C D ab.length E a kids.length c p),A,bh lb m0 deep] _;subst G;refine ae ?_;by_cases D8:kids.length=0;rotate_left
 .have aG:F=none:=by simp[cr,zX.ok,w8,kQ,wz,Lt.kind,Lt.n,Lt.bits,Lt.text,Lt.items,D8]
  rw[show decide ((kids.length:Int)=0)=false from Zf Zo];exact DE
 rw[show decide ((kids.length:Int)=0)=true from Zt Zo];refine ae ?_;refine kN (jI true) Zr ZP (λv Post hv=>?_) Kc;obtain⟨_,rfl,rfl⟩:=hv;simp only[QV];refine ae ?_;refine kN (Wk A L _ _ (Qt _) Zo _ hl lb m0 deep false) Zr ZP (λv Post hv=>?_) (λch Post hz=>?_);rotate_left
 .exact zD7
 obtain⟨d,m2,M,rfl,rfl⟩:=hv;simp only[aE];refine ae ?_;refine⟨⟨d,m2,s,0,0,0,⟨#[]⟩,none,0,0,B,args.length,C,D,ab.length,E⟩,?_,ZU,?_⟩
 .simp[cr,zX.ok,w8,kQ,wz,Lt.kind,Lt.n,Lt.bits,Lt.text,Lt.items,M,D8,show(⟨#[]⟩:ByteArray).size=0 from rfl]
 .show ai _ [A,bh lb (m0||m2) deep,kA r 0 [cv 1,.string s,.int .u8 0,.int .i64 0,.int .u64 0,.string ⟨#[]⟩,Nz,.slice B args.length C,.slice D ab.length E,Nz,vi p]];exact bT
theorem node_k2(A:List kC)(hE:oD A)(x:Nd)(vs:List Value)(h:jN A x vs)(M:x.w<=274877906944)(I:∀y us,y∈x.kids->jN A y us->zk A y us)(G:x.kind=2):gh A x vs:=by
 intro lb q r m0 deep;cases h with
 |@mk k s lit args ab kids p lv av tv a c bk o us wf hl bD bB ha hm hr rV=>
 simp only[Nd.kind]at G;have J:=hl;cases J with
 |@mk g j d lt items la lc CV lo IY LJ Ly LB LC=>
 have K:=bD;have L:=bB;obtain⟨C,D,rfl,s5,dD⟩:=K;obtain⟨E,F,rfl,rZ,IG⟩:=L;have bp:yW A kids a bk o us:=⟨ha,wf.many,hm,hr,λi y e=>I y (us i) (Zv e) (hr i y e)⟩;have H:=wf.name;have bH:=wf.many;simp only[Nd.w]at M;obtain⟨B,m⟩:∃B,B=kM (.mk k s (.mk g j d lt items) args ab kids p):=⟨_,rfl⟩;rw[<- m];rw[show kM (.mk k s (.mk g j d lt items) args ab kids p)=w8 k s (.mk g j d lt items) args ab kids (kids.map kM) by simp[kM,jl]]at m;show VC _ _ _ _ [kA r 0 (rA k s g j d lt la items.length lc C args.length D E ab.length F none 0 0 p),kA q 0 (rA k s g j d lt la items.length lc C args.length D E ab.length F a kids.length c p),A,bh lb m0 deep] _;subst G;refine ae ?_;by_cases D8:kids.length=0;rotate_left
 .have aG:B=none:=by simp[m,zX.ok,w8,kQ,wz,Lt.kind,Lt.n,Lt.bits,Lt.text,Lt.items,D8]
  rw[show decide ((kids.length:Int)=0)=false from Zf Zo];exact DE
 rw[show decide ((kids.length:Int)=0)=true from Zt Zo];refine ae ?_;refine kL (oM s H) Zr ?_;cases hn:wm s with
 |false=>
  have aG:B=none:=by simp[m,zX.ok,w8,kQ,wz,Lt.kind,Lt.n,Lt.bits,Lt.text,Lt.items,hn]
  exact DE
 |true=>
  refine ae ?_;refine kN (jI true) Zr ZP (λv Post hv=>?_) Kc;obtain⟨_,rfl,rfl⟩:=hv;simp only[QV];refine ae ?_;refine⟨⟨0,false,⟨#[]⟩,g,j,d,lt,la,items.length,lc,C,args.length,D,E,ab.length,F⟩,?_,ZU,?_⟩
  .simp[m,zX.ok,w8,kQ,wz,Lt.kind,Lt.n,Lt.bits,Lt.text,Lt.items,hn,D8,show(⟨#[]⟩:ByteArray).size=0 from rfl];simp only[and_assoc]
  .rw[vV];show ai _ [A,bh lb m0 deep,kA r 0 [cv 2,.string ⟨#[]⟩,cv g,vi j,uv d,.string lt,.slice la items.length lc,.slice C args.length D,.slice E ab.length F,Nz,vi p]];exact bT
theorem node_k9(A:List kC)(hE:oD A)(x:Nd)(vs:List Value)(h:jN A x vs)(W:x.w<=274877906944)(M:∀y us,y∈x.kids->jN A y us->zk A y us)(K:x.kind=9):gh A x vs:=by
 intro lb q r m0 deep;cases h with
 |@mk k s lit args ab kids p lv av tv a c bk o us wf hl bD bB ha hm hr rV=>
 simp only[Nd.kind]at K;have O:=hl;cases O with
 |@mk j B g lt items la lc CV lo IY LJ Ly LB LC=>
 have S:=bD;have T:=bB;obtain⟨D,E,rfl,s5,dD⟩:=S;obtain⟨F,G,rfl,rZ,IG⟩:=T;have N:yW A kids a bk o us:=⟨ha,wf.many,hm,hr,λi y e=>M y (us i) (Zv e) (hr i y e)⟩;have C8:=wf.name;have bH:=wf.many;simp only[Nd.w]at W;obtain⟨I,cr⟩:∃I,I=kM (.mk k s (.mk j B g lt items) args ab kids p):=⟨_,rfl⟩;rw[<- cr];rw[show kM (.mk k s (.mk j B g lt items) args ab kids p)=w8 k s (.mk j B g lt items) args ab kids (kids.map kM) by simp[kM,jl]]at cr;show VC _ _ _ _ [kA r 0 (rA k s j B g lt la items.length lc D args.length E F ab.length G none 0 0 p),kA q 0 (rA k s j B g lt la items.length lc D args.length E F ab.length G a kids.length c p),A,bh lb m0 deep] _;subst K;refine ae ?_;by_cases xI:kids.length=1;rotate_left
 .have aG:I=none:=by
   rw[cr];unfold w8;rw[if_neg Zd,if_neg Zd,if_neg Zd,if_neg Zd,if_neg Zd,if_neg Zd,if_neg Zd,if_neg Zd,if_pos rfl];unfold kQ;split
   .match kids,xI with
    |[],_=>rfl
    |_::_::_,_=>rfl
   .rfl
  rw[show decide ((kids.length:Int)=1)=false from Zf Zo];exact DE
 rw[show decide ((kids.length:Int)=1)=true from Zt Zo];obtain⟨y,Hh⟩:∃y,kids=[y]:=Q1.1 xI;have H:kids[0]? =some y:=by rw[Hh];rfl
 have J:=hm 0 Zo;rw[X4,Qp]at J;have Q:=(hr 0 y H).len;obtain rfl:=ha Zo;have C:=N.ok 0 y H;have L:=λm=>yQ A y _ (hr 0 y H) C 1 lb m deep
 refine ae ?_;refine kN (jI true) Zr ZP (λv Post hv=>?_) Kc;obtain⟨_,rfl,rfl⟩:=hv;simp only[QV];refine ae ?_;refine kR Zr (λz hz=>QH _ (QH _ (Zw _ (J z hz)))) Q ?_;refine ae ?_;refine kN (L m0) Zr ZP (λv Post hv=>?_) (λch Post hz=>?_);rotate_left
 .exact zD3
 obtain⟨d,m2,U,rfl,rfl⟩:=hv;simp only[aE];refine ae ?_;refine⟨⟨d,m2,s,j,B,g,lt,la,items.length,lc,D,args.length,E,F,ab.length,G⟩,?_,ZU,?_⟩
 .simp[cr,zX.ok,w8,kQ,wz,Lt.kind,Lt.n,Lt.bits,Lt.text,Lt.items,U,Hh];simp only[and_assoc]
 .show ai _ [A,bh lb (m0||m2) deep,kA r 0 (rA 9 s j B g lt la items.length lc D args.length E F ab.length G none 0 0 p)];exact bT
theorem node_k3(A:List kC)(hE:oD A)(x:Nd)(vs:List Value)(h:jN A x vs)(hw:x.w<=274877906944)(S:∀y us,y∈x.kids->jN A y us->zk A y us)(M:x.kind=3):gh A x vs:=by
 intro lb q r m0 deep;cases h with
 |@mk k s lit args ab kids p lv av tv a c bk o us wf hl bD bB ha hm hr rV=>
 simp only[Nd.kind]at M;have U:=hl;cases U with
 |@mk j B g lt items la lc CV lo IY LJ Ly LB LC=>
 have X:=bD;have Y:=bB;obtain⟨D,E,rfl,s5,dD⟩:=X;obtain⟨G,H,rfl,rZ,IG⟩:=Y;have T:yW A kids a bk o us:=⟨ha,wf.many,hm,hr,λi y e=>S y (us i) (Zv e) (hr i y e)⟩;have N:=wf.name;have bH:=wf.many;simp only[Nd.w]at hw;obtain⟨K,cr⟩:∃K,K=kM (.mk k s (.mk j B g lt items) args ab kids p):=⟨_,rfl⟩;rw[<- cr];rw[show kM (.mk k s (.mk j B g lt items) args ab kids p)=w8 k s (.mk j B g lt items) args ab kids (kids.map kM) by simp[kM,jl]]at cr;show VC _ _ _ _ [kA r 0 (rA k s j B g lt la items.length lc D args.length E G ab.length H none 0 0 p),kA q 0 (rA k s j B g lt la items.length lc D args.length E G ab.length H a kids.length c p),A,bh lb m0 deep] _;subst M;refine ae ?_;refine j8 (out:=[.string s]) Zr Zr (λF=>?_);refine ae ?_;have Q:cO (kA F 0 [.string s]) (.slice (some ⟨F,0,none⟩) 1 1) [s]:=⟨_,_,rfl,Zs,λi t e=>by
  cases i with
  |zero=>cases e;exact⟨F,0,rfl,by simp[kA],N⟩
  |succ i=>simp at e⟩
 refine kN (gN (kA F 0 [.string s]) _ [s] Q lb 1 m0 deep) Zr ZP (λv Post hv=>?_) (λch Post hz=>?_);rotate_left
 .obtain⟨hb,rfl,m2,rfl⟩:=hz;have I:jF s=false:=by simpa using hb
  exact⟨[A,bh lb m2 deep],ZI,by simp[cr,zX.ok,w8,kQ,wz,Lt.kind,Lt.n,Lt.bits,Lt.text,Lt.items,I],rfl,m2,rfl⟩
 obtain⟨hb,rfl,rfl⟩:=hv;have I:jF s=true:=by simpa using hb
 rw[show(m0||decide (1 < [s].length))=m0 by simp];simp only[aE];refine ae ?_;by_cases xI:kids.length=1;rotate_left
 .have aG:K=none:=by
   rw[cr];unfold w8;rw[if_neg Zd,if_neg Zd,if_pos rfl];unfold kQ;split
   .match kids,xI with
    |[],_=>rfl
    |_::_::_,_=>rfl
   .rfl
  rw[show decide ((kids.length:Int)=1)=false from Zf Zo];exact DE
 rw[show decide ((kids.length:Int)=1)=true from Zt Zo];obtain⟨y,Hh⟩:∃y,kids=[y]:=Q1.1 xI;have J:kids[0]? =some y:=by rw[Hh];rfl
 have L:=hm 0 Zo;rw[X4,Qp]at L;have W:=(hr 0 y J).len;obtain rfl:=ha Zo;have C:=T.ok 0 y J;have O:=λm=>yQ A y _ (hr 0 y J) C 1 lb m deep
 refine ae ?_;refine kN (jI true) Zr ZP (λv Post hv=>?_) Kc;obtain⟨_,rfl,rfl⟩:=hv;simp only[QV];refine ae ?_;refine kR Zr (λz hz=>by simp only[Vd,QG];simp[L z hz]) W ?_;refine ae ?_;refine kN (O m0) Zr ZP (λv Post hv=>?_) (λch Post hz=>?_);rotate_left
 .exact zD3
 obtain⟨d,m2,Z,rfl,rfl⟩:=hv;simp only[aE];refine ae ?_;refine⟨⟨d,m2,⟨#[]⟩,j,B,g,lt,la,items.length,lc,D,args.length,E,G,ab.length,H⟩,?_,ZU,?_⟩
 .simp[cr,zX.ok,w8,kQ,wz,Lt.kind,Lt.n,Lt.bits,Lt.text,Lt.items,Z,Hh,I,show(⟨#[]⟩:ByteArray).size=0 from rfl];simp only[and_assoc]
 .show ai _ [A,bh lb (m0||m2) deep,kA r 0 [cv 3,.string ⟨#[]⟩,cv j,vi B,uv g,.string lt,.slice la items.length lc,.slice D args.length E,.slice G ab.length H,Nz,vi p]];exact bT
theorem node_k6(A:List kC)(hE:oD A)(x:Nd)(vs:List Value)(h:jN A x vs)(S:x.w<=274877906944)(J:∀y us,y∈x.kids->jN A y us->zk A y us)(H:x.kind=6):gh A x vs:=by
 intro lb q r F deep;cases h with
 |@mk k s lit args ab kids p lv av tv a c bk o us wf hl bD bB ha hm hr rV=>
 simp only[Nd.kind]at H;have L:=hl;cases L with
 |@mk j m g lt items la lc CV lo IY LJ Ly LB LC=>
 have M:=bD;have N:=bB;obtain⟨B,C,rfl,s5,dD⟩:=M;obtain⟨D,E,rfl,rZ,IG⟩:=N;have K:yW A kids a bk o us:=⟨ha,wf.many,hm,hr,λi y e=>J y (us i) (Zv e) (hr i y e)⟩;have I:=wf.name;have bH:=wf.many;simp only[Nd.w]at S;obtain⟨G,cr⟩:∃G,G=kM (.mk k s (.mk j m g lt items) args ab kids p):=⟨_,rfl⟩;rw[<- cr];rw[show kM (.mk k s (.mk j m g lt items) args ab kids p)=w8 k s (.mk j m g lt items) args ab kids (kids.map kM) by simp[kM,jl]]at cr;show VC _ _ _ _ [kA r 0 (rA k s j m g lt la items.length lc B args.length C D ab.length E none 0 0 p),kA q 0 (rA k s j m g lt la items.length lc B args.length C D ab.length E a kids.length c p),A,bh lb F deep] _;subst H;refine ae ?_;refine kN (nz A kids a c bk o us K s I lb F deep) Zr ZP (λv Post Q=>?_) (λch Post hz=>?_);rotate_left
 .exact zD7
 obtain⟨d,m2,O,rfl,rfl⟩:=Q;simp only[aE];refine ae ?_;refine⟨⟨d,m2,⟨#[]⟩,j,m,g,lt,la,items.length,lc,B,args.length,C,D,ab.length,E⟩,?_,ZU,?_⟩
 .simp[cr,zX.ok,w8,kQ,wz,Lt.kind,Lt.n,Lt.bits,Lt.text,Lt.items,O,show(⟨#[]⟩:ByteArray).size=0 from rfl];simp only[and_assoc]
 .show ai _ [A,bh lb (F||m2) deep,kA r 0 [cv 6,.string ⟨#[]⟩,cv j,vi m,uv g,.string lt,.slice la items.length lc,.slice B args.length C,.slice D ab.length E,Nz,vi p]];exact bT
theorem node_k0(A:List kC)(hE:oD A)(x:Nd)(vs:List Value)(h:jN A x vs)(L:x.w<=274877906944)(H:∀y us,y∈x.kids->jN A y us->zk A y us)(E:x.kind≠1/\x.kind≠2/\x.kind≠3/\x.kind≠4/\x.kind≠5/\x.kind≠6/\x.kind≠7/\x.kind≠8/\x.kind≠9):gh A x vs:=by
 intro lb q r m0 deep;cases h with
 |@mk k s lit args ab kids p lv av tv a c bk o us wf hl bD bB ha hm hr rV=>
 simp only[Nd.kind]at E;have I:=hl;cases I with
 |@mk g j d lt items la lc CV lo IY LJ Ly LB LC=>
 have J:=bD;have K:=bB;obtain⟨C,D,rfl,s5,dD⟩:=J;obtain⟨F,G,rfl,rZ,IG⟩:=K;have bp:yW A kids a bk o us:=⟨ha,wf.many,hm,hr,λi y e=>H y (us i) (Zv e) (hr i y e)⟩;have C8:=wf.name;have bH:=wf.many;simp only[Nd.w]at L;obtain⟨m,B⟩:∃m,m=kM (.mk k s (.mk g j d lt items) args ab kids p):=⟨_,rfl⟩;rw[<- B];rw[show kM (.mk k s (.mk g j d lt items) args ab kids p)=w8 k s (.mk g j d lt items) args ab kids (kids.map kM) by simp[kM,jl]]at B;show VC _ _ _ _ [kA r 0 (rA k s g j d lt la items.length lc C args.length D F ab.length G none 0 0 p),kA q 0 (rA k s g j d lt la items.length lc C args.length D F ab.length G a kids.length c p),A,bh lb m0 deep] _;obtain⟨M,N,O,Q,S,T,U,W,X⟩:=E;have aG:m=none:=by simp[B,w8,M,N,O,Q,S,T,U,W,X]
 refine ae ?_;rw[show decide ((k:Int)=1)=false from Zf Zo];refine ae ?_;rw[show decide ((k:Int)=2)=false from Zf Zo];refine ae ?_;rw[show decide ((k:Int)=3)=false from Zf Zo];refine ae ?_;rw[show decide ((k:Int)=4)=false from Zf Zo];refine ae ?_;rw[show decide ((k:Int)=6)=false from Zf Zo];refine ae ?_;rw[show decide ((k:Int)=5)=false from Zf Zo];refine ae ?_;rw[show decide ((k:Int)=7)=false from Zf Zo];refine ae ?_;rw[show decide ((k:Int)=8)=false from Zf Zo];refine ae ?_;rw[show decide ((k:Int)=9)=false from Zf Zo];exact DE
theorem node_k7(A:List kC)(hE:oD A)(x:Nd)(vs:List Value)(h:jN A x vs)(hw:x.w<=274877906944)(aN:∀y us,y∈x.kids->jN A y us->zk A y us)(X:x.kind=7):gh A x vs:=by
 intro C q r M g;cases h with
 |@mk k s lit args ab kids p lv av tv a c bk o us wf hl bD bB ha hm L rV=>
 simp only[Nd.kind]at X;have dE:=hl;cases dE with
 |@mk E F D lt items la lc CV lo IY LJ Ly LB LC=>
 have fK:=bD;have fN:=bB;obtain⟨Q,S,rfl,s5,dD⟩:=fK;obtain⟨ta,tc,rfl,rZ,IG⟩:=fN;have T:yW A kids a bk o us:=⟨ha,wf.many,hm,L,λi y e=>aN y (us i) (Zv e) (L i y e)⟩;have C8:=wf.name;have bH:=wf.many;simp only[Nd.w]at hw;obtain⟨K,G⟩:∃K,K=kM (.mk k s (.mk E F D lt items) args ab kids p):=⟨_,rfl⟩;rw[<- G];rw[show kM (.mk k s (.mk E F D lt items) args ab kids p)=w8 k s (.mk E F D lt items) args ab kids (kids.map kM) by simp[kM,jl]]at G;show VC _ _ _ _ [kA r 0 (rA k s E F D lt la items.length lc Q args.length S ta ab.length tc none 0 0 p),kA q 0 (rA k s E F D lt la items.length lc Q args.length S ta ab.length tc a kids.length c p),A,bh C M g] _;subst X;refine ae ?_;refine kN (gN A _ args bD C 15 M g) Zr ZP (λv Post I=>?_) (λU Post J=>?_);rotate_left
 .obtain⟨B,rfl,m2,rfl⟩:=J;exact⟨[A,bh C m2 g],ZI,by simp[G,w8,kQ,wa,B],rfl,m2,rfl⟩
 obtain⟨Kj,rfl,rfl⟩:=I;obtain⟨m1,O⟩:∃m1,m1=(M||decide (15 < args.length)):=⟨_,rfl⟩;rw[<- O];simp only[aE];refine ae ?_;refine kN (gN A _ ab bB C 63 m1 g) Zr ZP (λv Post I=>?_) (λU Post J=>?_);rotate_left
 .obtain⟨B,rfl,m2,rfl⟩:=J;have N:K=none:=by
   simp only[G,w8,wa,B];simp[kQ,z7]
  exact⟨[A,bh C m2 g],ZI,N,rfl,m2,rfl⟩
 obtain⟨Fm,rfl,rfl⟩:=I;obtain⟨m2,Z⟩:∃m2,m2=(m1||decide (63 < ab.length)):=⟨_,rfl⟩;rw[<- Z];simp only[aE];refine ae ?_;refine kN (nh A kids a c bk o us T C m2 g) Zr ZP (λv Post I=>?_) (λU Post J=>?_);rotate_left
 .obtain⟨B,rfl,m3,rfl⟩:=J;have N:K=none:=by
   simp only[G,w8,wa,B,wy,z7];simp[kQ]
  exact⟨[A,bh C m3 g],ZI,N,rfl,m3,rfl⟩
 obtain⟨d,m3,W,rfl,rfl⟩:=I;have hdb:d<=1099511627777:=ik (λr L d m e=>by
  obtain⟨j,H⟩:=Vv L;have rW:=(Vt.1 H).1;rw[ry]at rW;have Y:=Zg rW;have aC:=ru kids j kids[j] Y;rw[aC]at H;have B:=(T.ok j _ Y).2;split at H
  .cases H;have:=B d m e;omega
  .cases H;exact uF B e) W
 simp only[aE];refine ae ?_;refine⟨⟨d+1,decide (15 < args.length)||(decide (63 < ab.length)||m3),s,E,F,D,lt,la,items.length,lc,none,0,0,none,0,0⟩,?_,ZU,?_⟩
 .simp only[G,w8,wa,Kj,Fm,W,wy,z7];simp[zX.ok,kQ,wz,Lt.kind,Lt.n,Lt.bits,Lt.text,Lt.items]
 .rw[show(M||(decide (15 < args.length)||(decide (63 < ab.length)||m3)))=(m2||m3) by rw[Z,O];simp only[vR]];show ai _ [A,bh C (m2||m3) g,kA r 0 (rA 7 s E F D lt la items.length lc none 0 0 none 0 0 none 0 0 p)];exact bT
theorem node_k8(A:List kC)(hE:oD A)(x:Nd)(vs:List Value)(h:jN A x vs)(K:x.w<=274877906944)(F:∀y us,y∈x.kids->jN A y us->zk A y us)(D:x.kind=8):gh A x vs:=by
 intro lb q r C deep;cases h with
 |@mk k s lit args ab kids p lv av tv a c bk o us wf hl bD bB ha hm hr rV=>
 simp only[Nd.kind]at D;have G:=hl;cases G with
 |@mk lk ln bm lt items la lc CV lo IY LJ Ly LB LC=>
 have H:=bD;have J:=bB;obtain⟨aa,ac,rfl,s5,dD⟩:=H;obtain⟨ta,tc,rfl,rZ,IG⟩:=J;have bp:yW A kids a bk o us:=⟨ha,wf.many,hm,hr,λi y e=>F y (us i) (Zv e) (hr i y e)⟩;have C8:=wf.name;have bH:=wf.many;simp only[Nd.w]at K;obtain⟨RR,B⟩:∃RR,RR=kM (.mk k s (.mk lk ln bm lt items) args ab kids p):=⟨_,rfl⟩;rw[<- B];rw[show kM (.mk k s (.mk lk ln bm lt items) args ab kids p)=w8 k s (.mk lk ln bm lt items) args ab kids (kids.map kM) by simp[kM,jl]]at B;show VC _ _ _ _ [kA r 0 (rA k s lk ln bm lt la items.length lc aa args.length ac ta ab.length tc none 0 0 p),kA q 0 (rA k s lk ln bm lt la items.length lc aa args.length ac ta ab.length tc a kids.length c p),A,bh lb C deep] _;subst D;have hR8:RR=kQ (decide (s.size=0/\args.length=0/\ab.length=0)&&wz (.mk lk ln bm lt items)) (wy (z7 (decide (255 < kids.length)) (jm (kids.map λy=>jX y 1 (kM y))))):=by
  rw[B,<- fk];rfl
 obtain⟨g,E⟩:∃g,g=C:=⟨_,rfl⟩;cases C with
 |true=>
  obtain⟨mB,Nb⟩:∃b,b=(true||decide (255 < kids.length)):=⟨_,rfl⟩;have Iy:mB=true:=by rw[Nb,Bool.true_or]
  exact zA6
 |false=>
  obtain⟨mB,Nb⟩:∃b,b=(false||decide (255 < kids.length)):=⟨_,rfl⟩;have Iy:mB=decide ((kids.length:Int) > 255):=by
   rw[Nb,vN];exact decide_eq_decide.2 Zo
  exact zA6
theorem tY {f:Nat}{args:List Value}{A:List kC}{j:Nat}{q g:Bool}{r:Rs}{d:Nat}{m:Bool}(h:CZ f args A j q g r)(s:r=some (d,m)):
 au Tryz.prog f args [A,bh j q g] (λv Post=>v=vi d/\Post=[A,bh j (q||m) g]):=by
 refine ju.fun (ju.mono h (λv Post ⟨d',m',e,C,D⟩=>?_) (λch Post B=>?_))
 .rw[s]at e;cases e;exact⟨C,D⟩
 .rw[s]at B;cases B.1
theorem Bg {f:Nat}{args:List Value}{A:List kC}{q:Nat}{g:Bool}{r:Rs}(h:∀m,CZ f args A q m g r):
 ∃(d:Nat) (φ:Prop),(φ->r≠none)/\∀m,ju Tryz.prog f args [A,bh q m g] (λv Post=>v=vi d/\φ/\∃j,Post=[A,bh q j g]) (λs Post=>s=wn/\∃j,Post=[A,bh q j g]):=by
 cases r with
 |none=>exact⟨0,False,λh=>h.elim,λm=>ju.mono (h m) (λv Post ⟨C,j,e,_⟩=>by cases e) (λs Post B=>B.2)⟩
 |some p=>
  obtain⟨d,m1⟩:=p;exact⟨d,True,λ_=>by simp,λm=>ju.mono (h m) (λv Post ⟨C,j,e,D,E⟩=>by cases e;exact⟨D,trivial,_,E⟩) (λs Post B=>B.2)⟩
theorem lV {p q:Rs}(h:p=none∨q=none):yJ p q=none:=by
 rcases h with rfl|rfl
 .rfl
 .cases p <;> rfl
theorem node_k4(A:List kC)(hE:oD A)(x:Nd)(vs:List Value)(h:jN A x vs)(T:x.w<=274877906944)(M:∀y us,y∈x.kids->jN A y us->zk A y us)(J:x.kind=4):gh A x vs:=by
 intro lb q r m0 deep;cases h with
 |@mk k s lit args ab kids p lv av tv a c bk o us wf hl bD bB ha hm hr rV=>
 simp only[Nd.kind]at J;have N:=hl;cases N with
 |@mk lk ln bm lt items la lc CV lo IY LJ Ly LB LC=>
 have O:=bD;have Q:=bB;obtain⟨aa,ac,rfl,s5,dD⟩:=O;obtain⟨ta,tc,rfl,rZ,IG⟩:=Q;have F:yW A kids a bk o us:=⟨ha,wf.many,hm,hr,λi y e=>M y (us i) (Zv e) (hr i y e)⟩;have C:=wf.name;have bH:=wf.many;simp only[Nd.w]at T;obtain⟨g,B⟩:∃g,g=kM (.mk k s (.mk lk ln bm lt items) args ab kids p):=⟨_,rfl⟩;rw[<- B];rw[show kM (.mk k s (.mk lk ln bm lt items) args ab kids p)=w8 k s (.mk lk ln bm lt items) args ab kids (kids.map kM) by simp[kM,jl]]at B;show VC _ _ _ _ [kA r 0 (rA k s lk ln bm lt la items.length lc aa args.length ac ta ab.length tc none 0 0 p),kA q 0 (rA k s lk ln bm lt la items.length lc aa args.length ac ta ab.length tc a kids.length c p),A,bh lb m0 deep] _;subst J;refine ae ?_;by_cases D8:0 < kids.length;rotate_left
 .have aG:g=none:=by
   obtain rfl:kids=[]:=vz Zo;rw[B];unfold w8;rw[if_neg Zd,if_neg Zd,if_neg Zd,if_pos rfl];unfold kQ;split <;> rfl
  rw[show decide ((kids.length:Int) > 0)=false from Zf Zo];exact DE
 rw[show decide ((kids.length:Int) > 0)=true from Zt Zo];refine ae ?_;refine kL (gp s C) Zr ?_;refine ae ?_;by_cases dD:0<=kS s;rotate_left
 .have aG:g=none:=by
   rw[B];unfold w8;rw[if_neg Zd,if_neg Zd,if_neg Zd,if_pos rfl];rw[Zf dD,Bool.and_false];rfl
  rw[show decide (kS s ≥ 0)=false from Zf dD];exact DE
 rw[show decide (kS s ≥ 0)=true from Zt dD];refine ae ?_;refine kN (jI true) Zr ZP (λv Post hv=>?_) Kc;obtain⟨_,rfl,rfl⟩:=hv;simp only[QV];refine ae ?_;obtain⟨y,l,j⟩:∃y l,kids=y::l:=by
  cases kids with
  |nil=>simp at D8
  |cons y l=>exact⟨y,l,rfl⟩
 have D:kids[0]? =some y:=by rw[j];rfl
 have cG:=hm 0 Zo;rw[X4,Qp]at cG;have eO:=(hr 0 y D).len;obtain rfl:=ha Zo;have L:l.length=kids.length - 1:=by rw[j];rfl
 have K:yW A l (some ⟨bk,if c=1 then o else o+1*11,none⟩) bk (if c=1 then o else o+1*11) (λi=>us (i+1)):=by
  refine⟨λ_=>rfl,Zo,λi I z hz=>?_,λi z e=>hr (i+1) z (by rw[j];exact e),λi z e=>F.ok (i+1) z (by rw[j];exact e)⟩;refine hm (i+1) Zo z ?_;rw[if_neg Zo]at hz
  rwa [show o+1*11+i*11=o+(i+1)*11 by omega]at hz
 have G:=λm=>AA A y _ (hr 0 y D) (F.ok 0 y D) s C lb m deep
 have E:=λm=>nz A l _ (c - 1) bk _ _ K s C lb m deep
 rw[L]at E;have hR4:g=kQ (decide (args.length=0/\ab.length=0)&&wz (.mk lk ln bm lt items)&&decide (0<=kS s)) (yJ (wx y s (kM y)) (fB s l (l.map kM))):=by
  rw[B,j];rfl
 by_cases cV:wx y s (kM y)=none∨fB s l (l.map kM)=none
 .skip
  have aG:g=none:=by
   rw[hR4,lV cV];unfold kQ;split <;> rfl
  obtain⟨dF,d,hFφ,hFz⟩:=Bg G;obtain⟨dA,φA,hAφ,hAz⟩:=Bg E;refine VC.Av (λch H'=>ch=wn/\∃m,ai H' [A,bh lb m deep]) (λH'=>∃m,ai H' [A,bh lb m deep,kA q 0 (rA 4 s lk ln bm lt la items.length lc aa args.length ac ta ab.length tc (some ⟨bk,o,none⟩) kids.length c p)]) ⟨m0,ZI⟩ ?_ (λch H' S=>?_)
  .skip
   intro rs cW;rcases QI.1 cW with rfl|cW
   .skip
    refine kI ?_;refine kI ?_;refine kI ?_;refine kI ?_;refine kI ?_;refine kI ?_;refine kI ?_;refine⟨rfl,vi dF,d,λΓ H bq hH=>?_,?_⟩
    .exact zAE
    refine kI ?_;refine kI ?_;refine kI ?_;refine kI ?_;refine kI ?_;exact zA5
   rcases QI.1 cW with rfl|cW
   .skip
    refine kI ?_;refine kI ?_;refine kI ?_;refine kI ?_;refine kI ?_;refine kI ?_;refine kI ?_;refine kI ?_;refine kI ?_;refine kI ?_;refine⟨rfl,vi dF,d,λΓ H bq hH=>?_,?_⟩
    .exact zAE
    refine kI ?_;refine kI ?_;exact zA5
   rcases QI.1 cW with rfl|cW
   .skip
    refine kI ?_;refine kI ?_;refine kI ?_;refine kI ?_;refine kI ?_;refine kI ?_;refine kI ?_;refine kI ?_;refine kI ?_;refine kI ?_;refine kI ?_;refine kI ?_;refine⟨rfl,vi dF,d,λΓ H bq hH=>?_,?_⟩
    .exact zAE
    exact zA5
   rcases QI.1 cW with rfl|cW
   .skip
    refine kI ?_;refine kI ?_;refine kI ?_;refine kI ?_;refine kI ?_;refine kI ?_;refine kI ?_;refine⟨rfl,vi dF,d,λΓ H bq hH=>?_,?_⟩
    .exact zAE
    refine kI ?_;refine kI ?_;refine kI ?_;refine kI ?_;refine kI ?_;exact zA5
   rcases QI.1 cW with rfl|cW
   .skip
    refine kI ?_;refine kI ?_;refine kI ?_;refine kI ?_;refine kI ?_;refine kI ?_;refine kI ?_;refine kI ?_;refine kI ?_;refine kI ?_;refine kI ?_;refine⟨rfl,vi dF,d,λΓ H bq hH=>?_,?_⟩
    .exact zAE
    refine kI ?_;exact zA5
   rcases QI.1 cW with rfl|cW
   .skip
    refine kI ?_;refine kI ?_;refine kI ?_;refine kI ?_;refine kI ?_;refine kI ?_;refine kI ?_;refine kI ?_;refine kI ?_;refine kI ?_;refine kI ?_;refine kI ?_;refine⟨rfl,vi dF,d,λΓ H bq hH=>?_,?_⟩
    .exact zAE
    exact zA5
   .cases cW
  .obtain⟨rfl,m,I⟩:=S;exact⟨_,I,aG,rfl,m,rfl⟩
 obtain⟨⟨dF,mF⟩,hf⟩:∃p,wx y s (kM y)=some p:=Option.ne_none_iff_exists'.1 λh=>cV (.inl h)
 obtain⟨⟨dA,mA⟩,hal2⟩:∃p,fB s l (l.map kM)=some p:=Option.ne_none_iff_exists'.1 λh=>cV (.inr h)
 have hFf:=tY (G m0) hf;have hAf:=tY (E (m0||mF)) hal2;refine VC.draws ⟨?_,?_,?_,?_,?_,?_,trivial⟩
 .exact zA3
 .exact zA3
 .exact zA3
 .exact zA3
 .exact zA3
 .exact zA3
theorem node_k5(A:List kC)(hE:oD A)(x:Nd)(vs:List Value)(h:jN A x vs)(S:x.w<=274877906944)(M:∀y us,y∈x.kids->jN A y us->zk A y us)(J:x.kind=5):gh A x vs:=by
 intro lb q r m0 deep;cases h with
 |@mk k s lit args ab kids p lv av tv a c bk o us wf hl bD bB ha hm hr rV=>
 simp only[Nd.kind]at J;have N:=hl;cases N with
 |@mk lk ln bm lt items la lc CV lo IY LJ Ly LB LC=>
 have O:=bD;have Q:=bB;obtain⟨aa,ac,rfl,s5,dD⟩:=O;obtain⟨ta,tc,rfl,rZ,IG⟩:=Q;have bp:yW A kids a bk o us:=⟨ha,wf.many,hm,hr,λi y e=>M y (us i) (Zv e) (hr i y e)⟩;have C8:=wf.name;have bH:=wf.many;simp only[Nd.w]at S;obtain⟨RR,C⟩:∃RR,RR=kM (.mk k s (.mk lk ln bm lt items) args ab kids p):=⟨_,rfl⟩;rw[<- C];rw[show kM (.mk k s (.mk lk ln bm lt items) args ab kids p)=w8 k s (.mk lk ln bm lt items) args ab kids (kids.map kM) by simp[kM,jl]]at C;show VC _ _ _ _ [kA r 0 (rA k s lk ln bm lt la items.length lc aa args.length ac ta ab.length tc none 0 0 p),kA q 0 (rA k s lk ln bm lt la items.length lc aa args.length ac ta ab.length tc a kids.length c p),A,bh lb m0 deep] _;subst J;refine ae ?_;by_cases D8:2 < kids.length;rotate_left
 .have aG:RR=none:=by
   rw[C];unfold w8;rw[if_neg Zd,if_neg Zd,if_neg Zd,if_neg Zd,if_neg Zd,if_pos rfl];simp[kQ,D8]
  rw[show decide ((kids.length:Int) > 2)=false from Zf Zo];exact DE
 rw[show decide ((kids.length:Int) > 2)=true from Zt Zo];refine ae ?_;refine kN (jI true) Zr ZP (λv Post hv=>?_) Kc;obtain⟨_,rfl,rfl⟩:=hv;simp only[QV];refine ae ?_;obtain⟨y,z,l,Hh⟩:∃y z l,kids=y::z::l:=by
  match kids,D8 with
  |y::z::l,_=>exact⟨y,z,l,rfl⟩
  |[],h=>simp at h
  |[_],h=>simp at h
 have D:kids[0]? =some y:=by rw[Hh];rfl
 have E:kids[1]? =some z:=by rw[Hh];rfl
 have cG:=hm 0 Zo;rw[X4,Qp]at cG;have eO:=(hr 0 y D).len;have F:z.name.size<=140737488355328/\kC.cell bk (o+12) (.string z.name)∈A:=by
  have L:=hr 1 z E;have g:=hm 1 Zo;obtain⟨c2,c3,c4,c5,c6,c7,c8,c9,sY,e,fq,mV⟩:=sq L;rw[e]at g;exact⟨fq,g _ (kJ.2 ⟨1,_,rfl,by rw[show o+1*11+1=o+12 by omega]⟩)⟩
 obtain⟨G,T⟩:=F;obtain rfl:=ha Zo;have Hj:(z::l).length=kids.length - 1:=by rw[Hh];rfl
 have hF:=λm=>AA A y _ (hr 0 y D) (bp.ok 0 y D) z.name G lb m deep
 have hR5:RR=kQ (decide (s.size=0/\args.length=0/\ab.length=0/\2 < kids.length)&&wz (.mk lk ln bm lt items)) (z7 (decide (256 < kids.length)) (yJ (jm ((z::l).map λy=>kQ (decide (y.kind=6)) (kM y))) (wx y z.name (kM y)))):=by
  rw[C,Hh,<- ug];rfl
 obtain⟨B,K⟩:∃B,B=m0:=⟨_,rfl⟩;cases m0 with
 |true=>
  obtain⟨mB,Nb⟩:∃b,b=(true||decide (256 < kids.length)):=⟨_,rfl⟩;have Iy:mB=true:=by rw[Nb,Bool.true_or]
  exact zA1
 |false=>
  obtain⟨mB,Nb⟩:∃b,b=(false||decide (256 < kids.length)):=⟨_,rfl⟩;have Iy:mB=decide ((kids.length:Int) > 256):=by
   rw[Nb,vN];exact decide_eq_decide.2 Zo
  exact zA1
theorem node_ok(A:List kC)(j:oD A):∀(N:Nat) (x:Nd),x.w<=N->x.w<=274877906944->∀vs,jN A x vs->zk A x vs:=by
 intro N
 induction N with
 |zero=>intro x C;have:=x.iy;omega
 |succ N ih=>
  intro x C q vs h;have g:∀y us,y∈x.kids->jN A y us->zk A y us:=λy us D B=>by
   have h1:y.w < x.w:=by
    cases x;have:=Nd.cj D;simp only[Nd.kids]at this;simp only[Nd.w];omega
   exact ih y Zo Zo us B
  refine⟨λE F s=>node_of A x vs h ?_ E F s,λd m e=>?_⟩
  .by_cases k1:x.kind=1
   .exact node_k1 A j x vs h q g k1
   by_cases k2:x.kind=2
   .exact node_k2 A j x vs h q g k2
   by_cases k3:x.kind=3
   .exact node_k3 A j x vs h q g k3
   by_cases k4:x.kind=4
   .exact node_k4 A j x vs h q g k4
   by_cases k5:x.kind=5
   .exact node_k5 A j x vs h q g k5
   by_cases k6:x.kind=6
   .exact node_k6 A j x vs h q g k6
   by_cases k7:x.kind=7
   .exact node_k7 A j x vs h q g k7
   by_cases k8:x.kind=8
   .exact node_k8 A j x vs h q g k8
   by_cases k9:x.kind=9
   .exact node_k9 A j x vs h q g k9
   exact node_k0 A j x vs h q g ⟨k1,k2,k3,k4,k5,k6,k7,k8,k9⟩
  .have:=Jc _ x (Qt _) d m e;omega
theorem Rm(A:List kC)(d:oD A)(x:Nd)(g:x.w<=274877906944)(vs:List Value)(h:jN A x vs):zk A x vs:=node_ok A d _ x (Qt _) g vs h
def F160:RIR:=Eh (X:=⟨11,[],4,[qo 5 (.iv 262 (Value.agg #[.int .i64 0]) true (.tmp 4)),qm 3 5,qe 6 3 0,qe 7 3 1,
 qo 1 (.alloc 262 [.int .i64 0]),qs 1 1 6,qm 2 7],(qS [qm 8 2] [0,1,8] (qC 8 (.mY [qf 9 0 1,ql 10 9,qs 1 0 10] []) .skip))⟩)
theorem Wp:Nq Tryz.prog (zW [(0,[0,1,2]),(1,[0,1,8]),(2,[])]) (zW []) 160=some F160:=by kernel_rfl
theorem Fa(e:Nat)(n:Int):iS Tryz.prog 160 [kE e] .returning .returning [kA e 0 [vi n]] (λPost=>Post=[kA e 0 [vi n]]):=by
 refine iS.intro Wp Zn9 .none ?_;refine ae ?_;refine kK (λq=>?_);refine ae ?_;refine pY.seq (pY.mY ?_);refine ae ?_;refine pY.cond (t:=false) Zr (λh=>by cases h) (λ_=>pY.skip ?_);exact kG (Post:=[kA e 0 [vi n]]) (.inl rfl) .nil rfl ZI
theorem Fb(e:Nat)(n:Int):iS Tryz.prog 160 [kE e] (.panicking wn) (.panicking [{v:=YR,recovered:=true}]) [kA e 0 [vi n]] (λPost=>Post=[kA e 0 [vi 150]]):=by
 refine iS.intro Wp Zn9 .some ?_;refine ae ?_;refine kK (λq=>?_);refine ae ?_;refine pY.seq (pY.mY ?_);refine ae ?_;refine pY.cond (t:=true) Zr (λ_=>pY.mY ?_) (λh=>by cases h);refine ae ?_;exact kG (Post:=[kA e 0 [vi 150]]) (.inl rfl) .nil rfl ZI
theorem XT(L R:SH):fJ (L++R) R L:=by
 simp only[V.fJ,Vc];exact Qa
theorem Pd(X Y:List kC)(L:SH):ai ([X,Y]++L) L:=⟨[X,Y],by
 simp only[V.fJ,Vc];exact Qa⟩
theorem Lj(X Y:List kC)(L:SH):ai ([X]++[Y,L.flatten]) L:=⟨[X,Y],by
 simp only[V.fJ,Vc,Vd,Ve,vp];rw[<- vm];exact Qa⟩
theorem qg(e j:Nat)(n:Int)(m d:Bool)(g:SH)(Q:Value->SH->Prop)(Γ:Env)(q:V.look Γ 2=some (kE e))(A:Q (vi n) g){H:SH}(s:fJ H [kA e 0 [vi n]] [bh j m d,g.flatten]):
 endDP Tryz.prog 160 [kE e] [.cq 2] Q .ret Γ H:=by
 refine⟨.inr rfl,[kA e 0 [vi n]],[bh j m d,g.flatten],_,Fa e n,s,?_⟩
 rintro Post rfl
 exact⟨.inr rfl,[vi n],g,.cq q MJ .nil,Lj _ _ _,A⟩
theorem HU(D:Value)(q:SH)(QQ:Bool->Bool->SH->Prop)(B:SH->Prop)
 (h:∀j,Ht Tryz.prog D [kE j] (bh j false false::q) (λv Post=>∃m d g,Post=bh j m d::g/\QQ m d g) (λC Post=>C=wn/\∃m d g,Post=bh j m d::g/\B g)):
 au Tryz.prog 102 [D] q (λv Post=>(∃m d,v=vi (if m then 151 else if d then 152 else 0)/\QQ m d Post)∨(v=vi 150/\B Post)):=by
 refine au.Nj low102 Zn9 ?_;simp only[F102,Eh,VDP];refine ae ?_;refine kK (λe=>?_);refine ae ?_;refine kX Zr (λj=>?_);simp only[Value.cells];refine ae ?_;refine⟨[kE e],Zr,?_⟩;refine ae ?_;have E:fJ (kA j 0 [.bool false,.bool false]::kA e 0 [vi 0]::q) (bh j false false::q) [kA e 0 [vi 0]]:=by
  simp only[V.fJ,Vd,Ve,vr,vp,vm];exact zDX
 refine RT Zr (h j) Zr E (λv Post F=>?_) (λC Post A=>?_);rotate_left
 .obtain⟨rfl,m,d,g,rfl,A⟩:=A;refine⟨[kA e 0 [vi 0]],bh j m d::g,_,_,Fb e 0,rfl,XT _ _,?_⟩
  rintro Post rfl
  exact⟨.inr rfl,[vi 150],g,.cq Zr MJ .nil,Pd _ _ _,.inr ⟨rfl,A⟩⟩
 obtain⟨m,d,g,rfl,s⟩:=F;refine VO.imp (H':=[bh j m d,kA e 0 [vi 0],g.flatten]) (ai.perm ?_) ?_
 .simp only[Vd,Ve,vr,vp,Vc];exact zDX
 cases m with
 |true=>
  refine ae ?_;exact qg e j 151 true d g _ _ rfl (.inl ⟨true,d,rfl,s⟩) ZP
 |false=>
  cases d with
  |true=>
   refine ae ?_;exact qg e j 152 false true g _ _ rfl (.inl ⟨false,true,rfl,s⟩) ZP
  |false=>
   refine ae ?_;exact qg e j 0 false false g _ _ rfl (.inl ⟨false,false,rfl,s⟩) ZP
structure Md where
 aQ:ByteArray
 args:List ByteArray
 ab:List ByteArray
 aA:Int
 body:List Nd
structure Hy (A:List kC)(x:Md)(vs:List Value):Prop where
 form:∃aa ac ta tc a c bk o us,vs=[.string x.aQ,.slice aa x.args.length ac,.slice ta x.ab.length tc,vi x.aA,.slice a x.body.length c]/\cO A (.slice aa x.args.length ac) x.args/\cO A (.slice ta x.ab.length tc) x.ab/\yW A x.body a bk o us
 aQ:x.aQ.size<=140737488355328
 aA:-9223372036854775808<=x.aA/\x.aA<=9223372036854775807
def zC(x:Md):Rs:=kQ (decide (kS x.aQ=x.args.length/\0<=x.aA/\x.aA<=255)) (wa 15 x.args (wa 63 x.ab (jm (wM x.body (x.body.map kM)))))
def jt(x:Md):Nat:=Tt (λd=>decide (40 < d)) (zC x)
theorem HV(A:List kC)(x:Md)(vs:List Value)(h:Hy A x vs)(q lb:Nat):
 ju Tryz.prog 103 [kE lb,kE q] [bh lb false false,A,kA q 0 vs] (λv Post=>∃m d E,Post=bh lb m d::E/\(∃dd,zC x=some (dd,m)/\d=decide (40 < dd))/\E=[A])
  (λch Post=>ch=wn/\∃m d E,Post=bh lb m d::E/\zC x=none/\E=[A]):=by
 obtain⟨⟨j,s,C,D,a,c,bk,o,us,rfl,bD,bB,bp⟩,bZ,F⟩:=h;obtain⟨aQ,args,ab,g,body⟩:=x;simp only at bD bB bp bZ F|-;obtain⟨RR,B⟩:∃RR,RR=zC ⟨aQ,args,ab,g,body⟩:=⟨_,rfl⟩;rw[<- B];simp only[zC]at B;refine ju.intro low103 Zn9 ?_;refine jH ?_;by_cases h1:kS aQ=(args.length:Int);rotate_left
 .have aG:RR=none:=by simp[B,kQ,h1]
  have fC:decide (kS aQ=(args.length:Int))=false:=Zf h1;refine VC.seq (VC.Av (λch H'=>ch=wn/\ai H' [bh lb false false,A,kA q 0 [.string aQ,.slice j args.length s,.slice C ab.length D,vi g,.slice a body.length c]]) (λH'=>H'=[bh lb false false,A,kA q 0 [.string aQ,.slice j args.length s,.slice C ab.length D,vi g,.slice a body.length c]]) rfl ?_ (λch H' hp=>?_))
  .skip
   intro rs cW;rcases QI.1 cW with rfl|cW
   .skip
    refine kI ?_;refine kI ?_;refine⟨rfl,vi (kS aQ),True,λΓ H bq hH=>?_,?_⟩
    .exact zCJ
    refine kI ?_;refine kI ?_;refine kI ?_;refine⟨rfl,.bool false,True,λΓ H bq hH=>?_,?_⟩
    .exact zAZ
    refine kI ?_;refine kI ?_;refine kI ?_;refine kI ?_;refine kI ?_;refine kI ?_;refine kI ?_;refine kI ?_;refine kI ?_;exact zAC
   rcases QI.1 cW with rfl|cW
   .skip
    refine kI ?_;refine kI ?_;refine kI ?_;refine kI ?_;refine⟨rfl,vi (kS aQ),True,λΓ H bq hH=>?_,?_⟩
    .exact zCJ
    refine kI ?_;refine⟨rfl,.bool false,True,λΓ H bq hH=>?_,?_⟩
    .exact zAZ
    refine kI ?_;refine kI ?_;refine kI ?_;refine kI ?_;refine kI ?_;refine kI ?_;refine kI ?_;refine kI ?_;refine kI ?_;exact zAC
   .cases cW
  .exact zCI
 have fC:decide (kS aQ=(args.length:Int))=true:=Zt h1;by_cases h2:0<=g;rotate_left
 .have aG:RR=none:=by simp[B,kQ,h2]
  have rG:decide (0<=g)=false:=Zf h2;refine VC.seq (VC.Av (λch H'=>ch=wn/\ai H' [bh lb false false,A,kA q 0 [.string aQ,.slice j args.length s,.slice C ab.length D,vi g,.slice a body.length c]]) (λH'=>H'=[bh lb false false,A,kA q 0 [.string aQ,.slice j args.length s,.slice C ab.length D,vi g,.slice a body.length c]]) rfl ?_ (λch H' hp=>?_))
  .skip
   intro rs cW;rcases QI.1 cW with rfl|cW
   .skip
    refine kI ?_;refine kI ?_;refine⟨rfl,vi (kS aQ),True,λΓ H bq hH=>?_,?_⟩
    .exact zCJ
    refine kI ?_;refine kI ?_;refine kI ?_;refine⟨rfl,.bool true,True,λΓ H bq hH=>?_,?_⟩
    .exact zAZ
    refine kI ?_;refine kI ?_;refine kI ?_;refine⟨rfl,.bool false,True,λΓ H bq hH=>?_,?_⟩
    .exact zBJ
    refine kI ?_;refine kI ?_;refine kI ?_;refine kI ?_;refine kI ?_;exact zAC
   rcases QI.1 cW with rfl|cW
   .skip
    refine kI ?_;refine kI ?_;refine kI ?_;refine kI ?_;refine⟨rfl,vi (kS aQ),True,λΓ H bq hH=>?_,?_⟩
    .exact zCJ
    refine kI ?_;refine⟨rfl,.bool true,True,λΓ H bq hH=>?_,?_⟩
    .exact zAZ
    refine kI ?_;refine kI ?_;refine kI ?_;refine⟨rfl,.bool false,True,λΓ H bq hH=>?_,?_⟩
    .exact zBJ
    refine kI ?_;refine kI ?_;refine kI ?_;refine kI ?_;refine kI ?_;exact zAC
   .cases cW
  .exact zCI
 have rG:decide (0<=g)=true:=Zt h2;by_cases h3:g<=255;rotate_left
 .have aG:RR=none:=by simp[B,kQ,h3]
  have Sp:decide (g<=255)=false:=Zf h3;refine VC.seq (VC.Av (λch H'=>ch=wn/\ai H' [bh lb false false,A,kA q 0 [.string aQ,.slice j args.length s,.slice C ab.length D,vi g,.slice a body.length c]]) (λH'=>H'=[bh lb false false,A,kA q 0 [.string aQ,.slice j args.length s,.slice C ab.length D,vi g,.slice a body.length c]]) rfl ?_ (λch H' hp=>?_))
  .skip
   intro rs cW;rcases QI.1 cW with rfl|cW
   .skip
    refine kI ?_;refine kI ?_;refine⟨rfl,vi (kS aQ),True,λΓ H bq hH=>?_,?_⟩
    .exact zCJ
    refine kI ?_;refine kI ?_;refine kI ?_;refine⟨rfl,.bool true,True,λΓ H bq hH=>?_,?_⟩
    .exact zAZ
    refine kI ?_;refine kI ?_;refine kI ?_;refine⟨rfl,.bool true,True,λΓ H bq hH=>?_,?_⟩
    .exact zBJ
    refine kI ?_;refine kI ?_;refine kI ?_;refine kI ?_;refine⟨rfl,.bool false,True,λΓ H bq hH=>?_,?_⟩
    .exact zE7
    exact zAC
   rcases QI.1 cW with rfl|cW
   .skip
    refine kI ?_;refine kI ?_;refine kI ?_;refine kI ?_;refine⟨rfl,vi (kS aQ),True,λΓ H bq hH=>?_,?_⟩
    .exact zCJ
    refine kI ?_;refine⟨rfl,.bool true,True,λΓ H bq hH=>?_,?_⟩
    .exact zAZ
    refine kI ?_;refine kI ?_;refine kI ?_;refine⟨rfl,.bool true,True,λΓ H bq hH=>?_,?_⟩
    .exact zBJ
    refine kI ?_;refine kI ?_;refine kI ?_;refine kI ?_;refine⟨rfl,.bool false,True,λΓ H bq hH=>?_,?_⟩
    .exact zE7
    exact zAC
   .cases cW
  .exact zCI
 have Sp:decide (g<=255)=true:=Zt h3;have hm:RR=wa 15 args (wa 63 ab (jm (wM body (body.map kM)))):=by simp[B,kQ,h1,h2,h3]
 refine VC.seq (VC.draws ⟨?_,?_,trivial⟩)
 .exact zAA
 .exact zAA
theorem Kt(A:List kC)(x:Md)(vs:List Value)(h:Hy A x vs):au Tryz.prog 47 [.agg vs.toArray] [A] (λv Post=>v=vi (jt x)/\Post=[A]):=by
 have C:=HV A x vs h;obtain⟨⟨j,s,F,G,a,c,bk,o,us,rfl,bD,bB,bp⟩,bZ,pN⟩:=h;refine au.intro low47 Zn9 ?_;refine ae ?_;refine kX Zr (λq=>?_);simp only[Value.cells];refine ae ?_;refine kH (HU (.func (.func 103) #[] #[kE q]) [A,kA q 0 [.string x.aQ,.slice j x.args.length s,.slice F x.ab.length G,vi x.aA,.slice a x.body.length c]]
  (λm d g=>(∃dd,zC x=some (dd,m)/\d=decide (40 < dd))/\g=[A]) (λg=>zC x=none/\g=[A]) (λE=>Ht.cB (first:=#[]) (cap:=#[kE q]) (C q E))) Zr ZP (λv Post D=>?_)
 have B:v=vi (jt x)/\Post=[A]:=by
  rcases D with⟨m,d,rfl,⟨dd,e,rfl⟩,rfl⟩|⟨rfl,e,rfl⟩
  .refine⟨?_,rfl⟩;simp only[jt,Tt,e];cases m <;> simp <;> split <;> rfl
  .refine⟨?_,rfl⟩;simp only[jt,Tt,e];rfl
 obtain⟨rfl,rfl⟩:=B;simp only[aE];exact zBD
end Go.Proofs.YtijnokbblmbpkaaGreatDoor

/-
  A part of the proof.
-/
import Derived.Test.YtijnokbblmbpkaaGreatDoorU4
import Derived.Test.YtijnokbblmbpkaaGreatDoorProg
import Derived.Test.YtijnokbblmbpkaaGreatDoorU7
import Derived.KernelRfl
set_option linter.all false
set_option maxHeartbeats 3200000
set_option maxRecDepth 100000
namespace Go.Proofs.YtijnokbblmbpkaaGreatDoor
open Go Go.V
instance:Inhabited aO:=⟨⟨0,[],.skip⟩⟩
def kD:List (Nat×List (List Nat)×List (Nat×List (List Nat))):=[(23,[[0,2,3],[2,3,4],[2,3,4,5,6],[2,3,4,5,6,7],[2,3,4,5,6,7,8],[2,3,4,5,6,7,8,9],[2,3,4,5,6,7,8,9],[2,3,4,5,6,7,8,9,26],[2,3],[2,3]],[(8,[[0,1,2,3,4,5,6],[0,1,2,3,5,4,6]])]),
 (60,[[0],[0,8],[2],[3,4,5],[2]],[]),
 (61,[[0],[0,4],[0,4,5],[0,4,5,12],[4,5],[2,3],[0,4,5,25],[0,4,5],[4,5,6],[2,3],[0,5,43],[5],[2,3],[0,5,7],[0,5,7,51],[0,5,7,8],[0,5,7,57],[2,3],[0,5,7],[0,5,7],[0,5,7,9],[0,5,7],[2,3]],[(9,[[0,1,2,3,4,5,6,7],[0,2,3,4,1,5,6,7],[0,2,3,4,5,1,6,7]])]),
 (62,[[0],[0,6],[2],[0],[0,22],[],[2],[0],[0,3],[0,3,53],[],[2],[0,3],[3],[2]],[]),
 (63,[[0],[0,3],[0,3,8],[2],[0,3],[0,3,18],[0,3,4],[0,3,29],[3],[2],[0,3,5],[0,3],[3],[2]],[]),
 (64,[[0,1],[0,1,5],[0,1,5,6],[0,1,5,6,13],[0,1,5,6],[0,5,6,7],[0,5],[0,5,32],[5],[4],[0,1,5,8],[0,1,5,44],[4],[0,1,5,9],[0,1,5],[0,1,5,55],[4],[0,1,5]],[]),
 (65,[[0,30],[]],[(0,[[0,1,2,3,4,5,6,7,8,9,10,11,12,13,14,15,16,17,18,19,20,21,22,23,24,25,26,27,28]])]),
 (66,[[0],[2]],[]),
 (124,[[0],[0,5],[0,5,6],[0,5,7,8,9],[0,5,7,8,9,18],[2,3,4],[0,5,7],[0,5,7,28],[2,3,4],[0,5,6]],[]),
 (125,[[0,2],[0,2,16],[2],[2]],[(1,[[0,1,2,3,4,5,6,7,8,9,10,11,12,13]]),(3,[[0,1,2,3,4,5,6,7,8,9,10]])]),
 (126,[[0,1],[1,5],[4]],[]),
 (127,[[0],[0,3],[0,3,4],[0,3,15],[],[2],[3],[2]],[]),
 (129,[[0,1,2],[0,9],[0],[6]],[]),
 (130,[[0,1],[1,5],[4]],[]),
 (131,[[0,1],[0,5],[0,11],[],[4],[0,6],[6],[4]],[]),
 (132,[[0],[2]],[]),
 (133,[[0],[0,12],[2],[2]],[(1,[[0,1,2,3,4,5,6,7,8,9]]),(3,[[0,1,2,3,4,5,6,7,8,9,10,11]])]),
 (134,[[0,1,4],[0,1,4,5],[0,1,4,5,6],[0,1,4,5,62],[0,1,4,5],[4,5,7],[4],[4]],[(3,[[0,1,2,3,4,5,6,7,8,9,10,11,12,13,14,15,16,17,18,19,20,21,22,23,24,25,26,27,28,29,30,31,32,33,34,35,36,37,38,39,40,41,42,43,44,45,46,47,48,49]])]),
 (135,[[0],[0,3],[0,3,4],[2]],[]),
 (145,[[0],[0,3],[0,3,4],[0,3,4,8],[0,3,4],[0,3,4,15],[2],[2]],[]),
 (146,[[0,1],[0,1,9],[4],[0,1,5],[0,1,5,41],[0,1,5],[4]],[]),
 (176,[[0,1,4],[0,4,7,8],[0,4,7,18],[4,5,6],[0,4,7,24],[4,5,6],[4,7,9,10],[4,7,9,10,34],[4,5,6],[4,5,6]],[]),
 (177,[[0,1,4],[0,1,4,5,6],[0,1,4,5,23],[4],[0,1,4,5,7],[0,1,4,5,7],[0,1,4,5,7,8],[0,1,4,5,7,8],[0,1,4,7],[0,1,4,7,54],[0,1,4,7,9],[0,1,4,7,62],[4],[0,1,4,7],[0,1,4,7,10],[0,1,4,7],[4]],[(5,[[0,1,2,3,4,5,6,7,8,9]])]),
 (178,[[0],[3],[2]],[]),
 (179,[[0],[0,3],[3,4],[2]],[]),
 (180,[[0],[2]],[]),
 (181,[[0,1],[0,1,14],[0,1],[4]],[]),
 (182,[[0],[2]],[]),
 (183,[[0,1],[0,1,8],[4],[4]],[]),
 (211,[[0,1],[0,1,11],[0,1,6],[0,1,6,32],[0,1],[0,1,36],[4,5],[0,1,7],[0,1,7,49],[0,1,7],[0,1,7,55],[4,5],[0,1],[4,5]],[]),
 (212,[[0,1,4],[0,1,4,6],[0,1,4,6,13],[4,5],[0,1,4,6,21],[4,5],[0,1,4,6,29],[0,1,4,7],[4,5],[0,1,4,6,45],[0,1,4,8,9],[0,1,4,8,9,55],[4,5],[4,5],[0,1,4,6,65],[0,1,4,72],[4,5],[4,5],[0,1,4,87],[4,5],[4,5]],[(17,[[0,1,2,3,4,5,6,7,8,9,10,11,12,13,14]])]),
 (213,[[0,1,4],[0,1,4,6,7],[0,1,4,6,7,19],[0,4,6,7,21],[4,6,7],[4,5],[0,1,4,6,8],[4,6,8,9,10],[4,5]],[]),
 (215,[[0,1],[0,1,21],[4],[0,1,5],[1,5,6],[4]],[(1,[[0,1,2,3,4,5,6,7,8,9,10,11,12,13,14]]),(3,[[0,1,2,3,4,5,6,7,8,9,10,11]]),(4,[[0,1,2,3,4,5,6,7,8,9,10,11,12]])]),
 (216,[[0],[2]],[]),
 (233,[[0,1,4],[0,1,4,6],[0,1,4,6,13],[4,5],[0,1,4,6,17],[4,5],[4,5]],[]),
 (237,[[0,1,4],[0,1,4,6],[0,1,4,6,7],[0,1,4,6,7,12],[0,1,4,6,7],[0,1,4,6,7,21],[0,1,4,8],[0,1,4,8,33],[0,1,4,8],[4,5],[4,5]],[(5,[[0,1,2,3,4,5,6]])]),
 (238,[[0,1,2,6],[0,1,2,6,8,9],[0,1,2,6,8,9,20],[0,1,2,6,8,10],[0,1,2,6,8,10],[0,1,2,6,8,10,11],[0,1,2,6,8],[0,1,2,6,8,9],[0,6,8,9,49],[6,8,9],[6,7]],[]),
 (239,[[1],[2]],[]),
 (241,[[1,2,3,4,8],[1,2,3,8,9],[8]],[]),
 (242,[[0,1,2,6],[0,2,6,8],[0,2,6,8,9],[0,2,6,8,9,15],[0,2,6,8,10],[0,2,6,8,10],[0,2,6,8],[0,2,6,8,9],[0,6,8,9,36],[6,8,9],[6,7]],[]),
 (253,[[0,1],[4]],[]),
 (258,[[0,1,4],[0,1,4,5],[0,1,4,5,6],[0,1,4,5,6,7],[0,1,4,5,6,7,8],[0,1,4,5,6,7,8,9],[0,1,4,5,6,8,9,22],[4],[4],[0,1,4,5,6,9,28],[4,5,6],[4],[0,1,4,5,6,41],[4],[0,1,4,5,6,47],[4,5,6],[4],[0,1,4,5,6,62],[4],[0,1,4,5,6,71],[4],[0,1,4,5,79],[4],[0,1,4,86],[4],[0,1,4,10],[0,1,4,97],[4],[0,1,4],[0,4,11],[4,11],[4]],[]),
 (276,[[0,1,4],[0,1,4,5],[0,1,4,5,6],[0,1,4,5,15],[4],[0,1,4,5],[0,1,4,5,25],[0,1,4,5,6],[0,1,4,5,32],[4],[0,1,4,5],[0,1,4,5,7],[0,1,4,5],[0,1,4,5,57],[0,1,4,5],[0,1,4,5],[0,4,5],[4,5],[4]],[]),
 (278,[[0,1],[0,7],[0],[4]],[])]
noncomputable def cD(p:Nat×List (List Nat)×List (Nat×List (List Nat))):Option aO:=pC Tryz.prog (λi=>p.2.1.getD i []) (zW p.2.2) p.1
noncomputable def tabD:List (Nat×FE):=List.map (λp=>(p.1,.fir ((cD p).getD default))) kD
theorem kD_ok:List.all kD (λp=>(cD p).isSome)=true:=by kernel_rfl
theorem tabD_ok:uH Tryz.prog tabD:=λq h=>by
 obtain⟨p,g,rfl⟩:=QO.1 h;obtain⟨F,d⟩:=X8.1 (vg.1 kD_ok p g);refine⟨λi=>p.2.1.getD i [],zW p.2.2,?_⟩;show cD p=some ((cD p).getD default);rw[d];rfl
structure pT (A:List kC)(l:List Nd)(a:Option Addr)(bk o:Nat)(us:Nat->List Value):Prop where
 at_:0 < l.length->a=some ⟨bk,o,none⟩
 many:l.length<=140737488355328
 mem:∀i,i < l.length->∀y∈kA bk (o+i*11) (us i),y∈A
 rd:∀i x,l[i]? =some x->jN A x (us i)
theorem pT.ok {A:List kC}{l:List Nd}{a:Option Addr}{bk o:Nat}{us:Nat->List Value}(h:pT A l a bk o us)(d:oD A)(hw:Nd.ws l<=274877906944):yW A l a bk o us:=
 ⟨h.at_,h.many,h.mem,h.rd,λi x e=>Rm A d x (by have:=Nd.cj (Zv e);omega) _ (h.rd i x e)⟩
structure MH (A:List kC)(x:Md)(vs:List Value):Prop where
 form:∃aa ac ta tc a c bk o us,vs=[.string x.aQ,.slice aa x.args.length ac,.slice ta x.ab.length tc,vi x.aA,.slice a x.body.length c]/\cO A (.slice aa x.args.length ac) x.args/\cO A (.slice ta x.ab.length tc) x.ab/\pT A x.body a bk o us
 aQ:x.aQ.size<=140737488355328
 aA:-9223372036854775808<=x.aA/\x.aA<=9223372036854775807
theorem MH.ok {A:List kC}{x:Md}{vs:List Value}(h:MH A x vs)(D:oD A)(E:Nd.ws x.body<=274877906944):Hy A x vs:=by
 obtain⟨⟨d,g,F,G,a,c,bk,o,us,j,m,q,s⟩,B,C⟩:=h;exact⟨⟨d,g,F,G,a,c,bk,o,us,j,m,q,s.ok D E⟩,B,C⟩
theorem MH.more {A B:List kC}{x:Md}{vs:List Value}(h:MH A x vs)(g:∀z∈A,z∈B):MH B x vs:=by
 obtain⟨⟨j,m,H,I,a,c,bk,o,us,q,s,C,d⟩,D,E⟩:=h;exact⟨⟨j,m,H,I,a,c,bk,o,us,q,s.more g,C.more g,⟨d.at_,d.many,λi F y G=>g _ (d.mem i F y G),λi x e=>(d.rd i x e).more g⟩⟩,D,E⟩
def txt1:ByteArray:=⟨#[102,111,111,58,32,97,32,124,32,116,32,117,32,124,32,116,32,58,61,32,97,46,32,117,32,58,61,32,91,58,120,32,124,32,116,32,58,61,32,120,32,43,32,97,46,32,91,120,32,43,32,117,93,93,46,32,94,117]⟩
def txt2:ByteArray:=⟨#[102,111,111,32,120]⟩
def m1:Md:=⟨⟨#[102,111,111,58]⟩,[⟨#[97]⟩],[⟨#[116]⟩,⟨#[117]⟩],0,[.mk 3 ⟨#[116]⟩ (.mk 0 0 0 ⟨#[]⟩ []) [] [] [.mk 2 ⟨#[97]⟩ (.mk 0 0 0 ⟨#[]⟩ []) [] [] [] 20] 15,.mk 3 ⟨#[117]⟩ (.mk 0 0 0 ⟨#[]⟩ []) [] [] [.mk 7 ⟨#[]⟩ (.mk 0 0 0 ⟨#[]⟩ []) [⟨#[120]⟩] [] [.mk 3 ⟨#[116]⟩ (.mk 0 0 0 ⟨#[]⟩ []) [] [] [.mk 4 ⟨#[43]⟩ (.mk 0 0 0 ⟨#[]⟩ []) [] [] [.mk 2 ⟨#[120]⟩ (.mk 0 0 0 ⟨#[]⟩ []) [] [] [] 39,.mk 2 ⟨#[97]⟩ (.mk 0 0 0 ⟨#[]⟩ []) [] [] [] 43] 41] 34,.mk 7 ⟨#[]⟩ (.mk 0 0 0 ⟨#[]⟩ []) [] [] [.mk 4 ⟨#[43]⟩ (.mk 0 0 0 ⟨#[]⟩ []) [] [] [.mk 2 ⟨#[120]⟩ (.mk 0 0 0 ⟨#[]⟩ []) [] [] [] 47,.mk 2 ⟨#[117]⟩ (.mk 0 0 0 ⟨#[]⟩ []) [] [] [] 51] 49] 46] 28] 23,.mk 9 ⟨#[]⟩ (.mk 0 0 0 ⟨#[]⟩ []) [] [] [.mk 2 ⟨#[117]⟩ (.mk 0 0 0 ⟨#[]⟩ []) [] [] [] 57] 56]⟩
def m2:Md:=⟨⟨#[102,111,111]⟩,[],[],0,[.mk 2 ⟨#[120]⟩ (.mk 0 0 0 ⟨#[]⟩ []) [] [] [] 4]⟩
def rdM:Option PR->Option Md
 |some (.val (.tuple us) h _)=>match us.toList with
  |[.agg xs,.agg ys]=>match xs.toList with
   |[.string aQ,av,tv,.int .i64 p,bv]=>match ys.toList with
    |[.int .i64 e,.int .i64 q,.bool false]=>match um h av with
     |some a=>match um h tv with
      |some t=>match Xx 20 h bv with
       |some b=>match decide (e=0/\q=0)&&decide (-9223372036854775808<=p/\p<=9223372036854775807)&&(Nat.ble aQ.size 1000&&Nat.ble b.length 1000)with
        |true=>some ⟨aQ,a,t,p,b⟩
        |false=>none
       |none=>none
      |none=>none
     |none=>none
    |_=>none
   |_=>none
  |_=>none
 |_=>none
theorem EK {A:List kC}{t:ByteArray}{x:Md}(h:rdM (Ax 100000 tabD (λ_ _ _ _=>none) 100000 100 23 [.string t] [] 100000)=some x):
 au Tryz.prog 23 [.string t] [A] (λv Post=>∃vs B,v=.tuple #[.agg vs.toArray,.agg #[.int .i64 0,.int .i64 0,.bool false]]/\MH B x vs/\Post=[A,B]):=by
 unfold rdM at h;split at h
 case h_2=>cases h
 rename_i us m n U;split at h
 case h_2=>cases h
 rename_i xs ys xV;split at h
 case h_2=>cases h
 rename_i d C J p j K;split at h
 case h_2=>cases h
 rename_i ee q mW;split at h
 case h_2=>cases h
 rename_i a S;split at h
 case h_2=>cases h
 rename_i tt X;split at h
 case h_2=>cases h
 rename_i b T;split at h
 case h_2=>cases h
 rename_i s;obtain rfl:=XC h;simp only[vG,decide_eq_true_eq]at s;obtain⟨⟨⟨rfl,rfl⟩,W⟩,I,H⟩:=s;have I:=lU I;have H:=lU H;obtain rfl:us=#[.agg xs,.agg ys]:=vD.1 xV;obtain rfl:xs=#[.string d,C,J,.int .i64 p,j]:=vD.1 K;obtain rfl:ys=#[.int .i64 0,.int .i64 0,.bool false]:=vD.1 mW;refine(run_mem (A:=A) tabD_ok (λ_ _ _ _ _ h=>by cases h) rfl U).mono ?_
 rintro u Post ⟨σ,g,rfl,rfl⟩
 have F:=fQ g S;have G:=fQ g X;obtain⟨N,c3,bk,o,us,Y,Z,k3,k4⟩:=Jo g 20 j b T;obtain⟨L,O,D,-,-⟩:=id F;obtain⟨M,Q,E,-,-⟩:=id G;refine⟨[.string d,rn σ C,rn σ J,vi p,rn σ j],_,Zs,⟨⟨L,O,M,Q,N,c3,bk,o,us,by rw[D,E,Y],by rw[<- D];exact F,by rw[<- E];exact G,λh=>(Z h).1,by show b.length<=_;omega,k3,k4⟩,by show d.size<=_;omega,W⟩,rfl⟩
theorem m1_spec(A:List kC):au Tryz.prog 23 [.string txt1] [A] (λv Post=>∃vs B,v=.tuple #[.agg vs.toArray,.agg #[.int .i64 0,.int .i64 0,.bool false]]/\MH B m1 vs/\Post=[A,B]):=EK (by kernel_rfl)
end Go.Proofs.YtijnokbblmbpkaaGreatDoor

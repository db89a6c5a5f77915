/-
  The trees of the anchor's two texts.
-/
import Derived.Test.YtijnokbblmbpkaaGreatDoorM9
import Derived.Test.YtijnokbblmbpkaaGreatDoorProg
import Derived.Test.YtijnokbblmbpkaaGreatDoorM12
import Derived.KernelRfl
set_option linter.all false
namespace Go.Proofs.YtijnokbblmbpkaaGreatDoor
open Go Go.V
set_option maxHeartbeats 3200000
set_option maxRecDepth 100000
instance:Inhabited aQ:=⟨⟨0,[],.skip⟩⟩
def kD:List (Nat×List (List Nat)×List (Nat×List (List Nat))):=[(23,[[0,2,3],[2,3,4],[2,3,4,5,6],[2,3,4,5,6,7],[2,3,4,5,6,7,8],[2,3,4,5,6,7,8,9],[2,3,4,5,6,7,8,9],[2,3,4,5,6,7,8,9,26],[2,3],[2,3]],[(8,[[0,1,2,3,4,5,6],[0,1,2,3,5,4,6]])]),
 (60,[[0],[0,8],[2],[3,4,5],[2]],[]),
 (61,[[0],[0,4],[0,4,5],[0,4,5,12],[4,5],[2,3],[0,4,5,25],[0,4,5],[4,5,6],[2,3],[0,5,43],[5],[2,3],[0,5,7],[0,5,7,51],[0,5,7,8],[0,5,7,57],[2,3],[0,5,7],[0,5,7],[0,5,7,9],[0,5,7],[2,3]],[(9,[[0,1,2,3,4,5,6,7],[0,2,3,4,1,5,6,7],[0,2,3,4,5,1,6,7]])]),
 (62,[[0],[0,6],[2],[0],[0,22],[],[2],[0],[0,3],[0,3,53],[],[2],[0,3],[3],[2]],[]),
 (63,[[0],[0,3],[0,3,8],[2],[0,3],[0,3,18],[0,3,4],[0,3,29],[3],[2],[0,3,5],[0,3],[3],[2]],[]),
 (64,[[0,1],[0,1,5],[0,1,5,6],[0,1,5,6,13],[0,1,5,6],[0,5,6,7],[0,5],[0,5,32],[5],[4],[0,1,5,8],[0,1,5,44],[4],[0,1,5,9],[0,1,5],[0,1,5,55],[4],[0,1,5]],[]),
 (65,[[0,30],[]],[(0,[[0,1,2,3,4,5,6,7,8,9,10,11,12,13,14,15,16,17,18,19,20,21,22,23,24,25,26,27,28]])]),
 (66,[[0],[2]],[]),
 (124,[[0],[0,5],[0,5,6],[0,5,7,8,9],[0,5,7,8,9,18],[2,3,4],[0,5,7],[0,5,7,28],[2,3,4],[0,5,6]],[]),
 (125,[[0,2],[0,2,16],[2],[2]],[(1,[[0,1,2,3,4,5,6,7,8,9,10,11,12,13]]),(3,[[0,1,2,3,4,5,6,7,8,9,10]])]),
 (126,[[0,1],[1,5],[4]],[]),
 (127,[[0],[0,3],[0,3,4],[0,3,15],[],[2],[3],[2]],[]),
 (129,[[0,1,2],[0,9],[0],[6]],[]),
 (130,[[0,1],[1,5],[4]],[]),
 (131,[[0,1],[0,5],[0,11],[],[4],[0,6],[6],[4]],[]),
 (132,[[0],[2]],[]),
 (133,[[0],[0,12],[2],[2]],[(1,[[0,1,2,3,4,5,6,7,8,9]]),(3,[[0,1,2,3,4,5,6,7,8,9,10,11]])]),
 (134,[[0,1,4],[0,1,4,5],[0,1,4,5,6],[0,1,4,5,62],[0,1,4,5],[4,5,7],[4],[4]],[(3,[[0,1,2,3,4,5,6,7,8,9,10,11,12,13,14,15,16,17,18,19,20,21,22,23,24,25,26,27,28,29,30,31,32,33,34,35,36,37,38,39,40,41,42,43,44,45,46,47,48,49]])]),
 (135,[[0],[0,3],[0,3,4],[2]],[]),
 (145,[[0],[0,3],[0,3,4],[0,3,4,8],[0,3,4],[0,3,4,15],[2],[2]],[]),
 (146,[[0,1],[0,1,9],[4],[0,1,5],[0,1,5,41],[0,1,5],[4]],[]),
 (176,[[0,1,4],[0,4,7,8],[0,4,7,18],[4,5,6],[0,4,7,24],[4,5,6],[4,7,9,10],[4,7,9,10,34],[4,5,6],[4,5,6]],[]),
 (177,[[0,1,4],[0,1,4,5,6],[0,1,4,5,23],[4],[0,1,4,5,7],[0,1,4,5,7],[0,1,4,5,7,8],[0,1,4,5,7,8],[0,1,4,7],[0,1,4,7,54],[0,1,4,7,9],[0,1,4,7,62],[4],[0,1,4,7],[0,1,4,7,10],[0,1,4,7],[4]],[(5,[[0,1,2,3,4,5,6,7,8,9]])]),
 (178,[[0],[3],[2]],[]),
 (179,[[0],[0,3],[3,4],[2]],[]),
 (180,[[0],[2]],[]),
 (181,[[0,1],[0,1,14],[0,1],[4]],[]),
 (182,[[0],[2]],[]),
 (183,[[0,1],[0,1,8],[4],[4]],[]),
 (211,[[0,1],[0,1,11],[0,1,6],[0,1,6,32],[0,1],[0,1,36],[4,5],[0,1,7],[0,1,7,49],[0,1,7],[0,1,7,55],[4,5],[0,1],[4,5]],[]),
 (212,[[0,1,4],[0,1,4,6],[0,1,4,6,13],[4,5],[0,1,4,6,21],[4,5],[0,1,4,6,29],[0,1,4,7],[4,5],[0,1,4,6,45],[0,1,4,8,9],[0,1,4,8,9,55],[4,5],[4,5],[0,1,4,6,65],[0,1,4,72],[4,5],[4,5],[0,1,4,87],[4,5],[4,5]],[(17,[[0,1,2,3,4,5,6,7,8,9,10,11,12,13,14]])]),
 (213,[[0,1,4],[0,1,4,6,7],[0,1,4,6,7,19],[0,4,6,7,21],[4,6,7],[4,5],[0,1,4,6,8],[4,6,8,9,10],[4,5]],[]),
 (215,[[0,1],[0,1,21],[4],[0,1,5],[1,5,6],[4]],[(1,[[0,1,2,3,4,5,6,7,8,9,10,11,12,13,14]]),(3,[[0,1,2,3,4,5,6,7,8,9,10,11]]),(4,[[0,1,2,3,4,5,6,7,8,9,10,11,12]])]),
 (216,[[0],[2]],[]),
 (233,[[0,1,4],[0,1,4,6],[0,1,4,6,13],[4,5],[0,1,4,6,17],[4,5],[4,5]],[]),
 (237,[[0,1,4],[0,1,4,6],[0,1,4,6,7],[0,1,4,6,7,12],[0,1,4,6,7],[0,1,4,6,7,21],[0,1,4,8],[0,1,4,8,33],[0,1,4,8],[4,5],[4,5]],[(5,[[0,1,2,3,4,5,6]])]),
 (238,[[0,1,2,6],[0,1,2,6,8,9],[0,1,2,6,8,9,20],[0,1,2,6,8,10],[0,1,2,6,8,10],[0,1,2,6,8,10,11],[0,1,2,6,8],[0,1,2,6,8,9],[0,6,8,9,49],[6,8,9],[6,7]],[]),
 (239,[[1],[2]],[]),
 (241,[[1,2,3,4,8],[1,2,3,8,9],[8]],[]),
 (242,[[0,1,2,6],[0,2,6,8],[0,2,6,8,9],[0,2,6,8,9,15],[0,2,6,8,10],[0,2,6,8,10],[0,2,6,8],[0,2,6,8,9],[0,6,8,9,36],[6,8,9],[6,7]],[]),
 (253,[[0,1],[4]],[]),
 (258,[[0,1,4],[0,1,4,5],[0,1,4,5,6],[0,1,4,5,6,7],[0,1,4,5,6,7,8],[0,1,4,5,6,7,8,9],[0,1,4,5,6,8,9,22],[4],[4],[0,1,4,5,6,9,28],[4,5,6],[4],[0,1,4,5,6,41],[4],[0,1,4,5,6,47],[4,5,6],[4],[0,1,4,5,6,62],[4],[0,1,4,5,6,71],[4],[0,1,4,5,79],[4],[0,1,4,86],[4],[0,1,4,10],[0,1,4,97],[4],[0,1,4],[0,4,11],[4,11],[4]],[]),
 (276,[[0,1,4],[0,1,4,5],[0,1,4,5,6],[0,1,4,5,15],[4],[0,1,4,5],[0,1,4,5,25],[0,1,4,5,6],[0,1,4,5,32],[4],[0,1,4,5],[0,1,4,5,7],[0,1,4,5],[0,1,4,5,57],[0,1,4,5],[0,1,4,5],[0,4,5],[4,5],[4]],[]),
 (278,[[0,1],[0,7],[0],[4]],[])]
noncomputable def cD(p:Nat×List (List Nat)×List (Nat×List (List Nat))):Option aQ:=oq Tryz.prog (fun i=>p.2.1.getD i []) (zK p.2.2) p.1
noncomputable def tabD:List (Nat×FE):=List.map (fun p=>(p.1,.fir ((cD p).getD default))) kD
theorem kD_ok:List.all kD (fun p=>(cD p).isSome)=true:=by kernel_rfl
theorem Ye:s8 Tryz.prog tabD:=fun q hq=>by
 obtain⟨p,hp,rfl⟩:=QM.1 hq;obtain⟨F,hF⟩:=Qz.1 (ve.1 kD_ok p hp);refine⟨fun i=>p.2.1.getD i [],zK p.2.2,?_⟩;show cD p=some ((cD p).getD default);rw[hF];rfl
structure oK (A:List kC)(l:List Nd)(a:Option Addr)(bk o:Nat)(us:Nat->List Value):Prop where
 at_:0 < l.length->a=some ⟨bk,o,none⟩
 many:l.length<=140737488355328
 mem:∀i,i < l.length->∀y∈kA bk (o+i*11) (us i),y∈A
 rd:∀i x,l[i]? =some x->jJ A x (us i)
theorem oK.ok {A:List kC}{l:List Nd}{a:Option Addr}{bk o:Nat}{us:Nat->List Value}(h:oK A l a bk o us)(hE:nE A)(hw:Nd.ws l<=274877906944):yD A l a bk o us:=
 ⟨h.at_,h.many,h.mem,h.rd,fun i x e=>MD A hE x (by have:=Nd.cy (Zv e);omega) _ (h.rd i x e)⟩
structure Lg (A:List kC)(x:Md)(vs:List Value):Prop where
 form:∃aa ac ta tc a c bk o us,vs=[.string x.aE,.slice aa x.args.length ac,.slice ta x.ab.length tc,vi x.ax,.slice a x.body.length c]/\dG A (.slice aa x.args.length ac) x.args/\dG A (.slice ta x.ab.length tc) x.ab/\oK A x.body a bk o us
 aE:x.aE.size<=140737488355328
 ax:-9223372036854775808<=x.ax/\x.ax<=9223372036854775807
theorem Lg.ok {A:List kC}{x:Md}{vs:List Value}(h:Lg A x vs)(hE:nE A)(hw:Nd.ws x.body<=274877906944):Fe A x vs:=by
 obtain⟨⟨aa,ac,ta,tc,a,c,bk,o,us,h1,h2,h3,h4⟩,h5,h6⟩:=h;exact⟨⟨aa,ac,ta,tc,a,c,bk,o,us,h1,h2,h3,h4.ok hE hw⟩,h5,h6⟩
theorem Lg.more {A B:List kC}{x:Md}{vs:List Value}(h:Lg A x vs)(hs:∀z∈A,z∈B):Lg B x vs:=by
 obtain⟨⟨aa,ac,ta,tc,a,c,bk,o,us,h1,h2,h3,h4⟩,h5,h6⟩:=h;exact⟨⟨aa,ac,ta,tc,a,c,bk,o,us,h1,h2.more hs,h3.more hs,⟨h4.at_,h4.many,fun i hi y hy=>hs _ (h4.mem i hi y hy),fun i x e=>(h4.rd i x e).more hs⟩⟩,h5,h6⟩
def txt1:ByteArray:=⟨#[102,111,111,58,32,97,32,124,32,116,32,117,32,124,32,116,32,58,61,32,97,46,32,117,32,58,61,32,91,58,120,32,124,32,116,32,58,61,32,120,32,43,32,97,46,32,91,120,32,43,32,117,93,93,46,32,94,117]⟩
def txt2:ByteArray:=⟨#[102,111,111,32,120]⟩
def m1:Md:=⟨⟨#[102,111,111,58]⟩,[⟨#[97]⟩],[⟨#[116]⟩,⟨#[117]⟩],0,[.mk 3 ⟨#[116]⟩ (.mk 0 0 0 ⟨#[]⟩ []) [] [] [.mk 2 ⟨#[97]⟩ (.mk 0 0 0 ⟨#[]⟩ []) [] [] [] 20] 15,.mk 3 ⟨#[117]⟩ (.mk 0 0 0 ⟨#[]⟩ []) [] [] [.mk 7 ⟨#[]⟩ (.mk 0 0 0 ⟨#[]⟩ []) [⟨#[120]⟩] [] [.mk 3 ⟨#[116]⟩ (.mk 0 0 0 ⟨#[]⟩ []) [] [] [.mk 4 ⟨#[43]⟩ (.mk 0 0 0 ⟨#[]⟩ []) [] [] [.mk 2 ⟨#[120]⟩ (.mk 0 0 0 ⟨#[]⟩ []) [] [] [] 39,.mk 2 ⟨#[97]⟩ (.mk 0 0 0 ⟨#[]⟩ []) [] [] [] 43] 41] 34,.mk 7 ⟨#[]⟩ (.mk 0 0 0 ⟨#[]⟩ []) [] [] [.mk 4 ⟨#[43]⟩ (.mk 0 0 0 ⟨#[]⟩ []) [] [] [.mk 2 ⟨#[120]⟩ (.mk 0 0 0 ⟨#[]⟩ []) [] [] [] 47,.mk 2 ⟨#[117]⟩ (.mk 0 0 0 ⟨#[]⟩ []) [] [] [] 51] 49] 46] 28] 23,.mk 9 ⟨#[]⟩ (.mk 0 0 0 ⟨#[]⟩ []) [] [] [.mk 2 ⟨#[117]⟩ (.mk 0 0 0 ⟨#[]⟩ []) [] [] [] 57] 56]⟩
def m2:Md:=⟨⟨#[102,111,111]⟩,[],[],0,[.mk 2 ⟨#[120]⟩ (.mk 0 0 0 ⟨#[]⟩ []) [] [] [] 4]⟩
def rdM:Option PR->Option Md
 |some (.val (.tuple us) h _)=>match us.toList with
  |[.agg xs,.agg ys]=>match xs.toList with
   |[.string aE,av,tv,.int .i64 p,bv]=>match ys.toList with
    |[.int .i64 e,.int .i64 q,.bool false]=>match sR h av with
     |some a=>match sR h tv with
      |some t=>match SB 20 h bv with
       |some b=>match decide (e=0/\q=0)&&decide (-9223372036854775808<=p/\p<=9223372036854775807)&&(Nat.ble aE.size 1000&&Nat.ble b.length 1000)with
        |true=>some ⟨aE,a,t,p,b⟩
        |false=>none
       |none=>none
      |none=>none
     |none=>none
    |_=>none
   |_=>none
  |_=>none
 |_=>none
theorem C1 {A:List kC}{t:ByteArray}{x:Md}(h:rdM (xE 100000 tabD (fun _ _ _ _=>none) 100000 100 23 [.string t] [] 100000)=some x):
 aw Tryz.prog 23 [.string t] [A] (fun v Post=>∃vs B,v=.tuple #[.agg vs.toArray,.agg #[.int .i64 0,.int .i64 0,.bool false]]/\Lg B x vs/\Post=[A,B]):=by
 unfold rdM at h;split at h
 case h_2=>cases h
 rename_i us m n he;split at h
 case h_2=>cases h
 rename_i xs ys x4;split at h
 case h_2=>cases h
 rename_i aE av tv p bv Ie;split at h
 case h_2=>cases h
 rename_i ee q lS;split at h
 case h_2=>cases h
 rename_i a ha;split at h
 case h_2=>cases h
 rename_i tt ht;split at h
 case h_2=>cases h
 rename_i b hb;split at h
 case h_2=>cases h
 rename_i aP;obtain rfl:=X3 h;simp only[vF,decide_eq_true_eq]at aP;obtain⟨⟨⟨rfl,rfl⟩,hp⟩,hs,hl⟩:=aP;have hs:=iR hs;have hl:=iR hl;obtain rfl:us=#[.agg xs,.agg ys]:=vC.1 x4;obtain rfl:xs=#[.string aE,av,tv,.int .i64 p,bv]:=vC.1 Ie;obtain rfl:ys=#[.int .i64 0,.int .i64 0,.bool false]:=vC.1 lS;refine(XX (A:=A) Ye (fun _ _ _ _ _ h=>by cases h) rfl he).mono ?_
 rintro u Post ⟨σ,g,rfl,rfl⟩
 have h1:=eO g ha;have h2:=eO g ht;obtain⟨a3,c3,bk,o,us,k1,k2,k3,k4⟩:=Hh g 20 bv b hb;obtain⟨a1,c1,e1,-,-⟩:=id h1;obtain⟨a2,c2,e2,-,-⟩:=id h2;refine⟨[.string aE,rn σ av,rn σ tv,vi p,rn σ bv],_,Zs,⟨⟨a1,c1,a2,c2,a3,c3,bk,o,us,by rw[e1,e2,k1],by rw[<- e1];exact h1,by rw[<- e2];exact h2,fun h=>(k2 h).1,by show b.length<=_;omega,k3,k4⟩,by show aE.size<=_;omega,hp⟩,rfl⟩
theorem WY(A:List kC):aw Tryz.prog 23 [.string txt1] [A] (fun v Post=>∃vs B,v=.tuple #[.agg vs.toArray,.agg #[.int .i64 0,.int .i64 0,.bool false]]/\Lg B m1 vs/\Post=[A,B]):=C1 (by kernel_rfl)
end Go.Proofs.YtijnokbblmbpkaaGreatDoor

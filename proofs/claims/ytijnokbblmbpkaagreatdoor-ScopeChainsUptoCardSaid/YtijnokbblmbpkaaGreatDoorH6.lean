/-
  A part of the proof.
-/
import Derived.Test.YtijnokbblmbpkaaGreatDoorH5
import Derived.Test.YtijnokbblmbpkaaGreatDoorH3
import Derived.Test.YtijnokbblmbpkaaGreatDoorH2
import Derived.Test.YtijnokbblmbpkaaGreatDoorH4
import Derived.KernelRfl
import Derived.Test.YtijnokbblmbpkaaGreatDoorProg
import Derived.Shelf.Strings.Search2
import Derived.Shelf.Lay
import Derived.Shelf.Strconv.ParseIntPublic10
set_option linter.all false
set_option maxRecDepth 100000
set_option maxHeartbeats 3200000
namespace Go.V
open Go
def jl(x:yj):List Value:=[.string x.name,.int .i64 (x.cg:Int),.bool x.arg,.int .i64 x.own]
def ym(x:Nat×Nat):List Value:=[.int .i64 (x.1:Int),.int .i64 (x.2:Int)]
def zw(f:Option (Nat×Int)):Int:=match f with|some p=>(p.1:Int)|none=>0
def yC(f:Option (Nat×Int)):Int:=match f with|some p=>p.2|none=>0
structure DW where
 vv:Value
 pD:List Value
 ov:Value
 E8:List Value
 av:Value
 Ep:List Value
 wv:Value
 Ie:List Value
 bv:Value
 bs:List Value
 qI:List Value
structure DX where
 q:Nat
 fv:Value
 gv:Value
 F:List ByteArray
 G:List ByteArray
def et(X:DX)(w:DW)(f:Option (Nat×Int)):List Value:=[X.fv,X.gv,w.vv,w.ov,w.av,w.wv,w.bv,.int .i64 (zw f),.int .i64 (yC f),Nz,Nz,Nz]
def DM(X:DX)(w:DW)(st:ai):List kC:=
 kA X.q 0 (et X w st.f)++(aj w.vv (st.vars.flatMap jl) w.pD++(aj w.ov (st.a7.map λn=>Value.int .i64 n) w.E8++(aj w.av (st.a5.map λn:Nat=>Value.int .i64 (n:Int)) w.Ep++(aj w.wv (st.dg.flatMap ym) w.Ie++aj w.bv w.bs w.qI))))
def fw(X w st R):ap (DM X w st::R) (kA X.q 0 (et X w st.f)::aj w.vv (st.vars.flatMap jl) w.pD::aj w.ov (st.a7.map λn=>Value.int .i64 n) w.E8::aj w.av (st.a5.map λn:Nat=>Value.int .i64 (n:Int)) w.Ep::aj w.wv (st.dg.flatMap ym) w.Ie::aj w.bv w.bs w.qI::R):=ap.perm (by simp[DM])
def zK(X w st R):ap (kA X.q 0 (et X w st.f)::aj w.vv (st.vars.flatMap jl) w.pD::aj w.ov (st.a7.map λn=>Value.int .i64 n) w.E8::aj w.av (st.a5.map λn:Nat=>Value.int .i64 (n:Int)) w.Ep::aj w.wv (st.dg.flatMap ym) w.Ie::aj w.bv w.bs w.qI::R) (DM X w st::R):=ap.perm (by simp[DM])
structure gN (X:DX)(st:ai)(w:DW)(R:List kC):Prop where
 v:ke 4 w.vv st.vars.length (st.vars.flatMap jl) w.pD
 o:ke 1 w.ov st.a7.length (st.a7.map λn=>Value.int .i64 n) w.E8
 a:ke 1 w.av st.a5.length (st.a5.map λn:Nat=>Value.int .i64 (n:Int)) w.Ep
 u:ke 2 w.wv st.dg.length (st.dg.flatMap ym) w.Ie
 b:ke 1 w.bv st.a8.length w.bs w.qI
 bd:∀(i:Nat) l,st.a8[i]? =some l->∃v,w.bs[i]? =some v/\iZ R v l
 ef:∀e p,st.f=some (e,p)->e≠0
 F:dU R X.fv X.F
 G:dU R X.gv X.G
 bl:st.a8.length=st.a7.length
 al:st.a5.length=st.a7.length
def gN.more {X st w R R'}(h:gN X st w R)(d:∀x∈R,x∈R'):gN X st w R':=
 ⟨h.v,h.o,h.a,h.u,h.b,λi l g=>let⟨v,k1,k2⟩:=h.bd i l g;⟨v,k1,k2.more d⟩,h.ef,h.F.more d,h.G.more d,h.bl,h.al⟩
def zI(T:List kC)(v:Value)(l:List Nat):Prop:=∃a c,v=.slice a l.length c/\∀(i:Nat) n,l[i]? =some n->∃b o,a=some ⟨b,o,none⟩/\kC.cell b (o+i) (.int .i64 (n:Int))∈T
def zI.more {T T' v l}(h:zI T v l)(j:∀x∈T,x∈T'):zI T' v l:=by
 obtain⟨a,c,d,g⟩:=h;exact⟨a,c,d,λi n e=>let⟨b,o,k1,k2⟩:=g i n e;⟨b,o,k1,j _ k2⟩⟩
def zI.nil(T):zI T Nz []:=⟨none,0,rfl,λi n h=>by simp at h⟩
def fI {d l sp n}(h:n=l.length)(g:ke 1 d n (l.map λb:Nat=>Value.int .i64 (b:Int)) sp):zI (aj d (l.map λb:Nat=>Value.int .i64 (b:Int)) sp) d l:=by
 generalize s:(l.map λb:Nat=>Value.int .i64 (b:Int))=xs at g;cases g with
 |@mk bk o _ c _ _ h1 h2 h3=>
  subst s;rw[h];refine⟨_,c,rfl,λi q m=>⟨bk,o,rfl,?_⟩⟩;simp only[aj,j7];exact Zw _ (kI.2 ⟨i,vi (q:Int),by rw[Vu,m];rfl,rfl⟩)
 |nil=>
  have j:l=[]:=vy h.symm;subst j;exact zI.nil _
def D4(o:Option Nat):Int:=match o with|some v=>(v:Int)|none=>-1
def LU(vs l v nm):jQ vs (l++[v]) nm=if(vs[v]?).map (·.name)=some nm then some v else jQ vs l nm:=by
 unfold jQ;rw[List.reverse_append,List.reverse_singleton,Qg,List.find?_cons];by_cases h:(vs[v]?).map (·.name)=some nm
 .rw[if_pos h,Zt h]
 .rw[if_neg h,Zf h]
def LV {vs:List yj}{l:List Nat}{nm:ByteArray}{j v:Nat}(h:l[j]? =some v):jQ vs (l.take (j+1)) nm=if(vs[v]?).map (·.name)=some nm then some v else jQ vs (l.take j) nm:=by
 rw[Qi,h];exact LU vs _ v nm
def Ko {v:Value}{n:Nat}{vs:List yj}{sp:List Value}(h:ke 4 v n (vs.flatMap jl) sp){i:Nat}{x:yj}(hx:vs[i]? =some x):∃b o c,v=.slice (some ⟨b,o,none⟩) n c/\i < n/\(∀y∈kA b (o+i*4) (jl x),y∈aj v (vs.flatMap jl) sp):=by
 have hl:=h.len;have cf:(vs.flatMap jl).length=vs.length*4:=xy (λx _=>rfl);have hi:=(Vt.1 hx).1;obtain⟨b,o,c,rfl,_,_⟩:=h.some Zo;refine⟨b,o,c,rfl,Zo,λy hy=>?_⟩;simp only[aj,j7];refine Zw _ ?_;have e:vs.flatMap jl=(vs.map jl).flatten:=rfl;exact zEI
def Db {P n rs Γ H R Z K d t size bytes zero s x sv k m xs sp ys a c}(B:ev Γ s=some sv)(C:ev Γ x=some (.slice a m c))(D:ke size sv k xs sp)(E:Tk H (aj sv xs sp) R)(M:0 < m->Src R.flatten size m ys (.slice a m c))(q:ys.length=m*size)(N:ys.all jk=true)(L:zero.length=size)(J:bytes≠0)(F:(2*(k+m)+192)*bytes<=2 ^ 48)(h:∀j A,ke size j (k+m) (xs++ys) A->VO P n rs (au d j Γ) (aj j (xs++ys) A::R) Z K):VO P n (⟨d,none,.append t size bytes zero s x⟩::rs) Γ H Z K:=by
 by_cases hl:0<m
 .exact kX (m:=m) (ys:=ys) B C D E Zr (M hl) q N L J F h
 .obtain rfl:m=0:=by omega
  obtain rfl:ys=[]:=vy Zo;have G:=h sv sp (by simpa using D);simp only[vm]at G;have I:VO P n rs (au d sv Γ) H Z K:=VO.imp (ap.perm (by simpa using E.perm)) G;cases D with
  |mk h1 h2' h3=>
   cases a with
   |none=>exact kX (m:=0) (ys:=[]) B C (.mk h1 h2' h3) E Zr Zr Zs Zr L J (by simpa using F) (λj A g=>by simpa using h j A (by simpa using g))
   |some ad=>exact rL B C h3 I
  |nil=>exact Dc B C I
def Ka {A a c l}(h:zI A (.slice a l.length c) l)(s:0 < l.length):Src A 1 l.length (l.map λb:Nat=>Value.int .i64 (b:Int)) (.slice a l.length c):=by
 obtain⟨a',c',e,j⟩:=h;cases e;obtain⟨t,B⟩:∃t,l[0]? =some t:=⟨_,Zg s⟩;obtain⟨b,o,d,_⟩:=j 0 t B;cases d;refine⟨Zs,λx D=>?_⟩;obtain⟨i,v,g,rfl⟩:=kI.1 D;rw[Vu]at g;obtain⟨u,C,rfl⟩:=X5.1 g;obtain⟨b2,o2,m,q⟩:=j i u C;cases m;simpa using q
def Jp(l:List Nat):(l.map λb:Nat=>Value.int .i64 (b:Int)).all jk=true:=by simp[vf,jk]
def aO(c:Bool)(st:ai)(e:Nat)(p:Int):ai:=if c then st.wrong e p else st
def yl(c st e p):(aO c st e p).vars=st.vars/\(aO c st e p).dg=st.dg/\(aO c st e p).a7=st.a7/\(aO c st e p).a5=st.a5/\(aO c st e p).a8=st.a8:=by
 unfold aO ai.wrong;split
 .split<;>exact⟨rfl,rfl,rfl,rfl,rfl⟩
 .exact⟨rfl,rfl,rfl,rfl,rfl⟩
def gN.wrong {X st w R}(h:gN X st w R){e}(p)(g:e≠0):gN X (st.wrong e p) w R:=by
 unfold ai.wrong;split
 .exact⟨h.v,h.o,h.a,h.u,h.b,h.bd,λe' p' d=>by cases d;exact g,h.F,h.G,h.bl,h.al⟩
 .exact h
def gN.aO {X st w R}(h:gN X st w R)(c){e}(p)(d:e≠0):gN X (aO c st e p) w R:=by
 unfold V.aO;split
 .exact h.wrong p d
 .exact h
def gN.addVar {X st w R}(h:gN X st w R)(x){sv sp}(d:ke 4 sv (st.vars.length+1) (st.vars.flatMap jl++jl x) sp):gN X {st with vars:=st.vars++[x]} {w with vv:=sv,pD:=sp} R:=
 ⟨by simpa[V9]using d,h.o,h.a,h.u,h.b,h.bd,h.ef,h.F,h.G,h.bl,h.al⟩
def LJ(cg arg own p nm r i st a6):kO cg arg own p (nm::r) i st a6=
 kO cg arg own p r (i+1) {aO (jQ st.vars a6 nm).isSome st 180 p with vars:=(aO (jQ st.vars a6 nm).isSome st 180 p).vars++[⟨nm,cg,arg,if arg&&own then i else -1⟩]} (a6++[(aO (jQ st.vars a6 nm).isSome st 180 p).vars.length]):=by
 rw[kO,(yl _ _ _ _).1];rfl
def gN.addUse {X st w R}(h:gN X st w R)(x){sv sp}(d:ke 2 sv (st.dg.length+1) (st.dg.flatMap ym++ym x) sp):gN X {st with dg:=st.dg++[x]} {w with wv:=sv,Ie:=sp} R:=
 ⟨h.v,h.o,h.a,by simpa[V9]using d,h.b,h.bd,h.ef,h.F,h.G,h.bl,h.al⟩
def Sf(F G st a6 nm u p put)(h:wm nm=0){v}(d:jQ st.vars a6 nm=some v){x}(g:st.vars[v]? =some x):
 jx F G st a6 nm u p put=(wM v,{aO (put&&x.arg) st 182 p with dg:=(aO (put&&x.arg) st 182 p).dg++[(u,v)]}):=by
 unfold jx;rw[if_neg (by rw[h];decide),d,(yl _ _ _ _).2.1];simp only[g,X7,X3];rfl
def XT(F G st a6 nm u p put)(h:wm nm=0)(g:jQ st.vars a6 nm=none)(d:F.findIdx? (λs=>decide (s=nm))=none):
 jx F G st a6 nm u p put=(⟨8,0,0,nm⟩,aO (!(G.any λs=>decide (s=nm))) st 181 p):=by
 unfold jx;rw[if_neg (by rw[h];decide),g];simp only[d];unfold aO;cases G.any λs=>decide (s=nm)<;>rfl
def T7 {l:List ByteArray}{nm:ByteArray}:l.any (λs=>decide (s=nm))=(l.findIdx? λs=>decide (s=nm)).isSome:=(nX (l:=l) (s:=nm)).symm
def Gj {n}(d:n=1∨n=2∨n=3∨n=4){l}(h:l.length≠lR n):yi n l=false:=by
 cases e:yi n l with
 |false=>rfl
 |true=>exact absurd (Av d e) h
def Ψ {l}(h:l.length≠3):yi 5 l=false:=by
 cases e:yi 5 l with
 |false=>rfl
 |true=>exact absurd (P2 e).1 h
def YX {α:Type}:∀{l:List α},l.length=2->∃a b,l=[a,b]
 |[a,b],_=>⟨a,b,rfl⟩
def Ki {α:Type}:∀{l:List α},l.length=3->∃a b c,l=[a,b,c]
 |[a,b,c],_=>⟨a,b,c,rfl⟩
def one_of {α:Type}:∀{l:List α},l.length=1->∃a,l=[a]
 |[a],_=>⟨a,rfl⟩
def Sn {s}:kd s=1↔s=nmIfT∨s=nmIfF∨s=nmAnd∨s=nmOr:=by
 unfold kd;constructor
 .exact zDF
 .intro h;rw[if_pos h]
def Yj {s}(g:kd s≠1):kd s=2↔s=nmTF∨s=nmFT:=by
 have d:=λk=>g (Sn.2 k)
 unfold kd;rw[if_neg d];constructor
 .exact zDF
 .intro h;rw[if_pos h]
def sel3 {s}(j:kd s≠1)(m:kd s≠2):kd s=3↔s=Xl∨s=Xk:=by
 have d:=λk=>j (Sn.2 k)
 have g:=λk=>m ((Yj j).2 k)
 unfold kd;rw[if_neg d,if_neg g];constructor
 .exact zDF
 .intro h;rw[if_pos h]
def sel4 {s}(d:kd s≠1)(q:kd s≠2)(A:kd s≠3):kd s=4↔s=nmWT∨s=nmWF:=by
 have g:=λk=>d (Sn.2 k)
 have j:=λk=>q ((Yj d).2 k)
 have m:=λk=>A ((sel3 d q).2 k)
 unfold kd;rw[if_neg g,if_neg j,if_neg m];constructor
 .exact zDF
 .intro h;rw[if_pos h]
def sel5 {s}(d:kd s≠1)(j:kd s≠2)(B:kd s≠3)(C:kd s≠4):kd s=5↔s=nmTo:=by
 have g:=λk=>d (Sn.2 k)
 have m:=λk=>j ((Yj d).2 k)
 have q:=λk=>B ((sel3 d j).2 k)
 have A:=λk=>C ((sel4 d j B).2 k)
 unfold kd;rw[if_neg g,if_neg m,if_neg q,if_neg A];constructor
 .intro h;split at h
  .assumption
  .omega
 .intro h;rw[if_pos h]
def sel0 {s}(h1:kd s≠1)(h2:kd s≠2)(h3:kd s≠3)(h4:kd s≠4)(h5:kd s≠5):kd s=0:=by
 have:=sV s;omega
def fit_0(l):yi 0 l=false:=rfl
def nR(b:List Nd):∀(a:List Nd),kf (a++b)=kf a+kf b
 |[]=>by rw[QV,kf,Qz]
 |x::r=>by rw[vq,kf,kf,nR b r,Qn]
def ai.upto(st:ai)(i:Nat):ai:={st with dg:=st.dg.take i}
def Dk(st:ai){i:Nat}(h:st.dg.length<=i):st.upto i=st:=by
 unfold ai.upto;rw[Ql h]
def Fz(st:ai){i u v:Nat}(h:st.dg[i]? =some (u,v)):st.upto (i+1)=(st.upto i).use u v:=by
 unfold ai.upto ai.use;rw[Qi,h];rfl
def need_0(st:ai)(u:Nat)(t:Nat×Int):(st.upto 0).aD u t=false:=rfl
def J0(st:ai){i u v:Nat}(h:st.dg[i]? =some (u,v))(w:Nat):(st.upto (i+1)).rem w=((st.upto i).rem w||(decide (v=w)&&decide (st.aT w < 0)&&decide (st.ah w≠u))):=by
 rw[Fz st h,Hv];rfl
def RW(st:ai){i u v:Nat}(h:st.dg[i]? =some (u,v))(j:Nat)(t:Nat×Int):(st.upto (i+1)).aD j t=((st.upto i).aD j t||(decide ((st.ah v,st.aT v)=t)&&decide (j∈st.way u v))):=by
 rw[Fz st h,CR];rfl
def sR(st:ai)(i:Nat):List Value:=(List.range st.vars.length).map λw=>Value.bool ((st.upto i).rem w)
def XX(st i):(sR st i).length=st.vars.length:=by simp[sR]
def remL_0(st):sR st 0=List.replicate st.vars.length (Value.bool false):=by
 unfold sR;apply vz;intro k;rw[Vu,List.getElem?_replicate];by_cases h:k<st.vars.length
 .rw[Vw h,if_pos h];rfl
 .rw[Vp (by simpa using h),if_neg h];rfl
def XY(st){i u v}(h:st.dg[i]? =some (u,v))(d:st.aT v < 0)(g:st.ah v≠u):sR st (i+1)=(sR st i).set v (.bool true):=by
 unfold sR;apply vz;intro k;rw[Vx,Vu,Vu];by_cases hk:k<st.vars.length
 .rw[Vw hk];simp only[X7,J0 st h,Q6,Q8];by_cases e:v=k
  .subst e;rw[if_pos rfl,if_pos hk,Zt d,Zt g];simp
  .rw[if_neg e,Zf e];simp
 .rw[Vp (by simpa using hk)];simp only[X6,Q6,Q8];by_cases e:v=k
  .rw[if_pos e,if_neg Zo]
  .rw[if_neg e]
def Fk(st){i u v}(h:st.dg[i]? =some (u,v))(g:¬(st.aT v < 0/\st.ah v≠u)):sR st (i+1)=sR st i:=by
 unfold sR;refine QD λk _=>?_
 rw[J0 st h];by_cases e:v=k
 .subst e;have:(decide (st.aT v<0)&&decide (st.ah v≠u))=false:=by
   rw[vK];intro d;rw[vG,decide_eq_true_eq,decide_eq_true_eq]at d;exact g d
  rw[Bool.and_assoc,this];simp
 .rw[Zf e];simp
structure uB (p:Nat->Nat×Int->Bool)(n:Nat)(N:List (List (Nat×Int))):Prop where
 len:N.length=n
 nd:∀(u:Nat) l,N[u]? =some l->l.Nodup
 mem:∀(u:Nat) l,N[u]? =some l->∀t,t∈l↔p u t=true
def gw(l:List (Nat×Int))(t:Nat×Int):List (Nat×Int):=if t∈l then l else l++[t]
def uB.nil(st:ai)(n:Nat):uB (st.upto 0).aD n (List.replicate n []):=by
 refine⟨Zs,λu l h=>?_,λu l h t=>?_⟩
 .rw[List.getElem?_replicate]at h;split at h
  .cases h;exact List.nodup_nil
  .cases h
 .rw[List.getElem?_replicate]at h;split at h
  .cases h;simp[need_0]
  .cases h
def Ej(st:ai)(i v:Nat)(D:List Nat):Nat->Nat×Int->Bool:=λj t=>(st.upto i).aD j t||(decide ((st.ah v,st.aT v)=t)&&decide (j∈D))
def uB.begin {st i n N}(h:uB (st.upto i).aD n N)(v):uB (Ej st i v []) n N:=
 ⟨h.len,h.nd,λu l d t=>by rw[h.mem u l d t];simp[Ej]⟩
def uB.done {st i u v n N}(g:st.dg[i]? =some (u,v))(h:uB (Ej st i v (st.way u v)) n N):uB (st.upto (i+1)).aD n N:=
 ⟨h.len,h.nd,λw l d t=>by rw[h.mem w l d t,RW st g];rfl⟩
def uB.put {st i v n j D N l}(h:uB (Ej st i v D) n N)(g:N[j]? =some l):uB (Ej st i v (D++[j])) n (N.set j (gw l (st.ah v,st.aT v))):=by
 have gh:=(Vt.1 g).1;refine⟨by rw[Q9];exact h.len,λu m d=>?_,λu m d t=>?_⟩
 .rw[Vx]at d;split at d
  .cases d;unfold gw;split
   .exact h.nd j l g
   .rename_i F;rw[QW];refine⟨h.nd j l g,Zs,λa C b E=>?_⟩;rw[QU.1 E]
    rintro rfl
    exact F C
  .exact h.nd u m d
 .rw[Vx]at d;split at d
  .rename_i e;subst e;cases d;have A:=h.mem j l g t;have B:t∈gw l (st.ah v,st.aT v)↔t∈l∨t=(st.ah v,st.aT v):=by
    unfold gw;split
    .rename_i q;constructor
     .exact .inl
     .rintro(h|rfl)
      .exact h
      .exact q
    .simp
   rw[B,A];simp only[Ej,vS,vG,decide_eq_true_eq,QH,QU];constructor
   .rintro((h|⟨h,k⟩)|h)
    .exact .inl h
    .exact .inr ⟨h,.inl k⟩
    .exact .inr ⟨h.symm,.inr trivial⟩
   .rintro(h|⟨h,_⟩)
    .exact .inl (.inl h)
    .exact .inr h.symm
  .rename_i e;rw[h.mem u m d t];have s:¬u=j:=λk=>e k.symm
   simp only[Ej,QH,QU,s,or_false]
def filter_one {α:Type}[DecidableEq α](t:α):∀{l:List α},l.Nodup->l.filter (λx=>decide (x=t))=if t∈l then [t]else []
 |[],_=>rfl
 |x::r,h=>by
  rw[QX]at h;rw[V5,filter_one t h.2];by_cases e:x=t
  .subst e;simp[h.1]
  .have d:¬t=x:=λk=>e k.symm
   simp[e,d]
def jm(t:Nat×Int):List Value:=[.int .i64 (t.1:Int),.int .i64 t.2]
def WI(n:Int)(vs:List Value):Prop:=vs=[.int .i64 n]
def Xc(n:Nat)(vs:List Value):Prop:=vs=[.int .i64 (n:Int)]
def thRd(t:Nat×Int)(vs:List Value):Prop:=vs=jm t
def Y7(x:yj)(vs:List Value):Prop:=vs=jl x
def useRd(x:Nat×Nat)(vs:List Value):Prop:=vs=ym x
def La(b:Bool)(vs:List Value):Prop:=vs=[.bool b]
def Cs(T:List kC)(x:List (Nat×Int))(vs:List Value):Prop:=∃v,vs=[v]/\wn 2 thRd T v x
def Et(T:List kC)(x:List PN)(vs:List Value):Prop:=∃v,vs=[v]/\iZ T v x
section
variable {α:Type} {w:Nat} {Rd:α->List Value->Prop} {T:List kC} {v:Value} {l:List α}
def yG(h:wn w Rd T v l){i:Nat}{x:α}(j:l[i]? =some x):∃b o c us,v=.slice (some ⟨b,o,none⟩) l.length c/\i<l.length/\(∀y∈kA b (o+i*w) us,y∈T)/\Rd x us:=by
 obtain⟨a,c,bk,o,us,d,m,q,s⟩:=h;have g:=(Vt.1 j).1;rw[m Zo]at d;exact⟨bk,o,c,us i,d,g,q i g,s i x j⟩
def yS(h:wn w Rd T v l):∃a c,v=.slice a l.length c:=by
 obtain⟨a,c,bk,o,us,d,h2,h3,h4⟩:=h;exact⟨a,c,d⟩
def wZ {T':List kC}(h:wn w Rd T v l)(d:∀x∈T,x∈T'):wn w Rd T' v l:=h.imp d λ_ _ k=>k
def s9 {enc:α->List Value}(g:∀x,(enc x).length=w){sp:List Value}(h:ke w v l.length (l.flatMap enc) sp):wn w (λx vs=>vs=enc x) (aj v (l.flatMap enc) sp) v l:=by
 rw[Va]at h|-;have:=td (B:=[]) (Rd:=λx vs=>vs=enc x) h ⟨Zs,λr d=>by obtain⟨z,_,rfl⟩:=QO.1 d;exact g z,λi x r j d=>by
  rw[Vu,j]at d;exact(X8 d).symm⟩
 rwa [vm]at this
def EM {p:α->Bool}{j:Nat}{x:α}(h:l[j]? =some x):(l.take (j+1)).filter p=(l.take j).filter p++(if p x then [x]else []):=by
 rw[Qi,h,V0]
 congr 1
 simp only[Option.toList_some,V5,List.filter_nil]
def Bu {d:Type}{f:α->List d}{j:Nat}{x:α}(h:l[j]? =some x):(l.take (j+1)).flatMap f=(l.take j).flatMap f++f x:=by
 rw[Qi,h,V9];simp
end
def oB {α:Type}(enc:α->Value):∀l:List α,l.map enc=l.flatMap λx=>[enc x]
 |[]=>rfl
 |x::r=>by rw[QE,VV,oB enc r];rfl
def M3 {α:Type}{l:List α}{v}{enc:α->Value}{sp}(h:ke 1 v l.length (l.map enc) sp):wn 1 (λx vs=>vs=[enc x]) (aj v (l.map enc) sp) v l:=by
 have d:=h;rw[oB]at d;have:=s9 (w:=1) (l:=l) (enc:=λx=>[enc x]) (λ_=>rfl) d
 rwa [<- oB]at this
def ai.ups(st:ai)(o:Int):List Nat:=if o<0 then []else st.line o.toNat
def WY {st}(h:Wf st){u}(hu:u < st.a7.length):(st.line u).drop 1=st.ups (st.a7.getD u (-1)):=by
 rw[h.line Zo];rfl
def Y5 {st}(h:Wf st){o}(ho:o < st.a7.length):st.ups (o:Int)=o::st.ups (st.a7.getD o (-1)):=by
 unfold ai.ups;rw[if_neg Zo,vW,h.line Zo]
def Y4(st:ai){o:Int}(h:o < 0):st.ups o=[]:=by
 unfold ai.ups;rw[if_pos h]
def ai.chain(st:ai)(u:Nat):List Nat:=((st.line u).drop 1).reverse
def Ew(st:ai)(u:Nat):st.a9 u=(st.chain u).flatMap λo=>(st.things o).filter (st.aD u):=rfl
def Uj {st}(h:Wf st){u}(hu:u < st.a7.length):∀o∈st.chain u,o<st.a7.length:=λo g=>by
 have d:o∈st.line u:=List.mem_of_mem_drop (List.mem_reverse.1 g);have:=h.sG u Zo o d;omega
def Sy(st:ai)(o:Nat){j:Nat}(hj:j<=st.a5.getD o 0):(st.things o)[j]? =some (o,(j:Int) - 1):=by
 unfold ai.things;rw[Vu,Vw Zo];rfl
def getD_at {α:Type}{l:List α}{i}{x d:α}(h:l[i]? =some x):l.getD i d=x:=by
 rw[Vh,h];rfl
def Ju(st:ai)(u:Nat)(r:Bool)(v:Nat):(List.range (v+1)).filter (λv=>decide (st.ah v=u)&&decide (st.aT v < 0)&&decide (st.rem v=r))=(List.range v).filter (λv=>decide (st.ah v=u)&&decide (st.aT v < 0)&&decide (st.rem v=r))++(if decide (st.ah v=u)&&decide (st.aT v < 0)&&decide (st.rem v=r)then [v]else []):=by
 rw[List.range_succ,V0]
 congr 1
 rw[V5];rfl
def JG {st:ai}{u:Nat}{nl:List (Nat×Int)}(g:nl.Nodup)(d:∀t,t∈nl↔st.aD u t=true)(t:Nat×Int):nl.filter (λx=>decide (x=t))=if st.aD u t then [t]else []:=by
 rw[filter_one t g];by_cases h:t∈nl
 .rw[if_pos h,if_pos ((d t).1 h)]
 .rw[if_neg h,if_neg (λk=>h ((d t).2 k))]
def NJ {st:ai}{u i o:Nat}(h:(st.chain u)[i]? =some o)(j:Nat):(((st.chain u).take i).flatMap λo=>(st.things o).filter (st.aD u)).length+(((st.things o).take j).filter (st.aD u)).length<=(st.a9 u).length:=by
 have d:=congrArg List.length (Bu (f:=λo=>(st.things o).filter (st.aD u)) h);rw[Vz]at d;have h2:(((st.chain u).take (i+1)).flatMap λo=>(st.things o).filter (st.aD u)).length<=(st.a9 u).length:=by
  rw[Ew];have e:(st.chain u).flatMap (λo=>(st.things o).filter (st.aD u))=((st.chain u).take (i+1)).flatMap (λo=>(st.things o).filter (st.aD u))++((st.chain u).drop (i+1)).flatMap (λo=>(st.things o).filter (st.aD u)):=by
   rw[<- V9,Qj]
  rw[e,Vz];omega
 have h3:=(List.Sublist.filter (st.aD u) (List.take_sublist j (st.things o))).length_le;omega
def one_len {st:ai}{u:Nat}{nl:List (Nat×Int)}(h:nl.Nodup)(g:∀t,t∈nl↔st.aD u t=true)(t:Nat×Int)(k:Nat):((nl.take k).filter λx=>decide (x=t)).length<=1:=by
 have d:=(List.Sublist.filter (λx=>decide (x=t)) (List.take_sublist k nl)).length_le;rw[JG h g]at d;refine Qu d ?_;split<;>simp
def Nl {P Z Q l m}:∀{a w},cK P Z (λa w=>cK P Z Q m a w) l a w->cK P Z Q (l++m) a w:=by
 induction l with
 |nil=>intro a w h;exact h
 |cons x l ih=>
  intro a w h;have q:cK P Z (λa w=>cK P Z Q m a w) (x::l)=wI P Z x (cK P Z (λa w=>cK P Z Q m a w) l):=by funext a w;rfl
  show wI P Z x (cK P Z Q (l++m)) a w;have d:wI P Z x (cK P Z (λa w=>cK P Z Q m a w) l) a w:=h;have j:cK P Z (cK P Z Q (l++m)) [x] a w:=Ks (l:=[x]) (Q:=cK P Z (λa w=>cK P Z Q m a w) l) (λa w g=>ih g) d;exact j
section
variable {P:Program} {n:Nat} {rs l1 l2:List RO} {Γ:Env} {H:SH} {Z:List PanicEntry->Env->SH->Prop} {K:Env->SH->Prop}
def VO.app(h:VO P n l1 Γ H Z (λI H'=>VO P n l2 I H' Z K)):VO P n (l1++l2) Γ H Z K:=by
 intro l Y a w F G Q X hs hq N;obtain⟨O,J⟩:=Y;obtain⟨p,q,rfl,hp,lY⟩:=List.map_eq_append_iff.1 O;refine Nl (h p ⟨hp,λx C=>J x (Zw _ C)⟩ a w F G _ X hs (λS w' I H' k U L W M=>?_) N);refine k q ⟨lY,λx C=>J x (QI _ C)⟩ S w' F G Q U W (λg E j d D m s A B=>hq g E j d D m (s.trans L) A (M.trans B)) (λT g E j d D m s A B=>N T g E j d D m (s.trans L) A (M.trans B))
def cutAt(t:Nat):List RO->List RO×List RO
 |[]=>([],[])
 |r::l=>if r.dst=some t then([r],l)else((r::(cutAt t l).1),(cutAt t l).2)
def Um(t:Nat):∀l:List RO,l=(cutAt t l).1++(cutAt t l).2:=by
 intro l
 induction l with
 |nil=>rfl
 |cons r l ih=>
  simp only[cutAt];split
  .rfl
  .simp only[vq];rw[<- ih]
def VO.bool(t:Nat)(b:Bool)(C:cutAt t rs=(l1,l2))(A:VO P n l1 Γ H Z (λg H'=>look g t=some (.bool b)/\Sub g Γ/\ap H' H))(B:VO P n l2 ((t,.bool b)::Γ) H Z K):VO P n rs Γ H Z K:=by
 have j:=Um t rs;rw[C]at j;rw[j];refine VO.app (A.mono λg H' ⟨h,m,q⟩=>VO.sub ?_ (VO.imp q B));intro s v d;simp only[look]at d;split at d
 .rename_i e;cases d
  first
   |(subst e;exact h)
   |(rw[<- e];exact h)
   |(rw[e];exact h)
 .exact m s v d
end
structure F9 (T:List kC)(q:Nat)(st:ai):Prop where
 vars:∃v,kC.cell q 2 v∈T/\wn 4 Y7 T v st.vars
 a7:∃v,kC.cell q 3 v∈T/\wn 1 WI T v st.a7
 a5:∃v,kC.cell q 4 v∈T/\wn 1 Xc T v st.a5
 a8:∃v,kC.cell q 6 v∈T/\wn 1 (Et T) T v st.a8
 rem:∃v,kC.cell q 9 v∈T/\wn 1 La T v ((List.range st.vars.length).map st.rem)
 held:∃v,kC.cell q 11 v∈T/\wn 1 (Cs T) T v ((List.range st.a7.length).map st.a9)
def Ct {T T' x vs}(h:Cs T x vs)(j:∀a∈T,a∈T'):Cs T' x vs:=by
 obtain⟨v,d,g⟩:=h;exact⟨v,d,wZ g j⟩
def Bd {T T' x vs}(h:Et T x vs)(j:∀a∈T,a∈T'):Et T' x vs:=by
 obtain⟨v,d,g⟩:=h;exact⟨v,d,g.more j⟩
def F9.more {T T' q st}(h:F9 T q st)(d:∀a∈T,a∈T'):F9 T' q st:=by
 obtain⟨⟨I,g,C⟩,⟨J,j,D⟩,⟨K,m,E⟩,⟨L,s,F⟩,⟨M,A,G⟩,⟨N,B,H⟩⟩:=h;exact⟨⟨I,d _ g,wZ C d⟩,⟨J,d _ j,wZ D d⟩,⟨K,d _ m,wZ E d⟩,⟨L,d _ s,F.imp d λ_ _ k=>Bd k d⟩,⟨M,d _ A,wZ G d⟩,⟨N,d _ B,H.imp d λ_ _ k=>Ct k d⟩⟩
def uK {α:Type}[DecidableEq α]:∀(l d:List α),l.Nodup->(∀x∈l,x∈d)->l.length<=d.length
 |[],_,_,_=>X0 _
 |x::r,d,h,hs=>by
  rw[QX]at h;have g:=hs x Zs;have m:=uK r (d.erase x) h.2 λy j=>(List.mem_erase_of_ne (λe=>h.1 (by rw[<- e];exact j))).2 (hs y (by simp[j]))
  rw[List.length_erase_of_mem g]at m;have:=List.length_pos_of_mem g;rw[Q0];omega
structure NC where
 v:Value
 l:List (Nat×Int)
 sp:List Value
def ncA(x:NC):List kC:=aj x.v (x.l.flatMap jm) x.sp
def NcOk(x:NC):Prop:=ke 2 x.v x.l.length (x.l.flatMap jm) x.sp
def Xh {st:ai}{i u:Nat}{l:List (Nat×Int)}(g:l.Nodup)(d:∀t,t∈l->(st.upto i).aD u t=true):l.length<=st.dg.length:=by
 have:=uK l (st.dg.map λq=>(st.ah q.2,st.aT q.2)) g λt j=>by
  have h:=d t j;exact zDY
 simpa using this
def way_few {st:ai}{i u v w:Nat}{D:List Nat}{l:List (Nat×Int)}(d:st.dg[i]? =some (w,v))(j:l.Nodup)(g:∀t,t∈l↔Ej st i v D u t=true):l.length<=st.dg.length:=by
 have:=uK l (st.dg.map λq=>(st.ah q.2,st.aT q.2)) j λt m=>by
  have h:=(g t).1 m;unfold Ej at h;rw[vS,vG,decide_eq_true_eq]at h;rcases h with h|h
  .exact zDY
  .exact QO.2 ⟨_,Zv d,h.1⟩
 simpa using this
def Zb {st}(h:Wf st){u v}(A:u < st.a7.length)(q:u≠st.ah v)(hl:st.ah v∈st.line u):∃o:Nat,st.a7[u]? =some (o:Int)/\o<u/\st.way u v=u::st.way o v/\st.ah v∈st.line o:=by
 obtain⟨p,j⟩:∃p,st.a7[u]? =some p:=⟨_,Zg A⟩;have mq:=h.low u p j;have s:=getD_at (d:=(-1:Int)) j;have m:=h.line (u:=u) Zo;have g:=h.oP (u:=u) (v:=v) Zo q;rw[s]at m g;rw[m]at hl;rcases QJ.1 hl with e|hl
 .exact absurd e.symm q
 .by_cases c:p<0
  .rw[if_pos c]at hl;cases hl
  .rw[if_neg c]at hl g;refine⟨p.toNat,by rw[j];congr 1;omega,Zo,g,hl⟩
def ξ {R j d q l}(h:ke 1 j l.length d q)(s:∀(i:Nat) x,l[i]? =some x->∃v,d[i]? =some v/\iZ R v x):wn 1 (Et R) (aj j d q) j l:=by
 have hl:=h.len;have e:d=(d.map λv=>[v]).flatten:=by
  rw[<- Va];have:=oB (λv:Value=>v) d;simpa using this
 rw[e]at h|-;have:=td (B:=[]) (Rd:=Et R) h ⟨by simp;omega,λr g=>by obtain⟨z,_,rfl⟩:=QO.1 g;rfl,λi x r D g=>by
  rw[Vu]at g;obtain⟨v,C,rfl⟩:=X5.1 g;obtain⟨v',m,A⟩:=s i x D;rw[C]at m;obtain rfl:=X8 m;exact⟨v,rfl,A⟩⟩
 rwa [vm]at this
def Oi {R j d q l}(h:ke 1 j l.length d q)(s:∀(i:Nat) x,l[i]? =some x->∃v,d[i]? =some v/\wn 2 thRd R v x):wn 1 (Cs R) (aj j d q) j l:=by
 have hl:=h.len;have e:d=(d.map λv=>[v]).flatten:=by
  rw[<- Va];have:=oB (λv:Value=>v) d;simpa using this
 rw[e]at h|-;have:=td (B:=[]) (Rd:=Cs R) h ⟨by simp;omega,λr g=>by obtain⟨z,_,rfl⟩:=QO.1 g;rfl,λi x r D g=>by
  rw[Vu]at g;obtain⟨v,C,rfl⟩:=X5.1 g;obtain⟨v',m,A⟩:=s i x D;rw[C]at m;obtain rfl:=X8 m;exact⟨v,rfl,A⟩⟩
 rwa [vm]at this
section
variable {P:Program} {n:Nat}
def Holds(dst:Nat->Option Nat)(vv:Nat->Value×List kC)(done:List Nat)(Γ:Env):Prop:=∀i∈done,∀t,dst i=some t->look Γ t=some (vv i).1
def Im(SQ:Env)(ds:List Nat)(Γ:Env):Prop:=∀t v,look SQ t=some v->t∉ds->look Γ t=some v
def Ye {X:Nat->RO×Oper}{G:Nat->Value->List kC->Prop}{base:SH}{SQ:Env}{ds:List Nat}{an:Nat->List Nat}(li:List Nat)(hn:li.Nodup)(mq:∀i∈li,tG P n [(X i).1] [X i])
 (T:∀i∈li,∀t,(X i).1.dst=some t->t∈ds) (L5:∀i∈li,∀j∈li,∀t,(X i).1.dst=some t->(X j).1.dst=some t->i=j)
 (E:∀d i m,li=d++i::m->∀j∈an i,j∈d)
 (step:∀i∈li,∀(vv:Nat->Value×List kC),(∀j∈an i,G j (vv j).1 (vv j).2)->∀Γ,Holds (λj=>(X j).1.dst) vv (an i) Γ->Im SQ ds Γ->
   VO P n [(X i).1] Γ base (λ_ _ _=>False) (λC H'=>∃v B,C=au (X i).1.dst v Γ/\G i v B/\ap H' (B::base)))
 {F:List kC} {K:Exit->Act->World->Prop} {Q:Act->World->Prop} {rest:List (RO×Oper)} {a0:Act} {w0:World}
 (hq:∀(vv:Nat->Value×List kC) D w' C,(∀i∈li,G i (vv i).1 (vv i).2)->Holds (λj=>(X j).1.dst) vv li C->Im SQ ds C->wF n C D->D.defers=a0.defers->Sat w' ((li.flatMap λi=>(vv i).2)++(base.flatten++F))->j9 w0 w'->cK P K Q rest D w'):
 ∀(m d:List Nat),li=d++m->∀(vv:Nat->Value×List kC) Γ a w,(∀i∈d,G i (vv i).1 (vv i).2)->Holds (λj=>(X j).1.dst) vv d Γ->Im SQ ds Γ->wF n Γ a->a.defers=a0.defers->Sat w ((d.flatMap λi=>(vv i).2)++(base.flatten++F))->j9 w0 w->cK P K Q (m.map X++rest) a w:=by
 intro m
 induction m with
 |nil=>
  intro d q vv Γ a w L H I O S W A;rw[vm]at q;subst q;exact hq vv a w Γ L H I O S W A
 |cons i m ih=>
  intro d q vv Γ a w L H I O S W A;have M:i∈li:=by rw[q];simp
  have hb:=E d i m q;have st:=step i M vv (λj g=>L j (hb j g)) Γ (λj g=>H j (hb j g)) I;have Ib:Sat w (base.flatten++((d.flatMap λi=>(vv i).2)++F)):=W.perm (by
   rw[<- vj,<- vj];exact QZ.append_right F)
  have Z:i∉d:=by
   rw[q]at hn;intro h;exact(QW.1 hn).2.2 i h i Zs rfl
  refine st [X i] (mq i M) a w ((d.flatMap λi=>(vv i).2)++F) K (cK P K Q (m.map X++rest)) O Ib (λD w' C H' ⟨v,B,k1,k2,k3⟩ g1 g2 g3 g4=>?_) (λ_ _ _ _ _ k=>k.elim);subst k1;have N:∀j∈d,(if j=i then(v,B)else vv j)=vv j:=λj g=>if_neg (λe:j=i=>Z (e ▸ g))
  refine ih (d++[i]) (by rw[q];simp) (λj=>if j=i then(v,B)else vv j) _ D w' (λj g=>?_) (λj g t J=>?_) (λt u hu Y=>?_) g1 (g2.trans S) ?_ (A.trans g4)
  .rcases QH.1 g with h|h
   .simp only[N j h];exact L j h
   .rw[QU.1 h];simp only[if_true];exact k2
  .rcases QH.1 g with h|h
   .have S4:j≠i:=λe=>Z (e ▸ h)
    have U:j∈li:=by rw[q];simp[h]
    simp only[N j h];cases I8:(X i).1.dst with
    |none=>exact H j h t J
    |some s=>
     have:s≠t:=λe=>S4 (L5 j U i M t J (by rw[I8,e]))
     simp only[au,look,if_neg this];exact H j h t J
   .rw[QU.1 h]at J|-;simp only[if_true];simp only[J,au,look,if_true]
  .cases I8:(X i).1.dst with
   |none=>exact I t u hu Y
   |some s=>
    have:s≠t:=λe=>Y (e ▸ T i M s I8)
    simp only[au,look,if_neg this];exact I t u hu Y
  .have g5:=g3.imp k3;have e:((d++[i]).flatMap λj=>(if j=i then(v,B)else vv j).2)=(d.flatMap λi=>(vv i).2)++B:=by
    rw[V9]
    congr 1
    .rw[Va,Va]
     congr 1
     exact QD λj g=>by rw[N j g]
    .simp
   rw[e];refine g5.perm ?_;simp only[Vd,vj];have p1:(B++(base.flatten++((d.flatMap λi=>(vv i).2)++F))).Perm (B++((d.flatMap λi=>(vv i).2)++(base.flatten++F))):=by
    refine vY _ ?_;rw[<- vj,<- vj];exact QZ.append_right F
   refine p1.trans ?_;rw[<- vj,<- vj (d.flatMap _)];exact QZ.append_right _
def tailB(an:List (List Nat))(k n:Nat):Bool:=(List.range n).all λi=>decide (i<k)||(List.range i).all λj=>(an.getD i []).contains j
def Uu(rs:List RO)(k:Nat):Bool:=Hm ((rs.take k).filterMap λr=>r.dst)
 where Hm:List Nat->Bool
  |[]=>true
  |x::r=>!r.contains x&&Hm r
def JK:∀{l:List Nat},Uu.Hm l=true->l.Nodup:=by
 intro l
 induction l with
 |nil=>intro _;exact .nil
 |cons x r ih=>
  intro h;simp only[Uu.Hm,vG,vP,List.contains_eq_mem,decide_eq_false_iff_not]at h;exact QX.2 ⟨h.1,ih h.2⟩
def ψ:∀{rs:List RO} {k:Nat},((rs.take k).filterMap λr=>r.dst).Nodup->∀{i j t:Nat},i<k->j<k->i<rs.length->j<rs.length->(rs.getD i default).dst=some t->(rs.getD j default).dst=some t->i=j:=by
 intro rs
 induction rs with
 |nil=>intro k _ i j t _ _ D;simp at D
 |cons r rs ih=>
  intro k h i j t D hj s A g q;cases k with
  |zero=>omega
  |succ k=>
   simp only[List.take_succ_cons,List.filterMap_cons]at h;have C:∀{m:Nat},m<k->m<rs.length->(rs.getD m default).dst=some t->t∈(rs.take k).filterMap λr=>r.dst:=λ{m} hm B F=>by
    refine List.mem_filterMap.2 ⟨rs.getD m default,?_,F⟩;rw[Vh,Zg B,X3];exact List.mem_take_iff_getElem.2 ⟨m,Zo,rfl⟩
   have E:((rs.take k).filterMap λr=>r.dst).Nodup:=by
    cases hr:r.dst with
    |none=>rw[hr]at h;exact h
    |some d=>rw[hr]at h;exact(QX.1 h).2
   cases i with
   |zero=>
    cases j with
    |zero=>rfl
    |succ j=>
     simp only[List.getD_cons_zero,List.getD_cons_succ]at g q;rw[g]at h;exact absurd (C Zo (by simpa using A) q) (QX.1 h).1
   |succ i=>
    cases j with
    |zero=>
     simp only[List.getD_cons_zero,List.getD_cons_succ]at g q;rw[q]at h;exact absurd (C Zo (by simpa using s) g) (QX.1 h).1
    |succ j=>
     simp only[List.getD_cons_succ]at g q;rw[ih E Zo Zo (by simpa using s) (by simpa using A) g q]
def VC.free {Γ:Env}{base:SH}{Q:Exit->Env->SH->Prop}{rs:List RO}{an:List (List Nat)}{bj:List Nat}(k:Nat)(G:Nat->Value->List kC->Prop)(hk:k<=rs.length)(K:tailB an k rs.length=true)(S:Uu rs k=true)
 (step:∀i,i<k->∀(vv:Nat->Value×List kC),(∀j∈an.getD i [],G j (vv j).1 (vv j).2)->∀d,Holds (λj=>(rs.getD j default).dst) vv (an.getD i []) d->Im Γ ((rs.take k).filterMap λr=>r.dst) d->
   VO P n [rs.getD i default] d base (λ_ _ _=>False) (λO H'=>∃v B,O=au (rs.getD i default).dst v d/\G i v B/\ap H' (B::base)))
 (fin:∀(vv:Nat->Value×List kC),(∀i,i<k->G i (vv i).1 (vv i).2)->∀d,Holds (λj=>(rs.getD j default).dst) vv (List.range k) d->Im Γ ((rs.take k).filterMap λr=>r.dst) d->
   VO P n (rs.drop k) d (((List.range k).map λi=>(vv i).2)++base) (λch _ H'=>Q (.panic ch) [] H') (λO H'=>Q .normal (bh bj O) H')):VC P n (.free rs an bj) Γ base Q:=by
 intro ρ kp od code hl a w F QQ hr ha hs hh;obtain⟨id,ops,rfl,H,hm,hb,rfl,rfl⟩:=ji hl;have U:=(wA H).1;refine wpIn_region_draw (λt=>?_);have qZ:Region.schedule (P.follows .mixedOrders) ops t=jo ops ops.size t (Array.replicate ops.size false):=by simp[Region.schedule,hm,Region.linearise,jo]
 rw[qZ];have hu:qg ops (Array.replicate ops.size false)=List.range ops.size:=zBF
 obtain⟨s1,s2,_⟩:=yX hb ops.size t (Array.replicate ops.size false) Zs (by rw[hu];simp);have NY:∀{x y:Nat},y<ops.size->x∈(lh ops).getD y []->Nq (jo ops ops.size t (Array.replicate ops.size false)) x y:=λL m=>Ar hb (Qs _) (ma m) L
 generalize hl:jo ops ops.size t (Array.replicate ops.size false)=l at*;have bX:∀i,i∈l↔i<ops.size:=λi=>by rw[s2,hu];simp
 have I:∀i,i<ops.size->ops[i]? =some ((rs.zip ops.toList).getD i default).2/\((rs.zip ops.toList).getD i default).1=rs.getD i default/\eG P n ops ((rs.zip ops.toList).getD i default).2=some ((rs.zip ops.toList).getD i default).1:=λi hi=>zJ H hi
 have hro:rs.length=ops.size:=by simpa using U
 have sr:∀i,k<=i->i<rs.length->∀j,j<i->j∈(lh ops).getD i []:=λi hki hi j q=>by
  have:=vf.1 K i (QS.2 hi);simp only[vS,decide_eq_true_eq]at this;rcases this with h|h
  .omega
  .have:=vf.1 h j (QS.2 q);exact vr.1 this
 have ux:l.filter (λi=>decide (i<k))++List.range' k (rs.length-k)=l:=by
  refine xu ?_ s1 ?_
  .refine(Qc ?_ s1).2 (λx=>?_)
   .refine QW.2 ⟨s1.filter _,List.nodup_range',λx m y L e=>?_⟩;have H:=(QM.1 m).2;have h2:=QT.1 L;simp only[decide_eq_true_eq]at H;omega
   .simp only[QH,QM,bX,QT,decide_eq_true_eq];omega
  .refine List.pairwise_append.2 ⟨List.pairwise_iff_forall_sublist.2 λh=>h.trans List.filter_sublist,?_,?_⟩
   .refine(List.pairwise_lt_range' (s:=k) (n:=rs.length-k) (step:=1)).imp_of_mem ?_;intro x y m L hxy;have H:=QT.1 m;have h2:=QT.1 L;exact(NY Zo (sr y Zo Zo x hxy)).sub
   .intro x m y L;have H:=(QM.1 m).2;have h2:=QT.1 L;simp only[decide_eq_true_eq]at H;exact(NY Zo (sr y Zo Zo x Zo)).sub
 generalize W:l.filter (λi=>decide (i<k))=li at ux;have A:∀i,i∈li↔i<k:=λi=>by
  rw[<- W,QM,bX,decide_eq_true_eq];omega
 have E:li.Nodup:=W ▸ s1.filter _;refine fR (P:=P) (ρ:=ρ) (n:=n) (ops:=ops) (X:=λi=>(rs.zip ops.toList).getD i default) (QQ:=QQ) (λi hi=>⟨(I i hi).1,(I i hi).2.2⟩) _ a _ (λi hi=>(bX i).1 hi) ?_;rw[<- ux,QC];have g:∀i,i<k->((rs.zip ops.toList).getD i default).1=rs.getD i default:=λi hi=>(I i Zo).2.1
 have rU:=JK S;refine Ye (X:=λi=>(rs.zip ops.toList).getD i default) (G:=G) (base:=base) (SQ:=Γ) (ds:=(rs.take k).filterMap λr=>r.dst) (an:=λi=>(lh ops).getD i []) li E (λi hi=>?_) (λi hi t M=>?_) (λi hi j q t Z ht2=>?_) ?_ ?_ (F:=F) (a0:=a) (w0:={w with drawn:=w.drawn+1}) ?_ li [] rfl (λ_=>(undef,[])) Γ a _ (λi hi=>by cases hi) (λi hi=>by cases hi) (λt v h _=>h) ha rfl (by simp only[List.flatMap_nil,QV];exact hs.drawn _) (.refl _)
 .have D:=(A i).1 hi;exact⟨rfl,λx m=>by rw[QU.1 m];exact⟨ops,(I i Zo).2.2⟩⟩
 .have D:=(A i).1 hi;simp only[g i D]at M;refine List.mem_filterMap.2 ⟨rs.getD i default,?_,M⟩;rw[Vh,Zg Zo,X3];exact List.mem_take_iff_getElem.2 ⟨i,Zo,rfl⟩
 .have D:=(A i).1 hi;have N:=(A j).1 q;simp only[g i D,g j N]at Z ht2;exact ψ rU D N Zo Zo Z ht2
 .intro l1 i l2 e j q;have hi:i<k:=(A i).1 (by rw[e];simp);have mo:=NY Zo q;rw[<- ux,e]at mo;have Y:(l1++i::l2++List.range' k (rs.length-k)).Nodup:=by rw[<- e,ux];exact s1
  have C:=mo.2.2;rw[vj,List.idxOf_append (l₁:=l1),List.idxOf_append (l₁:=l1)]at C;by_cases gh:j∈l1
  .exact gh
  .rw[if_neg gh]at C;have cm:i∉l1:=by
    rw[vj]at Y;intro h;exact(QW.1 Y).2.2 i h i Zs rfl
   rw[if_neg cm]at C;rw[vq,List.idxOf_cons_self]at C;omega
 .intro i hi vv hg d hh iL;have D:=(A i).1 hi;have e:=g i D;show VO P n [((rs.zip ops.toList).getD i default).1] _ _ _ _;rw[e];have hanlt:∀j∈(lh ops).getD i [],j<k∨True:=λ_ _=>.inr trivial
  refine(step i D vv hg d (λj q t M=>?_) iL);refine hh j q t ?_;have hjm:j<ops.size:=(bX j).1 (NY Zo q).1;show((rs.zip ops.toList).getD j default).1.dst=some t;rw[(I j hjm).2.1];exact M
 .intro vv a' w' d hg J iL L2 UR Ib T;have hf:=fin vv (λi hi=>hg i ((A i).2 hi)) d (λj q t M=>by
   have N:=QS.1 q;refine J j ((A j).2 N) t ?_;show((rs.zip ops.toList).getD j default).1.dst=some t;rw[g j N];exact M) iL
  have mq:tG P n (rs.drop k) ((List.range' k (rs.length-k)).map λi=>(rs.zip ops.toList).getD i default):=by
   refine⟨?_,λx m=>?_⟩
   .rw[QF];apply vz;intro i;simp only[Vo,Vu];by_cases hi:i<rs.length-k
    .rw[List.getElem?_range' hi];simp only[X7,Function.comp];rw[(I (k+1*i) Zo).2.1,Nat.one_mul,Vh,Zg Zo,X3]
    .rw[Vp (by simpa using hi),Vp Zo];rfl
   .obtain⟨i,hi,rfl⟩:=QO.1 m;have:=QT.1 hi;exact⟨ops,(I i Zo).2.2⟩
  have cJ:(li.flatMap λi=>(vv i).2).Perm ((List.range k).map λi=>(vv i).2).flatten:=by
   rw[<- Va];refine List.Perm.flatMap_right _ ?_;refine(Qc E QY).2 (λx=>?_);rw[A,QS]
  have Al:Sat w' ((((List.range k).map λi=>(vv i).2)++base).flatten++F):=Ib.perm (by
   rw[Vc,vj];exact cJ.append_right _)
  refine hf _ mq a' w' F QQ (QQ .normal) L2 Al (λa2 w2 O H2 q2 k1 k2 k3 k4=>?_) (λch a2 w2 O H2 q2 k1 k2 k3 k4=>?_)
  .exact hh _ a2 w2 _ H2 [] q2 ⟨k1.size,λt v e=>k1.slots t v (pB _ _ t v e)⟩ (k2.trans UR) k3.cF (((j9.refl w).drawn _).trans (T.trans k4))
  .exact hh _ a2 w2 [] H2 [] q2 ⟨k1.size,λt v e=>by cases e⟩ (k2.trans UR) k3.cF (((j9.refl w).drawn _).trans (T.trans k4))
end
def cR(p:Bool)(d:Nat)(m:Bool):Rs:=if p then some (d,m)else none
def nQ {p q d e m k}(h:p=q)(g:q=true->d=e/\m=k):cR p d m=cR q e k:=by
 subst h;cases p with
 |false=>rfl
 |true=>obtain⟨rfl,rfl⟩:=g rfl;rfl
def ju(b p d m):kT b (cR p d m)=cR (b&&p) d m:=by cases b<;>cases p<;>rfl
def se(p d m):wz (cR p d m)=cR p (d+1) m:=by cases p<;>rfl
def fE(b p d m):z9 b (cR p d m)=cR p d (b||m):=by cases p<;>rfl
def r9(p q d e m k):yN (cR p d m) (cR q e k)=cR (p&&q) (max d e) (m||k):=by cases p<;>cases q<;>rfl
def zero_c:(some (0,false):Rs)=cR true 0 false:=rfl
def fJ(r l):jh (r::l)=yN r (jh l):=by
 cases r with
 |none=>cases h:jh l<;>rfl
 |some p=>cases h:jh l<;>simp[jh,yN,h]
def Be(r):yN r (some (0,false))=r:=by
 cases r with
 |none=>rfl
 |some p=>simp[yN]
def No(r):yN (some (0,false)) r=r:=by
 cases r with
 |none=>rfl
 |some p=>simp[yN]
def xI(l r):jh (l++r)=yN (jh l) (jh r):=by
 induction l with
 |nil=>simp only[QV,jh,No]
 |cons x l ih=>
  rw[vq,fJ,fJ,ih];cases x<;>cases jh l<;>cases jh r<;>simp[yN,Nat.max_assoc,vR]
def mx {α:Type}(f:α->Nat):List α->Nat
 |[]=>0
 |x::r=>max (f x) (mx f r)
def mx_le {α:Type}{f:α->Nat}{K}:∀{l:List α},(∀x∈l,f x<=K)->mx f l<=K:=by
 intro l
 induction l with
 |nil=>intro _;exact X0 _
 |cons x r ih=>
  intro h;have h1:=h x Zs;have h2:=ih λy d=>h y (by simp[d])
  simp only[mx];omega
def Hg {α:Type}{g:α->Rs}{p:α->Bool}{d:α->Nat}{m:α->Bool}:∀{l:List α},(∀x∈l,g x=cR (p x) (d x) (m x))->jh (l.map g)=cR (l.all p) (mx d l) (l.any m):=by
 intro l
 induction l with
 |nil=>intro _;rfl
 |cons x r ih=>
  intro h;rw[QE,fJ,h x Zs,ih λy j=>h y (by simp[j]),r9];rfl
mutual
def za:Lt->Nat
 |.mk k _ _ _ ci=>if k=10 then G7 ci+1 else 0
def G7:List Lt->Nat
 |[]=>0
 |x::r=>max (za x) (G7 r)
end
mutual
def mD:Lt->Bool
 |.mk k _ _ t ci=>decide (255<ci.length)||(decide (k=11)&&decide (255<t.size))||EY ci
def EY:List Lt->Bool
 |[]=>false
 |x::r=>mD x||EY r
end
def uE:∀l:List Lt,G7 l=mx za l:=by
 intro l
 induction l with
 |nil=>rfl
 |cons x r ih=>simp only[G7,mx,ih]
def Jt:∀l:List Lt,EY l=l.any mD:=by
 intro l
 induction l with
 |nil=>rfl
 |cons x r ih=>simp only[EY,vg,ih]
def WZ:∀(N:Nat) (x:Lt),x.size<=N->∀i,jS x i=cR (jS x i).isSome (za x) (mD x):=by
 intro N
 induction N with
 |zero=>intro x d;have:=x.size_pos;omega
 |succ N ih=>
  intro x d i;cases x with
  |mk k n b t ci=>
  simp only[Lt.size]at d;have A:∀y∈ci,jS y true=cR (jS y true).isSome (za y) (mD y):=λy B=>ih y (by have:=Lt.aJ B;omega) true
  have leaf:∀(c q:Bool),(c=true->ci=[]/\k≠10/\q=(decide (k=11)&&decide (255<t.size)))->kT c (some (0,q))=cR (kT c (some (0,q))).isSome (za (.mk k n b t ci)) (mD (.mk k n b t ci)):=by
   intro c q h;cases c with
   |false=>rfl
   |true=>
    obtain⟨j,m,s⟩:=h rfl;subst j;simp only[za,mD,if_neg m,EY,Q7,<- s];simp[kT,cR]
  simp only[jS];split
  .exact leaf _ _ λh=>by simp only[vG,decide_eq_true_eq]at h;exact⟨vy h.2.2.2.2,Zo,by simp;omega⟩
  split
  .exact zEN
  split
  .exact leaf _ _ λh=>by simp only[vG,decide_eq_true_eq]at h;exact⟨vy h.2.2.2,Zo,by simp;omega⟩
  split
  .exact leaf _ _ λh=>by simp only[decide_eq_true_eq]at h;exact⟨vy h.2.2.2,Zo,by simp;omega⟩
  split
  .exact zEN
  split
  .exact leaf _ _ λh=>by simp only[decide_eq_true_eq]at h;exact⟨vy h.2.2,Zo,by simp;omega⟩
  split
  .rename_i g;exact leaf _ _ λh=>by simp only[decide_eq_true_eq]at h;exact⟨vy h.2.2,Zo,by simp[g]⟩
  split
  .rename_i C;subst C;rw[dE,Hg A,fE,se,ju];simp only[za,mD,if_pos,uE,Jt];generalize (_&&List.all ci _:Bool)=c;cases c<;>simp[cR]
  .rfl
def eF {l}(h:z4 l=true):za l=0/\mD l=false:=by
 cases l with
 |mk k n b t ci=>
 have h:=of_decide_eq_true h;simp only[Lt.kind,Lt.n,Lt.bits,Lt.text,Lt.ci]at h;obtain⟨rfl,_,_,_,d⟩:=h;obtain rfl:=vy d;simp[za,mD,EY]
def wx(k:Nat)(s:ByteArray)(lit:Lt)(a5 ae:List ByteArray)(m:Nat):Bool:=
 if k=1 then(jS lit false).isSome&&decide (s.size=0/\a5.length=0/\ae.length=0)
 else if k=2 then yJ s&&z4 lit&&decide (a5.length=0/\ae.length=0)
 else if k=3 then jW s&&z4 lit&&decide (a5.length=0/\ae.length=0)
 else if k=4 then decide (0<=kW s)&&z4 lit&&decide (a5.length=0/\ae.length=0)
 else if k=5 then decide (2<m)&&z4 lit&&decide (s.size=0/\a5.length=0/\ae.length=0)
 else if k=6 then decide (0<=kW s)&&z4 lit&&decide (a5.length=0/\ae.length=0)
 else if k=7 then a5.all jW&&ae.all jW&&z4 lit&&decide (s.size=0)
 else if k=8∨k=9 then z4 lit&&decide (s.size=0/\a5.length=0/\ae.length=0)
 else false
def yM(k:Nat)(s:ByteArray):Int:=
 if k=3∨k=9 then 1 else if k=4 then kW s+1 else if k=6 then kW s else if k=5∨k=7∨k=8 then -1 else 0
def iN(k m i:Nat)(x:Nd):Bool:=
 !(kg x&&!(decide (i=0)&&(decide (k=4)||decide (k=5))))&&!(decide (x.kind=9)&&!(decide (i+1=m)&&decide (k=7)))&&(decide (x.kind=6)==(decide (k=5)&&decide (0<i)))
mutual
def jc:Nd->Bool
 |.mk k s lit a5 ae ak _=>wx k s lit a5 ae ak.length&&!(decide (0<=yM k s)&&decide (yM k s≠ak.length))&&j8 k ak.length 0 ak
def j8(k m:Nat):Nat->List Nd->Bool
 |_,[]=>true
 |i,x::r=>jc x&&iN k m i x&&j8 k m (i+1) r
end
mutual
def jq:Nd->Bool
 |.mk k _ lit a5 ae ak _=>mD lit||decide (15<a5.length)||decide (63<ae.length)||(decide (k=4)&&decide (16<ak.length))||(decide (k=6)&&decide (15<ak.length))||(decide (k=5)&&decide (256<ak.length))||(decide (k=8)&&decide (255<ak.length))||He ak
def He:List Nd->Bool
 |[]=>false
 |x::r=>jq x||He r
end
def gV(k:Nat)(s:ByteArray)(i:Nat):Nat:=
 if i=0/\(k=4∨k=5)then(if yh s=5 then 5 else 4)else if(k=4/\0<i)∨k=6 then(if yh s=4 then 5 else 4)else 1
def x6(k:Nat)(s:ByteArray)(i:Nat)(x:Nd):Bool:=decide (x.kind≠6)&&decide (x.kind≠9)&&decide (wQ x<gV k s i)
def rZ(k:Nat)(s:ByteArray)(ak:List Nd):ByteArray:=if k=5 then(ak.drop 1).head?.elim ⟨#[]⟩ Nd.name else s
mutual
def jy:Nd->Nat
 |.mk k s lit _ _ ak _=>max (za lit) (wC k (rZ k s ak) 0 ak)+if k=7∨k=8 then 1 else 0
def wC(k:Nat)(s:ByteArray):Nat->List Nd->Nat
 |_,[]=>0
 |i,x::r=>max (jy x+if x6 k s i x then 1 else 0) (wC k s (i+1) r)
end
def E1:∀l:List Nd,He l=l.any jq:=by
 intro l
 induction l with
 |nil=>rfl
 |cons x r ih=>simp only[He,vg,ih]
def yZ(x:Nd):Bool:=!kg x&&decide (x.kind≠9/\x.kind≠6)
def gI {x}(h:kg x=true):x.kind=2:=by
 simp only[kg,vG,decide_eq_true_eq]at h;exact h.1
def lF {k m i x}(q:¬(i=0/\(k=4∨k=5)))(s:¬(k=5/\0 < i))(A:¬(k=7/\i+1=m)):iN k m i x=yZ x:=by
 have d:(decide (i=0)&&(decide (k=4)||decide (k=5)))=false:=by
  rw[vK];intro h;simp at h;exact q h
 have g:(decide (k=5)&&decide (0<i))=false:=by
  rw[vK];intro h;simp only[vG,decide_eq_true_eq]at h;exact s h
 have j:(decide (i+1=m)&&decide (k=7))=false:=by
  rw[vK];intro h;simp only[vG,decide_eq_true_eq]at h;exact A ⟨h.2,h.1⟩
 simp only[iN,yZ,d,g,j];by_cases a:x.kind=9<;>by_cases b:x.kind=6<;>cases kg x<;>simp[a,b]
def rj(x):1<=wQ x:=by
 unfold wQ yh
 repeat' split
 all_goals omega
def lV {x p f m d}:je x p (cR f d m)=cR (f&&yZ x) (d+if wQ x<p then 1 else 0) m:=by
 unfold je CW yZ;by_cases hl:wQ x<p
 .rw[if_pos hl,if_pos hl,se,ju,ju]
  congr 1
  cases f<;>cases kg x<;>simp
 .rw[if_neg hl,if_neg hl,ju,ju]
  congr 1
  cases f<;>cases kg x<;>simp
def gf {k m}:∀{l:List Nd} {i:Nat},(∀j x,l[j]? =some x->iN k m (i+j) x=yZ x)->j8 k m i l=l.all λx=>jc x&&yZ x:=by
 intro l
 induction l with
 |nil=>intro i _;rfl
 |cons x r ih=>
  intro i h;have d:=h 0 x rfl;rw[Qo]at d;simp only[j8,ve,d];rw[ih (i:=i+1) λj y g=>by rw[Qn,Nat.add_comm 1 j];exact h (j+1) y g]
def fX {k s p}:∀{l:List Nd} {i:Nat},(∀j x,l[j]? =some x->yZ x=true/\gV k s (i+j)=p)->wC k s i l=mx (λx=>jy x+if wQ x<p then 1 else 0) l:=by
 intro l
 induction l with
 |nil=>intro i _;rfl
 |cons x r ih=>
  intro i h;obtain⟨d,g⟩:=h 0 x rfl;rw[Qo]at g;simp only[yZ,vG,decide_eq_true_eq]at d;simp only[wC,mx,x6,g];rw[ih (i:=i+1) λj y m=>by rw[Qn,Nat.add_comm 1 j];exact h (j+1) y m];simp[d.2.1,d.2.2]
def pP {k m}:∀{l r:List Nd} {i:Nat},j8 k m i (l++r)=(j8 k m i l&&j8 k m (i+l.length) r):=by
 intro l
 induction l with
 |nil=>intro r i;simp[j8]
 |cons x l ih=>
  intro r i;simp only[vq,j8,ih,Q0];rw[show i+1+l.length=i+(l.length+1) by omega];simp only[Bool.and_assoc]
def DG {k s}:∀{l r:List Nd} {i:Nat},wC k s i (l++r)=max (wC k s i l) (wC k s (i+l.length) r):=by
 intro l
 induction l with
 |nil=>intro r i;simp[wC]
 |cons x l ih=>
  intro r i;simp only[vq,wC,ih,Q0];rw[show i+1+l.length=i+(l.length+1) by omega,Nat.max_assoc]
def lastB {l:List Nd}(h:l≠[]):∃r x,l=r++[x]:=⟨l.dropLast,l.getLast h,(List.dropLast_concat_getLast h).symm⟩
def uP(s):gD s=if yh s=5 then 5 else 4:=by
 unfold gD yh
 repeat' split
 all_goals omega
def Kf {x}(h:kg x=true):wQ x=6:=by
 have:=gI h;simp[wQ,this]
def IW {x s f m d}:zl x s (cR f d m)=cR (f&&decide (x.kind≠9/\x.kind≠6)) (d+if wQ x<gD s then 1 else 0) m:=by
 unfold zl;by_cases h:kg x=true
 .rw[if_pos h];have g:=gI h;have j:=Kf h;have:¬wQ x<gD s:=by
   rw[j,uP];split<;>omega
  rw[if_neg this];simp[g]
 .rw[if_neg h,lV];simp only[Bool.not_eq_true]at h;simp[yZ,h]
def mC {k m}(j:k=4∨k=5)(x):iN k m 0 x=decide (x.kind≠9/\x.kind≠6):=by
 unfold iN;have g:decide (k=7)=false:=Zf Zo;rw[g];have d:(decide (k=4)||decide (k=5))=true:=by simp;exact j
 rw[d];by_cases a:x.kind=9<;>by_cases b:x.kind=6<;>simp[a,b]
def LY {k m i l}(h:j8 k m i l=true):∀x∈l,jc x=true:=by
 induction l generalizing i with
 |nil=>intro x hx;cases hx
 |cons y r ih=>
  simp only[j8,vG]at h;intro x hx;rcases QJ.1 hx with rfl|hx
  .exact h.1.1
  .exact ih h.2 x hx
def E5:∀(N:Nat) (x:Nd),x.w<=N->kP x=cR (jc x) (jy x) (jq x):=by
 intro N
 induction N with
 |zero=>intro x g;have:=x.nC;omega
 |succ N ih=>
  intro x g;cases x with
  |mk k s lit a5 ae ak p=>
  simp only[Nd.w]at g;have hk:∀y∈ak,kP y=cR (jc y) (jy y) (jq y):=λy X=>ih y (by have:=Nd.cQ X;omega)
  have hv:∀(l:List Nd) (pl:Nat),(∀y∈l,y∈ak)->jh (fH pl l (l.map kP))=cR (l.all λx=>jc x&&yZ x) (mx (λx=>jy x+if wQ x<pl then 1 else 0) l) (l.any jq):=λl pl hl=>by
   rw[eQ];exact Hg λx g=>by rw[hk x (hl x g),lV]
  have kp:∀{l:List Nd},(l.all λx=>jc x&&yZ x)=true->∀x∈l,yZ x=true:=λ{l} h x g=>by
   have:=vf.1 h x g;simp only[vG]at this;exact this.2
  have l1:∀x:Nd,(if wQ x<1 then 1 else 0)=0:=λx=>if_neg (by have:=rj x;omega)
  have one:∀(h3:k=3∨k=9) (y:Nd),ak=[y]->j8 k 1 0 ak=(jc y&&yZ y)/\(yZ y=true->wC k (rZ k s ak) 0 ak=jy y):=by
   rintro h3 y rfl
   constructor
   .simp only[j8,vI];rw[lF Zo Zo Zo]
   .intro X;rw[fX (p:=1) (λj x g=>?_)]
    .simp only[mx,l1];omega
    .cases j with
     |zero=>cases g;exact⟨X,by unfold gV;rw[if_neg Zo,if_neg Zo]⟩
     |succ j=>simp at g
  have U:∀(b c m:Bool) (d:Nat),0<=yM k s->yM k s≠ak.length->cR (b&&!(decide (0<=yM k s)&&decide (yM k s≠ak.length))&&c) d m=none:=λb c m d h1 h2=>by
   rw[Zt h1,Zt h2];cases b<;>rfl
  have W:¬(0<=yM k s/\yM k s≠ak.length)->(!(decide (0<=yM k s)&&decide (yM k s≠ak.length)))=true:=λh=>by
   rw[vP,vF];simp only[decide_eq_false_iff_not];omega
  have mn:∀(c:Bool) (r:Rs),c=false->kT c r=none:=λc r h=>by subst h;rfl
  simp only[kP,jz,w8];simp only[jc,jq,jy,E1];by_cases h1:k=1
  .subst h1;rw[if_pos rfl,WZ _ lit (Qs _) false,ju];cases ak with
   |nil=>
    rw[W K5];refine nQ (by simp[wx,j8];cases (jS lit false).isSome<;>simp) (λh=>?_);simp only[wx,if_true,vG,decide_eq_true_eq]at h;simp[wC,h.1.1.2.2.1,h.1.1.2.2.2]
   |cons y r=>
    rw[U _ _ _ _ K5 (by simp[yM];omega)];simp[cR]
  rw[if_neg h1];by_cases h2:k=2
  .subst h2;rw[if_pos rfl,zero_c,ju];cases ak with
   |nil=>
    rw[W K5];refine nQ (by simp[wx,j8];cases yJ s<;>cases z4 lit<;>simp) (λh=>?_);simp only[wx,show ¬(2:Nat)=1 by omega,if_false,if_true,vG,decide_eq_true_eq]at h;obtain⟨A,B⟩:=eF h.1.1.1.2;simp[wC,h.1.1.2.1,h.1.1.2.2,A,B]
   |cons y r=>
    rw[U _ _ _ _ K5 (by simp[yM];omega)];simp[cR]
  rw[if_neg h2];by_cases h3:k=3
  .subst h3;rw[if_pos rfl];rcases ak with _|⟨y,_|⟨z,r⟩⟩
   .rw[U _ _ _ _ K5 K5];simp[kT]
   .obtain⟨o1,o2⟩:=one (.inl rfl) y rfl;rw[W K5];show kT _ (je y 1 (kP y))=_;rw[hk y Zs,lV,l1,ju,show j8 3 [y].length 0 [y]=(jc y&&yZ y)from o1];refine nQ ?_ (λh=>?_)
    .simp[wx];cases jc y&&yZ y<;>cases z4 lit<;>cases jW s<;>simp
    .simp only[wx,show ¬(3:Nat)=1 by omega,show ¬(3:Nat)=2 by omega,if_false,if_true,vG,decide_eq_true_eq]at h;obtain⟨A,B⟩:=eF h.1.1.1.2;rw[o2 h.2.2];simp[h.1.1.2.1,h.1.1.2.2,A,B]
   .rw[U _ _ _ _ K5 (by simp[yM];omega)];simp[kT]
  rw[if_neg h3];by_cases h4:k=4
  .subst h4;rw[if_pos rfl];rcases ak with _|⟨y,l⟩
   .by_cases ha:0<=kW s
    .rw[U _ _ _ _ (by simp[yM];omega) (by simp[yM];omega)];simp[kT]
    .rw[mn _ _ (by simp[ha])];simp[wx,ha,cR]
   .have I:j8 4 (y::l).length 1 l=l.all λx=>jc x&&yZ x:=gf λj x _=>lF Zo Zo Zo
    show kT _ (yN (zl y s (kP y)) (lj s l (l.map kP)))=_;rw[hk y Zs,IW,lj,hv l (nD s) λz Y=>by simp[Y],fE,ju,r9,ju];have ce:yM 4 s=kW s+1:=by simp[yM]
    rw[ce];have Wb:j8 4 (l.length+1) (0+1) l=l.all λx=>jc x&&yZ x:=I
    refine nQ ?_ (λh=>?_)
    .simp only[j8,I,mC (.inl rfl),wx,Q0,Wb,Int.natCast_add,Int.natCast_one];simp only[show ¬(4:Nat)=1 by omega,show ¬(4:Nat)=2 by omega,show ¬(4:Nat)=3 by omega,show ¬((4:Nat)=3∨(4:Nat)=9) by omega,if_false,if_true,Q0];rw[vL];simp only[vG,vP,vF,decide_eq_true_eq,decide_eq_false_iff_not];constructor
     .rintro⟨⟨⟨⟨C,D⟩,E⟩,H⟩,⟨F,L⟩,Z,Q⟩
      exact⟨⟨⟨⟨H,E⟩,C,D⟩,.inr Zo⟩,⟨F,L⟩,Q⟩
     .rintro⟨⟨⟨⟨H,E⟩,C,D⟩,Z⟩,⟨F,L⟩,Q⟩
      exact⟨⟨⟨⟨C,D⟩,E⟩,H⟩,⟨F,L⟩,Zo,Q⟩
    .simp only[j8,I,Q0,Wb,wx,show ¬(4:Nat)=1 by omega,show ¬(4:Nat)=2 by omega,show ¬(4:Nat)=3 by omega,show ¬((4:Nat)=3∨(4:Nat)=9) by omega,if_false,if_true,Q0,vG,decide_eq_true_eq,vP,vF,decide_eq_false_iff_not]at h;obtain⟨A,B⟩:=eF h.1.1.1.2;obtain⟨⟨⟨⟨S,M⟩,c3,G⟩,c5⟩,⟨c6,J⟩,T⟩:=h;have O:=kp T;have oU:(l.length:Int)=kW s:=by omega
     rw[mC (.inl rfl)]at J;simp only[decide_eq_true_eq]at J;have K:wC 4 s 1 l=mx (λx=>jy x+if wQ x<nD s then 1 else 0) l:=fX λj x g=>⟨O x (Zv g),by unfold gV nD;rw[if_neg Zo,if_pos Zo]⟩
     simp only[wC,rZ,show ¬(4:Nat)=5 by omega,if_false,K,A,B,c3,G,vg];constructor
     .have:x6 4 s 0 y=decide (wQ y<gD s):=by
       simp[x6,J.1,J.2,gV,uP]
      rw[this];simp
     .have e1:decide (15<kW s)=decide (16<(y::l).length):=by
       rw[vL,decide_eq_true_eq,decide_eq_true_eq,Q0];omega
      rw[e1];cases jq y<;>simp
  rw[if_neg h4];by_cases h6:k=6
  .subst h6;have I:j8 6 ak.length 0 ak=ak.all λx=>jc x&&yZ x:=gf λj x _=>lF Zo Zo Zo
   rw[if_pos rfl,lj,hv ak (nD s) λz Y=>Y,fE,ju,ju];have ce:yM 6 s=kW s:=by simp[yM]
   rw[ce];refine nQ ?_ (λh=>?_)
   .simp only[I,wx,show ¬(6:Nat)=1 by omega,show ¬(6:Nat)=2 by omega,show ¬(6:Nat)=3 by omega,show ¬(6:Nat)=4 by omega,show ¬(6:Nat)=5 by omega,show ¬((6:Nat)=3∨(6:Nat)=9) by omega,if_false,if_true];rw[vL];simp only[vG,vP,vF,decide_eq_true_eq,decide_eq_false_iff_not];constructor
    .rintro⟨⟨⟨C,D⟩,E⟩,H,F⟩
     exact⟨⟨⟨⟨Zo,E⟩,C,D⟩,.inr Zo⟩,F⟩
    .rintro⟨⟨⟨⟨H,E⟩,C,D⟩,L⟩,F⟩
     exact⟨⟨⟨C,D⟩,E⟩,Zo,F⟩
   .simp only[I,wx,show ¬(6:Nat)=1 by omega,show ¬(6:Nat)=2 by omega,show ¬(6:Nat)=3 by omega,show ¬(6:Nat)=4 by omega,show ¬(6:Nat)=5 by omega,show ¬((6:Nat)=3∨(6:Nat)=9) by omega,if_false,if_true,vG,decide_eq_true_eq,vP,vF,decide_eq_false_iff_not]at h;obtain⟨⟨⟨⟨S,M⟩,c3,G⟩,c5⟩,T⟩:=h;obtain⟨A,B⟩:=eF M;have O:=kp T;have K:wC 6 s 0 ak=mx (λx=>jy x+if wQ x<nD s then 1 else 0) ak:=fX λj x g=>⟨O x (Zv g),by unfold gV nD;rw[if_neg Zo,if_pos Zo]⟩
    have e1:decide (15<kW s)=decide (15<ak.length):=by
     rw[vL,decide_eq_true_eq,decide_eq_true_eq];omega
    simp only[rZ,show ¬(6:Nat)=5 by omega,if_false,K,A,B,c3,G,e1];simp
  rw[if_neg h6];by_cases h5:k=5
  .subst h5;rw[if_pos rfl];rcases ak with _|⟨y,_|⟨z,l⟩⟩
   .rw[mn _ _ Zs];simp[wx,cR]
   .rw[mn _ _ Zs];simp[wx,cR]
   .have hfk:∀{r:List Nd} {i:Nat},0<i->j8 5 (y::z::l).length i r=r.all λx=>jc x&&decide (x.kind=6):=by
     intro r
     induction r with
     |nil=>intro i _;rfl
     |cons u r ihr=>
      intro i hi;simp only[j8,ve,ihr (i:=i+1) Zo]
      congr 2
      have hs:kg u=true->u.kind=2:=gI;unfold iN;rw[Zf (show ¬i=0 by omega),Zt hi];by_cases h6:u.kind=6
      .have:kg u=false:=by rw[vK];intro h;have:=hs h;omega
       simp[h6,this]
      .simp[h6]
    have hmsg:jh (sL (z::l) ((z::l).map kP))=cR ((z::l).all λx=>jc x&&decide (x.kind=6)) (mx jy (z::l)) ((z::l).any jq):=by
     rw[uJ];exact Hg λx g=>by rw[hk x (by simp only[QJ]at g|-;exact .inr g),ju,Bool.and_comm]
    show kT _ (z9 _ (yN (jh (sL (z::l) ((z::l).map kP))) (zl y z.name (kP y))))=_;rw[hmsg,hk y Zs,IW,r9,fE,ju];have KQ:=hfk (r:=z::l) (i:=1) Zo;rw[W K5];refine nQ ?_ (λh=>?_)
    .rw[j8,KQ];simp only[mC (.inr rfl),wx];simp only[show ¬(5:Nat)=1 by omega,show ¬(5:Nat)=2 by omega,show ¬(5:Nat)=3 by omega,show ¬(5:Nat)=4 by omega,show ¬(5:Nat)=6 by omega,show ¬((5:Nat)=3∨(5:Nat)=9) by omega,if_false,if_true];rw[vL];simp only[vG,vP,vF,decide_eq_true_eq,decide_eq_false_iff_not];constructor
     .rintro⟨⟨⟨C,D,E,H⟩,F⟩,L,Z,Q⟩
      exact⟨⟨⟨⟨H,F⟩,C,D,E⟩,trivial⟩,⟨Z,Q⟩,L⟩
     .rintro⟨⟨⟨⟨H,F⟩,C,D,E⟩,_⟩,⟨Z,Q⟩,L⟩
      exact⟨⟨⟨C,D,E,H⟩,F⟩,L,Z,Q⟩
    .rw[j8,KQ]at h;simp only[wx,mC (.inr rfl),show ¬(5:Nat)=1 by omega,show ¬(5:Nat)=2 by omega,show ¬(5:Nat)=3 by omega,show ¬(5:Nat)=4 by omega,if_false,if_true,vG,decide_eq_true_eq]at h;obtain⟨⟨⟨⟨S,M⟩,c0,c3,G⟩,c5⟩,⟨c6,J⟩,T⟩:=h;obtain⟨A,B⟩:=eF M;have h6:∀x∈z::l,x.kind=6:=λx g=>by
      have:=vf.1 T x g;simp only[vG,decide_eq_true_eq]at this;exact this.2
     have K:∀{r:List Nd} {i:Nat} {q:ByteArray},(∀x∈r,x.kind=6)->wC 5 q i r=mx jy r:=by
      intro r
      induction r with
      |nil=>intro i q _;rfl
      |cons u r ihr=>
       intro i q hr;simp only[wC,mx,ihr λx g=>hr x (by simp[g])];simp[x6,hr u Zs]
     have hbr:x6 5 z.name 0 y=decide (wQ y<gD z.name):=by
      simp[x6,J.1,J.2,gV,uP]
     have Gq:rZ 5 s (y::z::l)=z.name:=rfl;rw[Gq];rw[wC,K h6,hbr];simp only[A,B,c3,G,vg];constructor
     .simp[Nat.max_comm]
     .cases jq y<;>simp
  rw[if_neg h5];by_cases h7:k=7
  .subst h7;rw[if_pos rfl];have nu:jh (zA ak (ak.map kP))=cR (j8 7 ak.length 0 ak) (wC 7 s 0 ak) (ak.any jq):=by
    rcases(Classical.em (ak=[])).imp_right lastB with rfl|⟨l,x,rfl⟩
    .rfl
    .have hl:=hv l 1 (λz Y=>by simp[Y]);rw[eQ]at hl;have cf:j8 7 (l++[x]).length 0 l=l.all λx=>jc x&&yZ x:=gf λj y X=>lF Zo Zo (by
      have:=(Vt.1 X).1;rw[Vz,QA];omega)
     have hx1:(if x.kind=9 then kP x else je x 1 (kP x))=cR (jc x&&iN 7 (l++[x]).length (0+l.length) x) (jy x) (jq x):=zBO
     rw[xV,xI,hl,fJ,hx1,show jh []=some (0,false)from rfl,Be,r9];rw[pP,DG,cf];refine nQ ?_ (λh=>?_)
     .simp[j8]
     .have oU:(l.all λx=>jc x&&yZ x)=true:=by
       rw[vG]at h;exact h.1
      have O:=kp oU;have eA:jc x&&iN 7 (l++[x]).length (0+l.length) x=true:=by
       simp only[j8,vI,vG]at h|-;exact⟨h.2.1,by simpa using h.2.2⟩
      have K:wC 7 s 0 l=mx (λx=>jy x+if wQ x<1 then 1 else 0) l:=fX λj y X=>⟨O y (Zv X),by unfold gV;rw[if_neg Zo,if_neg Zo]⟩
      have hb:x6 7 s (0+l.length) x=false:=by
       unfold x6 gV;rw[if_neg Zo,if_neg Zo,Zf (show ¬wQ x<1 by have:=rj x;omega)];simp
      simp only[K,wC,hb];simp
   unfold zE;rw[nu,se,fE,ju,fE,ju,ju];refine nQ ?_ (λh=>?_)
   .rw[W K5];simp only[wx,show ¬(7:Nat)=1 by omega,show ¬(7:Nat)=2 by omega,show ¬(7:Nat)=3 by omega,show ¬(7:Nat)=4 by omega,show ¬(7:Nat)=5 by omega,show ¬(7:Nat)=6 by omega,if_false,if_true];cases a5.all jW<;>cases ae.all jW<;>cases z4 lit<;>cases decide (s.size=0)<;>simp
   .simp only[wx,show ¬(7:Nat)=1 by omega,show ¬(7:Nat)=2 by omega,show ¬(7:Nat)=3 by omega,show ¬(7:Nat)=4 by omega,show ¬(7:Nat)=5 by omega,show ¬(7:Nat)=6 by omega,if_false,if_true,vG,decide_eq_true_eq]at h;obtain⟨⟨⟨⟨S,M⟩,c3⟩,G⟩,c5⟩:=h;obtain⟨A,B⟩:=eF M;simp only[rZ,show ¬(7:Nat)=5 by omega,if_false,A,B];refine⟨Zs,?_⟩;cases ak.any jq<;>cases decide (15<a5.length)<;>cases decide (63<ae.length)<;>rfl
  rw[if_neg h7];by_cases h8:k=8
  .subst h8;have I:j8 8 ak.length 0 ak=ak.all λx=>jc x&&yZ x:=gf λj x _=>lF Zo Zo Zo
   rw[if_pos rfl,hv ak 1 λz Y=>Y,fE,se,ju,W K5];refine nQ ?_ (λh=>?_)
   .simp only[I,wx,show ¬(8:Nat)=1 by omega,show ¬(8:Nat)=2 by omega,show ¬(8:Nat)=3 by omega,show ¬(8:Nat)=4 by omega,show ¬(8:Nat)=5 by omega,show ¬(8:Nat)=6 by omega,show ¬(8:Nat)=7 by omega,if_false,true_or,if_true];cases z4 lit<;>simp
   .simp only[I,wx,show ¬(8:Nat)=1 by omega,show ¬(8:Nat)=2 by omega,show ¬(8:Nat)=3 by omega,show ¬(8:Nat)=4 by omega,show ¬(8:Nat)=5 by omega,show ¬(8:Nat)=6 by omega,show ¬(8:Nat)=7 by omega,if_false,true_or,if_true,vG,decide_eq_true_eq]at h;obtain⟨⟨⟨S,M,c3,G⟩,c5⟩,T⟩:=h;obtain⟨A,B⟩:=eF S;have O:=kp (l:=ak) (vf.2 λx g=>by simpa using vf.1 T x g);have K:wC 8 s 0 ak=mx (λx=>jy x+if wQ x<1 then 1 else 0) ak:=fX λj x g=>⟨O x (Zv g),by unfold gV;rw[if_neg Zo,if_neg Zo]⟩
    simp only[rZ,show ¬(8:Nat)=5 by omega,if_false,K,A,B,c3,G];simp
  rw[if_neg h8];by_cases h9:k=9
  .subst h9;rw[if_pos rfl];rcases ak with _|⟨y,_|⟨z,r⟩⟩
   .rw[U _ _ _ _ K5 K5];simp[kT]
   .obtain⟨o1,o2⟩:=one (.inr rfl) y rfl;rw[W K5];show kT _ (je y 1 (kP y))=_;rw[hk y Zs,lV,l1,ju,show j8 9 [y].length 0 [y]=(jc y&&yZ y)from o1];refine nQ ?_ (λh=>?_)
    .simp[wx];cases jc y&&yZ y<;>cases z4 lit<;>simp
    .simp only[wx,show ¬(9:Nat)=1 by omega,show ¬(9:Nat)=2 by omega,show ¬(9:Nat)=3 by omega,show ¬(9:Nat)=4 by omega,show ¬(9:Nat)=5 by omega,show ¬(9:Nat)=6 by omega,show ¬(9:Nat)=7 by omega,if_false,or_true,if_true,vG,decide_eq_true_eq]at h;obtain⟨⟨⟨S,M,c3,G⟩,c5⟩,c6,J⟩:=h;obtain⟨A,B⟩:=eF S;rw[o2 J];simp[A,B,c3,G]
   .rw[U _ _ _ _ K5 (by simp[yM];omega)];simp[kT]
  rw[if_neg h9];simp[wx,cR,h1,h2,h3,h4,h5,h6,h7,h8,h9]
def Sv(l):jh (zA l (l.map kP))=cR (j8 7 l.length 0 l) (mx jy l) (l.any jq):=by
 have hk:∀y∈l,kP y=cR (jc y) (jy y) (jq y):=λy _=>E5 _ y (Qs _)
 have l1:∀x:Nd,(if wQ x<1 then 1 else 0)=0:=λx=>if_neg (by have:=rj x;omega)
 rcases(Classical.em (l=[])).imp_right lastB with rfl|⟨l,x,rfl⟩
 .rfl
 .have q:jh (l.map λx=>je x 1 (kP x))=cR (l.all λx=>jc x&&yZ x) (mx jy l) (l.any jq):=Hg λx s=>by rw[hk x (by simp[s]),lV,l1];rfl
  have m:j8 7 (l++[x]).length 0 l=l.all λx=>jc x&&yZ x:=gf λj y A=>lF Zo Zo (by
   have:=(Vt.1 A).1;rw[Vz,QA];omega)
  have d:(if x.kind=9 then kP x else je x 1 (kP x))=cR (jc x&&iN 7 (l++[x]).length (0+l.length) x) (jy x) (jq x):=zBO
  rw[xV,xI,q,fJ,d,show jh []=some (0,false)from rfl,Be,r9];rw[pP,m];have g:∀l:List Nd,mx jy (l++[x])=max (mx jy l) (jy x):=by
   intro l
   induction l with
   |nil=>simp[mx]
   |cons y l ih=>simp only[vq,mx,ih];omega
  rw[g];refine nQ (by simp[j8]) λ_=>⟨rfl,Zs⟩
def mx_any {α:Type}{f:α->Nat}{K}:∀l:List α,decide (K<mx f l)=l.any λx=>decide (K<f x):=by
 intro l
 induction l with
 |nil=>simp[mx]
 |cons x l ih=>
  rw[vg,<- ih,vL,vS,decide_eq_true_eq,decide_eq_true_eq];simp only[decide_eq_true_eq];show K<max (f x) (mx f l)↔K<f x∨K<mx f l;rcases Nat.le_total (f x) (mx f l)with h|h
  .rw[Nat.max_eq_right h];omega
  .rw[Nat.max_eq_left h];omega
end Go.V
namespace Go.Proofs.YtijnokbblmbpkaaGreatDoor
open Go Go.V
noncomputable def dq:TypeInfo:=Tryz.t3
noncomputable def pq:Program:=⟨{Tryz.progTables with types:=#[dq,dq,Tryz.t2,Tryz.t3,Tryz.t4,Tryz.t5,dq,dq,dq,Tryz.t9,dq,dq,dq,dq,dq,dq,dq,dq,dq,dq,dq,dq,Tryz.t22,Tryz.t23,Tryz.t24,Tryz.t25,dq,dq,dq,dq,Tryz.t30,dq,dq,Tryz.t33,Tryz.t34,Tryz.t35,Tryz.t36,Tryz.t37,Tryz.t38,dq,dq,Tryz.t41,Tryz.t42,Tryz.t43,Tryz.t44,Tryz.t45,Tryz.t46,dq,dq,Tryz.t49,Tryz.t50,dq,dq,dq,dq,dq,dq,dq,dq,dq,Tryz.t60,Tryz.t61,dq,dq,dq,Tryz.t65,Tryz.t66,Tryz.t67,Tryz.t68,Tryz.t69,Tryz.t70,Tryz.t71,Tryz.t72,dq,dq,dq,dq,dq,dq,dq,Tryz.t80,dq,dq,Tryz.t83,Tryz.t84,dq,dq,dq,dq,dq,Tryz.t90,Tryz.t91,Tryz.t92,Tryz.t93,dq,Tryz.t95,Tryz.t96,Tryz.t97,dq,dq,Tryz.t100,Tryz.t101,Tryz.t102,dq,dq,dq,dq,dq,Tryz.t108,Tryz.t109,Tryz.t110,Tryz.t111,Tryz.t112,Tryz.t113,Tryz.t114,dq,dq,dq,dq,Tryz.t119,Tryz.t120,Tryz.t121,Tryz.t122,dq,Tryz.t124,dq,Tryz.t126,Tryz.t127,dq,dq,dq,dq,dq,dq,dq,dq,dq,dq,dq,dq,dq,dq,dq,dq,Tryz.t144,Tryz.t145,Tryz.t146,dq,dq,dq,dq,dq,Tryz.t152,dq,dq,dq,dq,dq,dq,dq,dq,dq,dq,dq,dq,dq,dq,dq,dq,dq,dq,dq,dq,dq,dq,dq,dq,dq,dq,Tryz.t179,Tryz.t180,Tryz.t181,Tryz.t182,Tryz.t183,dq,Tryz.t185,Tryz.t186,dq,dq,dq,dq,dq,dq,dq,dq,dq,Tryz.t196,Tryz.t197,dq,Tryz.t199,Tryz.t200,Tryz.t201,Tryz.t202,Tryz.t203,Tryz.t204,Tryz.t205,Tryz.t206,dq,Tryz.t208,Tryz.t209,Tryz.t210,dq,dq,dq,dq,dq,Tryz.t216,Tryz.t217,dq,Tryz.t219,Tryz.t220,dq,dq,dq,dq,dq,dq,dq,Tryz.t228,Tryz.t229,Tryz.t230,dq,dq,dq,dq,dq,dq,dq,dq,dq,dq,dq,dq,dq,dq,dq,dq,dq,dq,dq,dq,dq,dq,dq,dq,dq,dq,dq,dq,dq,dq,Tryz.t261,Tryz.t262,dq,dq,dq,dq,dq,dq,dq,dq,dq,dq,dq,dq,dq,dq,dq,dq,dq,Tryz.t280,dq,dq,dq,dq,dq,dq,dq,dq,dq,dq,dq,dq,dq,dq,dq,dq,dq,dq,dq,dq,dq,dq,dq,dq,dq,dq,dq,dq,dq,dq,dq,dq,dq,dq,dq,dq,dq,dq,dq,dq,dq,dq,dq,dq,dq,dq,dq,dq,dq,dq,dq,dq,dq,dq,dq,dq,dq,dq,dq,dq,dq,dq,dq,dq,dq,dq,dq,dq,dq,dq,Tryz.t351,dq,dq,dq,dq,dq,dq,dq,dq,dq,dq,dq,dq,dq,dq,dq,dq,dq,dq,dq,dq,dq,dq,dq,dq,dq,dq,dq,dq,dq,dq,dq,dq,dq,dq,dq,dq,dq,dq,dq,dq,dq,dq,dq,dq,dq,dq,dq,dq,dq,dq,Tryz.t402,Tryz.t403]},#[]⟩
noncomputable abbrev pg9:=Tryz.prog
abbrev Zo8:=List (Nat×List (List Nat))
abbrev Zo9(f:Nat)(l:Zo8)(F:aP):Prop:=aY Tryz.prog f l=some F
def Zx9{α:Type}{a b:α}(h:a=b:=by kernel_rfl):a=b:=h
noncomputable section
def F192:aP:=aZ (o:=gF pq Tryz.f192 [])
def low192:Zo9 192 [] F192:=Zx9
def F197:aP:=aZ (o:=gF pq Tryz.f197 [])
def low197:Zo9 197 [] F197:=Zx9
def F194:aP:=aZ (o:=gF pq Tryz.f194 [])
def low194:Zo9 194 [] F194:=Zx9
def F193:aP:=aZ (o:=gF pq Tryz.f193 [])
def low193:Zo9 193 [] F193:=Zx9
def F161:aP:=aZ (o:=gF pq Tryz.f161 [])
def low161:Zo9 161 [] F161:=Zx9
def F162:aP:=aZ (o:=gF pq Tryz.f162 [])
def low162:Zo9 162 [] F162:=Zx9
def F198:aP:=aZ (o:=gF pq Tryz.f198 [])
def low198:Zo9 198 [] F198:=Zx9
def F163:aP:=aZ (o:=gF pq Tryz.f163 [])
def low163:Zo9 163 [] F163:=Zx9
def F196:aP:=aZ (o:=gF pq Tryz.f196 [])
def low196:Zo9 196 [] F196:=Zx9
def F195:aP:=aZ (o:=gF pq Tryz.f195 [])
def low195:Zo9 195 [] F195:=Zx9
def F164:aP:=aZ (o:=gF pq Tryz.f164 [])
def low164:Zo9 164 [] F164:=Zx9
def F199:aP:=aZ (o:=gF pq Tryz.f199 [])
def low199:Zo9 199 [] F199:=Zx9
def F223:aP:=aZ (o:=gF pq Tryz.f223 [])
def low223:Zo9 223 [] F223:=Zx9
def F225:aP:=aZ (o:=gF pq Tryz.f225 [])
def low225:Zo9 225 [] F225:=Zx9
def F165:aP:=aZ (o:=gF pq Tryz.f165 [])
def low165:Zo9 165 [] F165:=Zx9
def F200:aP:=aZ (o:=gF pq Tryz.f200 [])
def low200:Zo9 200 [] F200:=Zx9
def F226:aP:=aZ (o:=gF pq Tryz.f226 [])
def low226:Zo9 226 [] F226:=Zx9
def F105:aP:=aZ (o:=gF pq Tryz.f105 [])
def low105:Zo9 105 [] F105:=Zx9
end
open Go Go.V Go.Shelf
shelf_lay Lays.n217 Nm 217 at Tryz as Tryz.sl217
shelf_lay Lays.n219 Nm 219 at Tryz as Tryz.sl219
def WQ(s c)(d:c < 256):aq pg9 222 [.string s,cv c] [] (λv dl=>v=vi (KX (kB s) c)/\dl=[]):=by
 refine aq.JL Zx9 (λw=>(Any.stringslite_IndexByte Tryz.sl217 s c w).mono ?_)
 rintro e w' ⟨rfl,rfl⟩
 refine⟨_,rfl,?_,rfl⟩;have g:((c:Int).toNat.toUInt8).toNat=c:=by
  rw[vW];exact Nat.mod_eq_of_lt d
 rw[ix_eq,g];rfl
def WS(s):aq pg9 246 [.string s,.string ⟨#[58]⟩] [] (λv dl=>v=vi (KX (kB s) 58)/\dl=[]):=by
 refine aq.JL Zx9 (λw=>(Any.stringslite_Index_one Tryz.sl219 s 58 w).mono ?_)
 rintro e w' ⟨rfl,rfl⟩
 exact⟨_,rfl,by rw[ix_eq];rfl,rfl⟩
def xF(c)(hc:c < 256):aq pg9 192 [cv c] [] (λv dl=>v=.bool (DS c)/\dl=[]):=by
 refine aq.intro low192 Zn9 ?_
 (repeat' (first|refine Z8 ?_|refine th Zr (λ_=>?_) (λ_=>?_)|refine tj Zr (λ_=>?_) (λ_=>?_)|refine VC.sW Zr (λ_=>?_) (λ_=>?_)|refine VC.cond Zr (λ_=>?_) (λ_=>?_)))
 all_goals refine⟨.inr rfl,_,_,.tmp Zr .nil,ZI,?_,rfl⟩
 all_goals (simp only[bU,DS,Value.bool.injEq,decide_eq_true_eq,decide_eq_false_iff_not]at*)
 all_goals (rw[vL];simp only[vS,vG,vP,decide_eq_true_eq,decide_eq_false_iff_not,true_iff,iff_true,reduceCtorEq,false_iff,iff_false];omega)
def qP(c)(hc:c < 256):aq pg9 197 [cv c] [] (λv dl=>v=.bool (wV c)/\dl=[]):=by
 refine aq.intro low197 Zn9 ?_
 (repeat' (first|refine Z8 ?_|refine th Zr (λ_=>?_) (λ_=>?_)|refine tj Zr (λ_=>?_) (λ_=>?_)|refine VC.sW Zr (λ_=>?_) (λ_=>?_)|refine VC.cond Zr (λ_=>?_) (λ_=>?_)))
 all_goals refine⟨.inr rfl,_,_,.tmp Zr .nil,ZI,?_,rfl⟩
 all_goals (simp only[bU,wV,Value.bool.injEq,decide_eq_true_eq,decide_eq_false_iff_not]at*)
 all_goals (rw[vL];simp only[vS,vG,vP,decide_eq_true_eq,decide_eq_false_iff_not,true_iff,iff_true,reduceCtorEq,false_iff,iff_false];omega)
def Mq(c)(d:c < 256):aq pg9 194 [cv c] [] (λv dl=>v=.bool (pK c)/\dl=[]):=by
 refine aq.intro low194 Zn9 ?_;refine af ?_;refine kL (xF c d) Zr ?_;cases hl:DS c with
 |true=>
  exact zCV
 |false=>
  refine af ?_;refine kL (qP c d) Zr ?_;exact zCV
def xh(c)(g:c < 256):aq pg9 162 [cv c] [] (λv dl=>v=.bool (cU c)/\dl=[]):=by
 refine aq.intro low162 Zn9 ?_;have d:=ixN_bin g;have h:aq pg9 195 [.string ⟨#[43,45,42,47,92,126,60,62,61,64,37,38,63,44,33]⟩,cv c] [] (λv dl=>v=vi (KX [43,45,42,47,92,126,60,62,61,64,37,38,63,44,33] c)/\dl=[]):=by
  refine aq.intro low195 Zn9 ?_;refine af ?_;refine kL (WQ _ c g) Zr ?_;exact zCT
 generalize KX [43,45,42,47,92,126,60,62,61,64,37,38,63,44,33] c=z at h d;refine af ?_;refine kL h Zr ?_;refine af ?_;refine⟨.inr rfl,_,_,.tmp Zr .nil,ZI,?_,rfl⟩;simp only[bU,<- d]
def Sa(s:ByteArray)(hs:s.size<=140737488355328)(k:Nat):aq pg9 198 [.string s,vi k] [] (λv dl=>v=cv ((kB s).getD k 0)/\dl=[]):=by
 refine aq.intro low198 Zn9 ?_;exact zBL
def C7(s:ByteArray)(hs:s.size<=140737488355328)(a:Nat)(A:a<=s.size)(d:Value)(I:Nat->SH)(on:Nat->Bool)
 (h:∀k c,a<=k->(kB s)[k]? =some c->eo Tryz.prog d [cv c] (I k) (λv dl=>v=.bool (on k)/\dl=I (k+1))):
 aq Tryz.prog 193 [.string s,vi a,d] (I a) (λv dl=>∃e j:Nat,v=vi e/\a<=e/\e<=s.size/\(∀k,a<=k->k < e->on k=true)/\(e < s.size->on e=false)/\dl=I j):=by
 refine aq.intro low193 Zn9 ?_;refine af ?_;refine VC.loop (α:=Nat) (bg:=λk=>[(0,.string s),(1,vi k),(2,d)]) (Hf:=λk=>I k) (I:=λk=>a<=k/\k<=s.size/\∀i,a<=i->i<k->on i=true) (μ:=λk=>s.size-k) a ⟨Qs _,A,λi _ _=>by omega⟩ ZU (ap.refl _) ?_
 rintro k ⟨g,m,i3⟩
 refine af ?_;by_cases hk:k<s.size
 .rw[Zt Zo];obtain⟨c,B,D⟩:=wD hk;refine af ?_;refine wL Zr Zr (j:=k) rfl B ?_;refine af ?_;refine eO Zr (h k _ g D) Zr (R:=[]) (by simp[V.fq]) ?_
  rintro v dl ⟨rfl,rfl⟩
  rw[vm];cases ho:on k with
  |true=>
   refine af ?_;refine⟨k+1,⟨Zo,Zo,λi q g2=>?_⟩,Zo,ZU,ap.refl _⟩;by_cases e:i=k
   .subst e;exact ho
   .exact i3 i q Zo
  |false=>
   refine af ?_;exact kG (dl:=I (k+1)) (.inr rfl) zT1 ⟨k,k+1,rfl,g,m,i3,λ_=>ho,rfl⟩ (ap.refl _)
 .rw[Zf Zo];refine af ?_;exact kG (dl:=I k) (.inr rfl) zT1 ⟨k,k,rfl,g,m,i3,λC=>absurd C hk,rfl⟩ (ap.refl _)
def o6(s)(B:s.size<=140737488355328):aq pg9 161 [.string s] [] (λv dl=>v=.bool (yJ s)/\dl=[]):=by
 refine aq.intro low161 Zn9 ?_;have hlen:=kY s;unfold yJ ib;refine af ?_;by_cases h0:s=⟨#[]⟩
 .subst h0;exact zCT
 obtain⟨c,r,A,hr,D,lC⟩:=ep h0;rw[Zf h0,vQ];refine af ?_;by_cases h40:s.size<=40;rotate_left
 .exact zDK
 rw[Zt Zo];refine af ?_;refine wL Zr Zr (j:=0) rfl A ?_;refine af ?_;refine kL (xF _ D) Zr ?_;cases hl:DS c.toNat with
 |false=>
  refine af ?_;refine⟨.inr rfl,_,_,.tmp Zr .nil,ZI,?_,rfl⟩;simp[bU,hr,hl]
 |true=>
  refine af ?_;refine kH (C7 s B 0 Zo (.func (.func 194) #[] #[]) (λ_=>[]) (λk=>pK ((kB s).getD k 0)) (λk x _ g=>eo.cI ?_)) Zr ZP (λv dl C=>?_)
  .rw[Vh,g];exact Mq _ (zx s _ (Zv g))
  obtain⟨e,j,rfl,e1,e2,m,q,rfl⟩:=C;have aw:=Nv (l:=kB s) (p:=pK) (e:=e) Zo (λk d=>m k Zo d) (λd=>q Zo);have h2:(c.toNat::r).length<=40:=by rw[<- hr];omega
  simp only[QV];refine af ?_;refine⟨.inr rfl,_,_,.tmp Zr .nil,ZI,?_,rfl⟩;exact zCF
def MZ(g pf j:Nat)(s:ByteArray)(B:s.size<=140737488355328)(k c:Nat)(hk:k < s.size)(A:c < 256):
 aq pg9 196 [cv c,kE g,kE pf,kE j] [kA g 0 [vi k],kA pf 0 [vi 0],kA j 0 [.string s]] (λv dl=>v=.bool (cU c&&(decide (k=0)||decide (c≠45)||!wV ((kB s).getD (k+1) 0)))/\dl=[kA g 0 [vi ((k:Int)+1)],kA pf 0 [vi 0],kA j 0 [.string s]]):=by
 refine aq.intro low196 Zn9 ?_;have m:(kB s).getD (k+1) 0<256:=by
  rw[Vh];cases h:(kB s)[k+1]? with
  |none=>decide
  |some x=>exact zx s _ (Zv h)
 have q:=Sa s B (k+1);generalize (kB s).getD (k+1) 0=d at m q|-;refine af ?_;refine kL (xh c A) Zr ?_;cases hb:cU c with
 |false=>
  refine af ?_;refine kG (.inr rfl) zT1 ⟨by simp[bU],rfl⟩ ZI
 |true=>
  refine af ?_;by_cases h0:k=0
  .rw[Zt (show(k:Int)=0 by omega)];refine af ?_;refine kG (.inr rfl) zT1 ⟨by simp[bU,h0],rfl⟩ ZI
  rw[Zf (show ¬(k:Int)=0 by omega)];refine af ?_;by_cases SY:c=45;rotate_left
  .rw[A1 ((c:Int)=45)];exact zE2
  rw[A0 ((c:Int)=45)];refine af ?_;refine kL q Zr ?_;refine af ?_;refine kL (qP d m) Zr ?_;cases L5:wV d
  .exact zE2
  .exact zE2
def Fu(s)(I:s.size<=140737488355328)(c:UInt8)(r)(O:s[0]? =some c)(A:kB s=c.toNat::r)(N:c.toNat=124∨cU c.toNat=true):
 aq pg9 163 [.string s,vi 0] [] (λv dl=>v=vi (fp (kB s))/\dl=[]):=by
 refine aq.intro low163 Zn9 ?_;have g:=kY s;have S:0<s.size:=by rw[<- g,A];simp
 refine af ?_;refine kZ Zr (λD=>?_);simp only[Value.cells];refine af ?_;refine kZ Zr (λC=>?_);simp only[Value.cells];refine af ?_;refine wL Zr Zr (j:=0) rfl O ?_;refine af ?_;by_cases h0:c.toNat=124
 .rw[A0 ((c.toNat:Int)=124)];refine af ?_;refine kG (dl:=[]) (.inr rfl) zT1 ⟨by simp[bU,A,fp,h0],rfl⟩ ZI
 rw[A1 ((c.toNat:Int)=124)];have d:cU c.toNat=true:=by
  rcases N with h|h
  .exact absurd h h0
  .exact h
 refine af ?_;refine kJ (λpf=>?_);refine af ?_;have F:=C7 s I 0 Zo (.func (.func 196) #[] #[kE C,kE pf,kE D]) (λk=>[kA C 0 [vi k],kA pf 0 [vi 0],kA D 0 [.string s]])
  (λk=>cU ((kB s).getD k 0)&&(decide (k=0)||decide ((kB s).getD k 0≠45)||!wV ((kB s).getD (k+1) 0))) (λk x _ m=>eo.cI (by
    have q:k<s.size:=by rw[<- g];exact(Vt.1 m).1
    have:=MZ C pf D s I k x q (zx s _ (Zv m));rw[Vh (i:=k),m];exact this))
 simp only[show((0:Nat):Int)=0 from rfl]at F;refine kH F Zr ZP (λv dl Q=>?_);obtain⟨e,j,rfl,e1,e2,L,G,rfl⟩:=Q;simp only[aE];refine af ?_;refine kG (dl:=[]) (.inr rfl) zT1 ⟨?_,rfl⟩ ZI;have K:∀k,k<s.size->∃x,(kB s)[k]? =some x/\(kB s).getD k 0=x:=λk q=>by
  obtain⟨x,_,m⟩:=wD q;exact⟨_,m,by rw[Vh,m];rfl⟩
 have B:e≠0:=λe0=>by
  subst e0;have:=G S;rw[A]at this;simp[d]at this
 have E:∀k,1<=k->k<s.size->gG ((kB s).drop k)=(cU ((kB s).getD k 0)&&(decide (k=0)||decide ((kB s).getD k 0≠45)||!wV ((kB s).getD (k+1) 0))):=λk H q=>by
  obtain⟨x,m,J⟩:=K k q;rw[xS m,J,Zf (show ¬k=0 by omega),vO]
 have:=Yl (c:=c.toNat) (r:=r) (e:=e) h0 d (by rw[<- A];omega) (λk H M=>by rw[<- A,E k M Zo];exact L k Zo H) (λq=>by
  rw[<- A]at q|-;exact⟨Zo,by rw[E e Zo Zo];exact G Zo⟩)
 rcases this with h|h
 .rw[A,h];rfl
 .exact absurd h B
def RF(qs qt qn s)(hs:s.size<=140737488355328):
 Iter pg9 (.func (.func 223) #[] #[kE qs,kE qt,kE qn]) (λx=>[.string x]) [kA qs 0 [.string ⟨#[58]⟩],kA qt 0 [.string s],kA qn 0 [vi 1]] [] (λd=>d.map kB=jE (kB s)):=by
 intro y J SP H A L;refine eo.cI (first:=#[]) (cap:=#[kE qs,kE qt,kE qn]) ?_;show aq pg9 223 [y,kE qs,kE qt,kE qn] _ _;refine aq.intro low223 Zn9 ?_;simp only[aE];refine af ?_;refine VC.loop (α:=List ByteArray×ByteArray×List kC) (bg:=λ_=>[(0,y),(1,kE qs),(2,kE qt),(3,kE qn)]) (Hf:=λst=>[kA qs 0 [.string ⟨#[58]⟩],kA qt 0 [.string st.2.1],kA qn 0 [vi 1],st.2.2])
  (I:=λst=>st.1.map kB++jE (kB st.2.1)=jE (kB s)/\st.2.1.size<=s.size/\J st.1 st.2.2) (μ:=λst=>st.2.1.size) ([],s,A) ⟨rfl,Qs _,L⟩ ZU ZI ?_
 rintro⟨c,t,F⟩ ⟨q,M,i3⟩
 simp only at q M i3;dsimp only;have m:=kY t;have D:aq pg9 225 [.string t,.string ⟨#[58]⟩] [] (λv dl=>v=vi (KX (kB t) 58)/\dl=[]):=by
  refine aq.intro low225 Zn9 ?_;refine af ?_;refine kL (WS t) Zr ?_;exact zCT
 refine af ?_;refine kL D Zr ?_;rcases RE (kB t) 58 with⟨h1,h2⟩|⟨p,r,h1,h2,h3⟩
 .rw[h1];refine af ?_;have B:(c++[t]).map kB=jE (kB s):=by rw[<- q,xM h2];simp
  refine eO Zr (H c t F ⟨[],by simpa using B⟩ i3) Zr ZP (λv dl E=>?_);rcases E with⟨rfl,A',ZB,rfl⟩|⟨rfl,B',hB',rfl⟩
  .simp only[aE];refine af ?_;exact kG (dl:=[A']) (.inl rfl) .nil ⟨rfl,.inl ⟨c++[t],A',B,ZB,rfl⟩⟩ ZI
  .simp only[aE];refine af ?_;exact kG (dl:=[B']) (.inl rfl) .nil ⟨rfl,.inr ⟨c++[t],B',⟨[],by simpa using B⟩,hB',rfl⟩⟩ ZI
 .have eU:t.size=p.length+1+r.length:=by rw[<- m,h1];simp;omega
  have G:kB (t.extract 0 (p.length+1))=p++[58]:=by
   rw[jf,h1,show p++58::r=(p++[58])++r by simp,List.take_left' Zs];rfl
  have C:kB (t.extract (p.length+1) t.size)=r:=by
   rw[jf,Ql Zo,h1];simp[List.drop_append]
  have K:(t.extract (p.length+1) t.size).size=r.length:=by rw[<- kY,C]
  have j:=oF (p:=p) (r:=r) h2;rw[<- h1]at j;obtain⟨d,g⟩:=Sb (t.extract (p.length+1) t.size);rw[C]at g;have aR:OkC (λd=>d.map kB=jE (kB s)) (c++[t.extract 0 (p.length+1)]):=⟨d,by rw[<- q,j];simp[G,g]⟩;rw[h3];refine af ?_;rw[Zf (show ¬((p.length:Int)<0) by omega)];refine af ?_;refine eg (l:=0) (h:=p.length+1) Zr .Zy (.num Zr) Zo ?_;refine af ?_;refine eO Zr (H c _ F aR i3) Zr ZP (λv dl E=>?_);rcases E with⟨rfl,A',ZB,rfl⟩|⟨rfl,B',hB',rfl⟩
  .simp only[aE];refine af ?_;rw[show(((⟨#[58]⟩:ByteArray).size:Nat):Int)=1 from rfl,wrap64 (show -9223372036854775808<=(p.length:Int)+1/\(p.length:Int)+1<=9223372036854775807 by omega)];refine eg (l:=p.length+1) (h:=t.size) Zr (.num Zr) .Zy Zo ?_;refine af ?_;exact⟨(c++[t.extract 0 (p.length+1)],t.extract (p.length+1) t.size,A'),⟨by simp only[C];rw[<- q,j];simp[G],by simp only[K];omega,ZB⟩,by simp only[K];omega,ZU,ZI⟩
  .exact zF2
def Bl(s)(hs:s.size<=140737488355328):aq pg9 165 [.string s,.string ⟨#[58]⟩] [] (λv dl=>∃t,v=.tuple #[.string t,.bool (decide ((kB s).getLast? =some 58))]/\((kB s).getLast? =some 58->kB t=(kB s).dropLast)/\t.size<=s.size/\dl=[]):=by
 have d:=kY s;have m:∀(h:1<=s.size),s.extract (s.size-1) s.size=⟨#[58]⟩↔(kB s).getLast? =some 58:=λh=>by
  have g:kB (s.extract (s.size-1) s.size)=(kB s).drop (s.size-1):=by rw[jf,Ql Zo]
  rw[List.getLast?_eq_getElem?,d];constructor
  .intro e;rw[e]at g;have:(kB s).drop (s.size-1)=[58]:=g.symm;have h2:=congrArg (λl=>l[0]?) this;simpa using h2
  .intro e;apply jY;rw[g];obtain⟨q,hv⟩:=Vt.1 e;rw[vt q,hv,vw Zo];rfl
 have j:aq pg9 226 [.string s,.string ⟨#[58]⟩] [] (λv dl=>v=.bool (decide ((kB s).getLast? =some 58))/\dl=[]):=by
  refine aq.intro low226 Zn9 ?_;refine af ?_;rw[show(((⟨#[58]⟩:ByteArray).size:Nat):Int)=1 from rfl];by_cases h:1<=s.size
  .rw[Zt (show(s.size:Int)≥1 by omega)];refine af ?_;rw[show(((⟨#[58]⟩:ByteArray).size:Nat):Int)=1 from rfl,wrap64 (show -9223372036854775808<=(s.size:Int)-1/\(s.size:Int)-1<=9223372036854775807 by omega),show(s.size:Int)-1=((s.size-1:Nat):Int) by omega];refine eg (l:=s.size-1) (h:=s.size) Zr (.num Zr) .Zy Zo ?_;refine af ?_;refine⟨.inr rfl,_,_,.tmp Zr .nil,ZI,?_,rfl⟩;simp only[bU,m h]
  .exact zDP
 have hcut:aq pg9 200 [.string s,.string ⟨#[58]⟩] [] (λv dl=>∃t,v=.tuple #[.string t,.bool (decide ((kB s).getLast? =some 58))]/\((kB s).getLast? =some 58->kB t=(kB s).dropLast)/\t.size<=s.size/\dl=[]):=by
  refine aq.intro low200 Zn9 ?_;refine af ?_;refine kL j Zr ?_;by_cases h:(kB s).getLast? =some 58
  .have lC:1<=s.size:=by
    cases g:kB s with
    |nil=>rw[g]at h;cases h
    |cons a r=>rw[<- d,g];simp
   rw[Zt h];refine af ?_;rw[show(((⟨#[58]⟩:ByteArray).size:Nat):Int)=1 from rfl,wrap64 (show -9223372036854775808<=(s.size:Int)-1/\(s.size:Int)-1<=9223372036854775807 by omega),show(s.size:Int)-1=((s.size-1:Nat):Int) by omega];refine eg (l:=0) (h:=s.size-1) Zr .Zy (.num Zr) Zo ?_;refine af ?_;have g:kB (s.extract 0 (s.size-1))=(kB s).dropLast:=by rw[jf,vx,List.dropLast_eq_take,d]
   refine kG (dl:=[]) (.inr rfl) (.tmp Zr zT1) ⟨_,rfl,λ_=>g,?_,rfl⟩ ZI;rw[<- kY,g,<- d];simp
  .rw[Zf h];refine af ?_;refine kG (dl:=[]) (.inr rfl) (.tmp Zr zT1) ⟨_,rfl,λh2=>absurd h2 h,Qs _,rfl⟩ ZI
 refine aq.intro low165 Zn9 ?_;exact zCZ
def Ao(s):aq pg9 164 [.string s,.string ⟨#[58]⟩] [] (λv dl=>∃qs qt qn,v=.func (.func 223) #[] #[kE qs,kE qt,kE qn]/\dl=[kA qs 0 [.string ⟨#[58]⟩],kA qt 0 [.string s],kA qn 0 [vi 1]]):=by
 have h:aq pg9 199 [.string s,.string ⟨#[58]⟩,vi 1] [] (λv dl=>∃qs qt qn,v=.func (.func 223) #[] #[kE qs,kE qt,kE qn]/\dl=[kA qs 0 [.string ⟨#[58]⟩],kA qt 0 [.string s],kA qn 0 [vi 1]]):=by
  refine aq.intro low199 Zn9 ?_;refine af ?_;refine kZ Zr (λqt=>?_);simp only[Value.cells];refine af ?_;refine kZ Zr (λqs=>?_);simp only[Value.cells];refine af ?_;refine kZ Zr (λqn=>?_);simp only[Value.cells];refine af ?_;refine kG (.inr rfl) zT1 ⟨qs,qt,qn,rfl,rfl⟩ ZI
 refine aq.intro low164 Zn9 ?_;refine af ?_;rw[show(((⟨#[58]⟩:ByteArray).size:Nat):Int)=1 from rfl];refine kH h Zr ZP (λv dl d=>?_);obtain⟨qs,qt,qn,rfl,rfl⟩:=d;simp only[aE];refine af ?_;refine kG (.inr rfl) zT1 ⟨qs,qt,qn,rfl,rfl⟩ ZI
def sB(p:List Nat):Bool:=decide (p.getLast? =some 58)&&ib p.dropLast
def Cl:∀{c:List (List Nat)} {rest:List (List Nat)} {n:Nat},(∀p∈c,sB p=true)->zk (c++rest) n=zk rest (n+c.length):=by
 intro c
 induction c with
 |nil=>intro rest n _;simp
 |cons p c ih=>
  intro rest n h;have d:=h p Zs;simp only[sB,vG,decide_eq_true_eq]at d;have g:p≠[]:=λe=>by rw[e]at d;simp at d
  simp only[vq,zk,if_neg g,d.1,d.2,decide_true,Bool.and_self,if_true];rw[ih (λq j=>h q (by simp[j])),Q0,show n+1+c.length=n+(c.length+1) by omega]
def uz {p rest n}(d:p≠[])(h:sB p=false):zk (p::rest) n=-1:=by
 simp only[sB]at h;simp[zk,d,h]
def CX(l):(jE l).length<=l.length+1:=by
 induction l with
 |nil=>simp[jE]
 |cons c r ih=>
  simp only[jE];split
  .simp;omega
  .cases h:jE r with
   |nil=>simp
   |cons p ps=>rw[h]at ih;simp at ih|-;omega
def fU(s)(H:s.size<=140737488355328):aq pg9 105 [.string s] [] (λv dl=>v=vi (kW s)/\dl=[]):=by
 refine aq.intro low105 Zn9 ?_;have T:=kY s;refine af ?_;refine kJ (λB=>?_);refine af ?_;refine kL (o6 s H) Zr ?_;cases hn:yJ s with
 |true=>
  refine af ?_;have:kW s=0:=by unfold kW qF;rw[show ib (kB s)=true from hn];rfl
  rw[this];exact⟨.inr rfl,[vi 0],[],.cC (v:=vi 0) Zr Nt .nil,ap.nil,⟨rfl,rfl⟩⟩
 |false=>
  have W:ib (kB s)=false:=hn;refine af ?_;by_cases h0:s=⟨#[]⟩
  .subst h0;refine af ?_;exact zC0
  obtain⟨c,r,F,K,xA,lC⟩:=ep h0;rw[Zf h0];refine af ?_;refine wL Zr Zr (j:=0) rfl F ?_;refine af ?_;have eS:kW s=if(cU c.toNat||decide (c.toNat=124))=true then(if fp (kB s)=(kB s).length then 1 else -1)else zk (jE (kB s)) 0:=by
   unfold kW qF;rw[if_neg (by rw[W];simp)];simp only[K]
  refine kL (xh _ xA) Zr ?_;cases hb:cU c.toNat with
  |true=>
   refine af ?_;refine kL (Fu s H c r F K (.inr hb)) Zr ?_;rw[show(cU c.toNat||decide (c.toNat=124))=true by simp[hb],if_pos rfl]at eS;exact zBI
  |false=>
   refine af ?_;refine wL Zr Zr (j:=0) rfl F ?_;refine af ?_;by_cases P9:c.toNat=124
   .rw[A0 ((c.toNat:Int)=124)];refine af ?_;refine kL (Fu s H c r F K (.inl P9)) Zr ?_;rw[show(cU c.toNat||decide (c.toNat=124))=true by simp[P9],if_pos rfl]at eS;exact zBI
   rw[A1 ((c.toNat:Int)=124)];rw[if_neg (by simp[hb,P9])]at eS;refine af ?_;refine kJ (λq=>?_);refine af ?_;refine kH (Ao s) Zr ZP (λv dl L=>?_);obtain⟨qs,qt,qn,rfl,rfl⟩:=L;simp only[aE];refine af ?_;have n9:∀d:List ByteArray,OkC (λg:List ByteArray=>g.map kB=jE (kB s)) d->d.length<=s.size+1:=λd ⟨t,Z⟩=>by
    have I:=congrArg List.length Z;have S:=CX (kB s);simp at I;omega
   refine VC.iR (α:=ByteArray) (enc:=λx=>[.string x]) (λd A=>(∀x∈d,sB (kB x)=true)/\A=[kA q 0 [vi d.length],kA B 0 [vi 0]].flatten) ([kA q 0 [vi 0],kA B 0 [vi 0]].flatten) Zr (RF qs qt qn s H) (R:=[kA q 0 [vi 0],kA B 0 [vi 0]]) ZP (ap.perm Zs)
    ⟨λx hx=>(by cases hx),rfl⟩ (λ_=>rfl) ?_ ?_
   .rintro d x A O ⟨G,rfl⟩
    have X:=n9 _ O;simp only[Vz,QA]at X;obtain⟨rest,Q⟩:=O;have m:kW s=zk (kB x::rest.map kB) d.length:=by
     rw[eS,<- Q];have:=Cl (c:=d.map kB) (rest:=kB x::rest.map kB) (n:=0) (λp J=>by obtain⟨y,N,rfl⟩:=QO.1 J;exact G y N);simpa using this
    have Jl:x.size<=s.size:=by
     have I:kB x∈jE (kB s):=by rw[<- Q];simp
     have S:=(List.sublist_flatten_of_mem I).length_le;rw[xL,kY,kY]at S;omega
    simp only[A8];refine VC.imp (H':=[kA q 0 [vi d.length],kA B 0 [vi 0]]) (ap.perm Zs) ?_;apply VC.oJ;refine af ?_;refine⟨trivial,?_⟩;refine af ?_;by_cases hx0:x=⟨#[]⟩
    .rw[Zt hx0];have:kW s=d.length:=by
      rw[m,hx0];rfl
     refine af ?_;rw[this];exact⟨.inr rfl,[vi d.length],[],.cC (v:=vi d.length) Zr Nt .nil,ap.nil,⟨rfl,rfl⟩⟩
    rw[Zf hx0];have D:kB x≠[]:=λe=>hx0 (jY (by rw[e];rfl))
    refine af ?_;refine kH (Bl x Zo) Zr ZP (λv dl L=>?_);obtain⟨y,rfl,Y,ZX,rfl⟩:=L;simp only[QV];by_cases um:(kB x).getLast? =some 58
    .rw[Zt um];have E:=Y um;refine af ?_;refine kL (o6 y Zo) Zr ?_;cases hny:yJ y with
     |true=>
      have C:sB (kB x)=true:=by
       unfold sB;rw[Zt um,<- E];exact hny
      refine af ?_;refine⟨[kA q 0 [vi (d.length+1:Nat)],kA B 0 [vi 0]].flatten,⟨λz hz=>?_,Zs⟩,?_⟩
      .rcases QH.1 hz with h|h
       .exact G z h
       .rw[QU.1 h];exact C
      .refine ap.cut (M:=[kA q 0 [vi ((d.length:Int)+1)],kA B 0 [vi 0]]) ZI (ap.perm Zs)
     |false=>
      have C:sB (kB x)=false:=by
       unfold sB;rw[Zt um,<- E];exact hny
      have:kW s=-1:=by rw[m,uz D C]
      refine af ?_;rw[this];exact zC0
    .rw[Zf um];have C:sB (kB x)=false:=by
      unfold sB;rw[Zf um];rfl
     have:kW s=-1:=by rw[m,uz D C]
     refine af ?_;rw[this];exact zC0
   .rintro g A U ⟨G,rfl⟩
    have:kW s=g.length:=by
     rw[eS,<- U];have:=Cl (c:=g.map kB) (rest:=[]) (n:=0) (λp J=>by obtain⟨y,N,rfl⟩:=QO.1 J;exact G y N);simpa[zk]using this
    refine VC.imp (H':=[kA q 0 [vi g.length],kA B 0 [vi 0]]) (ap.perm Zs) ?_;refine af ?_;rw[this];exact⟨.inr rfl,[vi g.length],[],.cC (v:=vi g.length) Zr Nt .nil,ap.nil,⟨rfl,rfl⟩⟩
noncomputable section
def F104:aP:=aZ (o:=gF pq Tryz.f104 [])
def low104:Zo9 104 [] F104:=Zx9
def F168:aP:=aZ (o:=gF pq Tryz.f168 [])
def low168:Zo9 168 [] F168:=Zx9
def F167:aP:=aZ (o:=gF pq Tryz.f167 [])
def low167:Zo9 167 [] F167:=Zx9
def F201:aP:=aZ (o:=gF pq Tryz.f201 [])
def low201:Zo9 201 [] F201:=Zx9
def F166:aP:=aZ (o:=gF pq Tryz.f166 [])
def low166:Zo9 166 [] F166:=Zx9
def F106:aP:=aZ (o:=gF pq Tryz.f106 [])
def low106:Zo9 106 [] F106:=Zx9
def F202:aP:=aZ (o:=gF pq Tryz.f202 [])
def low202:Zo9 202 [] F202:=Zx9
def F205:aP:=aZ (o:=gF pq Tryz.f205 [])
def low205:Zo9 205 [] F205:=Zx9
def F250:aP:=aZ (o:=gF pq Tryz.f250 [])
def low250:Zo9 250 [] F250:=Zx9
def F230:aP:=aZ (o:=gF pq Tryz.f230 [])
def low230:Zo9 230 [] F230:=Zx9
def F228:aP:=aZ (o:=gF pq Tryz.f228 [])
def low228:Zo9 228 [] F228:=Zx9
def F229:aP:=aZ (o:=gF pq Tryz.f229 [])
def low229:Zo9 229 [] F229:=Zx9
def F206:aP:=aZ (o:=gF pq Tryz.f206 [])
def low206:Zo9 206 [] F206:=Zx9
def F170:aP:=aZ (o:=gF pq Tryz.f170 [])
def low170:Zo9 170 [] F170:=Zx9
abbrev o203:Zo8:=[(3,[.range 6,[0,2,3,1,4,5]])]
def F203:aP:=aZ (o:=gF pq Tryz.f203 o203)
def low203:Zo9 203 o203 F203:=Zx9
abbrev o204:Zo8:=[(8,[.range 8,[0,1,3,4,2,5,6,7]])]
def F204:aP:=aZ (o:=gF pq Tryz.f204 o204)
def low204:Zo9 204 o204 F204:=Zx9
def F107:aP:=aZ (o:=gF pq Tryz.f107 [])
def low107:Zo9 107 [] F107:=Zx9
def Ts:aP:=aZ (o:=gF pq Tryz.f169 [(21,[[0,1,2,3,4,5,6,7,8,9,10,11,12,13,14,15,16],[0,1,2,3,4,5,6,8,9,10,7,11,12,13,14,15,16],[0,1,2,3,4,5,6,8,9,10,11,12,7,13,14,15,16],[0,1,2,3,4,5,6,7,8,9,11,12,10,13,14,15,16],[0,1,2,3,4,5,6,8,9,11,12,7,10,13,14,15,16],[0,1,2,3,4,5,6,8,9,11,12,10,7,13,14,15,16]]),(34,[[0,1,2,3,4,5,6,7,8,9,10,11,12,13]])])
def n169:Ts.n=257:=rfl
def low169:aY pg9 169 [(21,[[0,1,2,3,4,5,6,7,8,9,10,11,12,13,14,15,16],[0,1,2,3,4,5,6,8,9,10,7,11,12,13,14,15,16],[0,1,2,3,4,5,6,8,9,10,11,12,7,13,14,15,16],[0,1,2,3,4,5,6,7,8,9,11,12,10,13,14,15,16],[0,1,2,3,4,5,6,8,9,11,12,7,10,13,14,15,16],[0,1,2,3,4,5,6,8,9,11,12,10,7,13,14,15,16]]),(34,[[0,1,2,3,4,5,6,7,8,9,10,11,12,13]])]=some Ts:=by kernel_rfl
def F102:DIR:=EV (X:=⟨20,[.cC 2],[(.oJ [qo 2 (.alloc 44 [.int .i64 0])] [0,2]),(.oJ [qo 4 (.build [.bool false,.bool false] []),qB 5 197 4,qm 3 5] [0,2,3])],⟨6,160,[(.tmp 2)]⟩,(qS [qm 7 0,qm 8 3,qo 9 (.sd (.tmp 7) [(.tmp 8)])] [2,3] (.seq (.block 0 (qS [qm 11 3,qn 12 11,qf 13 0 12,ql 14 13,qm 10 14] [2,3,10] (qC 10 (qS [⟨none,none,.store 1 (.tmp 2) (.const (.int .i64 151))⟩] [2] .ret) (qS [qm 16 3,qn 17 16,qf 18 1 17,ql 19 18,qm 15 19] [2,15] (qC 15 (qS [⟨none,none,.store 1 (.tmp 2) (.const (.int .i64 152))⟩] [2] .ret) .skip))))) (qS [⟨none,none,.store 1 (.tmp 2) (.const (.int .i64 0))⟩] [2] .ret)))⟩)
def low102:Og pg9 (assoc [(0,[0,2]),(1,[0,2,3]),(2,[0,2,3]),(3,[2,3]),(4,[2,3,10]),(5,[2]),(6,[2,15]),(7,[2]),(8,[2])]) (assoc []) 102=some F102:=by kernel_rfl
def F47:aP:=aZ (o:=gF pq Tryz.f47 [])
def low47:Zo9 47 [] F47:=Zx9
abbrev o103:Zo8:=[(0,[.range 18,[0,1,3,4,2,5,6,7,8,9,10,11,12,13,14,15,16,17]])]
def F103:aP:=aZ (o:=gF pq Tryz.f103 o103)
def low103:Zo9 103 o103 F103:=Zx9
end
def zY(k:Nat)(s:ByteArray):Bool:=decide (k=2)&&decide (kB s=[115,117,112,101,114])
def fC(k:Nat)(s:ByteArray):Nat:=if k=3 then 1 else if k=5 then 2 else if k=4 then yh s else 6
def Dg(k s d c3 g j m A B c9 C):aq pg9 205 [.agg #[cv k,.string s,d,c3,g,j,m,A,B,c9,C]] [] (λv dl=>v=.bool (zY k s)/\dl=[]):=by
 refine aq.intro low205 Zn9 ?_;exact zBB
def tQ(s)(A:s.size<=140737488355328):aq pg9 250 [.string s] [] (λv dl=>v=vi (yh s)/\dl=[]):=by
 refine aq.intro low250 Zn9 ?_;have d:=kY s;refine af ?_;refine kL (fU s A) Zr ?_;have hb:yh s=if kW s=0 then 5 else if kW s=1/\(kB s).getLast?≠some 58 then 4 else 3:=rfl;have m:kW s=1->0<s.size:=λh=>by
  rcases Qq s.size with h2|h2
  .have:kB s=[]:=Q4.1 Zo;unfold kW at h;rw[this]at h;exact absurd h Zd
  .exact h2
 obtain⟨z,B⟩:∃z,kW s=z:=⟨_,rfl⟩;rw[B]at hb m|-;refine af ?_;by_cases h0:z=0
 .rw[Zt h0];rw[if_pos h0]at hb;exact zBG
 rw[Zf h0];rw[if_neg h0]at hb;refine af ?_;by_cases h1:z=1;rotate_left
 .rw[Zf h1];rw[if_neg (λh=>h1 h.1)]at hb;exact zBG
 rw[Zt h1];have lC:=m h1;obtain⟨c,q,C⟩:=wD (s:=s) (i:=s.size-1) Zo;have g:(kB s).getLast? =some c.toNat:=by rw[List.getLast?_eq_getElem?,d];exact C
 refine af ?_;refine wL Zr Zr (j:=s.size-1) Zo q ?_;refine af ?_;by_cases um:c.toNat=58
 .rw[A0 ((c.toNat:Int)=58)];rw[if_neg (λh=>h.2 (by rw[g,um]))]at hb;exact zBG
 .rw[A1 ((c.toNat:Int)=58)];rw[if_pos ⟨h1,by rw[g];simpa using um⟩]at hb;exact zBG
def Mx(k s)(C:s.size<=140737488355328)(d c3 g j m A B c9 D):aq pg9 230 [.agg #[cv k,.string s,d,c3,g,j,m,A,B,c9,D]] [] (λv dl=>v=vi (fC k s)/\dl=[]):=by
 refine aq.intro low230 Zn9 ?_;refine af ?_;refine kZ Zr (λq=>?_);simp only[Value.cells];refine af ?_;by_cases h3:k=3
 .rw[A0 ((k:Int)=3)];refine af ?_;refine kG (dl:=[]) (.inr rfl) zT1 ⟨by simp[bU,fC,h3],rfl⟩ ZI
 rw[A1 ((k:Int)=3)];refine af ?_;by_cases h5:k=5
 .rw[A0 ((k:Int)=5)];refine af ?_;refine kG (dl:=[]) (.inr rfl) zT1 ⟨by simp[bU,fC,h5],rfl⟩ ZI
 rw[A1 ((k:Int)=5)];refine af ?_;by_cases h4:k=4
 .rw[A0 ((k:Int)=4)];refine af ?_;refine kL (tQ s C) Zr ?_;refine af ?_;refine kG (dl:=[]) (.inr rfl) zT1 ⟨by simp[bU,fC,h4],rfl⟩ ZI
 exact zE6
def iS(s)(d:s.size<=140737488355328):aq pg9 228 [.string s] [] (λv dl=>v=vi (gD s)/\dl=[]):=by
 refine aq.intro low228 Zn9 ?_;refine af ?_;refine kL (tQ s d) Zr ?_;refine af ?_;refine kG (dl:=[]) (.inr rfl) zT1 ⟨?_,rfl⟩ ZI;simp only[bU,gD,Value.int.injEq,true_and];split<;>omega
def dV(s)(d:s.size<=140737488355328):aq pg9 229 [.string s] [] (λv dl=>v=vi (nD s)/\dl=[]):=by
 refine aq.intro low229 Zn9 ?_;refine af ?_;refine kL (tQ s d) Zr ?_;refine af ?_;by_cases h:yh s=4
 .rw[A0 (((yh s:Nat):Int)=4)];exact zFO
 .rw[A1 (((yh s:Nat):Int)=4)];exact zFO
noncomputable section
def F227:aP:=aZ (o:=gF pq Tryz.f227 [])
def low227:Zo9 227 [] F227:=Zx9
def F247:aP:=aZ (o:=gF pq Tryz.f247 [])
def low247:Zo9 247 [] F247:=Zx9
def F264:aP:=aZ (o:=gF pq Tryz.f264 [])
def low264:Zo9 264 [] F264:=Zx9
def F281:aP:=aZ (o:=gF pq Tryz.f281 [])
def low281:Zo9 281 [] F281:=Zx9
def F248:aP:=aZ (o:=gF pq Tryz.f248 [])
def low248:Zo9 248 [] F248:=Zx9
def F265:aP:=aZ (o:=gF pq Tryz.f265 [])
def low265:Zo9 265 [] F265:=Zx9
def F282:aP:=aZ (o:=gF pq Tryz.f282 [])
def low282:Zo9 282 [] F282:=Zx9
def F249:aP:=aZ (o:=gF pq Tryz.f249 [])
def low249:Zo9 249 [] F249:=Zx9
end
shelf_lay LaysC.n174 Nm 174 at Tryz as Tryz.sl174
def nM(A:List kC):Prop:=∃ev,kC.cell (Tryz.sl174_ren.g 16) 0 ev∈A/\(ev=.nilIface∨∃te pe,ev=.iface te pe)
def R7:∀(l:List UInt8) (d k:Nat),(∀c∈l,wV c.toNat=true)->d<10 ^ k->k+l.length<=19->Lib.parseUintM (2 ^ 64-1) d l=.ok ((l.map UInt8.toNat).foldl (λn c=>n*10+(c-48)) d):=by
 intro l
 induction l with
 |nil=>intro d k _ _ _;rfl
 |cons c r ih=>
  intro d k j ha s;have g:=j c Zs;simp only[wV,vG,decide_eq_true_eq]at g;simp only[Q0]at s;have hp:10 ^ k<=10 ^ 18:=Nat.pow_le_pow_right Zo Zo;have m:(10:Nat) ^ 18=1000000000000000000:=by decide
  have q:(2:Nat) ^ 64-1=18446744073709551615:=by decide
  have hs:(10:Nat) ^ (k+1)=10 ^ k*10:=Nat.pow_succ ..;simp only[Lib.parseUintM,if_pos g,if_neg (show ¬1844674407370955162<=d by omega),if_neg (show ¬(2 ^ 64-1<d*10+(c.toNat-48)) by omega),QE,Vg];exact ih _ (k+1) (λx A=>j x (by simp[A])) Zo Zo
def numL_lt:∀(l:List Nat) (d k:Nat),(∀c∈l,wV c=true)->d<10 ^ k->l.foldl (λn c=>n*10+(c-48)) d<10 ^ (k+l.length):=by
 intro l
 induction l with
 |nil=>intro d k _ h;exact h
 |cons c r ih=>
  intro d k g ha;have j:=g c Zs;simp only[wV,vG,decide_eq_true_eq]at j;have hs:(10:Nat) ^ (k+1)=10 ^ k*10:=Nat.pow_succ ..;simp only[Vg,Q0];rw[show k+(r.length+1)=(k+1)+r.length by omega];exact ih _ (k+1) (λx m=>g x (by simp[m])) Zo
def numL_ge:∀(l:List Nat) (d k:Nat),10 ^ k<=d->10 ^ (k+l.length)<=l.foldl (λn c=>n*10+(c-48)) d:=by
 intro l
 induction l with
 |nil=>intro d k h;exact h
 |cons c r ih=>
  intro d k ha;have hs:(10:Nat) ^ (k+1)=10 ^ k*10:=Nat.pow_succ ..;simp only[Vg,Q0];rw[show k+(r.length+1)=(k+1)+r.length by omega];exact ih _ (k+1) Zo
def iQ(A)(K:nM A)(s)(J:kB s≠[])(L:(kB s).all wV=true)(hl:s.size<=19):
 aq pg9 266 [.string s,vi 10,vi 64] [A] (λv dl=>((zg (kB s)<=9223372036854775807/\v=.tuple #[vi (zg (kB s)),.nilIface])∨(9223372036854775807<zg (kB s)/\∃z t p,v=.tuple #[vi z,.iface t p]/\-9223372036854775808<=z/\z<=9223372036854775807))/\dl=[A]):=by
 have D:∀c∈s.data.toList,wV c.toNat=true:=λc B=>vf.1 L _ (QO.2 ⟨c,B,rfl⟩)
 have E:s.data.toList.length=s.size:=by simp
 have M:=R7 s.data.toList 0 0 D Zd Zo;have j:Lib.parseUintM (2 ^ 64-1) 0 s.data.toList=.ok (zg (kB s)):=M;have H:s.data.toList≠[]:=λe=>J (by simp[kB,e])
 have m:Lib.parseIntB 64 s.data.toList=if 9223372036854775808<=zg (kB s)then .range else .ok ((zg (kB s):Nat):Int):=by
  unfold Lib.parseIntB;cases d:s.data.toList with
  |nil=>exact absurd d H
  |cons c r=>
   have B:=D c (by rw[d];simp);simp only[wV,vG,decide_eq_true_eq]at B;rw[d]at j;simp only[if_neg (show ¬(c.toNat=43∨c.toNat=45) by omega),Lib.parseUintB,if_neg (show ¬(c::r=[]) by simp),j];have C:¬c.toNat=45:=by omega
   by_cases cY:9223372036854775808<=zg (kB s)
   .simp[C,cY]
   .simp[C,cY]
 obtain⟨ev,G,g⟩:=K;by_cases cY:9223372036854775808<=zg (kB s)
 .rw[if_pos cY]at m;refine aq.E6 Zx9 (λw F d=>?_);have I:=(d.cell (Zw _ G)).1;refine(Any.strconv_ParseInt_10_at64_range Tryz.sl174 s Zo m ev w I g).mono ?_
  rintro e w' ⟨N,rfl,_,_,q⟩
  refine⟨_,rfl,.inr ⟨Zo,_,_,_,rfl,?_⟩,q⟩;unfold Lib.intSat;split<;>decide
 .rw[if_neg cY]at m;refine aq.E6 Zx9 (λw F d=>?_);refine(Any.strconv_ParseInt_10_at64_ok Tryz.sl174 s Zo _ m w).mono ?_
  rintro e w' ⟨rfl,q⟩
  refine⟨_,rfl,.inl ⟨Zo,rfl⟩,?_⟩;rcases q with rfl|⟨t,rfl⟩
  .exact .refl _ _
  .exact Lib.bytesWorld_below _ _ _
def Bj(s)(hs:s.size<=140737488355328):aq pg9 247 [.string s,.string ⟨#[45]⟩] [] (λv dl=>∃t,v=.tuple #[.string t,.bool (decide ((kB s).head? =some 45))]/\kB t=(if(kB s).head? =some 45 then(kB s).tail else kB s)/\t.size<=s.size/\dl=[]):=by
 have d:=kY s;have j:∀(h:1<=s.size),s.extract 0 1=⟨#[45]⟩↔(kB s).head? =some 45:=λh=>by
  have g:kB (s.extract 0 1)=(kB s).take 1:=by rw[jf,vx]
  cases hx:kB s with
  |nil=>rw[hx]at d;simp at d;omega
  |cons a r=>
   rw[hx]at g;constructor
   .intro e;rw[e]at g;have:[45]=[a]:=g;simp at this;simp[<- this]
   .intro e;simp at e;apply jY;rw[g,e];rfl
 have m:aq pg9 281 [.string s,.string ⟨#[45]⟩] [] (λv dl=>v=.bool (decide ((kB s).head? =some 45))/\dl=[]):=by
  refine aq.intro low281 Zn9 ?_;refine af ?_;rw[show(((⟨#[45]⟩:ByteArray).size:Nat):Int)=1 from rfl];by_cases h:1<=s.size
  .rw[Zt (show(s.size:Int)≥1 by omega)];refine af ?_;rw[show(((⟨#[45]⟩:ByteArray).size:Nat):Int)=1 from rfl];refine eg (l:=0) (h:=1) Zr .Zy (.num Zr) Zo ?_;refine af ?_;refine⟨.inr rfl,_,_,.tmp Zr .nil,ZI,?_,rfl⟩;simp only[bU,j h]
  .exact zDP
 have hcut:aq pg9 264 [.string s,.string ⟨#[45]⟩] [] (λv dl=>∃t,v=.tuple #[.string t,.bool (decide ((kB s).head? =some 45))]/\kB t=(if(kB s).head? =some 45 then(kB s).tail else kB s)/\t.size<=s.size/\dl=[]):=by
  refine aq.intro low264 Zn9 ?_;refine af ?_;refine kL m Zr ?_;by_cases h:(kB s).head? =some 45
  .have lC:1<=s.size:=by
    cases g:kB s with
    |nil=>rw[g]at h;cases h
    |cons a r=>rw[<- d,g];simp
   rw[Zt h];refine af ?_;rw[show(((⟨#[45]⟩:ByteArray).size:Nat):Int)=1 from rfl];refine eg (l:=1) (h:=s.size) Zr (.num Zr) .Zy Zo ?_;refine af ?_;have g:kB (s.extract 1 s.size)=(kB s).tail:=by rw[jf,Ql Zo,List.drop_one]
   refine kG (dl:=[]) (.inr rfl) (.tmp Zr zT1) ⟨_,rfl,by rw[if_pos h,g],?_,rfl⟩ ZI;rw[<- kY,g,<- d];simp
  .rw[Zf h];refine af ?_;refine kG (dl:=[]) (.inr rfl) (.tmp Zr zT1) ⟨_,rfl,by rw[if_neg h],Qs _,rfl⟩ ZI
 refine aq.intro low247 Zn9 ?_;exact zCZ
def Ee(s)(hs:s.size<=140737488355328):aq pg9 282 [.string s,.int .u8 48] [] (λv dl=>∃t,v=.string t/\kB t=(kB s).dropWhile (λc=>decide (c=48))/\dl=[]):=by
 refine aq.intro low282 Zn9 ?_;refine af ?_;refine VC.loop (α:=ByteArray) (bg:=λt=>[(0,.string t),(1,.int .u8 48)]) (Hf:=λ_=>[]) (I:=λt=>t.size<=s.size/\(kB t).dropWhile (λc=>decide (c=48))=(kB s).dropWhile (λc=>decide (c=48))) (μ:=λt=>t.size) s ⟨Qs _,rfl⟩ ZU ZI ?_
 rintro t ⟨i1,m⟩
 have d:=kY t;refine af ?_;by_cases h0:t=⟨#[]⟩
 .subst h0;refine af ?_;refine kG (dl:=[]) (.inr rfl) zT1 ⟨_,rfl,by rw[<- m];rfl,rfl⟩ ZI
 obtain⟨c,r,A,g,xA,lC⟩:=ep h0;rw[Zt (show(t.size:Int)>0 by omega)];refine af ?_;refine wL Zr Zr (j:=0) rfl A ?_;refine af ?_;by_cases h48:c.toNat=48
 .rw[A0 ((c.toNat:Int)=48)];refine af ?_;refine eg (l:=1) (h:=t.size) Zr (.num Zr) .Zy Zo ?_;refine af ?_;have q:kB (t.extract 1 t.size)=r:=by rw[jf,Ql Zo,List.drop_one,g];rfl
  have hz:(t.extract 1 t.size).size+1=t.size:=by rw[<- kY,q,<- d,g];rfl
  refine⟨t.extract 1 t.size,⟨Zo,?_⟩,Zo,ZU,ZI⟩;rw[q,<- m,g,List.dropWhile_cons_of_pos (by simp[h48])]
 .rw[A1 ((c.toNat:Int)=48)];refine af ?_;refine kG (dl:=[]) (.inr rfl) zT1 ⟨_,rfl,?_,rfl⟩ ZI;rw[<- m,g,List.dropWhile_cons_of_neg (by simp[h48])]
def pg(l):wO l=if l.dropWhile (λc=>decide (c=48))=[]/\l≠[]then [48]else l.dropWhile (λc=>decide (c=48)):=by
 induction l with
 |nil=>rfl
 |cons a l ih=>
  by_cases ha:a=48
  .subst ha;cases l with
   |nil=>rfl
   |cons b r=>
    rw[wO,ih,show List.dropWhile (λc=>decide (c=48)) (48::b::r)=List.dropWhile (λc=>decide (c=48)) (b::r)from List.dropWhile_cons_of_pos Zs];simp
  .rw[List.dropWhile_cons_of_neg (by simp[ha])];have:wO (a::l)=a::l:=by
    cases l with
    |nil=>simp[wO]
    |cons b r=>simp[wO,ha]
   simp[this]
def MO(s)(B:s.size<=140737488355328):aq pg9 248 [.string s] [] (λv dl=>∃t,v=.string t/\kB t=wO (kB s)/\dl=[]):=by
 have d:aq pg9 265 [.string s,.string ⟨#[48]⟩] [] (λv dl=>∃t,v=.string t/\kB t=(kB s).dropWhile (λc=>decide (c=48))/\dl=[]):=by
  refine aq.intro low265 Zn9 ?_;refine af ?_;by_cases h0:s=⟨#[]⟩
  .subst h0;refine af ?_;refine kG (dl:=[]) (.inr rfl) zT1 ⟨_,rfl,rfl,rfl⟩ ZI
  rw[Zf h0];refine af ?_;refine kH (Ee s B) Zr ZP (λv dl q=>?_);obtain⟨t,rfl,j,rfl⟩:=q;simp only[QV];refine af ?_;refine kG (dl:=[]) (.inr rfl) zT1 ⟨_,rfl,j,rfl⟩ ZI
 refine aq.intro low248 Zn9 ?_;refine af ?_;refine kH d Zr ZP (λv dl q=>?_);obtain⟨t,rfl,j,rfl⟩:=q;simp only[QV];refine af ?_;have m:=pg (kB s);rw[<- j]at m;by_cases ht:t=⟨#[]⟩
 .rw[Zt ht];have g:kB t=[]:=by rw[ht];rfl
  refine af ?_;by_cases h0:s=⟨#[]⟩
  .subst h0;refine af ?_;refine kG (dl:=[]) (.inr rfl) zT1 ⟨_,rfl,by rw[g];rfl,rfl⟩ ZI
  .rw[Zf h0,vQ];have A:kB s≠[]:=λe=>h0 (jY (by rw[e];rfl))
   refine af ?_;refine kG (dl:=[]) (.inr rfl) zT1 ⟨_,rfl,by rw[m,if_pos ⟨g,A⟩];rfl,rfl⟩ ZI
 .rw[Zf ht];have g:kB t≠[]:=λe=>ht (jY (by rw[e];rfl))
  refine af ?_;refine kG (dl:=[]) (.inr rfl) zT1 ⟨_,rfl,by rw[m,if_neg (λh=>g h.1)],rfl⟩ ZI
def zC(m:Bool)(l:List Nat):Prop:=l.length<=19/\zg l<=(if m=true then 1152921504606846976 else 1152921504606846975)
def nN(m:Bool)(t:ByteArray)(v:Value):Prop:=
 (zC m (kB t)/\v=.agg #[cv 4,vi (if m=true then -(zg (kB t):Int)else(zg (kB t):Int)),uv 0,.string ⟨#[]⟩,Nz])∨
 (¬zC m (kB t)/\∃u,v=.agg #[cv 5,vi 0,uv 0,.string u,Nz]/\kB u=if m=true then 45::kB t else kB t)
def Nj(A)(C:nM A)(t)(B:kB t≠[])(D:(kB t).all wV=true)(hl:t.size<=255)(m):aq pg9 249 [.string t,.bool m] [A] (λv dl=>nN m t v/\dl=[A]):=by
 refine aq.intro low249 Zn9 ?_;have s:=kY t;have hcat:yO .add (.string ⟨#[45]⟩) (.string t)=some (.string (⟨#[45]⟩++t)):=if_pos (by show 1+t.size<=9223372036854775807;omega);refine af ?_;refine kJ (λb=>?_);refine af ?_;by_cases h19:t.size<=19;rotate_left
 .rw[Zf (show ¬(t.size:Int)<=19 by omega)];have DK:¬zC m (kB t):=λg=>by have:=g.1;omega
  cases m with
  |true=>
   exact zBN
  |false=>
   exact zCC
 rw[Zt (show(t.size:Int)<=19 by omega)];refine af ?_;refine kH (iQ A C t B D h19) Zr ZP (λv dl E=>?_);rcases E with⟨⟨hn,rfl⟩|⟨hn,z,ty,pp,rfl,hz⟩,rfl⟩
 .simp only[aE];obtain⟨N,j⟩:∃N,zg (kB t)=N:=⟨_,rfl⟩;rw[j]at hn|-;have d:∀m,zC m (kB t)↔N<=(if m=true then 1152921504606846976 else 1152921504606846975):=λm=>by
   unfold zC;rw[j];exact⟨λh=>h.2,λh=>⟨Zo,h⟩⟩
  cases m with
  |true=>
   refine af ?_;rw[show IntKind.i64.wrap (0-(N:Int))=-(N:Int) by rw[Int.zero_sub];exact wrap64 ⟨Zo,Zo⟩];by_cases g:N<=1152921504606846976
   .have q:zC true (kB t):=(d true).2 g;rw[Zt (show(-1152921504606846976:Int)<=-(N:Int) by omega)];refine af ?_;rw[Zt (show -(N:Int)<=1152921504606846975 by omega)];refine af ?_;refine⟨.inr rfl,_,_,.az (us:=[cv 4,vi (-(N:Int)),uv 0,.string ⟨#[]⟩,Nz]) Zr Zr Kw .nil,ZI,.inl ⟨q,by rw[j];rfl⟩,rfl⟩
   .have DK:¬zC true (kB t):=λh=>g ((d true).1 h)
    rw[Zf (show ¬(-1152921504606846976:Int)<=-(N:Int) by omega)];exact zBN
  |false=>
   refine af ?_;by_cases g:N<=1152921504606846975
   .have q:zC false (kB t):=(d false).2 g;rw[Zt (show(N:Int)<=1152921504606846975 by omega)];refine af ?_;refine⟨.inr rfl,_,_,.az (us:=[cv 4,vi (N:Int),uv 0,.string ⟨#[]⟩,Nz]) Zr Zr Kw .nil,ZI,.inl ⟨q,by rw[j];rfl⟩,rfl⟩
   .have DK:¬zC false (kB t):=λh=>g ((d false).1 h)
    rw[Zf (show ¬(N:Int)<=1152921504606846975 by omega)];exact zCC
 .simp only[aE];have DK:¬zC m (kB t):=λg=>by have:=g.2;split at this<;>omega
  cases m with
  |true=>
   exact zBN
  |false=>
   exact zCC
def zL(l:List Nat):List Nat:=if l.head? =some 45 then l.tail else l
def zh(l:List Nat):Bool:=decide (l.head? =some 45)
def yy(l:List Nat):Bool:=decide (zL l≠[])&&decide ((wO (zL l)).length<=255)&&(zL l).all wV
def Ik(s:ByteArray)(v:Value):Prop:=
 (yy (kB s)=false/\v=.tuple #[.agg #[cv 0,vi 0,uv 0,.string ⟨#[]⟩,Nz],vi 144])∨
 (yy (kB s)=true/\∃t u,kB t=wO (zL (kB s))/\nN (zh (kB s)) t u/\v=.tuple #[u,vi 0])
def CZ {l}(h:l.all wV=true):(wO l).all wV=true:=by
 rw[pg];split
 .rfl
 .rw[vf]at h|-;intro x d;exact h x ((List.dropWhile_sublist _).subset d)
def Fa {l}(h:l≠[]):wO l≠[]:=by
 rw[pg];split
 .simp
 .rename_i d;intro e;exact d ⟨e,h⟩
def G2(A)(O:nM A)(s)(W:s.size<=140737488355328):aq pg9 227 [.string s] [A] (λv dl=>Ik s v/\dl=[A]):=by
 refine aq.intro low227 Zn9 ?_;refine af ?_;refine kJ (λb=>?_);refine af ?_;refine kH (Bj s W) Zr ZP (λv dl q=>?_);obtain⟨d,rfl,Q,S,rfl⟩:=q;simp only[QV];have g:kB d=zL (kB s):=Q;have U:decide ((kB s).head? =some 45)=zh (kB s):=rfl;rw[U];obtain⟨m,H⟩:∃m,zh (kB s)=m:=⟨_,rfl⟩;rw[H];refine af ?_;refine kH (MO d Zo) Zr ZP (λv dl q=>?_);obtain⟨t,rfl,E,rfl⟩:=q;simp only[QV];have K:=kY t;have T:=kY d;have NT:yy (kB s)=false->Ik s (.tuple #[.agg #[cv 0,vi 0,uv 0,.string ⟨#[]⟩,Nz],vi 144]):=λh=>.inl ⟨h,rfl⟩
 have D:yy (kB s)=(decide (kB d≠[])&&decide (t.size<=255)&&(kB d).all wV):=by
  unfold yy;rw[<- g,<- E,K]
 refine af ?_;by_cases h0:d=⟨#[]⟩
 .rw[Zt h0];have hb:yy (kB s)=false:=by rw[D,h0];rfl
  exact zCD
 rw[Zf h0];have B:kB d≠[]:=λe=>h0 (jY (by rw[e];rfl))
 refine af ?_;by_cases qV:t.size<=255;rotate_left
 .rw[Zt (show(t.size:Int)>255 by omega)];have hb:yy (kB s)=false:=by rw[D,Zf qV];simp
  exact zCD
 rw[Zf (show ¬(t.size:Int)>255 by omega)];refine af ?_;have L:=C7 d Zo 0 Zo (.func (.func 197) #[] #[]) (λ_=>[]) (λk=>wV ((kB d).getD k 0)) (λk x _ hx=>eo.cI (by
  rw[Vh,hx];exact qP _ (zx d _ (Zv hx))))
 refine kH L Zr ZP (λv dl q=>?_);obtain⟨e,j,rfl,e1,e2,M,N,rfl⟩:=q;have C:=Nv (l:=kB d) (p:=wV) (e:=e) Zo (λk I=>M k Zo I) (λI=>N Zo);simp only[QV];refine af ?_;by_cases he:e=(kB d).length;rotate_left
 .have hb:yy (kB s)=false:=by rw[D,C,Zf he];simp
  rw[Zf (show ¬(e:Int)=(d.size:Int) by omega)];exact zCD
 rw[Zt (show(e:Int)=(d.size:Int) by omega)];rw[Zt he]at C;have G:yy (kB s)=true:=by rw[D,C,Zt qV,Zt B];rfl
 refine af ?_;refine kH (Nj A O t (by rw[E];exact Fa B) (by rw[E];exact CZ C) qV m) Zr ZP (λv dl q=>?_);obtain⟨J,rfl⟩:=q;have fin:∀u,nN m t u->Ik s (.tuple #[u,vi 0]):=λu X=>.inr ⟨G,t,u,by rw[E,g],by rw[H];exact X,rfl⟩
 have F:=fin _ J;simp only[aE];rcases J with⟨_,rfl⟩|⟨_,u,rfl,_⟩
 .generalize (if m=true then -(zg (kB t):Int)else(zg (kB t):Int))=z at F|-;refine af ?_;refine⟨.inr rfl,_,_,.az (us:=[cv 4,vi z,uv 0,.string ⟨#[]⟩,Nz]) Zr Zr Kw zT1,ZI,F,rfl⟩
 .refine af ?_;refine⟨.inr rfl,_,_,.az (us:=[cv 5,vi 0,uv 0,.string u,Nz]) Zr Zr Kw zT1,ZI,F,rfl⟩
def RH(l):ox l=(decide (zL l≠[])&&(zL l).all wV&&decide (wO (zL l)=zL l)&&decide ((zL l).length<=255)&&decide ((if zh l=true then 1152921504606846976 else 1152921504606846975)<zg (zL l))):=by
 unfold ox;cases l with
 |nil=>rfl
 |cons a r=>
  by_cases ha:a=45
  .subst ha;rfl
  .have j:zL (a::r)=a::r:=by simp[zL,ha]
   have q:zh (a::r)=false:=by simp[zh,ha]
   rw[j,q];split;rename_i d m h;split at h
   .rename_i g;cases g;exact absurd rfl ha
   .cases h;rfl
def xU {d m}(A:d≠[])(C:d.all wV=true)(g:wO d=d):zC m d↔¬(if m=true then 1152921504606846976 else 1152921504606846975)<zg d:=by
 unfold zC;constructor
 .intro h;have:=h.2;omega
 .intro h;refine⟨?_,Zo⟩;apply Classical.byContradiction;intro s;cases d with
  |nil=>exact A rfl
  |cons c r=>
   have hc:c≠48:=by
    intro e;subst e;cases r with
    |nil=>simp at s
    |cons b q=>
     rw[pg]at g;split at g
     .cases g
     .rw[List.dropWhile_cons_of_pos Zs]at g;have j:=(List.dropWhile_sublist (l:=b::q) (λc=>decide (c=48))).length_le;rw[g]at j;simp at j;omega
   have D:=vf.1 C c Zs;simp only[wV,vG,decide_eq_true_eq]at D;have j:=numL_ge r (0*10+(c-48)) 0 tK;have B:zg (c::r)=r.foldl (λn c=>n*10+(c-48)) (0*10+(c-48)):=rfl;have h3:(10:Nat) ^ 19<=10 ^ (0+r.length):=Nat.pow_le_pow_right Zo (by simp at s;omega);have h4:(10:Nat) ^ 19=10000000000000000000:=by decide
   rw[<- B]at j;split at h<;>omega
def So(l):(if zh l=true then 45::zL l else zL l)=l:=by
 cases l with
 |nil=>rfl
 |cons a r=>
  by_cases ha:a=45
  .subst ha;rfl
  .simp[zh,zL,ha]
def Ik.large {s v}(h:Ik s v):∃(k:Nat) (n:Int) (t:ByteArray) (e:Nat),v=.tuple #[.agg #[cv k,vi n,uv 0,.string t,Nz],vi e]/\(e=0/\k=5/\t=s↔ox (kB s)=true):=by
 have m:=RH (kB s);rcases h with⟨hg,rfl⟩|⟨hg,t,u,ht,hw,rfl⟩
 .refine⟨0,0,_,144,rfl,⟨λh=>by simp at h,λh=>?_⟩⟩;rw[m]at h;simp only[vG,decide_eq_true_eq]at h;unfold yy at hg;rw[h.1.1.2,Zt h.1.1.1.1,h.1.1.1.2,Zt h.1.2]at hg;cases hg
 .simp only[yy,vG,decide_eq_true_eq]at hg;obtain⟨⟨q,B⟩,A⟩:=hg;have d:=So (kB s);rcases hw with⟨hs,rfl⟩|⟨hs,u,rfl,hu⟩
  .refine⟨4,_,_,0,rfl,⟨λh=>by simp at h,λh=>?_⟩⟩;rw[m]at h;simp only[vG,decide_eq_true_eq]at h;rw[ht,h.1.1.2]at hs;exact absurd h.2 ((xU q A h.1.1.2).1 hs)
  .refine⟨5,0,u,0,rfl,⟨λh=>?_,λh=>?_⟩⟩
   .have j:wO (zL (kB s))=zL (kB s):=by
     have g:(if zh (kB s)=true then 45::wO (zL (kB s))else wO (zL (kB s)))=(if zh (kB s)=true then 45::zL (kB s)else zL (kB s)):=by
      rw[d,<- ht,<- hu,h.2.2]
     cases hm:zh (kB s)with
     |true=>rw[hm]at g;simpa using g
     |false=>rw[hm]at g;simpa using g
    rw[m];rw[ht,j,xU q A j]at hs;simp only[vG,decide_eq_true_eq];rw[j]at B;exact⟨⟨⟨⟨q,A⟩,j⟩,B⟩,Classical.not_not.1 hs⟩
   .rw[m]at h;simp only[vG,decide_eq_true_eq]at h;refine⟨rfl,rfl,jY ?_⟩;rw[hu,ht,h.1.1.2,d]
def Zq:Value:=.iface 262 (.agg #[vi 150])
def wo:List PanicEntry:=[{v:=Zq,recovered:=false}]
def jK(b):jr pg9 104 [.bool b] [] (λv dl=>b=true/\v=.tuple #[]/\dl=[]) (λd dl=>b=false/\d=wo/\dl=[]):=by
 refine jr.intro low104 Zn9 ?_;cases b with
 |true=>
  refine af ?_;exact jU (kG (dl:=[]) (.inl rfl) .nil ⟨by trivial,rfl,rfl⟩ ZI)
 |false=>
  refine af ?_;refine Yx Zr ?_;exact⟨[],ap.nil,by trivial,rfl,rfl⟩
def free_spec(s)(j:s.size<=140737488355328):aq pg9 168 [.string s] [] (λv dl=>v=.bool (jW s)/\dl=[]):=by
 refine aq.intro low168 Zn9 ?_;have d:∀t:ByteArray,kB t∈gJ->s=t->jW s=false:=λt m e=>by
  subst e;have:gJ.contains (kB s)=true:=vr.2 m;unfold jW;rw[this];rfl
 refine af ?_;by_cases h1:s=⟨#[115,101,108,102]⟩
 .have hf:=d _ Zd h1;rw[Zt h1];exact Z7
 rw[Zf h1];refine af ?_;by_cases h2:s=⟨#[115,117,112,101,114]⟩
 .have hf:=d _ Zd h2;rw[Zt h2];exact Z7
 rw[Zf h2];refine af ?_;by_cases h3:s=⟨#[110,105,108]⟩
 .have hf:=d _ Zd h3;rw[Zt h3];exact Z7
 rw[Zf h3];refine af ?_;by_cases h4:s=⟨#[116,114,117,101]⟩
 .have hf:=d _ Zd h4;rw[Zt h4];exact Z7
 rw[Zf h4];refine af ?_;by_cases h5:s=⟨#[102,97,108,115,101]⟩
 .have hf:=d _ Zd h5;rw[Zt h5];exact Z7
 rw[Zf h5];have g:gJ.contains (kB s)=false:=zBY
 have hf:jW s=yJ s:=by unfold jW;rw[g];rfl
 refine af ?_;refine kL (o6 s j) Zr ?_;exact Z7
def JF(s)(d:s.size<=140737488355328):aq pg9 167 [.string s] [] (λv dl=>v=.bool (!jW s)/\dl=[]):=by
 refine aq.intro low167 Zn9 ?_;refine af ?_;refine kL (free_spec s d) Zr ?_;exact zD0
def Ci(B v l)(h:dU B v l):aq pg9 166 [v,.func (.func 167) #[] #[]] [B] (λu dl=>u=.bool (!l.all jW)/\dl=[B]):=by
 obtain⟨a,c,rfl,hl,E⟩:=h;have D:aq pg9 201 [.slice a l.length c,.func (.func 167) #[] #[]] [B] (λu dl=>(∃i:Int,u=vi i/\decide (0<=i)=!l.all jW)/\dl=[B]):=by
  refine aq.intro low201 Zn9 ?_;refine af ?_;refine VC.loop (α:=Nat) (bg:=λk=>[(0,.slice a l.length c),(1,.func (.func 167) #[] #[]),(7,vi l.length),(8,vi k)]) (Hf:=λ_=>[B]) (I:=λk=>k<=l.length/\(l.take k).all jW=true) (μ:=λk=>l.length-k) 0 ⟨X0 _,rfl⟩ ZU (ap.refl _) ?_
  rintro k ⟨i1,m⟩
  refine af ?_;by_cases hk:k<l.length;rotate_left
  .rw[Zf (show ¬(k:Int)<(l.length:Int) by omega)];have:l.take k=l:=Ql Zo;rw[this]at m;refine af ?_;refine kG (dl:=[B]) (.inr rfl) zT1 ⟨⟨-1,rfl,by rw[m];rfl⟩,rfl⟩ ZI
  rw[Zt (show(k:Int)<(l.length:Int) by omega)];have q:l[k]? =some l[k]:=Zg hk;obtain⟨b,o,rfl,hm,C⟩:=E k _ q;have s:(l.take (k+1)).all jW=jW l[k]:=by
   rw[Qi,q,List.all_append,m];simp
  have A:jW l[k]=false->l.all jW=false:=λd=>by
   rw[<- Qj (k+1) l,List.all_append,s,d,vM]
  generalize l[k]=t at*;have g:eo pg9 (.func (.func 167) #[] #[]) [.string t] [] (λv dl=>v=.bool (!jW t)/\dl=[]):=eo.cI (JF t C);refine af ?_;refine eO Zr g Zr ZP (λv dl j=>?_);obtain⟨rfl,rfl⟩:=j;simp only[QV];cases d:jW t with
  |true=>
   refine af ?_;exact⟨k+1,⟨Zo,by rw[s,d]⟩,Zo,ZU,ZI⟩
  |false=>
   refine af ?_;refine kG (dl:=[B]) (.inr rfl) zT1 ⟨⟨k,rfl,by rw[A d];simp⟩,rfl⟩ ZI
 refine aq.intro low166 Zn9 ?_;refine af ?_;refine kH D Zr ZP (λv dl j=>?_);obtain⟨⟨i,rfl,h⟩,rfl⟩:=j;simp only[aE];refine af ?_;refine kG (dl:=[B]) (.inr rfl) zT1 ⟨by rw[<- h];rfl,rfl⟩ ZI
abbrev bt (lb:Nat)(m d:Bool):List kC:=kA lb 0 [.bool m,.bool d]
def LkQ(A:List kC)(lb:Nat)(m0 deep:Bool)(r:Rs):Value->SH->Prop:=λv dl=>∃(d:Nat) (m:Bool),r=some (d,m)/\v=vi d/\dl=[A,bt lb (m0||m) deep]
def LkZ(A:List kC)(lb:Nat)(deep:Bool)(r:Rs):List PanicEntry->SH->Prop:=λch dl=>r=none/\ch=wo/\∃m,dl=[A,bt lb m deep]
abbrev DA (f:Nat)(a5:List Value)(A:List kC)(lb:Nat)(m0 deep:Bool)(r:Rs):Prop:=jr Tryz.prog f a5 [A,bt lb m0 deep] (LkQ A lb m0 deep r) (LkZ A lb deep r)
def gq(B:List kC)(v:Value)(l:List ByteArray)(h:dU B v l)(lb d:Nat)(g deep:Bool):jr pg9 106 [kE lb,vi d,v] [B,bt lb g deep]
 (λv dl=>l.all jW=true/\v=.tuple #[]/\dl=[B,bt lb (g||decide (d<l.length)) deep]) (λch dl=>l.all jW=false/\ch=wo/\∃m,dl=[B,bt lb m deep]):=by
 refine jr.intro low106 Zn9 ?_;have hc:=Ci B v l h;obtain⟨a,c,rfl,hl,hr⟩:=h;cases g with
 |true=>
  exact zBK
 |false=>
  refine af ?_;by_cases hm:d<l.length
  .rw[A0 ((l.length:Int) > (d:Int)),Zt hm];exact zBK
  .rw[A1 ((l.length:Int) > (d:Int)),Zf hm];refine af ?_;refine kH hc Zr ZP (λv dl hv=>?_);obtain⟨rfl,rfl⟩:=hv;simp only[aE];refine af ?_;refine kM (jK _) Zr ZP (λv dl hv=>?_) (λch dl hz=>?_)
   .obtain⟨h1,rfl,rfl⟩:=hv;simp only[QV];refine af ?_;exact jU (kG (dl:=[B,bt lb false deep]) (.inl rfl) .nil ⟨by simpa using h1,rfl,rfl⟩ ZI)
   .obtain⟨h1,rfl,rfl⟩:=hz;exact⟨[B,bt lb false deep],ZI,by simpa using h1,rfl,false,rfl⟩
def sN {A x vs}(h:jD A x vs):∃d c3 g j m q s c9 B,vs=[cv x.kind,.string x.name,d,c3,g,j,m,q,s,c9,B]/\x.name.size<=140737488355328/\x.kind<256:=by
 cases h with
 |mk wf hl bI bL ha hm hr=>
  cases hl with
  |mk Tj Gp rT de=>exact⟨_,_,_,_,_,_,_,_,_,rfl,wf.name,wf.kind⟩
def zp(A:List kC)(x:Nd)(vs:List Value):Prop:=(∀lb m0 deep,DA 169 [kE lb,.agg vs.toArray] A lb m0 deep (kP x))/\∀d m,kP x=some (d,m)->d<=1099511627776
def R8(A:List kC)(x:Nd)(vs:List Value)(h:jD A x vs)(M:zp A x vs)(place lb:Nat)(m0 deep:Bool):DA 206 [kE lb,.agg vs.toArray,vi place] A lb m0 deep (CW x place (kP x)):=by
 obtain⟨B,m⟩:=M;obtain⟨E,c3,F,G,H,I,J,c9,N,rfl,K,hk⟩:=sN h;have C:wQ x=fC x.kind x.name:=rfl;have O:=Mx x.kind x.name K E c3 F G H I J c9 N;have D:=B lb m0 deep;refine jr.intro low206 Zn9 ?_;unfold CW;rw[C];generalize x.kind=k at*;generalize x.name=s at*;generalize kP x=r at*;generalize fC k s=lv at*;refine af ?_;refine kZ Zr (λq=>?_);simp only[Value.cells];refine af ?_;by_cases h9:k=9
 .have aN:kT (decide (k≠9/\k≠6)) (if lv<place then wz r else r)=none:=by simp[kT,h9]
  rw[A0 ((k:Int)=9),Bool.not_true];exact El
 rw[A1 ((k:Int)=9),vQ];refine af ?_;by_cases h6:k=6
 .have aN:kT (decide (k≠9/\k≠6)) (if lv<place then wz r else r)=none:=by simp[kT,h6]
  rw[A0 ((k:Int)=6),Bool.not_true];exact El
 rw[A1 ((k:Int)=6),vQ];have g:kT (decide (k≠9/\k≠6)) (if lv<place then wz r else r)=(if lv<place then wz r else r):=by simp[kT,h9,h6]
 rw[g];refine af ?_;refine kM (jK true) Zr ZP (λv dl hv=>?_) Kx;obtain⟨_,rfl,rfl⟩:=hv;simp only[QV];refine af ?_;refine kM D Zr ZP (λv dl hv=>?_) (λch dl hz=>?_);rotate_left
 .obtain⟨L,rfl,m2,rfl⟩:=hz;exact⟨[A,bt lb m2 deep],ZI,by rw[L];split<;>rfl,rfl,m2,rfl⟩
 obtain⟨d,m2,j,rfl,rfl⟩:=hv;have hd:=m d m2 j;simp only[aE];refine af ?_;refine kL O Zr ?_;refine af ?_;by_cases aI:lv<place
 .rw[A0 ((lv:Int) < (place:Int))];refine af ?_;refine jU (kG (dl:=[A,bt lb (m0||m2) deep]) (.inr rfl) zT1 ⟨d+1,m2,by rw[if_pos aI,j];rfl,rfl,rfl⟩ ZI)
 .rw[A1 ((lv:Int) < (place:Int))];refine af ?_;refine jU (kG (dl:=[A,bt lb (m0||m2) deep]) (.inr rfl) zT1 ⟨d,m2,by rw[if_neg aI,j],rfl,rfl⟩ ZI)
def yW(A:List kC)(x:Nd)(vs:List Value)(h:jD A x vs)(H:zp A x vs)(place lb:Nat)(m0 deep:Bool):DA 170 [kE lb,.agg vs.toArray,vi place] A lb m0 deep (je x place (kP x)):=by
 have I:=R8 A x vs h H place lb m0 deep;obtain⟨m,c3,s,B,C,D,E,c9,J,rfl,eU,hk⟩:=sN h;have j:kg x=zY x.kind x.name:=rfl;have g:=Dg x.kind x.name m c3 s B C D E c9 J;refine jr.intro low170 Zn9 ?_;unfold je;rw[j];generalize CW x place (kP x)=r at*;refine af ?_;refine kZ Zr (λq=>?_);simp only[Value.cells];refine af ?_;refine kL g Zr ?_;cases hs:zY x.kind x.name with
 |true=>
  have aN:kT (!true) r=none:=rfl;exact El
 |false=>
  have G:kT (!false) r=r:=rfl;rw[G];refine af ?_;refine kM (jK true) Zr ZP (λv dl hv=>?_) Kx;obtain⟨_,rfl,rfl⟩:=hv;simp only[QV];refine af ?_;refine kM I Zr ZP (λv dl hv=>?_) (λch dl hz=>?_);rotate_left
  .obtain⟨F,rfl,m2,rfl⟩:=hz;exact⟨[A,bt lb m2 deep],ZI,F,rfl,m2,rfl⟩
  exact zDQ
def Bs(A:List kC)(x:Nd)(vs:List Value)(h:jD A x vs)(G:zp A x vs)(aX:ByteArray)(bR:aX.size<=140737488355328)(lb:Nat)(m0 deep:Bool):DA 203 [kE lb,.agg vs.toArray,.string aX] A lb m0 deep (zl x aX (kP x)):=by
 have hv:=yW A x vs h G (gD aX) lb m0 deep;have J:=G.1 lb m0 deep;obtain⟨g,c3,j,s,B,C,D,c9,E,rfl,eU,hk⟩:=sN h;have I:kg x=zY x.kind x.name:=rfl;have F:=Dg x.kind x.name g c3 j s B C D c9 E;refine jr.intro low203 Zn9 ?_;unfold zl;rw[I];refine af ?_;refine kZ Zr (λq=>?_);simp only[Value.cells];refine af ?_;refine kL F Zr ?_;cases hs:zY x.kind x.name with
 |true=>
  rw[if_pos rfl];refine af ?_;refine kM J Zr ZP (λv dl hv=>?_) (λch dl hz=>?_);rotate_left
  .obtain⟨N,rfl,m2,rfl⟩:=hz;exact⟨[A,bt lb m2 deep],ZI,N,rfl,m2,rfl⟩
  exact zDQ
 |false=>
  rw[if_neg Zs];refine af ?_;generalize je x (gD aX) (kP x)=r at hv|-;cases r with
  |some dm=>
   obtain⟨d,m2⟩:=dm;have Jk:jr Tryz.prog 170 [kE lb,.agg #[cv x.kind,.string x.name,g,c3,j,s,B,C,D,c9,E],vi (gD aX)] [A,bt lb m0 deep] (λv dl=>v=vi d/\dl=[A,bt lb (m0||m2) deep]) (λ_ _=>False):=
    jr.mono hv (λv dl ⟨K,S,e,L,M⟩=>by cases e;exact⟨L,M⟩) (λch dl hz=>by cases hz.1)
   refine VC.seq (VC.draws ⟨?_,?_,trivial⟩)
   .exact zCE
   .exact zCE
  |none=>
   have hvz:jr Tryz.prog 170 [kE lb,.agg #[cv x.kind,.string x.name,g,c3,j,s,B,C,D,c9,E],vi (gD aX)] [A,bt lb m0 deep] (λv dl=>False) (λch dl=>ch=wo/\∃m,dl=[A,bt lb m deep]):=
    jr.mono hv (λv dl ⟨K,S,e,_⟩=>by cases e) (λch dl hz=>hz.2)
   refine VC.seq (VC.Bp (λch H'=>ch=wo/\∃m,ap H' [A,bt lb m deep]) (λH'=>H'=[kA q 0 [cv x.kind,.string x.name,g,c3,j,s,B,C,D,c9,E],A,bt lb m0 deep]) rfl ?_ (λch H' Q=>?_))
   .intro rs da;rcases QJ.1 da with rfl|da
    .skip
     refine kK ?_;refine⟨rfl,.agg #[cv x.kind,.string x.name,g,c3,j,s,B,C,D,c9,E],True,λΓ H bC hH=>?_,?_⟩
     .subst hH;exact eP (bC 4 Zd _ rfl) Zab Iq
     refine kK ?_;refine⟨rfl,vi (gD aX),True,λΓ H bC hH=>?_,?_⟩
     .subst hH;exact kL (iS aX bR) (by simp only[V.nW,V.ev,bC 14 Zd _ rfl]) Iq
     exact zC9
    rcases QJ.1 da with rfl|da
    .skip
     refine kK ?_;refine kK ?_;refine⟨rfl,vi (gD aX),True,λΓ H bC hH=>?_,?_⟩
     .subst hH;exact kL (iS aX bR) (by simp only[V.nW,V.ev,bC 14 Zd _ rfl]) Iq
     refine⟨rfl,.agg #[cv x.kind,.string x.name,g,c3,j,s,B,C,D,c9,E],True,λΓ H bC hH=>?_,?_⟩
     .subst hH;exact eP (bC 4 Zd _ rfl) Zab Iq
     exact zC9
    .cases da
   .obtain⟨rfl,m,O⟩:=Q;exact⟨_,O,rfl,rfl,m,rfl⟩
def eH {A y vs}(h:jD A y vs):∃(q:Nat) (s:Int) (B:Nat) (C:ByteArray) (D:Option Addr) (E F:Nat) (G:Option Addr) (H I:Nat) (J:Option Addr) (K L:Nat) (d:Option Addr) (g j:Nat) (m:Int),
 vs=(rA y.kind y.name q s B C D E F G H I J K L d g j m)/\y.name.size<=140737488355328/\y.kind<256:=by
 cases h with
 |mk wf hl bI bL ha hm hr=>
  obtain⟨_,_,rfl,_⟩:=bI;obtain⟨_,_,rfl,_⟩:=bL;cases hl with
  |mk Tj Gp rT de=>exact⟨_,_,_,_,_,_,_,_,_,_,_,_,_,_,_,_,_,rfl,wf.name,wf.kind⟩
structure yd (A:List kC)(l:List Nd)(a:Option Addr)(bk o:Nat)(us:Nat->List Value):Prop where
 at_:0<l.length->a=some ⟨bk,o,none⟩
 many:l.length<=140737488355328
 mem:∀i,i<l.length->∀y∈kA bk (o+i*11) (us i),y∈A
 rd:∀i x,l[i]? =some x->jD A x (us i)
 ok:∀i x,l[i]? =some x->zp A x (us i)
def nO(A l a c bk o us)(hk:yd A l a bk o us)(aX)(bR:aX.size<=140737488355328)(lb m0 deep):
 DA 204 [kE lb,.string aX,.slice a l.length c] A lb m0 deep (lj aX l (l.map kP)):=by
 refine jr.intro low204 Zn9 ?_;unfold Go.V.lj;rw[eQ];obtain⟨RR,cE⟩:∃RR,RR=kT (decide (kW aX=l.length)) (z9 (decide (15<kW aX)) (jh (l.map λx=>je x (nD aX) (kP x)))):=⟨_,rfl⟩;rw[<- cE];have bN:=hk.many;refine af ?_;refine kL (fU aX bR) Zr ?_;refine af ?_;by_cases eS:kW aX=(l.length:Int);rotate_left
 .have aN:RR=none:=by simp[cE,kT,eS]
  rw[Zf eS];exact El
 have tB:RR=z9 (decide (15<kW aX)) (jh (l.map λx=>je x (nD aX) (kP x))):=by simp[cE,kT,eS]
 rw[Zt eS];refine af ?_;refine kM (jK true) Zr ZP (λv dl hv=>?_) Kx;obtain⟨_,rfl,rfl⟩:=hv;simp only[QV];refine af ?_;obtain⟨m0',hm0'⟩:∃m0',m0'=m0:=⟨_,rfl⟩;cases m0 with
 |true=>
  obtain⟨mB,N4⟩:∃b,b=(true||decide (15<kW aX)):=⟨_,rfl⟩;have Je:mB=true:=by rw[N4,Bool.true_or]
  exact zA2
 |false=>
  obtain⟨mB,N4⟩:∃b,b=(false||decide (15<kW aX)):=⟨_,rfl⟩;have Je:mB=decide (kW aX>15):=by rw[N4,vO]
  exact zA2
def nB(A l a c bk o us)(m:yd A l a bk o us)(lb g deep):
 DA 107 [kE lb,.slice a l.length c] A lb g deep (jh (zA l (l.map kP))):=by
 refine jr.intro low107 Zn9 ?_;have bN:=m.many;refine af ?_;refine VC.loop (α:=Nat×Nat×Bool) (bg:=λs=>[(0,kE lb),(1,.slice a l.length c),(5,vi s.2.1),(8,.slice a l.length c),(9,vi l.length),(10,vi s.1)]) (Hf:=λs=>[A,bt lb (g||s.2.2) deep])
  (I:=λs=>s.1<=l.length/\jh ((zA l (l.map kP)).take s.1)=some (s.2.1,s.2.2)) (μ:=λs=>l.length-s.1) (0,0,false) ⟨X0 _,rfl⟩ ZU (by show ap _ [A,bt lb (g||false) deep];rw[vU];exact bH) ?_
 rintro⟨j,d,mm⟩ ⟨E,i2⟩
 simp only at E i2;dsimp only;refine af ?_;by_cases hj:j<l.length;rotate_left
 .rw[A1 ((j:Int) < (l.length:Int))];rw[Ql (by rw[rO];omega)]at i2;refine af ?_;refine jU (kG (dl:=[A,bt lb (g||mm) deep]) (.inr rfl) zT1 ⟨d,mm,i2,rfl,rfl⟩ ZI)
 obtain rfl:=m.at_ Zo;rw[A0 ((j:Int) < (l.length:Int))];obtain⟨y,D⟩:∃y,l[j]? =some y:=⟨_,Zg hj⟩;have C:=m.rd j y D;have cA:=m.mem j hj;have aL:=rM l j y D;have B:=m.ok j y D;generalize us j=uj at C cA B;obtain⟨e1,e2,e3,e4,e5,e6,e7,e8,e9,xl,xm,xn,xp,IM,IN,IP,ZA,rfl,eU,iL⟩:=eH C;refine af ?_;refine kR Zr Gb rfl ?_;refine af ?_;refine kJ (λq=>?_);refine af ?_;by_cases h9:y.kind=9
 .rw[A0 ((y.kind:Int)=9)];refine af ?_;by_cases hl:j+1=l.length
  .rw[A0 ((j:Int)=(l.length:Int) - 1)];rw[if_pos ⟨h9,hl⟩]at aL;have hv:=B.1 lb (g||mm) deep;exact zAO
  .rw[A1 ((j:Int)=(l.length:Int) - 1)];rw[if_neg (λh=>hl h.2)]at aL;have hv:=yW A y _ C B 1 lb (g||mm) deep;exact zAO
 .rw[A1 ((y.kind:Int)=9)];rw[if_neg (λh=>h9 h.1)]at aL;have hv:=yW A y _ C B 1 lb (g||mm) deep;exact zAO
def Xf {A y vs}(h:jD A y vs):∃(m:Nat) (q:Int) (s:Nat) (B:ByteArray) (C:Option Addr) (D E:Nat) (F:Option Addr) (G H:Nat) (I:Option Addr) (J K:Nat) (d:Option Addr) (g j:Nat),
 vs=(rA y.kind y.name m q s B C D E F G H I J K d g j y.at_):=zD8
structure zb where
 d:Nat
 mm:Bool
 name:ByteArray
 lk:Nat
 ln:Int
 lb:Nat
 lt:ByteArray
 la:Option Addr
 li:Nat
 lc:Nat
 aa:Option Addr
 an:Nat
 ac:Nat
 ta:Option Addr
 tn:Nat
 tc:Nat
def zb.ok(s:zb):Prop:=s.name.size=0/\s.an=0/\s.tn=0/\s.lk=0/\s.ln=0/\s.lb=0/\s.lt.size=0/\s.li=0
instance nodeSDec (s:zb):Decidable s.ok:=by unfold zb.ok;infer_instance
abbrev zb.cells (s:zb)(k:Nat)(p:Int):List Value:=(rA k s.name s.lk s.ln s.lb s.lt s.la s.li s.lc s.aa s.an s.ac s.ta s.tn s.tc none 0 0 p)
noncomputable def nodeSw:IC:=match Ts.body with
 |.seq _ (.seq _ (.seq _ (.seq _ (.seq x _))))=>x
 |_=>.skip
def fS(A:List kC)(x:Nd)(vs:List Value):Prop:=∀(lb q r:Nat) (m0 deep:Bool),
 VC pg9 Ts.n nodeSw [(0,kE lb),(3,kE q),(5,kE r),(6,vi 0)] [kA r 0 (vs.set 9 Nz),kA q 0 vs,A,bt lb m0 deep]
  (bP (λaB H'=>∃s:zb,(kP x=if s.ok then some (s.d,s.mm)else none)/\V.Sub aB [(5,kE r),(6,vi s.d)]/\ap H' [A,bt lb (m0||s.mm) deep,kA r 0 (s.cells x.kind x.at_)])
    (Θ Ts.bT (LkQ A lb m0 deep (kP x)) (LkZ A lb deep (kP x))))
def node_of(A x vs)(h:jD A x vs)(F:fS A x vs)(lb m0 deep):DA 169 [kE lb,.agg vs.toArray] A lb m0 deep (kP x):=by
 have D:=F lb;obtain⟨e1,e2,e3,e4,e5,e6,e7,e8,e9,xl,xm,xn,xp,IM,IN,IP,rfl⟩:=Xf h;refine jr.intro low169 (by simp[n169]) ?_;refine jB ?_;refine kZ Zr (λq=>?_);simp only[Value.cells];refine jB ?_;refine kJ (λr=>?_);refine jB ?_;refine VC.join (α:=zb) (λs=>[(5,kE r),(6,vi s.d)]) (λs=>[A,bt lb (m0||s.mm) deep,kA r 0 (s.cells x.kind x.at_)])
  (λs=>kP x=if s.ok then some (s.d,s.mm)else none) ?_ ?_
 .exact D q r m0 deep
 .rintro⟨d,mm,name,m,C,g,lt,la,j,lc,aa,an,ac,ta,B,tc⟩ E
  simp only at E;rw[E];unfold zb.ok;simp only;refine jB ?_;refine kJ (λq2=>?_);refine jB ?_;by_cases h1:name=⟨#[]⟩;rotate_left
  .have eT:¬(name.size=0/\an=0/\B=0/\m=0/\C=0/\g=0/\lt.size=0/\j=0):=λh=>h1 (ByteArray.ext (v7 h.1))
   rw[Zf h1];exact Tl
  rw[Zt h1];refine jB ?_;by_cases h2:an=0;rotate_left
  .have eT:¬(name.size=0/\an=0/\B=0/\m=0/\C=0/\g=0/\lt.size=0/\j=0):=λh=>h2 h.2.1
   rw[A1 ((an:Int)=0)];exact Tl
  rw[A0 ((an:Int)=0)];refine jB ?_;by_cases h3:B=0;rotate_left
  .have eT:¬(name.size=0/\an=0/\B=0/\m=0/\C=0/\g=0/\lt.size=0/\j=0):=λh=>h3 h.2.2.1
   rw[A1 ((B:Int)=0)];exact Tl
  rw[A0 ((B:Int)=0)];refine jB ?_;by_cases h4:m=0;rotate_left
  .have eT:¬(name.size=0/\an=0/\B=0/\m=0/\C=0/\g=0/\lt.size=0/\j=0):=λh=>h4 h.2.2.2.1
   rw[A1 ((m:Int)=0)];exact Tl
  rw[A0 ((m:Int)=0)];refine jB ?_;by_cases h5:C=0;rotate_left
  .have eT:¬(name.size=0/\an=0/\B=0/\m=0/\C=0/\g=0/\lt.size=0/\j=0):=λh=>h5 h.2.2.2.2.1
   rw[Zf h5];exact Tl
  rw[Zt h5];refine jB ?_;by_cases h6:g=0;rotate_left
  .have eT:¬(name.size=0/\an=0/\B=0/\m=0/\C=0/\g=0/\lt.size=0/\j=0):=λh=>h6 h.2.2.2.2.2.1
   rw[A1 ((g:Int)=0)];exact Tl
  rw[A0 ((g:Int)=0)];refine jB ?_;by_cases h7:lt=⟨#[]⟩;rotate_left
  .have eT:¬(name.size=0/\an=0/\B=0/\m=0/\C=0/\g=0/\lt.size=0/\j=0):=λh=>h7 (ByteArray.ext (v7 h.2.2.2.2.2.2.1))
   rw[Zf h7];exact Tl
  rw[Zt h7];refine jB ?_;by_cases h8:j=0;rotate_left
  .have eT:¬(name.size=0/\an=0/\B=0/\m=0/\C=0/\g=0/\lt.size=0/\j=0):=λh=>h8 h.2.2.2.2.2.2.2
   rw[A1 ((j:Int)=0)];exact Tl
  rw[A0 ((j:Int)=0)];refine jB ?_;refine kM (jK true) Zr ZP (λv dl hv=>?_) Kx;obtain⟨_,rfl,rfl⟩:=hv;simp only[QV];refine jB ?_;exact jU (kG (dl:=[A,bt lb (m0||mm) deep]) (.inr rfl) zT1 ⟨d,mm,if_pos ⟨by rw[h1];rfl,h2,h3,h4,h5,h6,by rw[h7];rfl,h8⟩,rfl,rfl⟩ ZI)
structure pF where
 d:Nat
 mm:Bool
 n:Int
 b:Nat
 t:ByteArray
 sv:Value
 l:Nat
def pF.ok(s:pF):Prop:=s.n=0/\s.b=0/\s.t.size=0/\s.l=0
instance(s:pF):Decidable s.ok:=by unfold pF.ok;infer_instance
def W0(A)(Q:nM A):∀(N:Nat) (x:Lt),x.size<=N->x.size<=1099511627776->∀vs,yc A x vs->∀(lb:Nat) (m0 deep inside:Bool),DA 202 [kE lb,.agg vs.toArray,.bool inside] A lb m0 deep (jS x inside):=by
 intro N
 induction N with
 |zero=>intro x hx;have:=x.size_pos;omega
 |succ N ih=>
  intro x hx ZF vs O lb m0 deep inside;have M:=O;cases O with
  |@mk k n b t ci a c bk o us wf ha hm hr=>
  refine jr.intro low202 Zn9 ?_;refine jB ?_;refine kZ Zr (λq=>?_);simp only[Value.cells];refine jB ?_;refine kJ (λr=>?_);refine jB ?_;refine VC.join (α:=pF) (λs=>[(7,vi s.d),(8,kE r)]) (λs=>[A,bt lb (m0||s.mm) deep,kA r 0 [cv k,vi s.n,uv s.b,.string s.t,s.sv]])
   (λs=>(∃a c,s.sv=.slice a s.l c)/\jS (.mk k n b t ci) inside=if s.ok then some (s.d,s.mm)else none) ?_ ?_
  .have nt:=wf.kind;obtain⟨Rk,Cd⟩:=wf.n;by_cases k1:k=1
   .subst k1;exact zAV
   by_cases k2:k=2
   .subst k2;exact zAV
   by_cases k3:k=3
   .subst k3;exact zAV
   by_cases k4:k=4
   .subst k4;refine af ?_;by_cases h1:-1152921504606846976<=n;rotate_left
    .have aN:jS (.mk 4 n b t ci) inside=none:=by simp[jS,kT,h1]
     rw[Zf h1];exact El
    rw[Zt h1];refine af ?_;by_cases h2:n<=1152921504606846975;rotate_left
    .have aN:jS (.mk 4 n b t ci) inside=none:=by simp[jS,kT,h2]
     rw[Zf h2];exact El
    exact zCB
   by_cases k5:k=5
   .subst k5;refine af ?_;refine kH (G2 A Q t wf.text) Zr ZP (λv dl hv=>?_);obtain⟨S,rfl⟩:=hv;obtain⟨J,nn,T,E,rfl,g⟩:=S.large;simp only[aE];refine af ?_;refine kJ (λq2=>?_);refine af ?_;by_cases h1:E=0;rotate_left
    .have aN:jS (.mk 5 n b t ci) inside=none:=by
      have:ox (kB t)=false:=vK.2 λh=>h1 (g.2 h).1
      simp[jS,kT,this]
     rw[A1 ((E:Int)=0)];exact El
    rw[A0 ((E:Int)=0)];refine af ?_;by_cases h2:J=5;rotate_left
    .have aN:jS (.mk 5 n b t ci) inside=none:=by
      have:ox (kB t)=false:=vK.2 λh=>h2 (g.2 h).2.1
      simp[jS,kT,this]
     rw[A1 ((J:Int)=5)];exact El
    rw[A0 ((J:Int)=5)];refine af ?_;by_cases h3:T=t;rotate_left
    .have aN:jS (.mk 5 n b t ci) inside=none:=by
      have:ox (kB t)=false:=vK.2 λh=>h3 (g.2 h).2.2
      simp[jS,kT,this]
     rw[Zf h3];exact El
    rw[Zt h3];refine af ?_;refine kM (jK true) Zr ZP (λv dl hv=>?_) Kx;obtain⟨_,rfl,rfl⟩:=hv;simp only[QV];refine af ?_;have H:=g.1 ⟨h1,h2,h3⟩;refine⟨⟨0,false,n,b,⟨#[]⟩,_,_⟩,⟨⟨_,_,rfl⟩,?_⟩,ZU,by rw[vU];exact bH⟩;simp[jS,kT,pF.ok,H,show(⟨#[]⟩:ByteArray).size=0 from rfl]
   by_cases k6:k=6
   .subst k6;have G:=wf.bits;refine af ?_;by_cases h1:b*2%18446744073709551616/9007199254740992=2047
    .have aN:jS (.mk 6 n b t ci) inside=none:=by simp[jS,kT,h1]
     rw[A0 (((b*2 % 18446744073709551616 / 9007199254740992:Nat):Int)=2047),Bool.not_true];exact El
    rw[A1 (((b*2 % 18446744073709551616 / 9007199254740992:Nat):Int)=2047),vQ];refine af ?_;refine kM (jK true) Zr ZP (λv dl hv=>?_) Kx;obtain⟨_,rfl,rfl⟩:=hv;simp only[QV];refine af ?_;refine⟨⟨0,false,n,0,t,.slice a ci.length c,ci.length⟩,⟨⟨_,_,rfl⟩,?_⟩,ZU,by rw[vU];show ap _ [A,bt lb m0 deep,kA r 0 [cv 6,vi n,.int .u64 0,.string t,.slice a ci.length c]];exact bH⟩;simp[jS,kT,pF.ok,h1]
   by_cases k7:k=7
   .subst k7;refine af ?_;by_cases h1:0<=n;rotate_left
    .have aN:jS (.mk 7 n b t ci) inside=none:=by simp[jS,kT,h1]
     rw[Zf h1];exact El
    rw[Zt h1];refine af ?_;by_cases h2:n<=255;rotate_left
    .have aN:jS (.mk 7 n b t ci) inside=none:=by simp[jS,kT,h2]
     rw[Zf h2];exact El
    exact zCB
   by_cases k8:k=8
   .subst k8;exact zDC
   by_cases k9:k=9
   .subst k9;exact zDC
   by_cases k11:k=11
   .subst k11;have F:(⟨#[]⟩:ByteArray).size=0:=rfl;cases m0 with
    |true=>
     refine af ?_;refine⟨⟨0,decide (255<t.size),n,b,⟨#[]⟩,_,_⟩,⟨⟨_,_,rfl⟩,?_⟩,ZU,by rw[Bool.true_or];exact bH⟩;simp[jS,kT,pF.ok,F]
    |false=>
     refine af ?_;by_cases h1:255<t.size
     .rw[A0 ((t.size:Int) > 255)];refine af ?_;refine⟨⟨0,true,n,b,⟨#[]⟩,_,_⟩,⟨⟨_,_,rfl⟩,?_⟩,ZU,by rw[Bool.or_true];exact bH⟩;simp[jS,kT,pF.ok,F,h1]
     .rw[A1 ((t.size:Int) > 255)];refine af ?_;refine⟨⟨0,false,n,b,⟨#[]⟩,_,_⟩,⟨⟨_,_,rfl⟩,?_⟩,ZU,by rw[vU];exact bH⟩;simp[jS,kT,pF.ok,F,h1]
   by_cases k10:k=10
   .subst k10;cases m0 with
    |true=>
     have hmm1:∀mm,(true||(decide (255<ci.length)||mm))=(true||mm):=λ_=>by simp
     exact zA8
    |false=>
     refine af ?_;by_cases qV:255<ci.length
     .have hmm1:∀mm,(false||(decide (255<ci.length)||mm))=(true||mm):=λ_=>by simp[qV]
      rw[A0 ((ci.length:Int) > 255)];exact zA8
     .have hmm1:∀mm,(false||(decide (255<ci.length)||mm))=(false||mm):=λ_=>by simp[qV]
      rw[A1 ((ci.length:Int) > 255)];refine af ?_;refine VC.loop (α:=Nat×Nat×Bool) (bg:=λs=>[(0,kE lb),(7,vi s.2.1),(8,kE r),(114,.slice a ci.length c),(115,vi ci.length),(116,vi s.1)]) (Hf:=λs=>[A,bt lb (false||s.2.2) deep,kA r 0 [cv 10,vi n,uv b,.string t,.slice a ci.length c]])
       (I:=λs=>s.1<=ci.length/\jh ((ci.take s.1).map λx=>jS x true)=some (s.2.1,s.2.2)) (μ:=λs=>ci.length-s.1) (0,0,false) ⟨X0 _,rfl⟩ ZU (by rw[vU];exact bH) ?_
      rintro⟨j,d,mm⟩ ⟨i1,i2⟩
      simp only at i1 i2;dsimp only;have bN:=wf.many;simp only[Lt.size]at ZF;have hdb:d<=Lt.ay ci:=hK (λr hr d m e=>by
       obtain⟨y,hy,rfl⟩:=QO.1 hr;have h1:=Lt.aJ (QP hy);have h2:=G6 _ y (Qs _) true d m e;omega) i2
      refine af ?_;by_cases hj:j<ci.length;rotate_left
      .rw[A1 ((j:Int) < (ci.length:Int))];have df:ci.take j=ci:=Ql Zo;rw[df,<- dE]at i2;refine af ?_;refine⟨⟨d+1,decide (255<ci.length)||mm,n,b,t,Nz,0⟩,⟨⟨_,_,rfl⟩,?_⟩,ZU,?_⟩
       .simp[jS,i2,z9,wz,kT,pF.ok]
       .rw[hmm1];exact bH
      obtain rfl:=ha Zo;rw[A0 ((j:Int) < (ci.length:Int))];obtain⟨y,hy⟩:∃y,ci[j]? =some y:=⟨_,Zg hj⟩;have bQ:=hr j y hy;have cA:=hm j hj;have Wv:y.size<=N:=by
       have h1:=Lt.aJ (Zv hy);simp only[Lt.size]at hx;omega
      have ZW:=Lt.aJ (Zv hy);have aK:=ih y Wv Zo _ bQ lb (false||mm) deep true;generalize us j=uj at bQ cA aK;have hyr2:=bQ;cases hyr2 with
      |@mk k2 n2 b2 t2 Mt a2 c2 O6 o2 Dl Tj Gp rT de=>
      refine af ?_;refine kR Zr Gb rfl ?_;refine af ?_;refine kJ (λq2=>?_);refine af ?_;refine kM aK Zr ZP (λv dl hv=>?_) (λch dl hz=>?_);rotate_left
      .obtain⟨hb,rfl,m2,rfl⟩:=hz;have aN:jS (.mk 10 n b t ci) inside=none:=by
        have h1:jh (xH ci)=none:=by
         rw[dE];exact dH (QO.2 ⟨_,Zv hy,hb⟩)
        simp[jS,h1,z9,wz,kT]
       exact⟨[A,bt lb m2 deep],ZI,aN,rfl,m2,rfl⟩
      obtain⟨e,m2,he,rfl,rfl⟩:=hv;simp only[aE];have df:ci.take (j+1)=ci.take j++[.mk k2 n2 b2 t2 Mt]:=by rw[Qi,hy];rfl
      refine af ?_;rw[show(if(e:Int)>(d:Int)then(e:Int)else(d:Int))=((max d e:Nat):Int) by split<;>omega];refine⟨(j+1,max d e,mm||m2),⟨by simp only;omega,?_⟩,by simp only;omega,ZU,?_⟩
      .simp only[df,QC,QE,QG,he];exact dI i2
      .simp only[vR];exact bH
   refine af ?_;rw[A1 ((k:Int)=1)];refine af ?_;rw[A1 ((k:Int)=2)];refine af ?_;rw[A1 ((k:Int)=3)];refine af ?_;rw[A1 ((k:Int)=4)];refine af ?_;rw[A1 ((k:Int)=5)];refine af ?_;rw[A1 ((k:Int)=6)];refine af ?_;rw[A1 ((k:Int)=7)];refine af ?_;rw[A1 ((k:Int)=11)];refine af ?_;rw[A1 ((k:Int)=8)];refine af ?_;rw[A1 ((k:Int)=9)];refine af ?_;rw[A1 ((k:Int)=10)];refine af ?_;have aN:jS (.mk k n b t ci) inside=none:=by simp[jS,k1,k2,k3,k4,k5,k6,k7,k8,k9,k10,k11]
   refine kM (jK false) Zr ZP Zai (λch dl hz=>?_);obtain⟨_,rfl,rfl⟩:=hz;exact⟨[A,bt lb m0 deep],ZI,aN,rfl,m0,rfl⟩
  .rintro⟨d,mm,C,B,D,sv,l⟩ ⟨⟨a',c',K⟩,L⟩
   simp only at K L;subst K;rw[L];unfold pF.ok;simp only;refine jB ?_;by_cases h1:C=0;rotate_left
   .have eT:¬(C=0/\B=0/\D.size=0/\l=0):=λh=>h1 h.1
    rw[Zf h1];exact Tl
   rw[Zt h1];refine jB ?_;by_cases h2:B=0;rotate_left
   .have eT:¬(C=0/\B=0/\D.size=0/\l=0):=λh=>h2 h.2.1
    rw[A1 ((B:Int)=0)];exact Tl
   rw[A0 ((B:Int)=0)];refine jB ?_;by_cases h3:D=⟨#[]⟩;rotate_left
   .have eT:¬(C=0/\B=0/\D.size=0/\l=0):=λh=>h3 (ByteArray.ext (v7 h.2.2.1))
    rw[Zf h3];exact Tl
   rw[Zt h3];refine jB ?_;by_cases h4:l=0;rotate_left
   .have eT:¬(C=0/\B=0/\D.size=0/\l=0):=λh=>h4 h.2.2.2
    rw[A1 ((l:Int)=0)];exact Tl
   rw[A0 ((l:Int)=0)];refine jB ?_;refine kM (jK true) Zr ZP (λv dl hv=>?_) Kx;obtain⟨_,rfl,rfl⟩:=hv;simp only[QV];refine jB ?_;exact jU (kG (dl:=[A,bt lb (m0||mm) deep]) (.inr rfl) zT1 ⟨d,mm,if_pos ⟨h1,h2,by rw[h3];rfl,h4⟩,rfl,rfl⟩ ZI)
def node_k1(A)(J:nM A)(x vs)(h:jD A x vs)(L:x.w<=274877906944)(H:∀y us,y∈x.ak->jD A y us->zp A y us)(G:x.kind=1):fS A x vs:=by
 intro lb q r m0 deep;cases h with
 |@mk k s lit a5 ae ak p lv av tv a c bk o us wf hl bI bL ha hm hr lW=>
 simp only[Nd.kind]at G;have I:=hl;cases I with
 |@mk j m g lt ci la lc RI lo MD Te Tb Tc Td=>
 have M:=bI;have N:=bL;obtain⟨B,C,rfl,oU,eS⟩:=M;obtain⟨D,E,rfl,sr,N8⟩:=N;have bz:yd A ak a bk o us:=⟨ha,wf.many,hm,hr,λi y e=>H y (us i) (Zv e) (hr i y e)⟩;have DK:=wf.name;have bN:=wf.many;simp only[Nd.w]at L;obtain⟨F,cE⟩:∃F,F=kP (.mk k s (.mk j m g lt ci) a5 ae ak p):=⟨_,rfl⟩;rw[<- cE];rw[show kP (.mk k s (.mk j m g lt ci) a5 ae ak p)=w8 k s (.mk j m g lt ci) a5 ae ak (ak.map kP) by simp[kP,jz]]at cE;show VC _ _ _ _ [kA r 0 (rA k s j m g lt la ci.length lc B a5.length C D ae.length E none 0 0 p),kA q 0 (rA k s j m g lt la ci.length lc B a5.length C D ae.length E a ak.length c p),A,bt lb m0 deep] _;subst G;refine af ?_;by_cases pR:ak.length=0;rotate_left
 .have aN:F=none:=by simp[cE,zb.ok,w8,kT,z4,Lt.kind,Lt.n,Lt.bits,Lt.text,Lt.ci,pR]
  rw[A1 ((ak.length:Int)=0)];exact El
 rw[A0 ((ak.length:Int)=0)];refine af ?_;refine kM (jK true) Zr ZP (λv dl hv=>?_) Kx;obtain⟨_,rfl,rfl⟩:=hv;simp only[QV];refine af ?_;refine kM (W0 A J _ _ (Qs _) Zo _ hl lb m0 deep false) Zr ZP (λv dl hv=>?_) (λch dl hz=>?_);rotate_left
 .exact zDW
 obtain⟨d,m2,K,rfl,rfl⟩:=hv;simp only[aE];refine af ?_;refine⟨⟨d,m2,s,0,0,0,⟨#[]⟩,none,0,0,B,a5.length,C,D,ae.length,E⟩,?_,ZU,?_⟩
 .simp[cE,zb.ok,w8,kT,z4,Lt.kind,Lt.n,Lt.bits,Lt.text,Lt.ci,K,pR,show(⟨#[]⟩:ByteArray).size=0 from rfl]
 .show ap _ [A,bt lb (m0||m2) deep,kA r 0 [cv 1,.string s,.int .u8 0,vi 0,.int .u64 0,.string ⟨#[]⟩,Nz,.slice B a5.length C,.slice D ae.length E,Nz,vi p]];exact bH
def node_k2(A)(hE:nM A)(x vs)(h:jD A x vs)(K:x.w<=274877906944)(I:∀y us,y∈x.ak->jD A y us->zp A y us)(G:x.kind=2):fS A x vs:=by
 intro lb q r m0 deep;cases h with
 |@mk k s lit a5 ae ak p lv av tv a c bk o us wf hl bI bL ha hm hr lW=>
 simp only[Nd.kind]at G;have J:=hl;cases J with
 |@mk g j d lt ci la lc RI lo MD Te Tb Tc Td=>
 have L:=bI;have M:=bL;obtain⟨C,D,rfl,oU,eS⟩:=L;obtain⟨E,F,rfl,sr,N8⟩:=M;have bz:yd A ak a bk o us:=⟨ha,wf.many,hm,hr,λi y e=>I y (us i) (Zv e) (hr i y e)⟩;have H:=wf.name;have bN:=wf.many;simp only[Nd.w]at K;obtain⟨B,m⟩:∃B,B=kP (.mk k s (.mk g j d lt ci) a5 ae ak p):=⟨_,rfl⟩;rw[<- m];rw[show kP (.mk k s (.mk g j d lt ci) a5 ae ak p)=w8 k s (.mk g j d lt ci) a5 ae ak (ak.map kP) by simp[kP,jz]]at m;show VC _ _ _ _ [kA r 0 (rA k s g j d lt la ci.length lc C a5.length D E ae.length F none 0 0 p),kA q 0 (rA k s g j d lt la ci.length lc C a5.length D E ae.length F a ak.length c p),A,bt lb m0 deep] _;subst G;refine af ?_;by_cases pR:ak.length=0;rotate_left
 .have aN:B=none:=by simp[m,zb.ok,w8,kT,z4,Lt.kind,Lt.n,Lt.bits,Lt.text,Lt.ci,pR]
  rw[A1 ((ak.length:Int)=0)];exact El
 rw[A0 ((ak.length:Int)=0)];refine af ?_;refine kL (o6 s H) Zr ?_;cases hn:yJ s with
 |false=>
  have aN:B=none:=by simp[m,zb.ok,w8,kT,z4,Lt.kind,Lt.n,Lt.bits,Lt.text,Lt.ci,hn]
  exact El
 |true=>
  refine af ?_;refine kM (jK true) Zr ZP (λv dl hv=>?_) Kx;obtain⟨_,rfl,rfl⟩:=hv;simp only[QV];refine af ?_;refine⟨⟨0,false,⟨#[]⟩,g,j,d,lt,la,ci.length,lc,C,a5.length,D,E,ae.length,F⟩,?_,ZU,?_⟩
  .simp[m,zb.ok,w8,kT,z4,Lt.kind,Lt.n,Lt.bits,Lt.text,Lt.ci,hn,pR,show(⟨#[]⟩:ByteArray).size=0 from rfl];simp only[and_assoc]
  .rw[vU];show ap _ [A,bt lb m0 deep,kA r 0 [cv 2,.string ⟨#[]⟩,cv g,vi j,uv d,.string lt,.slice la ci.length lc,.slice C a5.length D,.slice E ae.length F,Nz,vi p]];exact bH
def node_k9(A)(hE:nM A)(x vs)(h:jD A x vs)(T:x.w<=274877906944)(M:∀y us,y∈x.ak->jD A y us->zp A y us)(K:x.kind=9):fS A x vs:=by
 intro lb q r m0 deep;cases h with
 |@mk k s lit a5 ae ak p lv av tv a c bk o us wf hl bI bL ha hm hr lW=>
 simp only[Nd.kind]at K;have Q:=hl;cases Q with
 |@mk j B g lt ci la lc RI lo MD Te Tb Tc Td=>
 have U:=bI;have W:=bL;obtain⟨D,E,rfl,oU,eS⟩:=U;obtain⟨F,G,rfl,sr,N8⟩:=W;have N:yd A ak a bk o us:=⟨ha,wf.many,hm,hr,λi y e=>M y (us i) (Zv e) (hr i y e)⟩;have DK:=wf.name;have bN:=wf.many;simp only[Nd.w]at T;obtain⟨I,cE⟩:∃I,I=kP (.mk k s (.mk j B g lt ci) a5 ae ak p):=⟨_,rfl⟩;rw[<- cE];rw[show kP (.mk k s (.mk j B g lt ci) a5 ae ak p)=w8 k s (.mk j B g lt ci) a5 ae ak (ak.map kP) by simp[kP,jz]]at cE;show VC _ _ _ _ [kA r 0 (rA k s j B g lt la ci.length lc D a5.length E F ae.length G none 0 0 p),kA q 0 (rA k s j B g lt la ci.length lc D a5.length E F ae.length G a ak.length c p),A,bt lb m0 deep] _;subst K;refine af ?_;by_cases sg:ak.length=1;rotate_left
 .have aN:I=none:=by
   rw[cE];unfold w8;rw[if_neg Zd,if_neg Zd,if_neg Zd,if_neg Zd,if_neg Zd,if_neg Zd,if_neg Zd,if_neg Zd,if_pos rfl];unfold kT;split
   .match ak,sg with
    |[],_=>rfl
    |_::_::_,_=>rfl
   .rfl
  rw[A1 ((ak.length:Int)=1)];exact El
 rw[A0 ((ak.length:Int)=1)];obtain⟨y,H5⟩:∃y,ak=[y]:=Q3.1 sg;have H:ak[0]? =some y:=by rw[H5];rfl
 have J:=hm 0 Zo;rw[X1,Qo]at J;have O:=(hr 0 y H).len;obtain rfl:=ha Zo;have C:=N.ok 0 y H;have L:=λm=>yW A y _ (hr 0 y H) C 1 lb m deep
 refine af ?_;refine kM (jK true) Zr ZP (λv dl hv=>?_) Kx;obtain⟨_,rfl,rfl⟩:=hv;simp only[QV];refine af ?_;refine kR Zr (λz hz=>QI _ (QI _ (Zw _ (J z hz)))) O ?_;refine af ?_;refine kM (L m0) Zr ZP (λv dl hv=>?_) (λch dl hz=>?_);rotate_left
 .exact zDS
 obtain⟨d,m2,S,rfl,rfl⟩:=hv;simp only[aE];refine af ?_;refine⟨⟨d,m2,s,j,B,g,lt,la,ci.length,lc,D,a5.length,E,F,ae.length,G⟩,?_,ZU,?_⟩
 .simp[cE,zb.ok,w8,kT,z4,Lt.kind,Lt.n,Lt.bits,Lt.text,Lt.ci,S,H5];simp only[and_assoc]
 .show ap _ [A,bt lb (m0||m2) deep,kA r 0 (rA 9 s j B g lt la ci.length lc D a5.length E F ae.length G none 0 0 p)];exact bH
def node_k3(A)(hE:nM A)(x vs)(h:jD A x vs)(Y:x.w<=274877906944)(S:∀y us,y∈x.ak->jD A y us->zp A y us)(M:x.kind=3):fS A x vs:=by
 intro lb q r m0 deep;cases h with
 |@mk k s lit a5 ae ak p lv av tv a c bk o us wf hl bI bL ha hm hr lW=>
 simp only[Nd.kind]at M;have W:=hl;cases W with
 |@mk j B g lt ci la lc RI lo MD Te Tb Tc Td=>
 have Z:=bI;have iM:=bL;obtain⟨D,E,rfl,oU,eS⟩:=Z;obtain⟨G,H,rfl,sr,N8⟩:=iM;have T:yd A ak a bk o us:=⟨ha,wf.many,hm,hr,λi y e=>S y (us i) (Zv e) (hr i y e)⟩;have O:=wf.name;have bN:=wf.many;simp only[Nd.w]at Y;obtain⟨J,cE⟩:∃J,J=kP (.mk k s (.mk j B g lt ci) a5 ae ak p):=⟨_,rfl⟩;rw[<- cE];rw[show kP (.mk k s (.mk j B g lt ci) a5 ae ak p)=w8 k s (.mk j B g lt ci) a5 ae ak (ak.map kP) by simp[kP,jz]]at cE;show VC _ _ _ _ [kA r 0 (rA k s j B g lt la ci.length lc D a5.length E G ae.length H none 0 0 p),kA q 0 (rA k s j B g lt la ci.length lc D a5.length E G ae.length H a ak.length c p),A,bt lb m0 deep] _;subst M;refine af ?_;refine kV (out:=[.string s]) Zr Zr (λF=>?_);refine af ?_;have N:dU (kA F 0 [.string s]) (.slice (some ⟨F,0,none⟩) 1 1) [s]:=⟨_,_,rfl,Zs,λi t e=>by
  cases i with
  |zero=>cases e;exact⟨F,0,rfl,by simp[kA],O⟩
  |succ i=>simp at e⟩
 refine kM (gq (kA F 0 [.string s]) _ [s] N lb 1 m0 deep) Zr ZP (λv dl hv=>?_) (λch dl hz=>?_);rotate_left
 .obtain⟨hb,rfl,m2,rfl⟩:=hz;have K:jW s=false:=by simpa using hb
  exact⟨[A,bt lb m2 deep],ZI,by simp[cE,zb.ok,w8,kT,z4,Lt.kind,Lt.n,Lt.bits,Lt.text,Lt.ci,K],rfl,m2,rfl⟩
 obtain⟨hb,rfl,rfl⟩:=hv;have K:jW s=true:=by simpa using hb
 rw[show(m0||decide (1 < [s].length))=m0 by simp];simp only[aE];refine af ?_;by_cases sg:ak.length=1;rotate_left
 .have aN:J=none:=by
   rw[cE];unfold w8;rw[if_neg Zd,if_neg Zd,if_pos rfl];unfold kT;split
   .match ak,sg with
    |[],_=>rfl
    |_::_::_,_=>rfl
   .rfl
  rw[A1 ((ak.length:Int)=1)];exact El
 rw[A0 ((ak.length:Int)=1)];obtain⟨y,H5⟩:∃y,ak=[y]:=Q3.1 sg;have I:ak[0]? =some y:=by rw[H5];rfl
 have L:=hm 0 Zo;rw[X1,Qo]at L;have U:=(hr 0 y I).len;obtain rfl:=ha Zo;have C:=T.ok 0 y I;have Q:=λm=>yW A y _ (hr 0 y I) C 1 lb m deep
 refine af ?_;refine kM (jK true) Zr ZP (λv dl hv=>?_) Kx;obtain⟨_,rfl,rfl⟩:=hv;simp only[QV];refine af ?_;refine kR Zr (λz hz=>by simp only[Vd,QH];simp[L z hz]) U ?_;refine af ?_;refine kM (Q m0) Zr ZP (λv dl hv=>?_) (λch dl hz=>?_);rotate_left
 .exact zDS
 obtain⟨d,m2,X,rfl,rfl⟩:=hv;simp only[aE];refine af ?_;refine⟨⟨d,m2,⟨#[]⟩,j,B,g,lt,la,ci.length,lc,D,a5.length,E,G,ae.length,H⟩,?_,ZU,?_⟩
 .simp[cE,zb.ok,w8,kT,z4,Lt.kind,Lt.n,Lt.bits,Lt.text,Lt.ci,X,H5,K,show(⟨#[]⟩:ByteArray).size=0 from rfl];simp only[and_assoc]
 .show ap _ [A,bt lb (m0||m2) deep,kA r 0 [cv 3,.string ⟨#[]⟩,cv j,vi B,uv g,.string lt,.slice la ci.length lc,.slice D a5.length E,.slice G ae.length H,Nz,vi p]];exact bH
def node_k6(A)(hE:nM A)(x vs)(h:jD A x vs)(O:x.w<=274877906944)(J:∀y us,y∈x.ak->jD A y us->zp A y us)(H:x.kind=6):fS A x vs:=by
 intro lb q r F deep;cases h with
 |@mk k s lit a5 ae ak p lv av tv a c bk o us wf hl bI bL ha hm hr lW=>
 simp only[Nd.kind]at H;have L:=hl;cases L with
 |@mk j m g lt ci la lc RI lo MD Te Tb Tc Td=>
 have Q:=bI;have S:=bL;obtain⟨B,C,rfl,oU,eS⟩:=Q;obtain⟨D,E,rfl,sr,N8⟩:=S;have K:yd A ak a bk o us:=⟨ha,wf.many,hm,hr,λi y e=>J y (us i) (Zv e) (hr i y e)⟩;have I:=wf.name;have bN:=wf.many;simp only[Nd.w]at O;obtain⟨G,cE⟩:∃G,G=kP (.mk k s (.mk j m g lt ci) a5 ae ak p):=⟨_,rfl⟩;rw[<- cE];rw[show kP (.mk k s (.mk j m g lt ci) a5 ae ak p)=w8 k s (.mk j m g lt ci) a5 ae ak (ak.map kP) by simp[kP,jz]]at cE;show VC _ _ _ _ [kA r 0 (rA k s j m g lt la ci.length lc B a5.length C D ae.length E none 0 0 p),kA q 0 (rA k s j m g lt la ci.length lc B a5.length C D ae.length E a ak.length c p),A,bt lb F deep] _;subst H;refine af ?_;refine kM (nO A ak a c bk o us K s I lb F deep) Zr ZP (λv dl N=>?_) (λch dl hz=>?_);rotate_left
 .exact zDW
 obtain⟨d,m2,M,rfl,rfl⟩:=N;simp only[aE];refine af ?_;refine⟨⟨d,m2,⟨#[]⟩,j,m,g,lt,la,ci.length,lc,B,a5.length,C,D,ae.length,E⟩,?_,ZU,?_⟩
 .simp[cE,zb.ok,w8,kT,z4,Lt.kind,Lt.n,Lt.bits,Lt.text,Lt.ci,M,show(⟨#[]⟩:ByteArray).size=0 from rfl];simp only[and_assoc]
 .show ap _ [A,bt lb (F||m2) deep,kA r 0 [cv 6,.string ⟨#[]⟩,cv j,vi m,uv g,.string lt,.slice la ci.length lc,.slice B a5.length C,.slice D ae.length E,Nz,vi p]];exact bH
def node_k0(A)(hE:nM A)(x vs)(h:jD A x vs)(J:x.w<=274877906944)(H:∀y us,y∈x.ak->jD A y us->zp A y us)(E:x.kind≠1/\x.kind≠2/\x.kind≠3/\x.kind≠4/\x.kind≠5/\x.kind≠6/\x.kind≠7/\x.kind≠8/\x.kind≠9):fS A x vs:=by
 intro lb q r m0 deep;cases h with
 |@mk k s lit a5 ae ak p lv av tv a c bk o us wf hl bI bL ha hm hr lW=>
 simp only[Nd.kind]at E;have I:=hl;cases I with
 |@mk g j d lt ci la lc RI lo MD Te Tb Tc Td=>
 have K:=bI;have L:=bL;obtain⟨C,D,rfl,oU,eS⟩:=K;obtain⟨F,G,rfl,sr,N8⟩:=L;have bz:yd A ak a bk o us:=⟨ha,wf.many,hm,hr,λi y e=>H y (us i) (Zv e) (hr i y e)⟩;have DK:=wf.name;have bN:=wf.many;simp only[Nd.w]at J;obtain⟨m,B⟩:∃m,m=kP (.mk k s (.mk g j d lt ci) a5 ae ak p):=⟨_,rfl⟩;rw[<- B];rw[show kP (.mk k s (.mk g j d lt ci) a5 ae ak p)=w8 k s (.mk g j d lt ci) a5 ae ak (ak.map kP) by simp[kP,jz]]at B;show VC _ _ _ _ [kA r 0 (rA k s g j d lt la ci.length lc C a5.length D F ae.length G none 0 0 p),kA q 0 (rA k s g j d lt la ci.length lc C a5.length D F ae.length G a ak.length c p),A,bt lb m0 deep] _;obtain⟨M,N,O,Q,S,T,U,W,X⟩:=E;have aN:m=none:=by simp[B,w8,M,N,O,Q,S,T,U,W,X]
 refine af ?_;rw[A1 ((k:Int)=1)];refine af ?_;rw[A1 ((k:Int)=2)];refine af ?_;rw[A1 ((k:Int)=3)];refine af ?_;rw[A1 ((k:Int)=4)];refine af ?_;rw[A1 ((k:Int)=6)];refine af ?_;rw[A1 ((k:Int)=5)];refine af ?_;rw[A1 ((k:Int)=7)];refine af ?_;rw[A1 ((k:Int)=8)];refine af ?_;rw[A1 ((k:Int)=9)];exact El
end Go.Proofs.YtijnokbblmbpkaaGreatDoor

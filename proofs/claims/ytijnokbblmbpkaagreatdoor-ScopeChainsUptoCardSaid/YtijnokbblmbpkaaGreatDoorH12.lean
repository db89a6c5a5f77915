/-
  A part of the proof.
-/
import Derived.Test.YtijnokbblmbpkaaGreatDoorH11
import Derived.Test.YtijnokbblmbpkaaGreatDoorH4
import Derived.Test.YtijnokbblmbpkaaGreatDoorCards
import Derived.Test.YtijnokbblmbpkaaGreatDoorTie
import Derived.OpenShut
import Derived.Deep.DeepHandedRow
import Derived.Deep.DeepWitnessRowRef
import Derived.Lib.LaidTab
import Derived.JoinedCond
import Derived.Lay
import Derived.LaidSub
import Derived.LaidHandle
import Derived.Stop.LaidErr
import Derived.KernelRfl
import Derived.Test.YtijnokbblmbpkaaGreatDoorH6
import Derived.Test.YtijnokbblmbpkaaGreatDoorProg
import Derived.Test.YtijnokbblmbpkaaGreatDoorH5
set_option linter.all false
set_option maxRecDepth 100000
set_option maxHeartbeats 12800000
namespace Go.Proofs.YtijnokbblmbpkaaGreatDoor
open Go Go.V Go.ChangeShapes Go.WideShapes Go.Deep
section
variable {H:Type} {enc:TypeId×Value->H}
def u3:Tryz.prog.underlying 3=some (.int .i64):=by kernel_rfl
def u4:Tryz.prog.underlying 4=some .bool:=by kernel_rfl
def u9:Tryz.prog.underlying 9=some .string:=by kernel_rfl
def u22:Tryz.prog.underlying 22=some (.slice 9):=by kernel_rfl
def u23:Tryz.prog.underlying 23=some (.slice 72):=by kernel_rfl
def u68:Tryz.prog.underlying 68=some (.slice 70):=by kernel_rfl
noncomputable def fs70:Array Field:=match pg9.underlying 70 with|some (.struct fs)=>fs|_=>#[]
def u70:Tryz.prog.underlying 70=some (.struct fs70):=by kernel_rfl
noncomputable def fs72:Array Field:=match pg9.underlying 72 with|some (.struct fs)=>fs|_=>#[]
def u72:Tryz.prog.underlying 72=some (.struct fs72):=by kernel_rfl
def litT:LitT pg9 70 68:=⟨⟨fs70,u70,by kernel_rfl,66,2,67,9,by kernel_rfl,by kernel_rfl,by kernel_rfl,by kernel_rfl,by kernel_rfl,by kernel_rfl,by kernel_rfl,by kernel_rfl,by kernel_rfl,by kernel_rfl⟩,by kernel_rfl,u68⟩
def nodT:NodT pg9 72 70 23 22:=⟨⟨fs72,u72,by kernel_rfl,65,9,3,by kernel_rfl,by kernel_rfl,by kernel_rfl,by kernel_rfl,by kernel_rfl,by kernel_rfl,by kernel_rfl,u22⟩,by kernel_rfl,by kernel_rfl,by kernel_rfl,by kernel_rfl,u23⟩
noncomputable def ms50:Array (String×TypeId):=match pg9.underlying 50 with|some (.interface ms)=>ms|_=>#[]
def u50:Tryz.prog.underlying 50=some (.interface ms50):=by kernel_rfl
def π:NH pg9 [2,3,4,9,22,23,25,65,66,67,68,70,72]=true:=by kernel_rfl
def ο:tE pg9 (·∈[2,3,4,9,22,23,25,65,66,67,68,70,72]):=Pk π
def own:ownKnob pg9.godebug=none:=by kernel_rfl
def Ug(d:DataW H):1<=Rows.uptoBulk d:=by
 cases d with
 |lit l=>cases l<;>simp[Rows.uptoBulk]
 |_=>simp[Rows.uptoBulk]
def Ue(l:List (DataW H)):l.length<=Rows.uptoBulkAll l:=by
 induction l with
 |nil=>simp
 |cons d r ih=>
  have:=Ug d;simp only[Rows.uptoBulkAll,Q0];omega
def Iy {d:DataW H}{l:List (DataW H)}(h:d∈l):Rows.uptoBulk d<=Rows.uptoBulkAll l:=by
 induction l with
 |nil=>cases h
 |cons y r ih=>
  simp only[Rows.uptoBulkAll];exact zCW
def Iz(l:List (DataW H)):(l.map Rows.uptoBulk).sum=Rows.uptoBulkAll l:=by
 induction l with
 |nil=>rfl
 |cons d r ih=>simp only[QE,List.sum_cons,ih,Rows.uptoBulkAll]
def Bg:Tq (Rows.uptoBulk (H:=H)) where
 agg l d h:=by have:=Iy h;simp only[Rows.uptoBulk];omega
 sl es sp d h:=by have:=Iy h;simp only[Rows.uptoBulk];omega
 len es sp:=by have:=Ue es;simp only[Rows.uptoBulk];omega
 str bs:=by simp only[Rows.uptoBulk];omega
 sls es sp:=by rw[Iz];simp only[Rows.uptoBulk];omega
 aggs l:=by rw[Iz];simp only[Rows.uptoBulk];omega
def gEr : pg9.globalNamed "strconv.ErrRange" = some 5 := by kernel_rfl
def gErT:(pg9.globals[5]?).map (·.type)=some 50:=by kernel_rfl
def gRen:Tryz.sl174_ren.g 16=5:=by kernel_rfl
def XO {W : World} {d : DataW Unit} {r : List (String × DataW Unit)} (h : laidMet pg9 (("strconv.ErrRange", d) :: r) W) (H : ∃ nm e, d = .iface nm e) {A : List kC} (F : ∀ a : kC, a.holds W → a ∈ A) : nM A := by
 obtain⟨nm,e,rfl⟩:=H;obtain⟨ps,⟨g0,t0,j,f0,p0,q0,q,s,C,m,_,e0⟩,_,D⟩:=h;obtain rfl:=X8 (gEr.symm.trans q);obtain rfl:=X8 (gErT.symm.trans s);subst e0;have B:∃g pe,j=#[.iface g pe]:=by
  obtain⟨_,g,pe,I,_,_⟩:=iface_of_trod u50 m;exact⟨g,pe,by rw[<- I]⟩
 obtain⟨g,pe,rfl⟩:=B;obtain⟨⟨c,t,G⟩,_⟩:=D 5 0 (by simp[MemPlace.row]);refine⟨.iface g pe,?_,.inr ⟨g,pe,rfl⟩⟩;rw[gRen];have E:W.cell? ⟨5,0,none⟩=some (.iface g pe):=by simpa using World.var?_cell gEr C 0
 refine F _ (Go.V.cH E ?_);unfold World.frozen?;rw[G];simp
noncomputable def aad:Array Field:=match pg9.underlying 25 with|some (.struct fs)=>fs|_=>#[]
def u25:Tryz.prog.underlying 25=some (.struct aad):=by kernel_rfl
def fs25s:aad.size=5:=by kernel_rfl
def I2:(aad.toList.map λf=>(f.type,f.offset))=[(9,0),(22,1),(22,2),(3,3),(23,4)]:=by kernel_rfl
def c9:Tryz.prog.cellsOf 9=1:=by kernel_rfl
def c22:Tryz.prog.cellsOf 22=1:=by kernel_rfl
def c3:Tryz.prog.cellsOf 3=1:=by kernel_rfl
def c23:Tryz.prog.cellsOf 23=1:=by kernel_rfl
def c25:Tryz.prog.cellsOf 25=5:=by kernel_rfl
def c72:Tryz.prog.cellsOf 72=11:=by kernel_rfl
def md_form {W:World}{base:Nat}{v:Value}(d:Value.okWide pg9 W .any base 25 v):∃cs:List Value,v=.agg cs.toArray:=by
 simp only[Value.okWide,u25]at d;obtain⟨cs,rfl,_⟩:=d;exact⟨cs.toList,Zs⟩
def rd_md {W:World}{A:List kC}(C:∀a:kC,a.holds W->a∈A)(n:Nat)(cs:List Value)(x:DataW H×List MemPlace)(Z:Rows.uptoBulk x.1<=1048576)(h:DataW.trod enc pg9 W 0 (λ_=>true) true n 25 cs=some x)(hf:W.noneFrozen x.2):∃m:Md,Nr A m cs/\(∀a c,cs[4]? =some (.slice a m.body.length c)->m.body.length<=c)/\(Nd.ws m.body<=Rows.uptoBulk x.1/\m.a5.length<=Rows.uptoBulk x.1/\m.ae.length<=Rows.uptoBulk x.1):=by
 obtain⟨ys,k,_,rfl,hlen,cS,hfld⟩:=DataW.trod_struct u25 h;rw[c25]at hlen
 replace Z:Rows.uptoBulk (.agg (ys.map (·.1)))<=1048576:=Z
 have q:∀(i:Nat) (F off:Nat),(aad.toList.map λf=>(f.type,f.offset))[i]? =some (F,off)->DataW.trod enc pg9 W 0 (λ_=>true) true k F ((cs.drop off).take (pg9.cellsOf F))=ys[i]?:=λi F off hi=>by
  exact zCI
 have hyl5:ys.length=5:=by rw[cS];exact fs25s
 have j:∀i,i<5->ys[i]? =some (ys.getD i (.nil,[])):=λi hi=>by
  rw[Vh,Zg Zo];rfl
 have X:=(q 0 9 0 (by rw[I2];rfl)).trans (j 0 Zo);have G:=(q 1 22 1 (by rw[I2];rfl)).trans (j 1 Zo);have I:=(q 2 22 2 (by rw[I2];rfl)).trans (j 2 Zo);have Y:=(q 3 3 3 (by rw[I2];rfl)).trans (j 3 Zo);have J:=(q 4 23 4 (by rw[I2];rfl)).trans (j 4 Zo);rw[c9]at X;rw[c22]at G I;rw[c3]at Y;rw[c23]at J;obtain⟨s,e0,d0,_⟩:=DataW.trod_string u9 X;obtain⟨z3,e3,_,w3⟩:=DataW.trod_int u3 Y;have B:∀i,i<5->Rows.uptoBulk (ys.getD i (.nil,[])).1<Rows.uptoBulk (.agg (ys.map (·.1))):=λi hi=>Bg.agg _ _ (QO.2 ⟨_,Zv (j i hi),rfl⟩)
 have N:∀i,i<5->W.noneFrozen (ys.getD i (.nil,[])).2:=λi hi b o L=>hf b o (Bt (j i hi) L)
 obtain⟨v1,e1⟩:∃v,(cs.drop 1).take 1=[v]:=Q3.1 tK;obtain⟨v2,e2⟩:∃v,(cs.drop 2).take 1=[v]:=Q3.1 tK;obtain⟨v4,e4⟩:∃v,(cs.drop 4).take 1=[v]:=Q3.1 tK;rw[e1]at G;rw[e2]at I;rw[e4]at J;have l1:=B 1 Zo;have l2:=B 2 Zo;have l4:=B 4 Zo;obtain⟨a5,T,K⟩:=oH Bg u22 u9 c9 G (N 1 Zo) C Zo;obtain⟨ae,O,E⟩:=oH Bg u22 u9 c9 I (N 2 Zo) C Zo;obtain⟨a,kk,c,bk,o,us,D,Pl,m,rfl,⟨hk,lX,hkc⟩,ha,hi⟩:=AI Bg u23 c72 Zd J (N 4 Zo) C;obtain⟨l,hl,hq⟩:=gW (α:=Nd) (Q:=λi y=>jD A y (us i)/\y.w<=Rows.uptoBulk (D i)) (n:=kk) (λi ZQ=>by
  obtain⟨q1,_,_,q4,q5⟩:=hi i ZQ;exact rd_node Bg nodT litT C (Rows.uptoBulk (D i)) m (us i) (D i,Pl i) (Qs _) Zo q4 q5)
 have b3:=wf_i64 w3;have ZV:s.size<=1048576:=by
  have h3:=B 0 Zo;have e:(ys.getD 0 (.nil,[])).1=.lit (.string s.data.toList):=congrArg Prod.fst d0;rw[e]at h3;have h5:=Bg.str (H:=H) s.data.toList;have e2:s.data.toList.length=s.size:=by simp
  omega
 have hsz4:Nd.ws l<=Rows.uptoBulk (ys.getD 4 (.nil,[])).1:=by
  refine Qu (Nd.ws_le (f:=λi=>Rows.uptoBulk (D i)) (o:=0) (λi x M=>?_)) ?_
  .rw[Qz];exact(hq i x M).2
  .rw[hl];exact lX
 have S:cs=[.string s,v1,v2,vi z3,.slice a l.length c]:=zBR
 have g:=T;have d:=O;obtain⟨aa,ac,rfl,_,_⟩:=g;obtain⟨ta,tc,rfl,_,_⟩:=d;refine⟨⟨s,a5,ae,z3,l⟩,⟨⟨aa,ac,ta,tc,a,c,bk,o,us,S,T,O,⟨λhp=>ha (by simp only at hp;omega),by simp only;omega,λi ck=>(hi i (by simp only at ck;omega)).2.2.1,λi x M=>(hq i x M).1⟩⟩,by simp only;omega,b3⟩,λa' c' U=>?_,?_⟩
 .rw[S]at U;simp only[Vm,Vn,X9,Value.slice.injEq]at U;simp only;omega
 show Nd.ws l<=Rows.uptoBulk (.agg (ys.map (·.1)))/\a5.length<=Rows.uptoBulk (.agg (ys.map (·.1)))/\ae.length<=Rows.uptoBulk (.agg (ys.map (·.1)));omega
def Nb {W:World}{base:Nat}{v:Value}{d:DataW H}{p:List MemPlace}(C:Value.okWide pg9 W .any base 22 v)(h:DataW.Trod enc pg9 W 0 (λ_=>true) true 22 v d p)(m:Rows.uptoBulk d<=1048576)(q:W.noneFrozen p){A:List kC}(j:∀a:kC,a.holds W->a∈A):∃l:List ByteArray,dU A v l:=by
 obtain⟨n,s⟩:=h;have B:v.cells=#[v]:=by
  cases v<;>simp only[Value.okWide,u22,Cell.okWide,Cell.ok]at C<;>rfl
 have D:DataW.trod enc pg9 W 0 (λ_=>true) true n 22 [v]=some (d,p):=by simpa[B]using s
 obtain⟨l,g,_⟩:=oH Bg u22 u9 c9 D q j m;exact⟨l,g⟩
def witZ {C:Checked}{A:Os}{f:FuncId}{fn:Func}{s:OpenSpec}{j:List PathCond}{g:Bool}{laid:List (String×DataW Unit)}(w0:World)(a5:Array Value)(m:w0.os=A)
 (D:(w0.forCall (λ_ _=>0) ⟨#[],a5,[]⟩).Shaped C.prog) (q:Input.okWideB C.prog (w0.forCall (λ_ _=>0) ⟨#[],a5,[]⟩) f ⟨#[],a5,[]⟩=true)
 (B:s.preRow enc C.prog fn j g laid (w0.forCall (λ_ _=>0) ⟨#[],a5,[]⟩).memory a5):
 ∃(w:World) (d:Tape) (i:Input),w.os=A/\(w.forCall d i).Shaped C.prog/\i.vars=[]/\Input.okWide C.prog (w.forCall d i) .any w.heap.size f i/\
  s.preRow enc C.prog fn j g laid (w.forCall d i).memory i.args/\({modest:=false}:Assume).holds C.prog (lone (Frame.enter C.prog f i.args .normal) [] (w.forCall d i)):=
 ⟨w0,λ_ _=>0,⟨#[],a5,[]⟩,m,D,(Input.okWide_of_okWideB (base:=0) q).1,(Input.okWide_of_okWideB q).2,B,by
   simp only[Assume.holds];exact⟨Zs,Zs,λ_=>Modest.zero,Zs,Zs⟩⟩
def gErr : pg9.globalNamed "errors.errorType" = some 0 := by kernel_rfl
def hRt : (pg9.cutTypes.find? (·.1 == "internal/reflectlite.rtype")).map (·.2) = some 242 := by kernel_rfl
def hOne:((List.range pg9.types.size).filter λt=>Tryz.prog.rowNamed t [101,114,114,111,114])=[50]:=by kernel_rfl
def hZero:(((begin pg9 (λ_ _=>0) default).world.heap[0]?).bind Obj.row?).isSome=true:=by kernel_rfl
def hGlob:0<pg9.globals.size:=by decide+kernel
def hIn : ("errors.errorType", Rows.laid_errors_errorType) ∈ Rows.scopeSoundUptoRow.laid :=
 QK _ <|QK _ <|QK _ <|QK _ <|QL ..
def UE {W:World}(h:laidMetH pg9 Rows.scopeSoundUptoRow.laid W):W.cell? ⟨0,0,none⟩=some (.iface 242 (.agg #[.pointer (some ⟨9,50,none⟩)])):=by
 obtain ⟨_, B⟩ := laidMetH_iff.1 h;obtain ⟨name, u, D, j, m, q, s, d⟩ := B ("errors.errorType", Rows.laid_errors_errorType) (QM.2 ⟨hIn, rfl⟩);have A : name = [101, 114, 114, 111, 114] := (X8 j).symm;subst A;obtain rfl := X8 (hRt.symm.trans m);have g : D ∈ (List.range pg9.types.size).filter λt => pg9.rowNamed t [101, 114, 114, 111, 114] := QM.2 ⟨QS.2 q, s⟩
 rw[hOne]at g;obtain rfl:=QU.1 g;have C:typeHandle pg9 50=.pointer (some ⟨9,50,none⟩):=by kernel_rfl
 rw[C]at d;simpa using World.var?_cell gErr d 0
def err_in {W:World}(h:laidMetH pg9 Rows.scopeSoundUptoRow.laid W)(B:W.ShapedOpen pg9){A:List kC}(s:∀a:kC,a.holds W->a∈A):EtA∈A:=by
 obtain⟨⟨z,j⟩,d⟩:=X4.1 hZero;obtain⟨cs,g,hz,_⟩:=B.1 0 z j hGlob d;have m:=UE h;have q:cs[0]? =some (.iface 242 (.agg #[.pointer (some ⟨9,50,none⟩)])):=by simpa[World.cell?,g]using m
 exact s _ ⟨cs,j,0,0,g,q,Zo⟩
noncomputable def Cr:List (String×DataW Unit):=Rows.scopeSoundUptoRow.laid.filter λx=>x.2.handleName?.isNone
noncomputable def w00(os:Os):World:=
 let w:=World.holding pg9 os ⟨#[],#[],[]⟩
 {w with heap:=w.heap.modify 0 fun
    |.cells _ t frozen=>.cells #[.iface 242 (.agg #[.pointer (some ⟨9,50,none⟩)])] t frozen
    |o=>o}
noncomputable def wW(os:Os):World:=(w00 os).layVars pg9 Cr
def wW_os(d:Os):(wW d).os=d:=World.layVars_os _ _ _
def wW_fits(d:Os):(w00 d).layFits pg9 Cr []=true:=by kernel_rfl
def SI(d:Os):(w00 d).layIfaces pg9 Cr (wW d)=true:=by kernel_rfl
def wW_laid(d:Os)(a5:Array Value):laidMet pg9 Cr ((wW d).forCall (λ_ _=>0) ⟨#[],a5,[]⟩).memory:=by
 have g:(Cr.filter λx=>(Cr.map (·.1)).contains x.1)=Cr:=V7.2 λx j=>vr.2 (QO.2 ⟨x,j,rfl⟩)
 have m:(Cr.filter λx=>!(Cr.map (·.1)).contains x.1)=[]:=V6.2 λx j=>by rw[vr.2 (QO.2 ⟨x,j,rfl⟩)];simp
 have h:laidMet pg9 Cr (wW d):=laidMet_layVars (w0:=w00 d) (Cr.map (·.1)) [] (by rw[g];rfl) (by rw[g];exact wW_fits d) (by rw[g];exact SI d) (by rw[m];exact LaidIn.none);exact h.of_heap (by simp[World.memory,World.forCall,Input.heap])
def lib_in {W:World}(h:laidMetH pg9 Rows.scopeSoundUptoRow.laid W){A:List kC}(j:∀a:kC,a.holds W->a∈A):nM A:=by
 obtain ⟨d, _⟩ := laidMetH_iff.1 h;have g : laidMet pg9 [("math/bits.deBruijn32tab", Rows.laid_math_bits_deBruijn32tab), ("math/bits.deBruijn64tab", Rows.laid_math_bits_deBruijn64tab), ("internal/strconv.uint64pow10", Rows.laid_internal_strconv_uint64pow10), ("unicode/utf8.acceptRanges", Rows.laid_unicode_utf8_acceptRanges), ("strconv.ErrRange", Rows.laid_strconv_ErrRange), ("strconv.ErrSyntax", Rows.laid_strconv_ErrSyntax), ("unicode/utf8.first", Rows.laid_unicode_utf8_first)] W := d;exact XO (laidMet.tail (laidMet.tail (laidMet.tail (laidMet.tail g)))) ⟨_, _, rfl⟩ j
end
open Go Go.V
noncomputable section
def F139:aP:=aZ (o:=gF pq Tryz.f139 [])
def low139:Zo9 139 [] F139:=Zx9
def F80:aP:=aZ (o:=gF pq Tryz.f80 [])
def low80:Zo9 80 [] F80:=Zx9
def F32:aP:=aZ (o:=gF pq Tryz.f32 [])
def low32:Zo9 32 [] F32:=Zx9
def F220:aP:=aZ (o:=gF pq Tryz.f220 [])
def low220:Zo9 220 [] F220:=Zx9
def F190:aP:=aZ (o:=gF pq Tryz.f190 [])
def low190:Zo9 190 [] F190:=Zx9
def F97:aP:=aZ (o:=gF pq Tryz.f97 [(4,[.range 6])])
def low97:Zo9 97 [(4,[.range 6])] F97:=Zx9
def F191:aP:=aZ (o:=gF pq Tryz.f191 [])
def low191:Zo9 191 [] F191:=Zx9
def F156:aP:=aZ (o:=gF pq Tryz.f156 [(4,[.range 13])])
def low156:Zo9 156 [(4,[.range 13])] F156:=Zx9
def F157:aP:=aZ (o:=gF pq Tryz.f157 [])
def low157:Zo9 157 [] F157:=Zx9
def F95:aP:=aZ (o:=gF pq Tryz.f95 [(12,[.range 11])])
def low95:Zo9 95 [(12,[.range 11])] F95:=Zx9
def F189:aP:=aZ (o:=gF pq Tryz.f189 [])
def low189:Zo9 189 [] F189:=Zx9
def F96:aP:=aZ (o:=gF pq Tryz.f96 [])
def low96:Zo9 96 [] F96:=Zx9
def F44:aP:=aZ (o:=gF pq Tryz.f44 [(3,[.range 13])])
def low44:Zo9 44 [(3,[.range 13])] F44:=Zx9
abbrev o221:Zo8:=[(11,[[0,1,2,3],[0,2,1,3]])]
def F221:aP:=aZ (o:=gF pq Tryz.f221 o221)
def low221:Zo9 221 o221 F221:=Zx9
abbrev o188:Zo8:=[(16,[.range 15,[0,2,3,4,5,6,7,8,9,10,1,11,12,13,14]])]
def F188:aP:=aZ (o:=gF pq Tryz.f188 o188)
def low188:Zo9 188 o188 F188:=Zx9
abbrev o158:Zo8:=[(11,[[0,2,3,4,5,6,1,7,8,9],[0,2,3,4,5,6,7,1,8,9],[2,3,4,5,6,7,0,1,8,9]]),(19,[.range 10,[0,2,3,4,5,6,7,1,8,9]]),(25,[.range 11,[0,2,3,4,5,6,7,1,8,9,10]]),(28,[.range 11,[0,2,3,4,5,6,7,8,1,9,10]]),(29,[.range 10,[0,2,3,4,5,6,7,1,8,9]])]
def F158:aP:=aZ (o:=gF pq Tryz.f158 o158)
def low158:Zo9 158 o158 F158:=Zx9
end
noncomputable section
abbrev o45:Zo8:=[(5,[.range 16]),(6,[.range 16]),(7,[.range 14]),(11,[.range 16]),(15,[.range 20,[0,1,2,4,5,6,7,8,9,10,11,12,13,14,15,16,17,3,18,19]]),(19,[.range 13,[0,1,2,3,5,6,7,4,8,9,10,11,12]])]
def F45:aP:=aZ (o:=gF pq Tryz.f45 o45)
def low45:Zo9 45 o45 F45:=Zx9
abbrev o98:Zo8:=[(13,[.range 12]),(19,[.range 12])]
def F98:aP:=aZ (o:=gF pq Tryz.f98 o98)
def low98:Zo9 98 o98 F98:=Zx9
def F99:aP:=aZ (o:=gF pq Tryz.f99 [])
def low99:Zo9 99 [] F99:=Zx9
abbrev o100:Zo8:=[(5,[.range 16,[0,1,2,3,4,5,7,8,10,11,12,6,9,13,14,15],[0,1,2,4,7,8,10,11,12,3,5,6,9,13,14,15]]),(9,[.range 6])]
def F100:aP:=aZ (o:=gF pq Tryz.f100 o100)
def low100:Zo9 100 o100 F100:=Zx9
abbrev o159:Zo8:=[(5,[.range 14,[0,1,2,3,4,6,7,8,5,9,10,11,12,13]]),(6,[.range 24,[0,1,2,3,4,5,7,8,9,10,6,11,12,13,14,15,16,17,18,19,20,21,22,23],[0,1,2,4,7,8,9,10,3,5,6,11,12,13,14,15,16,17,18,19,20,21,22,23],[0,1,2,3,4,5,7,8,9,10,11,12,13,6,14,15,16,17,18,19,20,21,22,23],[0,1,2,4,7,8,9,10,3,5,11,12,13,6,14,15,16,17,18,19,20,21,22,23],[0,1,2,4,7,8,9,10,11,12,13,3,5,6,14,15,16,17,18,19,20,21,22,23],[0,1,2,3,4,5,7,8,9,10,11,12,13,14,16,17,18,6,15,19,20,21,22,23],[0,1,2,4,7,8,9,10,3,5,11,12,13,14,16,17,18,6,15,19,20,21,22,23],[0,1,2,4,7,8,9,10,11,12,13,3,5,14,16,17,18,6,15,19,20,21,22,23],[0,1,2,4,7,8,9,10,11,12,13,14,16,17,18,3,5,6,15,19,20,21,22,23],[0,1,2,3,4,5,7,8,9,10,11,12,13,14,16,17,18,19,20,6,15,21,22,23],[0,1,2,4,7,8,9,10,3,5,11,12,13,14,16,17,18,19,20,6,15,21,22,23],[0,1,2,4,7,8,9,10,11,12,13,3,5,14,16,17,18,19,20,6,15,21,22,23],[0,1,2,4,7,8,9,10,11,12,13,14,16,17,18,3,5,19,20,6,15,21,22,23],[0,1,2,4,7,8,9,10,11,12,13,14,16,17,18,19,20,3,5,6,15,21,22,23],[0,1,2,3,4,5,6,7,8,9,10,11,12,16,17,18,13,14,15,19,20,21,22,23],[0,1,2,3,4,5,7,8,9,10,6,11,12,16,17,18,13,14,15,19,20,21,22,23],[0,1,2,4,7,8,9,10,3,5,6,11,12,16,17,18,13,14,15,19,20,21,22,23],[0,1,2,3,4,5,7,8,9,10,11,12,16,17,18,6,13,14,15,19,20,21,22,23],[0,1,2,4,7,8,9,10,3,5,11,12,16,17,18,6,13,14,15,19,20,21,22,23],[0,1,2,4,7,8,9,10,11,12,16,17,18,3,5,6,13,14,15,19,20,21,22,23],[0,1,2,3,4,5,7,8,9,10,11,12,16,17,18,13,6,14,15,19,20,21,22,23],[0,1,2,4,7,8,9,10,3,5,11,12,16,17,18,13,6,14,15,19,20,21,22,23],[0,1,2,4,7,8,9,10,11,12,16,17,18,3,5,13,6,14,15,19,20,21,22,23],[0,1,2,4,7,8,9,10,11,12,16,17,18,13,3,5,6,14,15,19,20,21,22,23],[0,1,2,3,4,5,7,8,9,10,11,12,16,17,18,13,14,19,20,6,15,21,22,23],[0,1,2,4,7,8,9,10,3,5,11,12,16,17,18,13,14,19,20,6,15,21,22,23],[0,1,2,4,7,8,9,10,11,12,16,17,18,3,5,13,14,19,20,6,15,21,22,23],[0,1,2,4,7,8,9,10,11,12,16,17,18,13,3,5,14,19,20,6,15,21,22,23],[0,1,2,4,7,8,9,10,11,12,16,17,18,13,14,19,20,3,5,6,15,21,22,23],[0,1,2,3,4,5,6,7,8,9,11,16,17,18,10,12,13,14,15,19,20,21,22,23],[0,1,2,3,4,5,7,8,9,11,16,17,18,6,10,12,13,14,15,19,20,21,22,23],[0,1,2,4,7,8,9,11,16,17,18,3,5,6,10,12,13,14,15,19,20,21,22,23],[0,1,2,3,4,5,7,8,9,11,16,17,18,10,6,12,13,14,15,19,20,21,22,23],[0,1,2,4,7,8,9,11,16,17,18,3,5,10,6,12,13,14,15,19,20,21,22,23],[0,1,2,4,7,8,9,11,16,17,18,10,3,5,6,12,13,14,15,19,20,21,22,23],[0,1,2,3,4,5,7,8,9,11,16,17,18,10,12,13,6,14,15,19,20,21,22,23],[0,1,2,4,7,8,9,11,16,17,18,3,5,10,12,13,6,14,15,19,20,21,22,23],[0,1,2,4,7,8,9,11,16,17,18,10,3,5,12,13,6,14,15,19,20,21,22,23],[0,1,2,4,7,8,9,11,16,17,18,10,12,13,3,5,6,14,15,19,20,21,22,23],[0,1,2,3,4,5,7,8,9,11,16,17,18,10,12,13,14,19,20,6,15,21,22,23],[0,1,2,4,7,8,9,11,16,17,18,3,5,10,12,13,14,19,20,6,15,21,22,23],[0,1,2,4,7,8,9,11,16,17,18,10,3,5,12,13,14,19,20,6,15,21,22,23],[0,1,2,4,7,8,9,11,16,17,18,10,12,13,3,5,14,19,20,6,15,21,22,23],[0,1,2,4,7,8,9,11,16,17,18,10,12,13,14,19,20,3,5,6,15,21,22,23],[0,1,2,3,4,5,6,7,8,9,10,11,12,16,17,18,19,20,13,14,15,21,22,23],[0,1,2,3,4,5,7,8,9,10,6,11,12,16,17,18,19,20,13,14,15,21,22,23],[0,1,2,4,7,8,9,10,3,5,6,11,12,16,17,18,19,20,13,14,15,21,22,23],[0,1,2,3,4,5,7,8,9,10,11,12,16,17,18,6,19,20,13,14,15,21,22,23],[0,1,2,4,7,8,9,10,3,5,11,12,16,17,18,6,19,20,13,14,15,21,22,23],[0,1,2,4,7,8,9,10,11,12,16,17,18,3,5,6,19,20,13,14,15,21,22,23],[0,1,2,3,4,5,7,8,9,10,11,12,16,17,18,19,20,6,13,14,15,21,22,23],[0,1,2,4,7,8,9,10,3,5,11,12,16,17,18,19,20,6,13,14,15,21,22,23],[0,1,2,4,7,8,9,10,11,12,16,17,18,3,5,19,20,6,13,14,15,21,22,23],[0,1,2,4,7,8,9,10,11,12,16,17,18,19,20,3,5,6,13,14,15,21,22,23],[0,1,2,3,4,5,7,8,9,10,11,12,16,17,18,19,20,13,6,14,15,21,22,23],[0,1,2,4,7,8,9,10,3,5,11,12,16,17,18,19,20,13,6,14,15,21,22,23],[0,1,2,4,7,8,9,10,11,12,16,17,18,3,5,19,20,13,6,14,15,21,22,23],[0,1,2,4,7,8,9,10,11,12,16,17,18,19,20,3,5,13,6,14,15,21,22,23],[0,1,2,4,7,8,9,10,11,12,16,17,18,19,20,13,3,5,6,14,15,21,22,23],[0,1,2,3,4,5,6,7,8,9,11,16,17,18,10,12,19,20,13,14,15,21,22,23],[0,1,2,3,4,5,7,8,9,11,16,17,18,6,10,12,19,20,13,14,15,21,22,23],[0,1,2,4,7,8,9,11,16,17,18,3,5,6,10,12,19,20,13,14,15,21,22,23],[0,1,2,3,4,5,7,8,9,11,16,17,18,10,6,12,19,20,13,14,15,21,22,23],[0,1,2,4,7,8,9,11,16,17,18,3,5,10,6,12,19,20,13,14,15,21,22,23],[0,1,2,4,7,8,9,11,16,17,18,10,3,5,6,12,19,20,13,14,15,21,22,23],[0,1,2,3,4,5,7,8,9,11,16,17,18,10,12,19,20,6,13,14,15,21,22,23],[0,1,2,4,7,8,9,11,16,17,18,3,5,10,12,19,20,6,13,14,15,21,22,23],[0,1,2,4,7,8,9,11,16,17,18,10,3,5,12,19,20,6,13,14,15,21,22,23],[0,1,2,4,7,8,9,11,16,17,18,10,12,19,20,3,5,6,13,14,15,21,22,23],[0,1,2,3,4,5,7,8,9,11,16,17,18,10,12,19,20,13,6,14,15,21,22,23],[0,1,2,4,7,8,9,11,16,17,18,3,5,10,12,19,20,13,6,14,15,21,22,23],[0,1,2,4,7,8,9,11,16,17,18,10,3,5,12,19,20,13,6,14,15,21,22,23],[0,1,2,4,7,8,9,11,16,17,18,10,12,19,20,3,5,13,6,14,15,21,22,23],[0,1,2,4,7,8,9,11,16,17,18,10,12,19,20,13,3,5,6,14,15,21,22,23],[0,1,2,3,4,5,6,7,8,9,11,16,17,18,19,20,10,12,13,14,15,21,22,23],[0,1,2,3,4,5,7,8,9,11,16,17,18,6,19,20,10,12,13,14,15,21,22,23],[0,1,2,4,7,8,9,11,16,17,18,3,5,6,19,20,10,12,13,14,15,21,22,23],[0,1,2,3,4,5,7,8,9,11,16,17,18,19,20,6,10,12,13,14,15,21,22,23],[0,1,2,4,7,8,9,11,16,17,18,3,5,19,20,6,10,12,13,14,15,21,22,23],[0,1,2,4,7,8,9,11,16,17,18,19,20,3,5,6,10,12,13,14,15,21,22,23],[0,1,2,3,4,5,7,8,9,11,16,17,18,19,20,10,6,12,13,14,15,21,22,23],[0,1,2,4,7,8,9,11,16,17,18,3,5,19,20,10,6,12,13,14,15,21,22,23],[0,1,2,4,7,8,9,11,16,17,18,19,20,3,5,10,6,12,13,14,15,21,22,23],[0,1,2,4,7,8,9,11,16,17,18,19,20,10,3,5,6,12,13,14,15,21,22,23],[0,1,2,3,4,5,7,8,9,11,16,17,18,19,20,10,12,13,6,14,15,21,22,23],[0,1,2,4,7,8,9,11,16,17,18,3,5,19,20,10,12,13,6,14,15,21,22,23],[0,1,2,4,7,8,9,11,16,17,18,19,20,3,5,10,12,13,6,14,15,21,22,23],[0,1,2,4,7,8,9,11,16,17,18,19,20,10,3,5,12,13,6,14,15,21,22,23],[0,1,2,4,7,8,9,11,16,17,18,19,20,10,12,13,3,5,6,14,15,21,22,23]])]
def F159:aP:=aZ (o:=gF pq Tryz.f159 o159)
def low159:Zo9 159 o159 F159:=Zx9
def F101:aP:=aZ (o:=gF pq Tryz.f101 [])
def low101:Zo9 101 [] F101:=Zx9
end
def YU {v:Value}{n:Nat}{l:List (Nat×Int)}{sp:List Value}(h:ke 2 v n (l.flatMap jm) sp){i:Nat}{x:Nat×Int}(hx:l[i]? =some x):∃b o c,v=.slice (some ⟨b,o,none⟩) n c/\i < n/\(∀y∈kA b (o+i*2) (jm x),y∈aj v (l.flatMap jm) sp):=by
 have hl:=h.len;have cf:(l.flatMap jm).length=l.length*2:=xy (λx _=>rfl);have hi:=(Vt.1 hx).1;obtain⟨b,o,c,rfl,_,_⟩:=h.some Zo;refine⟨b,o,c,rfl,Zo,λy hy=>?_⟩;simp only[aj,j7];refine Zw _ ?_;exact zEI
def UB(m g:Nat)(q j:Int):(if false=true then !(decide ((m:Int)=(g:Int))&&(decide (q=j)&&true))else decide ((m:Int)=(g:Int))&&(decide (q=j)&&true))=decide ((m,q)=(g,j)):=by
 rw[if_neg Zd,vI,<- vJ];refine decide_eq_decide.2 ?_;rw[XA];constructor
 .rintro⟨s,d⟩;exact⟨Zo,d⟩
 .rintro⟨s,d⟩;exact⟨Zo,d⟩
def XI(l v sp)(s:ke 2 v l.length (l.flatMap jm) sp)(K:l.length < 2199023255552)(t):aq pg9 97 [v,.agg (jm t).toArray] [aj v (l.flatMap jm) sp] (λN dl=>∃q,ke 2 N (gw l t).length ((gw l t).flatMap jm) q/\dl=[aj N ((gw l t).flatMap jm) q]):=by
 obtain⟨d,g⟩:=t;rw[show jm (d,g)=[vi (d:Int),vi g]from rfl];have D:=λi x h=>YU s (i:=i) (x:=x) h
 obtain⟨a,c,rfl⟩:=s.form;refine aq.intro low97 Zn9 ?_;refine af ?_;refine kZ Zr (λM=>?_);simp only[Value.cells];refine af ?_;refine VC.loop (α:=Nat) (bg:=λj=>[(0,.slice a l.length c),(3,kE M),(5,vi j)]) (Hf:=λ_=>[kA M 0 [vi (d:Int),vi g],aj (.slice a l.length c) (l.flatMap jm) sp]) (I:=λj=>j<=l.length/\(d,g)∉l.take j) (μ:=λj=>l.length-j) 0 ⟨X0 _,Zs⟩ ZU ZI ?_
 rintro j ⟨hj,B⟩
 refine af ?_;by_cases aI:j<l.length;rotate_left
 .rw[A1 ((j:Int) < (l.length:Int))];rw[Ql Zo]at B;have C:gw l (d,g)=l++[(d,g)]:=by unfold gw;rw[if_neg B]
  rw[C];refine af ?_;refine kV (out:=[vi (d:Int),vi g]) Zr Zr (λr=>?_);refine kX (k:=l.length) (m:=1) (xs:=l.flatMap jm) (sp:=sp) (ys:=[vi (d:Int),vi g]) Zr Zr s ZK Zr ?_ rfl Zr Zr Zd Zo (λbZ q A=>?_)
  .exact l9
  have S:(l.flatMap jm++[vi (d:Int),vi g]:List Value)=(l++[(d,g)]).flatMap jm:=by rw[V9];rfl
  rw[S]at A|-;obtain⟨H,J,rfl⟩:=A.form;refine af ?_;have T:ke 2 (.slice H (l.length+1) J) (l++[(d,g)]).length ((l++[(d,g)]).flatMap jm) q:=by
   rw[Vz];exact A
  exact kG (dl:=[aj (.slice H (l.length+1) J) ((l++[(d,g)]).flatMap jm) q]) (.inr rfl) zT1 ⟨q,T,rfl⟩ ZI
 rw[A0 ((j:Int) < (l.length:Int))];obtain⟨⟨F,G⟩,E⟩:∃x,l[j]? =some x:=⟨_,Zg aI⟩;obtain⟨b,o,c',L,_,Q⟩:=D j _ E;rw[Value.slice.injEq]at L;obtain⟨rfl,_,rfl⟩:=L;have O:l.take (j+1)=l.take j++[(F,G)]:=by rw[Qi,E];rfl
 refine af ?_;refine kR (us:=[vi (F:Int),vi G]) Zr (λz U=>by have:=Q z U;simp[this]) rfl ?_;refine af ?_;rw[UB];by_cases e:(F,G)=(d,g)
 .rw[Zt e];have C:gw l (d,g)=l:=by unfold gw;rw[if_pos (by rw[<- e];exact Zv E)]
  rw[C];refine af ?_;exact kG (dl:=[aj (.slice (some ⟨b,o,none⟩) l.length c) (l.flatMap jm) sp]) (.inr rfl) zT1 ⟨sp,s,rfl⟩ ZI
 .rw[Zf e];refine af ?_;refine⟨j+1,⟨Zo,?_⟩,Zo,ZU,ZI⟩;rw[O,QH,QU]
  rintro(k|k)
  .exact B k
  .exact e k.symm
def oz(T:List kC)(q:Nat)(st:ai)(vv rv:Value)(m2:kC.cell q 2 vv∈T)(m9:kC.cell q 9 rv∈T)(K:wn 4 Y7 T vv st.vars)(Z:wn 1 La T rv ((List.range st.vars.length).map st.rem))(xE:st.vars.length < 2199023255552)(u:Nat)(r:Bool):
 aq Tryz.prog 99 [kE q,.int .i64 (u:Int),.bool r] [T] (λv dl=>∃sp,ke 1 v (st.bi u r).length ((st.bi u r).map λb:Nat=>Value.int .i64 (b:Int)) sp/\dl=[T,aj v ((st.bi u r).map λb:Nat=>Value.int .i64 (b:Int)) sp]):=by
 obtain⟨va,vc,O⟩:=yS K;refine aq.intro low99 Zn9 ?_;refine af ?_;refine VC.loop (α:=Nat×Value×List Value) (bg:=λs=>[(0,kE q),(1,vi (u:Int)),(2,.bool r),(7,s.2.1),(8,vi s.1)])
  (Hf:=λs=>[T,aj s.2.1 (((List.range s.1).filter (λv=>decide (st.ah v=u)&&decide (st.aT v<0)&&decide (st.rem v=r))).map λb:Nat=>Value.int .i64 (b:Int)) s.2.2])
  (I:=λs=>s.1<=st.vars.length/\ke 1 s.2.1 ((List.range s.1).filter (λv=>decide (st.ah v=u)&&decide (st.aT v<0)&&decide (st.rem v=r))).length (((List.range s.1).filter (λv=>decide (st.ah v=u)&&decide (st.aT v<0)&&decide (st.rem v=r))).map λb:Nat=>Value.int .i64 (b:Int)) s.2.2)
  (μ:=λs=>st.vars.length-s.1) (0,Nz,[]) ⟨X0 _,.nil⟩ ZU (ap.cut (M:=[T]) ZI (ap.perm A4)) ?_
 rintro⟨j,sv,sp⟩ ⟨W,g⟩
 simp only at W g;dsimp only;obtain⟨F,G,rfl⟩:=g.form;have H:=Q5 (λv=>decide (st.ah v=u)&&decide (st.aT v<0)&&decide (st.rem v=r)) (List.range j);rw[Q8]at H;subst O;refine af ?_;by_cases aI:j<st.vars.length;rotate_left
 .rw[A1 ((j:Int) < (st.vars.length:Int))];obtain rfl:j=st.vars.length:=by omega
  refine af ?_;exact kG (dl:=[T,aj (.slice F (st.bi u r).length G) ((st.bi u r).map λb:Nat=>Value.int .i64 (b:Int)) sp]) (.inr rfl) (.tmp (v:=.slice F (st.bi u r).length G) Zr .nil) ⟨sp,g,rfl⟩ (by unfold ai.bi;exact bH)
 rw[A0 ((j:Int) < (st.vars.length:Int))];obtain⟨x,E⟩:∃x,st.vars[j]? =some x:=⟨_,Zg aI⟩;obtain⟨b,o,c,us,N,_,J,rfl⟩:=yG K E;rw[Value.slice.injEq]at N;obtain⟨rfl,_,rfl⟩:=N;have D:((List.range st.vars.length).map st.rem)[j]? =some (st.rem j):=by rw[Vu,Vw aI];rfl
 obtain⟨rb,ro,rc,rus,rfl,_,C,rfl⟩:=yG Z D;have c1:kC.cell b (o+j*4+1) (vi (x.cg:Int))∈T:=J _ (kI.2 ⟨1,_,rfl,Zs⟩);have c3:kC.cell b (o+j*4+3) (vi x.own)∈T:=J _ (kI.2 ⟨3,_,rfl,Zs⟩);have cr:kC.cell rb (ro+j) (.bool (st.rem j))∈T:=C _ (kI.2 ⟨0,_,rfl,Zs⟩);have Y:=ye E;have X:=gu E;have d:=Ju st u r j;generalize hL:(List.range j).filter (λv=>decide (st.ah v=u)&&decide (st.aT v<0)&&decide (st.rem v=r))=L at g d H|-;rw[Y,X]at d;refine af ?_;refine VO.bool 49 (decide (x.cg=u)&&decide (x.own<0)&&decide (st.rem j=r)) Zr ?_ ?_
 .by_cases k1:x.cg=u
  .rw[A0 ((x.cg:Int)=(u:Int)),Zt k1];refine af ?_;by_cases k2:x.own<0
   .rw[Zt k2];refine af ?_;rw[show((if false=true then !(st.rem j==r)else st.rem j==r):Bool)=decide (st.rem j=r)from by cases st.rem j<;>cases r<;>rfl];exact⟨Zr,ZU,ZI⟩
   .rw[Zf k2];refine af ?_;exact⟨Zr,ZU,ZI⟩
  .rw[A1 ((x.cg:Int)=(u:Int)),Zf k1];refine af ?_;exact⟨Zr,ZU,ZI⟩
 generalize hp:(decide (x.cg=u)&&decide (x.own<0)&&decide (st.rem j=r))=pb at d|-;cases pb with
 |false=>
  rw[if_neg Zd,vm]at d;refine af ?_;exact⟨(j+1,.slice F L.length G,sp),⟨by simp only;omega,by simp only;rw[d];exact g⟩,by simp only;omega,ZU,by simp only;rw[d];exact bH⟩
 |true=>
  rw[if_pos rfl]at d;refine af ?_;refine kV (out:=[vi (j:Int)]) Zr Zr (λr2=>?_);refine kX (k:=L.length) (m:=1) (xs:=L.map λb:Nat=>Value.int .i64 (b:Int)) (sp:=sp) (ys:=[vi (j:Int)]) Zr Zr g ZK Zr ?_ rfl Zr Zr Zd Zo (λbZ Q B=>?_)
  .exact l9
  have A:(L.map (λb:Nat=>Value.int .i64 (b:Int))++[vi (j:Int)]:List Value)=(L++[j]).map λb:Nat=>Value.int .i64 (b:Int):=by rw[QC];rfl
  rw[A]at B|-;obtain⟨S,U,rfl⟩:=B.form;refine af ?_;exact⟨(j+1,.slice S (L.length+1) U,Q),⟨by simp only;omega,by simp only;rw[d,Vz];exact B⟩,by simp only;omega,ZU,by simp only;rw[d];exact bH⟩
def IJ(T q st)(wf:Wf st)(ov av nv)(m3:kC.cell q 3 ov∈T)(m4:kC.cell q 4 av∈T)(m10:kC.cell q 10 nv∈T)(H9:wn 1 WI T ov st.a7)(bI:wn 1 Xc T av st.a5)(N)(hnv:wn 1 (Cs T) T nv N)(u)(hu:u < st.a7.length)(nl)(hN:N[u]? =some nl)(rU:nl.Nodup)(hm:∀t,t∈nl↔st.aD u t=true)(ZS:st.a7.length < 1073741824)(oU:∀j,st.a5.getD j 0 < 1073741824)(n9:(st.a9 u).length < 2199023255552)(hnl:nl.length < 2199023255552):
 aq pg9 98 [kE q,vi (u:Int)] [T] (λv dl=>∃B sp,ke 2 v (st.a9 u).length ((st.a9 u).flatMap jm) sp/\dl=[T,B,aj v ((st.a9 u).flatMap jm) sp]):=by
 obtain⟨oa,oc,rfl⟩:=yS H9;obtain⟨aa,ac,rfl⟩:=yS bI;obtain⟨na,nc,rfl⟩:=yS hnv;have Rp:∀(i:Nat) x,st.a7[i]? =some x->∃b o,oa=some ⟨b,o,none⟩/\kC.cell b (o+i) (vi x)∈T:=λi x hx=>by
  obtain⟨b,o,c,us,hf,_,hc,rfl⟩:=yG H9 hx;exact zDX
 have hax:∀(i:Nat) x,st.a5[i]? =some x->∃b o,aa=some ⟨b,o,none⟩/\kC.cell b (o+i) (vi (x:Int))∈T:=λi x hx=>by
  obtain⟨b,o,c,us,hf,_,hc,rfl⟩:=yG bI hx;exact zDX
 obtain⟨nb,no,nc',nus,hnf,_,hnc,lv,rfl,xD⟩:=yG hnv hN;rw[Value.slice.injEq]at hnf;obtain⟨rfl,_,rfl⟩:=hnf;obtain⟨la,lc,rfl⟩:=yS xD;have cn:kC.cell nb (no+u) (.slice la nl.length lc)∈T:=hnc _ (kI.2 ⟨0,_,rfl,Zs⟩);obtain⟨o0,ho0⟩:∃o0,st.a7[u]? =some o0:=⟨_,Zg hu⟩;obtain⟨ob,oo,rfl,co0⟩:=Rp u o0 ho0;have mq:=wf.low u o0 ho0;have hch0:st.chain u=(st.ups o0).reverse++[]:=by
  unfold ai.chain;rw[WY wf hu,getD_at ho0,vm]
 refine aq.intro low98 Zn9 ?_;refine af ?_;refine VC.loop (α:=Int×List Nat×Value×List Value) (bg:=λs=>[(0,kE q),(1,vi (u:Int)),(5,s.2.2.1),(6,vi s.1)])
  (Hf:=λs=>[T,aj s.2.2.1 (s.2.1.map λb:Nat=>Value.int .i64 (b:Int)) s.2.2.2])
  (I:=λs=>(-1<=s.1/\s.1<st.a7.length)/\st.chain u=(st.ups s.1).reverse++s.2.1/\ke 1 s.2.2.1 s.2.1.length (s.2.1.map λb:Nat=>Value.int .i64 (b:Int)) s.2.2.2/\s.2.1.length+(s.1+1).toNat<=st.a7.length)
  (μ:=λs=>(s.1+1).toNat) (o0,[],Nz,[]) ⟨⟨mq.1,Zo⟩,hch0,.nil,by simp only[Q7];omega⟩ ZU (ap.cut (M:=[T]) ZI (ap.perm A4)) ?_
 rintro⟨o,g,cv,cw⟩ ⟨⟨DL,S6⟩,E,aM,qY⟩
 simp only at DL S6 E aM qY;dsimp only;obtain⟨ca,cc,rfl⟩:=aM.form;refine af ?_;by_cases L8:0<=o
 .obtain⟨o,rfl⟩:∃n:Nat,o=(n:Int):=⟨o.toNat,Zo⟩;obtain⟨p,hp⟩:∃p,st.a7[o]? =some p:=⟨_,Zg Zo⟩;obtain⟨ob2,oo2,hob,cp⟩:=Rp o p hp;rw[X9,Addr.mk.injEq]at hob;obtain⟨rfl,rfl,_⟩:=hob;have Q:=wf.low o p hp;have H:=Y5 wf (o:=o) Zo;rw[getD_at hp]at H;rw[H,List.reverse_cons,vj,Qg]at E;rw[A0 ((o:Int) ≥ 0)];refine af ?_;refine kV (out:=[vi (o:Int)]) Zr Zr (λr2=>?_);refine VO.imp (H':=[aj Nz [] [],kA r2 0 [vi (o:Int)],T,aj (.slice ca g.length cc) (g.map λb:Nat=>Value.int .i64 (b:Int)) cw]) (ap.cut (M:=[kA r2 0 [vi (o:Int)],T,aj (.slice ca g.length cc) (g.map λb:Nat=>Value.int .i64 (b:Int)) cw]) ZI (ap.perm A4)) ?_;refine kX (k:=0) (m:=1) (xs:=[]) (sp:=[]) (ys:=[vi (o:Int)]) Zr Zr .nil ZK Zr ?_ rfl Zr Zr Zd Zo (λbZ bf K=>?_)
  .exact l9
  simp only[QV,Qz]at K|-;obtain⟨dZ,ed,rfl⟩:=K.form;refine af ?_;refine Db (k:=1) (m:=g.length) (xs:=[vi (o:Int)]) (sp:=bf) (ys:=g.map λb:Nat=>Value.int .i64 (b:Int)) Zr Zr K ZK (λh0=>(Ka (fI rfl aM) h0).mono (λy hy=>by simp[hy])) Zs (Jp g) Zr Zd Zo (λYC U J=>?_);obtain⟨Y,X,rfl⟩:=J.form;refine af ?_;refine⟨(p,o::g,.slice Y (1+g.length) X,U),⟨⟨Q.1,by simp only;omega⟩,E,by simpa[Nat.add_comm]using J,by simp only[Q0];omega⟩,by simp only;omega,ZU,?_⟩;exact ap.cut (M:=[T,aj (.slice Y (1+g.length) X) ([vi (o:Int)]++g.map λb:Nat=>Value.int .i64 (b:Int)) U]) ZI (ap.perm Zs)
 rw[A1 (o ≥ 0)];rw[Y4 st Zo,List.reverse_nil,QV]at E;have F:=Uj wf hu;rw[E]at F;have hins:=fI rfl aM;obtain⟨ia,ic,hif,hir⟩:=hins;rw[Value.slice.injEq]at hif;obtain⟨rfl,_,rfl⟩:=hif;generalize hC:aj (.slice ca g.length cc) (g.map λb:Nat=>Value.int .i64 (b:Int)) cw=C at*;have hcx:∀i,i<g.length->((g.take i).flatMap (λo=>(st.things o).filter (st.aD u))).length<=(st.a9 u).length:=λi hi=>by
  obtain⟨o,ho⟩:∃o,g[i]? =some o:=⟨_,Zg hi⟩;have:=NJ (st:=st) (u:=u) (by rw[E];exact ho) 0;rw[E]at this;omega
 have L:st.a9 u=g.flatMap (λo=>(st.things o).filter (st.aD u)):=by rw[Ew,E]
 refine af ?_;refine VC.loop (α:=Nat×Value×List Value) (bg:=λs=>[(0,kE q),(1,vi (u:Int)),(5,.slice ca g.length cc),(8,s.2.1),(9,vi s.1)])
  (Hf:=λs=>[T,C,aj s.2.1 (((g.take s.1).flatMap (λo=>(st.things o).filter (st.aD u))).flatMap jm) s.2.2])
  (I:=λs=>s.1<=g.length/\ke 2 s.2.1 ((g.take s.1).flatMap (λo=>(st.things o).filter (st.aD u))).length (((g.take s.1).flatMap (λo=>(st.things o).filter (st.aD u))).flatMap jm) s.2.2)
  (μ:=λs=>g.length-s.1) (0,Nz,[]) ⟨X0 _,.nil⟩ ZU (ap.cut (M:=[T,C]) ZI (ap.perm A4)) ?_
 rintro⟨i,v2,U⟩ ⟨hi,J⟩
 simp only at hi J;dsimp only;obtain⟨Y,X,rfl⟩:=J.form;refine af ?_;by_cases cm:i<g.length;rotate_left
 .rw[A1 ((i:Int) < (g.length:Int))];rw[Ql Zo,<- L]at J|-;refine af ?_;exact kG (dl:=[T,C,aj (.slice Y (st.a9 u).length X) ((st.a9 u).flatMap jm) U]) (.inr rfl) (.tmp (v:=.slice Y (st.a9 u).length X) Zr .nil) ⟨C,U,J,rfl⟩ ZI
 rw[A0 ((i:Int) < (g.length:Int))];obtain⟨A,D⟩:∃o,g[i]? =some o:=⟨_,Zg cm⟩;obtain⟨cb,co,rfl,cco⟩:=hir i A D;have ho2l:=F A (Zv D);obtain⟨n,hn⟩:∃n,st.a5[A]? =some n:=⟨_,Zg (by have:=wf.al;omega)⟩;obtain⟨ab,ao,rfl,can⟩:=hax A n hn;have U7:=getD_at (d:=0) hn;have hnl2:=(Vt.1 hn).1;have hnb:=oU A;rw[U7]at hnb;have hthl:=gK st A;rw[U7]at hthl;have G:=λj=>NJ (st:=st) (u:=u) (by rw[E];exact D) j
 rw[E]at G;refine af ?_;refine VC.loop (α:=Nat×Value×List Value) (bg:=λs=>[(0,kE q),(1,vi (u:Int)),(5,.slice (some ⟨cb,co,none⟩) g.length cc),(8,s.2.1),(9,vi i),(10,vi ((s.1:Int)-1))])
  (Hf:=λs=>[T,C,aj s.2.1 (((g.take i).flatMap (λo=>(st.things o).filter (st.aD u))++((st.things A).take s.1).filter (st.aD u)).flatMap jm) s.2.2])
  (I:=λs=>s.1<=n+1/\ke 2 s.2.1 ((g.take i).flatMap (λo=>(st.things o).filter (st.aD u))++((st.things A).take s.1).filter (st.aD u)).length (((g.take i).flatMap (λo=>(st.things o).filter (st.aD u))++((st.things A).take s.1).filter (st.aD u)).flatMap jm) s.2.2)
  (μ:=λs=>n+1-s.1) (0,.slice Y ((g.take i).flatMap (λo=>(st.things o).filter (st.aD u))).length X,U) ⟨X0 _,by simpa using J⟩ ZU (by simp only[Qm,List.filter_nil,vm];exact bH) ?_
 rintro⟨j,v3,iW⟩ ⟨hj,bV⟩
 simp only at hj bV;dsimp only;obtain⟨gQ,eV,rfl⟩:=bV.form;refine af ?_;by_cases gh:j<n+1;rotate_left
 .rw[A1 ((j:Int) - 1 < (n:Int))];have UX:=Bu (f:=(λo=>(st.things o).filter (st.aD u))) D;rw[Ql (l:=st.things A) Zo,<- UX]at bV|-;refine af ?_;exact⟨(i+1,.slice gQ ((g.take (i+1)).flatMap (λo=>(st.things o).filter (st.aD u))).length eV,iW),⟨by simp only;omega,bV⟩,by simp only;omega,ZU,ZI⟩
 rw[A0 ((j:Int) - 1 < (n:Int))];have hth:=Sy st A (j:=j) Zo;have Cc:=G j;refine af ?_;refine kJ (λuN=>?_);refine af ?_;refine VC.loop (α:=Nat×Value×List Value) (bg:=λs=>[(0,kE q),(1,vi (u:Int)),(5,.slice (some ⟨cb,co,none⟩) g.length cc),(8,s.2.1),(9,vi i),(10,vi ((j:Int)-1)),(11,kE uN),(12,vi s.1)])
  (Hf:=λs=>[T,C,kA uN 0 [vi (A:Int),vi ((j:Int)-1)],aj s.2.1 ((((g.take i).flatMap (λo=>(st.things o).filter (st.aD u))++((st.things A).take j).filter (st.aD u))++(nl.take s.1).filter (λx=>decide (x=(A,(j:Int)-1)))).flatMap jm) s.2.2])
  (I:=λs=>s.1<=nl.length/\ke 2 s.2.1 (((g.take i).flatMap (λo=>(st.things o).filter (st.aD u))++((st.things A).take j).filter (st.aD u))++(nl.take s.1).filter (λx=>decide (x=(A,(j:Int)-1)))).length ((((g.take i).flatMap (λo=>(st.things o).filter (st.aD u))++((st.things A).take j).filter (st.aD u))++(nl.take s.1).filter (λx=>decide (x=(A,(j:Int)-1)))).flatMap jm) s.2.2)
  (μ:=λs=>nl.length-s.1) (0,.slice gQ ((g.take i).flatMap (λo=>(st.things o).filter (st.aD u))++((st.things A).take j).filter (st.aD u)).length eV,iW) ⟨X0 _,by simpa using bV⟩ ZU (by simp only[Qm,List.filter_nil,vm];exact bH) ?_
 rintro⟨k,v4,uV⟩ ⟨hk,S⟩
 simp only at hk S;dsimp only;obtain⟨sa4,sc4,rfl⟩:=S.form;generalize hO:(g.take i).flatMap (λo=>(st.things o).filter (st.aD u))++((st.things A).take j).filter (st.aD u)=O at*;have hOl:O.length<=(st.a9 u).length:=by rw[<- hO,Vz];exact Cc
 have h1l:=one_len rU hm (A,(j:Int)-1) k;refine af ?_;by_cases Gy:k<nl.length;rotate_left
 .rw[A1 ((k:Int) < (nl.length:Int))];have UX:=EM (p:=st.aD u) hth;rw[Ql (l:=nl) Zo,JG rU hm]at S|-;have hO2:O++(if st.aD u (A,(j:Int)-1)then [(A,(j:Int)-1)]else [])=(g.take i).flatMap (λo=>(st.things o).filter (st.aD u))++((st.things A).take (j+1)).filter (st.aD u):=by
   rw[UX,<- hO,vj]
  rw[hO2]at S|-;refine af ?_;refine⟨(j+1,.slice sa4 ((g.take i).flatMap (λo=>(st.things o).filter (st.aD u))++((st.things A).take (j+1)).filter (st.aD u)).length sc4,uV),⟨by simp only;omega,S⟩,by simp only;omega,?_,ZI⟩;rw[show(((j+1:Nat):Int)-1)=(j:Int)-1+1 from by omega];exact Du
 rw[A0 ((k:Int) < (nl.length:Int))];obtain⟨⟨x1,x2⟩,hx⟩:∃x,nl[k]? =some x:=⟨_,Zg Gy⟩;obtain⟨lb,lo,lc',MD,hlf,_,hlc,rfl⟩:=yG xD hx;rw[Value.slice.injEq]at hlf;obtain⟨rfl,_,rfl⟩:=hlf;have Z:=EM (p:=λx=>decide (x=(A,(j:Int)-1))) hx;refine af ?_;refine kR (us:=[vi (x1:Int),vi x2]) Zr (λz hz=>by have:=hlc z hz;simp[this]) rfl ?_;refine af ?_;rw[UB];by_cases e:(x1,x2)=(A,(j:Int)-1)
 .rw[Zt e];rw[Zt e,if_pos rfl,e]at Z;refine af ?_;refine kV (out:=[vi (A:Int),vi ((j:Int)-1)]) Zr Zr (λr2=>?_);refine kX (k:=(O++(nl.take k).filter (λx=>decide (x=(A,(j:Int)-1)))).length) (m:=1) (xs:=(O++(nl.take k).filter (λx=>decide (x=(A,(j:Int)-1)))).flatMap jm) (sp:=uV) (ys:=[vi (A:Int),vi ((j:Int)-1)]) Zr Zr S ZK Zr ?_ rfl Zr Zr Zd (by rw[Vz];omega) (λbZ bf K=>?_)
  .exact l9
  have cf:((O++(nl.take k).filter (λx=>decide (x=(A,(j:Int)-1)))).flatMap jm++[vi (A:Int),vi ((j:Int)-1)]:List Value)=(O++(nl.take (k+1)).filter (λx=>decide (x=(A,(j:Int)-1)))).flatMap jm:=by
   rw[Z,<- vj];generalize O++(nl.take k).filter (λx=>decide (x=(A,(j:Int)-1)))=W;rw[V9];rfl
  have GA:(O++(nl.take k).filter (λx=>decide (x=(A,(j:Int)-1)))).length+1=(O++(nl.take (k+1)).filter (λx=>decide (x=(A,(j:Int)-1)))).length:=by
   rw[Z,<- vj];generalize O++(nl.take k).filter (λx=>decide (x=(A,(j:Int)-1)))=W;rw[Vz];rfl
  rw[cf,GA]at K;rw[cf];obtain⟨dZ,ed,rfl⟩:=K.form;refine af ?_;exact⟨(k+1,.slice dZ (O++(nl.take (k+1)).filter (λx=>decide (x=(A,(j:Int)-1)))).length ed,bf),⟨by simp only;omega,K⟩,by simp only;omega,ZU,ZI⟩
 .rw[Zf e];rw[Zf e,if_neg Zd,vm]at Z;refine af ?_;exact⟨(k+1,.slice sa4 (O++(nl.take k).filter (λx=>decide (x=(A,(j:Int)-1)))).length sc4,uV),⟨by simp only;omega,by simp only;rw[Z];exact S⟩,by simp only;omega,ZU,by simp only;rw[Z];exact bH⟩
def xG(A l lv)(h:dU A lv l)(nm):aq pg9 139 [lv,.string nm] [A] (λv dl=>v=vi (D4 (l.findIdx? λs=>decide (s=nm)))/\dl=[A]):=by
 obtain⟨a,c,rfl,hl,m⟩:=h;refine aq.intro low139 Zn9 ?_;refine af ?_;refine VC.loop (α:=Nat) (bg:=λj=>[(0,.slice a l.length c),(1,.string nm),(5,vi j)]) (Hf:=λ_=>[A]) (I:=λj=>j<=l.length/\(l.take j).findIdx? (λs=>decide (s=nm))=none) (μ:=λj=>l.length-j) 0 ⟨X0 _,Zr⟩ ZU ZI ?_
 rintro j ⟨hj,d⟩
 refine af ?_;by_cases aI:j<l.length;rotate_left
 .rw[A1 ((j:Int) < (l.length:Int))];rw[Ql Zo]at d;refine af ?_;exact kG (dl:=[A]) (.inr rfl) zT1 ⟨by rw[d];rfl,rfl⟩ ZI
 rw[A0 ((j:Int) < (l.length:Int))];obtain⟨s,g⟩:∃s,l[j]? =some s:=⟨_,Zg aI⟩;obtain⟨b,o,rfl,ez,q⟩:=m j s g;have bm:=Bv g nm;rw[d]at bm;refine af ?_;by_cases e:s=nm
 .rw[Zt e];rw[if_pos e]at bm;refine af ?_;refine kG (dl:=[A]) (.inr rfl) zT1 ⟨?_,rfl⟩ ZI;have:l.findIdx? (λs=>decide (s=nm))=some j:=zEY
  rw[this];rfl
 .rw[Zf e];exact zEE
def Ny(A:List kC)(l:List Nat)(lv:Value)(h:zI A lv l)(hl:l.length < 4611686018427387904)(n:Nat):aq pg9 191 [lv,vi (n:Int)] [A] (λv dl=>v=vi (dC l n)/\dl=[A]):=by
 obtain⟨a,c,rfl,m⟩:=h;refine aq.intro low191 Zn9 ?_;refine af ?_;refine VC.loop (α:=Nat) (bg:=λj=>[(0,.slice a l.length c),(1,vi n),(5,vi j)]) (Hf:=λ_=>[A]) (I:=λj=>j<=l.length/\(l.take j).findIdx? (λs=>decide (s=n))=none) (μ:=λj=>l.length-j) 0 ⟨X0 _,Zr⟩ ZU ZI ?_
 rintro j ⟨hj,d⟩
 refine af ?_;by_cases aI:j<l.length;rotate_left
 .rw[A1 ((j:Int) < (l.length:Int))];rw[Ql Zo]at d;refine af ?_;exact kG (dl:=[A]) (.inr rfl) zT1 ⟨by unfold dC;rw[d];rfl,rfl⟩ ZI
 rw[A0 ((j:Int) < (l.length:Int))];obtain⟨s,g⟩:∃s,l[j]? =some s:=⟨_,Zg aI⟩;obtain⟨b,o,rfl,ez⟩:=m j s g;have bm:(l.take (j+1)).findIdx? (λs=>decide (s=n))=if s=n then some j else none:=by
  rw[Qi,g,List.findIdx?_append,d];by_cases e:s=n
  .simp[e];omega
  .simp[e]
 refine af ?_;by_cases e:s=n
 .rw[A0 ((s:Int)=(n:Int))];rw[if_pos e]at bm;refine af ?_;refine kG (dl:=[A]) (.inr rfl) zT1 ⟨?_,rfl⟩ ZI;have:l.findIdx? (λs=>decide (s=n))=some j:=zEY
  unfold dC;rw[this];rfl
 .rw[A1 ((s:Int)=(n:Int))];exact zEE
def EN(X st w R T)(hw:gN X st w R)(a6 ev)(he:zI T ev a6)(Y:∀v∈a6,v < st.vars.length)(Kz:a6.length < 1099511627776)(nm):
 aq pg9 156 [kE X.q,ev,.string nm] [DM X w st,T] (λv dl=>v=vi (D4 (jQ st.vars a6 nm))/\dl=[DM X w st,T]):=by
 obtain⟨a,c,rfl,hr⟩:=he;have N:=hw.v;have Q:=λi x h=>Ko (i:=i) (x:=x) N h
 obtain⟨L,g,O⟩:=N.form;obtain⟨vv,B,A,D,m,E,C,F,s,G,H⟩:=w;simp only at O Q;subst O;refine aq.intro low156 Zn9 ?_;refine VC.imp (fw X _ st [T]) ?_;unfold et;simp only;refine af ?_;refine VC.loop (α:=Nat) (bg:=λj=>[(0,kE X.q),(1,.slice a a6.length c),(2,.string nm),(7,vi ((j:Int)-1))])
  (Hf:=λ_=>[kA X.q 0 [X.fv,X.gv,.slice L st.vars.length g,A,m,C,s,vi (zw st.f),vi (yC st.f),Nz,Nz,Nz],aj (.slice L st.vars.length g) (st.vars.flatMap jl) B,aj A (st.a7.map λn=>Value.int .i64 n) D,aj m (st.a5.map λn:Nat=>Value.int .i64 (n:Int)) E,aj C (st.dg.flatMap ym) F,aj s G H,T])
  (I:=λj=>j<=a6.length/\jQ st.vars a6 nm=jQ st.vars (a6.take j) nm) (μ:=λj=>j) a6.length ⟨Qs _,by rw[Qk]⟩ ZU ZI ?_
 rintro j ⟨hj,S⟩
 cases j with
 |zero=>
  refine af ?_;refine kG (dl:=[DM X ⟨.slice L st.vars.length g,B,A,D,m,E,C,F,s,G,H⟩ st,T]) (.inr rfl) zT1 ⟨by rw[S];rfl,rfl⟩ (ap.cut (by unfold et;exact bH) (zK X ⟨.slice L st.vars.length g,B,A,D,m,E,C,F,s,G,H⟩ st [T]))
 |succ k=>
  rw[show(((k+1:Nat):Int)-1)=(k:Int)from by omega];refine af ?_;rw[A0 ((k:Int) ≥ 0)];obtain⟨v,M⟩:∃v,a6[k]? =some v:=⟨_,Zg Zo⟩;obtain⟨b,o,rfl,ez⟩:=hr k v M;have xE:=Y v (Zv M);obtain⟨x,U⟩:∃x,st.vars[v]? =some x:=⟨_,Zg xE⟩;obtain⟨J,K,c2,W,_,Z⟩:=Q v x U;rw[Value.slice.injEq]at W;obtain⟨rfl,_,rfl⟩:=W;have c0:kC.cell J (K+v*4) (.string x.name)∈aj (.slice (some ⟨J,K,none⟩) st.vars.length g) (st.vars.flatMap jl) B:=Z _ (kI.2 ⟨0,_,rfl,Zs⟩);have d:=LV (vs:=st.vars) (nm:=nm) M;rw[U]at d;simp only[X7,X9]at d;rw[<- S]at d;refine af ?_;by_cases e:x.name=nm
  .rw[Zt e];rw[if_pos e]at d;refine af ?_;refine kG (dl:=[DM X ⟨.slice (some ⟨J,K,none⟩) st.vars.length g,B,A,D,m,E,C,F,s,G,H⟩ st,T]) (.inr rfl) zT1 ⟨by rw[d];rfl,rfl⟩ (ap.cut (by unfold et;exact bH) (zK X ⟨.slice (some ⟨J,K,none⟩) st.vars.length g,B,A,D,m,E,C,F,s,G,H⟩ st [T]))
  .rw[Zf e];rw[if_neg e]at d;refine af ?_;exact⟨k,⟨Zo,d⟩,Zo,ZU,ZI⟩
def HY(X:DX)(st:ai)(w:DW)(R:List kC)(j:gN X st w R)(e:Nat)(p:Int)(he:e≠0):aq pg9 157 [kE X.q,vi (e:Int),vi p] [DM X w st] (λv dl=>v=.tuple #[]/\dl=[DM X w (st.wrong e p)]):=by
 have d:=j.ef;refine aq.intro low157 Zn9 ?_;refine VC.imp (fw X w st []) ?_;unfold et ai.wrong;cases hf:st.f with
 |none=>
  unfold zw yC;simp only;refine af ?_;refine kG (dl:=[DM X w {st with f:=some (e,p)}]) (.inl rfl) .nil ⟨rfl,by simp[hf]⟩ (ap.cut (by unfold et zw yC;dsimp only;exact bH) (zK X w {st with f:=some (e,p)} []))
 |some f=>
  obtain⟨g,m⟩:=f;have cz:=d g m hf;unfold zw yC;simp only;refine af ?_;rw[A1 ((g:Int)=0)];refine af ?_;refine kG (dl:=[DM X w st]) (.inl rfl) .nil ⟨rfl,by simp[hf]⟩ (ap.cut ?_ (zK X w st []));unfold et zw yC;rw[hf];exact bH
structure OV (st:ai):Prop where
 v:st.vars.length<1073741824
 o:st.a7.length<1073741824
 a:∀j,st.a5.getD j 0<1073741824
 c:∀u,(st.a9 u).length<2199023255552
def oZ(st:ai)(u:Nat)(r:Bool):(st.bi u r).length<=st.vars.length:=by
 have:=Q5 (λv=>decide (st.ah v=u)&&decide (st.aT v<0)&&decide (st.rem v=r)) (List.range st.vars.length)
 rwa [Q8]at this
def idxI_bd {α:Type}[DecidableEq α](l:List α)(x:α):-1<=dC l x/\dC l x<l.length+1:=by
 unfold dC;split
 .rename_i i h;have:=(List.findIdx?_eq_some_iff_getElem.1 h).1;omega
 .omega
def oG(T:List kC)(q:Nat)(st:ai)(h:F9 T q st)(b:OV st)(wf:Wf st)(u:Nat)(hu:u < st.a7.length)(m:Nat)(g:Int):
 aq pg9 100 [kE q,vi (u:Int),.agg #[vi (m:Int),vi g]] [T] (λv dl=>∃B,v=vi (st.place u (m,g))/\dl=[T,B]):=by
 obtain⟨⟨vv,m2,Z⟩,⟨ov,m3,H9⟩,⟨av,m4,bI⟩,⟨bv,m6,hbv⟩,⟨rv,m9,Y⟩,⟨hv,L,J⟩⟩:=h;have xC:=oz T q st vv rv m2 m9 Z Y (by have:=b.v;omega) u false;have GA:=oZ st u false;have N:=b.v;have hbc:=b.c u;have ZE:=b.a u;have oU:=wf.al;obtain⟨n,O⟩:∃n,st.a5[u]? =some n:=⟨_,Zg Zo⟩;have E:=getD_at (d:=0) O;rw[E]at ZE;obtain⟨ab,ao,ac,aus,rfl,_,F,rfl⟩:=yG bI O;have ca:kC.cell ab (ao+u) (vi (n:Int))∈T:=F _ (kI.2 ⟨0,_,rfl,Zs⟩);have G:((List.range st.a7.length).map st.a9)[u]? =some (st.a9 u):=by rw[Vu,Vw hu];rfl
 obtain⟨hb,ho,hc,re,rfl,_,H,lv,rfl,X⟩:=yG J G;obtain⟨S,U,rfl⟩:=yS X;rw[Q6,Q8]at L;have ch:kC.cell hb (ho+u) (.slice S (st.a9 u).length U)∈T:=H _ (kI.2 ⟨0,_,rfl,Zs⟩);refine aq.intro low100 Zn9 ?_;refine af ?_;refine kZ Zr (λW=>?_);simp only[Value.cells];refine af ?_;by_cases k1:m=u
 .rw[A0 ((m:Int)=(u:Int))];refine af ?_;by_cases k2:0<=g
  .rw[A0 (g ≥ 0)];have mr:st.place u (m,g)=g:=by unfold ai.place;rw[if_pos k1,if_pos k2]
   exact zCO
  .rw[A1 (g ≥ 0)];have mr:st.place u (m,g)=(n:Int)+(st.a9 u).length+(st.bi u false).length:=by unfold ai.place;rw[if_pos k1,if_neg k2,E]
   refine af ?_;apply VC.seq;refine VC.draws ⟨?_,?_,?_,trivial⟩
   .exact zB9
   .exact zB9
   .exact zB9
 .rw[A1 ((m:Int)=(u:Int))];refine af ?_;refine VC.loop (α:=Nat) (bg:=λj=>[(0,kE q),(1,vi (u:Int)),(5,kE W),(7,.slice S (st.a9 u).length U),(8,vi j)]) (Hf:=λ_=>[kA W 0 [vi (m:Int),vi g],T]) (I:=λj=>j<=(st.a9 u).length/\((st.a9 u).take j).findIdx? (λy=>decide (y=(m,g)))=none) (μ:=λj=>(st.a9 u).length-j) 0 ⟨X0 _,Zr⟩ ZU ZI ?_
  rintro j ⟨hj,D⟩
  refine af ?_;by_cases gh:j<(st.a9 u).length;rotate_left
  .rw[A1 ((j:Int) < ((st.a9 u).length:Int))];rw[Ql Zo]at D;have mr:st.place u (m,g)=-1:=by unfold ai.place;rw[if_neg k1,D]
   exact zCO
  rw[A0 ((j:Int) < ((st.a9 u).length:Int))];obtain⟨⟨A,C⟩,Q⟩:∃x,(st.a9 u)[j]? =some x:=⟨_,Zg gh⟩;obtain⟨lb,lo,lc',MD,s,_,K,rfl⟩:=yG X Q;rw[Value.slice.injEq]at s;obtain⟨rfl,_,rfl⟩:=s;have bm:((st.a9 u).take (j+1)).findIdx? (λy=>decide (y=(m,g)))=if(A,C)=(m,g)then some j else none:=by
   rw[Qi,Q,List.findIdx?_append,D];by_cases e:(A,C)=(m,g)
   .simp[e];omega
   .simp[e]
  refine af ?_;refine kR (us:=[vi (A:Int),vi C]) Zr (λz hz=>by have:=K z hz;simp[this]) rfl ?_;refine af ?_;rw[UB];by_cases e:(A,C)=(m,g)
  .rw[Zt e];rw[if_pos e]at bm;have mr:st.place u (m,g)=(n:Int)+j:=by
    unfold ai.place;have hf:(st.a9 u).findIdx? (λy=>decide (y=(m,g)))=some j:=by
     have e2:st.a9 u=(st.a9 u).take (j+1)++(st.a9 u).drop (j+1):=(Qj _ _).symm;rw[e2,List.findIdx?_append,bm];rfl
    rw[if_neg k1,hf,E]
   exact zCO
  .rw[Zf e];exact zEE
def Mu(T q st)(h:F9 T q st)(b:OV st)(wf:Wf st)(u)(hu:u < st.a7.length)(v)(hv:v < st.vars.length):
 aq pg9 159 [kE q,vi (u:Int),vi (v:Int)] [T] (λw dl=>∃B,w=.agg (kS (st.known u v)).toArray/\dl=[T,B]):=by
 have h0:=h;obtain⟨⟨vv,m2,I⟩,⟨ov,m3,H9⟩,⟨av,m4,bI⟩,⟨bv,m6,hbv⟩,⟨rv,U,H⟩,⟨N9,G,C⟩⟩:=h0;have W:=λu r=>oz T q st vv rv m2 U I H (by have:=b.v;omega) u r
 have g:=W u false;have J:=λu r=>oZ st u r
 have O:=J u false;have N:=b.v;have hbc:=b.c u;have Y:=b.a u;have oU:=wf.al;obtain⟨n,S⟩:∃n,st.a5[u]? =some n:=⟨_,Zg Zo⟩;have K:=getD_at (d:=0) S;rw[K]at Y;obtain⟨Z,ao,ac,aus,rfl,_,m,rfl⟩:=yG bI S;have ca:kC.cell Z (ao+u) (vi (n:Int))∈T:=m _ (kI.2 ⟨0,_,rfl,Zs⟩);have s:((List.range st.a7.length).map st.a9)[u]? =some (st.a9 u):=by rw[Vu,Vw hu];rfl
 obtain⟨hb,ho,hc,re,rfl,_,A,lv,rfl,xD⟩:=yG C s;obtain⟨la,lc,rfl⟩:=yS xD;rw[Q6,Q8]at G;have ch:kC.cell hb (ho+u) (.slice la (st.a9 u).length lc)∈T:=A _ (kI.2 ⟨0,_,rfl,Zs⟩);obtain⟨x,F⟩:∃x,st.vars[v]? =some x:=⟨_,Zg hv⟩;obtain⟨vb,vo,vc,us,rfl,_,X,rfl⟩:=yG I F;have E:((List.range st.vars.length).map st.rem)[v]? =some (st.rem v):=by rw[Vu,Vw hv];rfl
 obtain⟨rb,ro,rc,rus,rfl,_,D,rfl⟩:=yG H E;rw[Q6,Q8]at U;have L:kC.cell rb (ro+v) (.bool (st.rem v))∈T:=D _ (kI.2 ⟨0,_,rfl,Zs⟩);have M:=ye F;have j:=gu F;have hls1:=W x.cg true;have Q:=J x.cg true;have hid:=idxI_bd (st.bi u false) v;refine aq.intro low159 Zn9 ?_;refine af ?_;refine kJ (λq6=>?_);refine af ?_;refine kR (us:=jl x) Zr (λz hz=>by have:=X z hz;simp[this]) rfl ?_;unfold jl;refine af ?_;refine kJ (λq7=>?_);refine af ?_;by_cases k1:0<=x.own
 .rw[A0 (x.own ≥ 0)];have KR:st.known u v=⟨5,st.place u (x.cg,x.own),0,e0⟩:=by unfold ai.known;rw[j,M,if_pos k1]
  refine af ?_;refine kH (oG T q st h b wf u hu x.cg x.own) Zr ZP (λv dl hv=>?_);obtain⟨B1,rfl,rfl⟩:=hv;simp only[aE];refine af ?_;exact⟨.inr rfl,_,[T,B1],.az (us:=[.int .u8 5,vi (st.place u (x.cg,x.own)),vi 0,.string ⟨#[]⟩]) Zr Zr zSb .nil,ZI,_,by rw[KR];rfl,rfl⟩
 rw[A1 (x.own ≥ 0)];refine af ?_;cases qY:st.rem v with
 |true=>
  rw[qY]at L;have KR:st.known u v=⟨6,st.place u (x.cg,-1),dC (st.bi x.cg true) v,e0⟩:=by unfold ai.known;rw[j,M,if_neg k1,qY];rfl
  refine af ?_;apply VC.seq;refine VC.draws ⟨?_,?_,trivial⟩
  .exact zAZ
  .exact zAZ
 |false=>
  rw[qY]at L;have KR:st.known u v=⟨5,(n:Int)+(st.a9 u).length+dC (st.bi u false) v,0,e0⟩:=by unfold ai.known;rw[j,if_neg k1,qY,K];rfl
  refine af ?_;apply VC.seq;apply VC.draws
  iterate 90
   refine⟨?_,?_⟩
   .skip
    refine af ?_;refine kH g Zr ZP (λv0 dl hv=>?_);obtain⟨Fw,om,rfl⟩:=hv;simp only[aE];have NW:=Ny (aj v0 ((st.bi u false).map λb:Nat=>Value.int .i64 (b:Int)) Fw) (st.bi u false) v0 (fI rfl om) Zo v;obtain⟨Tg,Th,rfl⟩:=om.form;refine af ?_;refine kH NW Zr ZP (λv1 dl hv=>?_);obtain⟨rfl,rfl⟩:=hv;simp only[aE];refine af ?_;exact⟨.inr rfl,_,[T,aj (.slice Tg (st.bi u false).length Th) ((st.bi u false).map λb:Nat=>Value.int .i64 (b:Int)) Fw],.az (us:=[.int .u8 5,vi ((n:Int)+(st.a9 u).length+dC (st.bi u false) v),vi 0,.string ⟨#[]⟩]) Zr Zr zSb .nil,ZI,_,by rw[KR];rfl,rfl⟩
  exact trivial
def Tr(q:Nat)(st:ai)(u:Nat)(T0:List kC)(x:PN)(ws:List Value):Prop:=
 ∀T,(∀a∈T0,a∈T)->F9 T q st->aq pg9 101 [kE q,.agg ws.toArray,.int .i64 (u:Int)] [T] (λv dl=>∃B ws',v=.agg ws'.toArray/\rS (T++B) (eW st u x) ws'/\dl=[T++B])
def uf(st:ai)(u:Nat):∀l,(eu st u l).length=l.length
 |[]=>rfl
 |x::r=>by rw[eu,Q0,uf st u r,Q0]
def ue(st:ai)(u:Nat):∀l,eu st u l=l.map (eW st u)
 |[]=>rfl
 |x::r=>by rw[eu,ue st u r];rfl
def dM {n:Nat}{y:PN}:∀{l:List PN},wP n l=true->y∈l->yg n y=true
 |x::r,h,hy=>by
  simp only[wP,vG]at h;rcases QJ.1 hy with rfl|hy
  .exact h.1
  .exact dM h.2 hy
def rG {p:Nat->Bool}{y:PN}:∀{l:List PN},wH p l=true->y∈l->yH p y=true
 |x::r,h,hy=>by
  simp only[wH,vG]at h;rcases QJ.1 hy with rfl|hy
  .exact h.1
  .exact rG h.2 hy
def LS(q st)(b:OV st)(wf:Wf st)(u)(hu:u < st.a7.length)(O x ws)(h:rS O x ws)(hp:yg st.a7.length x=true)(hr:yH (pd st u) x=true)(hw:PN.w x < 1073741824)(ih:∀y∈x.ak,∀ws,rS O y ws->Tr q st u O y ws):Tr q st u O x ws:=by
 intro T hT hF;cases h with
 |@mk k nm lit refs cg fP ak lv rv a c bk o us hl Ak ha hm hs=>
 obtain⟨ra,rc,rfl,Aj⟩:=Ak;have fj:=hl;cases hl with
 |@mk f1 f2 f3 f4 ci f5 f7 fb fo fus Tj Gp rT de=>
 simp only[yg,yH,PN.w,PN.ak,vG]at hp hr hw ih;obtain⟨⟨Rq,_⟩,sj⟩:=hp;obtain⟨hr1,hr2'⟩:=hr;have Gy:=PN.G5 ak;have hk:∀(i:Nat) y,ak[i]? =some y->Tr q st u O y (us i):=λi y hy=>ih y (Zv hy) _ (hs i y hy)
 have hTr:∀(i:Nat) r,refs[i]? =some r->∃b o,ra=some ⟨b,o,none⟩/\∀y∈kA b (o+i*4) (kS r),y∈T:=λi r hi=>by
  obtain⟨b,o,G,k2⟩:=Aj i r hi;exact⟨b,o,G,λy hy=>hT y (k2 y hy)⟩
 simp only[aE];refine aq.intro low101 Zn9 ?_;refine af ?_;refine kZ Zr (λL=>?_);simp only[Value.cells];refine kJ (λN=>?_);refine af ?_;refine VC.loop (α:=Nat×Value×List Value) (bg:=λs=>[(0,kE q),(2,vi (u:Int)),(4,kE L),(6,kE N),(7,s.2.1),(8,vi s.1)])
  (Hf:=λs=>[T,kA L 0 (rB k nm f1 f2 f3 f4 f5 ci.length f7 ra refs.length rc cg fP a ak.length c),kA N 0 (rY1 ⟨#[]⟩),aj s.2.1 (((refs.take s.1).map (st.fix u)).flatMap kS) s.2.2])
  (I:=λs=>s.1<=refs.length/\ke 4 s.2.1 s.1 (((refs.take s.1).map (st.fix u)).flatMap kS) s.2.2) (μ:=λs=>refs.length-s.1) (0,Nz,[]) ⟨X0 _,.nil⟩ ZU
  (ap.cut (M:=[T,kA L 0 (rB k nm f1 f2 f3 f4 f5 ci.length f7 ra refs.length rc cg fP a ak.length c),kA N 0 (rY1 ⟨#[]⟩)]) ZI (ap.perm A4)) ?_
 rintro⟨j,sv,sp⟩ ⟨hj,K⟩
 simp only at hj K;dsimp only;obtain⟨H,J,rfl⟩:=K.form;refine af ?_;by_cases gh:j<refs.length
 .rw[A0 ((j:Int) < (refs.length:Int))];obtain⟨r,F⟩:∃r,refs[j]? =some r:=⟨_,Zg gh⟩;have bX:=Zv F;have hP:=vf.1 Rq r bX;have hR:=vf.1 hr1 r bX;obtain⟨rb,ro,rfl,hrc⟩:=hTr j r F;have D:∀ys,ys=kS (st.fix u r)->((refs.take j).map (st.fix u)).flatMap kS++ys=((refs.take (j+1)).map (st.fix u)).flatMap kS:=λys l6=>by
   rw[Qi,F,QC,V9,l6];simp
  obtain⟨C,ri,rs,rn⟩:=r;simp only[D8,vG,decide_eq_true_eq]at hP;obtain⟨v,rfl⟩:∃v:Nat,ri=(v:Int):=⟨ri.toNat,Zo⟩;refine af ?_;refine kR (us:=[.int .u8 C,vi (v:Int),vi rs,.string rn]) Zr (λz hz=>by have:=hrc z hz;simp[this]) rfl ?_;refine af ?_;refine kJ (λq9=>?_);refine af ?_;by_cases k9:C=99
  .rw[A0 ((C:Int)=99)];have hv:v<st.vars.length:=by
    simp only[k9,decide_true,Bool.not_true,vO,vW,pd,vG,decide_eq_true_eq]at hR;exact hR.1
   have E:st.fix u ⟨C,v,rs,rn⟩=st.known u v:=by unfold ai.fix;rw[if_pos k9,vW]
   rw[E]at D;have Z:=Mu T q st hF b wf u hu v hv;generalize st.known u v=kn at D Z;obtain⟨kk,ki,A,g⟩:=kn;refine af ?_;refine kH Z Zr ZP (λw dl hw=>?_);obtain⟨B1,rfl,rfl⟩:=hw;simp only[aE];rw[show kS ⟨kk,ki,A,g⟩=[.int .u8 kk,vi ki,vi A,.string g]from rfl];have D:=D [.int .u8 kk,vi ki,vi A,.string g] rfl;refine af ?_;refine kV (out:=[.int .u8 kk,vi ki,vi A,.string g]) Zr Zr (λr=>?_);refine kX (k:=j) (m:=1) (xs:=((refs.take j).map (st.fix u)).flatMap kS) (sp:=sp) (ys:=[.int .u8 kk,vi ki,vi A,.string g]) Zr Zr K ZK Zr ?_ rfl Zr Zr Zd Zo (λbZ bf ax=>?_)
   .exact l9
   rw[D]at ax|-;exact zB8
  .rw[A1 ((C:Int)=99)];have E:st.fix u ⟨C,v,rs,rn⟩=⟨C,v,rs,rn⟩:=by unfold ai.fix;rw[if_neg k9]
   rw[E]at D;have D:=D [.int .u8 C,vi (v:Int),vi rs,.string rn] rfl;refine af ?_;refine kV (out:=[.int .u8 C,vi (v:Int),vi rs,.string rn]) Zr Zr (λr=>?_);refine kX (k:=j) (m:=1) (xs:=((refs.take j).map (st.fix u)).flatMap kS) (sp:=sp) (ys:=[.int .u8 C,vi (v:Int),vi rs,.string rn]) Zr Zr K ZK Zr ?_ rfl Zr Zr Zd Zo (λbZ bf ax=>?_)
   .exact l9
   rw[D]at ax|-;exact zB8
 rw[A1 ((j:Int) < (refs.length:Int))];obtain rfl:j=refs.length:=by omega
 rw[Ql (Qs _)]at K|-;refine af ?_;refine VC.loop (α:=Nat×List kC×Value×List (List Value)×List Value) (bg:=λs=>[(0,kE q),(2,vi (u:Int)),(4,kE L),(6,kE N),(10,s.2.2.1),(11,vi s.1)])
  (Hf:=λs=>[s.2.1,aj (.slice H refs.length J) ((refs.map (st.fix u)).flatMap kS) sp,kA L 0 (rB k nm f1 f2 f3 f4 f5 ci.length f7 H refs.length J cg fP a ak.length c),kA N 0 (rY1 ⟨#[]⟩),aj s.2.2.1 s.2.2.2.1.flatten s.2.2.2.2])
  (I:=λs=>s.1<=ak.length/\(∃B,s.2.1=T++B)/\ke 11 s.2.2.1 s.1 s.2.2.2.1.flatten s.2.2.2.2/\wk s.2.1 ((ak.take s.1).map (eW st u)) s.2.2.2.1) (μ:=λs=>ak.length-s.1) (0,T,Nz,[],[]) ⟨X0 _,⟨[],(vm T).symm⟩,.nil,wk.nil _⟩ ZU
  (ap.cut (M:=[T,aj (.slice H refs.length J) ((refs.map (st.fix u)).flatMap kS) sp,kA L 0 (rB k nm f1 f2 f3 f4 f5 ci.length f7 H refs.length J cg fP a ak.length c),kA N 0 (rY1 ⟨#[]⟩)]) ZI (ap.perm A4)) ?_
 rintro⟨j,T1,sv,rows,Fw⟩ ⟨hj1,⟨B,rfl⟩,om,bA⟩
 simp only at hj1 om bA;dsimp only;obtain⟨Tg,Th,rfl⟩:=om.form;refine af ?_;by_cases gh:j<ak.length;rotate_left
 .rw[A1 ((j:Int) < (ak.length:Int))];obtain rfl:j=ak.length:=by omega
  rw[Ql (Qs _),<- ue]at bA;refine af ?_;refine⟨.inr rfl,_,[T++(B++(aj (.slice H refs.length J) ((refs.map (st.fix u)).flatMap kS) sp++aj (.slice Tg ak.length Th) rows.flatten Fw))],.az (us:=(rB k nm f1 f2 f3 f4 f5 ci.length f7 H refs.length J cg fP Tg ak.length Th)) Zr Zr zSb .nil,ap.cut (M:=[T++B,aj (.slice H refs.length J) ((refs.map (st.fix u)).flatMap kS) sp,aj (.slice Tg ak.length Th) rows.flatten Fw]) ZI (ap.perm Zs),_,_,rfl,?_,rfl⟩;have Wc:=fL (B:=[]) (rs:=refs.map (st.fix u)) (by rw[Q6];exact K);have KU:=zZ (l:=eu st u ak) (by rw[uf];exact om) bA;show rS _ (.mk k nm (.mk f1 f2 f3 f4 ci) (refs.map (st.fix u)) cg fP (eu st u ak)) _;refine yq (fj.more λy hy=>by simp[hT y hy]) (Wc.more (λy hy=>?_)) (KU.more (λy hy=>?_))
  .exact zFK
  .exact zAS
 rw[A0 ((j:Int) < (ak.length:Int))];obtain⟨y,hy⟩:∃y,ak[j]? =some y:=⟨_,Zg gh⟩;obtain rfl:=ha Zo;have cA:=hm j gh;have cS:=(hs j y hy).len;have hyc:=hk j y hy (T++B) (λa h=>Zw _ (hT a h)) (hF.more λa h=>Zw _ h);generalize us j=uj at cA cS hyc;refine af ?_;refine kR (us:=uj) Zr (λz hz=>by have:=hT z (cA z hz);simp[this]) cS ?_;refine af ?_;refine kH hyc Zr ZP (λv dl hv=>?_);obtain⟨B2,ws,rfl,hn,rfl⟩:=hv;simp only[aE];have nG:=hn;obtain⟨Q,S,U,W,X,Y,r1,r3,G,k3,O6,o2,Dl,Az,_⟩:=oD hn;subst Az;generalize oV:eW st u y=d at nG|-;refine af ?_;refine kV (out:=(rP d.kind d.name Q S U W X d.lit.ci.length Y r1 d.refs.length r3 d.cg d.super G d.ak.length k3)) Zr Zr (λr=>?_);refine kX (k:=j) (m:=1) (xs:=rows.flatten) (sp:=Fw) (ys:=(rP d.kind d.name Q S U W X d.lit.ci.length Y r1 d.refs.length r3 d.cg d.super G d.ak.length k3)) Zr Zr om ZK Zr ?_ rfl Zr Zr Zd Zo (λbZ bf ax=>?_)
 .exact l9
 have cf:rows.flatten++((rP d.kind d.name Q S U W X d.lit.ci.length Y r1 d.refs.length r3 d.cg d.super G d.ak.length k3):List Value)=(rows++[((rP d.kind d.name Q S U W X d.lit.ci.length Y r1 d.refs.length r3 d.cg d.super G d.ak.length k3):List Value)]).flatten:=by simp
 rw[cf]at ax|-;obtain⟨dZ,ed,rfl⟩:=ax.form;refine af ?_;refine⟨(j+1,(T++B)++B2,.slice dZ (j+1) ed,rows++[(rP d.kind d.name Q S U W X d.lit.ci.length Y r1 d.refs.length r3 d.cg d.super G d.ak.length k3)],bf),⟨by simp only;omega,⟨B++B2,by simp only;rw[vj]⟩,ax,?_⟩,by simp only;omega,ZU,ZI⟩;show wk ((T++B)++B2) ((ak.take (j+1)).map (eW st u)) _;rw[Qi,hy,QC];exact(bA.more (λz hz=>Zw _ hz)).snoc (by rw[oV];exact nG)
def IU(q st)(b:OV st)(E:Wf st)(u)(D:u < st.a7.length)(g):∀N x,PN.w x<=N->N<1073741824->∀ws,rS g x ws->yg st.a7.length x=true->yH (pd st u) x=true->Tr q st u g x ws:=by
 intro N
 induction N with
 |zero=>intro x B;have:=x.nC;omega
 |succ N ih=>
  intro x B hN ws h j m;refine LS q st b E u D g x ws h j m Zo (λy d A C=>?_);cases x with
  |mk k s l rs un b' ak=>
  simp only[PN.ak]at d;simp only[PN.w]at B;simp only[yg,vG]at j;simp only[yH,vG]at m;have:=PN.OQ d;exact ih y Zo Zo A C (dM j.2 d) (rG m.2 d)
noncomputable section
abbrev o46:Zo8:=[(1,[]),(6,[.range 20,[0,2,3,4,5,6,7,8,9,10,11,12,13,14,1,15,16,17,18,19]]),(10,[.range 19,[0,2,3,4,5,6,7,8,9,10,11,12,13,14,1,15,16,17,18]])]
def F46:aP:=aZ (o:=gF pq Tryz.f46 o46)
def low46:Zo9 46 o46 F46:=Zx9
abbrev o14:Zo8:=[(7,[.range 7,[0,1,2,3,5,4,6]])]
def F14:aP:=aZ (o:=gF pq Tryz.f14 o14)
def low14:Zo9 14 o14 F14:=Zx9
end
def SA(T q st)(hF:F9 T q st)(b:OV st)(qW:Ph st)(hPp:Pp st)(hbw:∀l∈st.a8,PN.ws l < 536870912)(u)(hu:u < st.a7.length):
 aq pg9 46 [kE q,vi (u:Int)] [T] (λv dl=>∃B ws,v=.agg ws.toArray/\SS (T++B) (st.aG u) ws/\dl=[T++B]):=by
 have h0:=hF;obtain⟨⟨vv,m2,ES⟩,⟨ov,m3,H9⟩,⟨av,m4,bI⟩,⟨bv,m6,hbv⟩,⟨rv,m9,Ak⟩,⟨N9,m11,hhv⟩⟩:=h0;have xC:=λr=>oz T q st vv rv m2 m9 ES Ak (by have:=b.v;omega) u r
 have hbc:=b.c u;have oU:=qW.wf.al;obtain⟨n,hn⟩:∃n,st.a5[u]? =some n:=⟨_,Zg Zo⟩;have U7:=getD_at (d:=0) hn;obtain⟨ab,ao,ac,aus,rfl,_,hac,rfl⟩:=yG bI hn;have ca:kC.cell ab (ao+u) (vi (n:Int))∈T:=hac _ (kI.2 ⟨0,_,rfl,Zs⟩);obtain⟨o,N⟩:∃o,st.a7[u]? =some o:=⟨_,Zg hu⟩;have hoD:=getD_at (d:=(-1:Int)) N;obtain⟨ob,oo,oc,ous,rfl,_,hocc,rfl⟩:=yG H9 N;have co:kC.cell ob (oo+u) (vi o)∈T:=hocc _ (kI.2 ⟨0,_,rfl,Zs⟩);have hcx:((List.range st.a7.length).map st.a9)[u]? =some (st.a9 u):=by rw[Vu,Vw hu];rfl
 obtain⟨hb,ho,hc,re,rfl,_,hhc,lv,rfl,xD⟩:=yG hhv hcx;obtain⟨la,lc,rfl⟩:=yS xD;rw[Q6,Q8]at m11;have ch:kC.cell hb (ho+u) (.slice la (st.a9 u).length lc)∈T:=hhc _ (kI.2 ⟨0,_,rfl,Zs⟩);have I5:=qW.wf.bl;obtain⟨bl,S⟩:∃bl,st.a8[u]? =some bl:=⟨_,Zg Zo⟩;have Y:=getD_at (d:=[]) S;obtain⟨bb,bo,bc,bus,rfl,_,X,bvv,rfl,ba,U,bbk,bbo,L,rfl,mo,NX,W⟩:=yG hbv S;have cb:kC.cell bb (bo+u) (.slice ba bl.length U)∈T:=X _ (kI.2 ⟨0,_,rfl,Zs⟩);have hblw:=hbw bl (Zv S);have hbll:=PN.G5 bl;have eA:∀(i:Nat) y,bl[i]? =some y->Tr q st u T y (L i):=λi y hy=>by
  have hm:=Zv hy;have:=PN.OQ hm;exact IU q st b qW.wf u hu T (PN.w y) y (Qs _) Zo _ (W i y hy) (dM (hPp.bd bl (Zv S)) hm) (rG (qW.bd u bl S) hm)
 have hUR:st.aG u=⟨o,n,((st.a9 u).map λt=>(⟨5,st.place o.toNat t,0,e0⟩:wY)),(st.bi u false).length,(st.bi u true).length,eu st u bl⟩:=by
  unfold ai.aG;rw[hoD,U7,Y]
 rw[hUR];refine aq.intro low46 Zn9 ?_;refine af ?_;refine kJ (λg=>?_);refine af ?_;refine VC.seq (VC.free 24 (λi v B=>match i with
  |0=>v=kE q/\B=[]
  |1=>v=.pointer (some ⟨q,0,none⟩)/\B=[]
  |2=>v=.pointer (some ⟨q,3,none⟩)/\B=[]
  |3=>v=.slice (some ⟨ob,oo,none⟩) st.a7.length oc/\B=[]
  |4=>v=vi (u:Int)/\B=[]
  |5=>v=.pointer (some ⟨ob,oo+u,none⟩)/\B=[]
  |6=>v=vi o/\B=[]
  |7=>v=kE q/\B=[]
  |8=>v=.pointer (some ⟨q,0,none⟩)/\B=[]
  |9=>v=.pointer (some ⟨q,4,none⟩)/\B=[]
  |10=>v=.slice (some ⟨ab,ao,none⟩) st.a5.length ac/\B=[]
  |11=>v=vi (u:Int)/\B=[]
  |12=>v=.pointer (some ⟨ab,ao+u,none⟩)/\B=[]
  |13=>v=vi (n:Int)/\B=[]
  |14=>v=kE q/\B=[]
  |15=>v=vi (u:Int)/\B=[]
  |16=>∃sp,ke 1 v (st.bi u false).length ((st.bi u false).map λb:Nat=>Value.int .i64 (b:Int)) sp/\B=aj v ((st.bi u false).map λb:Nat=>Value.int .i64 (b:Int)) sp
  |17=>v=vi ((st.bi u false).length:Int)/\B=[]
  |18=>v=kE q/\B=[]
  |19=>v=vi (u:Int)/\B=[]
  |20=>∃sp,ke 1 v (st.bi u true).length ((st.bi u true).map λb:Nat=>Value.int .i64 (b:Int)) sp/\B=aj v ((st.bi u true).map λb:Nat=>Value.int .i64 (b:Int)) sp
  |21=>v=vi ((st.bi u true).length:Int)/\B=[]
  |22=>v=.agg #[vi o,vi (n:Int),Nz,vi ((st.bi u false).length:Int),vi ((st.bi u true).length:Int),Nz]/\B=[]
  |23=>∃G,v=kE G/\B=kA G 0 rU1
  |_=>True) Zd Zd Zd ?_ ?_)
 .intro i hi vv A K C F
  match i,hi with
  |0,_=>
   show VO _ _ [⟨some 9,none,.mv (.tmp 0)⟩] _ [kA g 0 rU1,T] _ _;exact iA (F 0 _ rfl Zd) Ga
  |1,_=>
   show VO _ _ [⟨some 10,none,.qd (.tmp 9)⟩] _ [kA g 0 rU1,T] _ _;have e:=C 0 Zd 9 rfl;rw[(A 0 Zd).1]at e;exact uX e Ga
  |2,_=>
   show VO _ _ [⟨some 11,none,.Ω 3 (.tmp 10)⟩] _ [kA g 0 rU1,T] _ _;have e:=C 1 Zd 10 rfl;rw[(A 1 Zd).1]at e;exact iV e rfl Ga
  |3,_=>
   show VO _ _ [⟨some 12,none,.lH (.tmp 11)⟩] _ [kA g 0 rU1,T] _ _;have e:=C 2 Zd 11 rfl;rw[(A 2 Zd).1]at e;exact wJ e Zm Ga
  |4,_=>
   show VO _ _ [⟨some 13,none,.mv (.tmp 1)⟩] _ [kA g 0 rU1,T] _ _;exact iA (F 1 _ rfl Zd) Ga
  |5,_=>
   show VO _ _ [⟨some 14,none,.GX 1 (.tmp 12) (.tmp 13)⟩] _ [kA g 0 rU1,T] _ _;have D:=C 3 Zd 12 rfl;rw[(A 3 Zd).1]at D;have E:=C 4 Zd 13 rfl;rw[(A 4 Zd).1]at E;exact mY D E Zo Zs (VO.nil ⟨_,[],rfl,⟨rfl,rfl⟩,ap.perm Zs⟩)
  |6,_=>
   show VO _ _ [⟨some 15,none,.lH (.tmp 14)⟩] _ [kA g 0 rU1,T] _ _;have e:=C 5 Zd 14 rfl;rw[(A 5 Zd).1]at e;exact wJ e Zm Ga
  |7,_=>
   show VO _ _ [⟨some 16,none,.mv (.tmp 0)⟩] _ [kA g 0 rU1,T] _ _;exact iA (F 0 _ rfl Zd) Ga
  |8,_=>
   show VO _ _ [⟨some 17,none,.qd (.tmp 16)⟩] _ [kA g 0 rU1,T] _ _;have e:=C 7 Zd 16 rfl;rw[(A 7 Zd).1]at e;exact uX e Ga
  |9,_=>
   show VO _ _ [⟨some 18,none,.Ω 4 (.tmp 17)⟩] _ [kA g 0 rU1,T] _ _;have e:=C 8 Zd 17 rfl;rw[(A 8 Zd).1]at e;exact iV e rfl Ga
  |10,_=>
   show VO _ _ [⟨some 19,none,.lH (.tmp 18)⟩] _ [kA g 0 rU1,T] _ _;have e:=C 9 Zd 18 rfl;rw[(A 9 Zd).1]at e;exact wJ e Zm Ga
  |11,_=>
   show VO _ _ [⟨some 20,none,.mv (.tmp 1)⟩] _ [kA g 0 rU1,T] _ _;exact iA (F 1 _ rfl Zd) Ga
  |12,_=>
   show VO _ _ [⟨some 21,none,.GX 1 (.tmp 19) (.tmp 20)⟩] _ [kA g 0 rU1,T] _ _;have D:=C 10 Zd 19 rfl;rw[(A 10 Zd).1]at D;have E:=C 11 Zd 20 rfl;rw[(A 11 Zd).1]at E;exact mY D E Zo Zs (VO.nil ⟨_,[],rfl,⟨rfl,rfl⟩,ap.perm Zs⟩)
  |13,_=>
   show VO _ _ [⟨some 22,none,.lH (.tmp 21)⟩] _ [kA g 0 rU1,T] _ _;have e:=C 12 Zd 21 rfl;rw[(A 12 Zd).1]at e;exact wJ e Zm Ga
  |14,_=>
   show VO _ _ [⟨some 23,none,.mv (.tmp 0)⟩] _ [kA g 0 rU1,T] _ _;exact iA (F 0 _ rfl Zd) Ga
  |15,_=>
   show VO _ _ [⟨some 24,none,.mv (.tmp 1)⟩] _ [kA g 0 rU1,T] _ _;exact iA (F 1 _ rfl Zd) Ga
  |16,_=>
   show VO _ _ [⟨some 25,none,.call 99 [.tmp 23,.tmp 24,.const (.bool false)]⟩] _ [kA g 0 rU1,T] _ _;have D:=C 14 Zd 23 rfl;rw[(A 14 Zd).1]at D;have E:=C 15 Zd 24 rfl;rw[(A 15 Zd).1]at E;refine kH (xC false) (by simp only[V.nW,V.ev,D,E]) ZP (λv dl hv=>?_);exact zFB
  |17,_=>
   show VO _ _ [⟨some 26,none,.G4 (.tmp 25)⟩] _ [kA g 0 rU1,T] _ _;have e:=C 16 Zd 25 rfl;obtain⟨Fw,h1,_⟩:=A 16 Zd;obtain⟨la1,lc1,hf⟩:=h1.form;rw[hf]at e;exact VO.pure rfl (λρ aU=>by simp[kb,aU (.tmp 25) _ e]) (VO.nil ⟨_,[],rfl,⟨rfl,rfl⟩,ap.perm Zs⟩)
  |18,_=>
   show VO _ _ [⟨some 27,none,.mv (.tmp 0)⟩] _ [kA g 0 rU1,T] _ _;exact iA (F 0 _ rfl Zd) Ga
  |19,_=>
   show VO _ _ [⟨some 28,none,.mv (.tmp 1)⟩] _ [kA g 0 rU1,T] _ _;exact iA (F 1 _ rfl Zd) Ga
  |20,_=>
   show VO _ _ [⟨some 29,none,.call 99 [.tmp 27,.tmp 28,.const (.bool true)]⟩] _ [kA g 0 rU1,T] _ _;have D:=C 18 Zd 27 rfl;rw[(A 18 Zd).1]at D;have E:=C 19 Zd 28 rfl;rw[(A 19 Zd).1]at E;refine kH (xC true) (by simp only[V.nW,V.ev,D,E]) ZP (λv dl hv=>?_);exact zFB
  |21,_=>
   show VO _ _ [⟨some 30,none,.G4 (.tmp 29)⟩] _ [kA g 0 rU1,T] _ _;have e:=C 20 Zd 29 rfl;obtain⟨Fw,h1,_⟩:=A 20 Zd;obtain⟨la1,lc1,hf⟩:=h1.form;rw[hf]at e;exact VO.pure rfl (λρ aU=>by simp[kb,aU (.tmp 29) _ e]) (VO.nil ⟨_,[],rfl,⟨rfl,rfl⟩,ap.perm Zs⟩)
  |22,_=>
   show VO _ _ [⟨some 31,none,.build rU1 [(0,1,.tmp 15),(1,1,.tmp 22),(3,1,.tmp 26),(4,1,.tmp 30)]⟩] _ [kA g 0 rU1,T] _ _;have D:=C 6 Zd 15 rfl;rw[(A 6 Zd).1]at D;have E:=C 13 Zd 22 rfl;rw[(A 13 Zd).1]at E;have e3:=C 17 Zd 26 rfl;rw[(A 17 Zd).1]at e3;have e4:=C 21 Zd 30 rfl;rw[(A 21 Zd).1]at e4;have e':∀t w,V.look K t=some w->Au K (.tmp t)=w:=λt w h=>by simp[Au,V.ev,h]
   refine oN (by simp[known,V.ev,D,E,e3,e4]) (by show jb _ [(0,1,Au K (.tmp 15)),(1,1,Au K (.tmp 22)),(3,1,Au K (.tmp 26)),(4,1,Au K (.tmp 30))]=_;rw[e' _ _ D,e' _ _ E,e' _ _ e3,e' _ _ e4];rfl) Ga
  |23,_=>
   show VO _ _ [⟨some 5,none,.alloc 93 rU1⟩] _ [kA g 0 rU1,T] _ _;exact kJ (λG=>VO.nil ⟨_,_,rfl,⟨G,rfl,rfl⟩,ap.refl _⟩)
  |n+24,h=>exact absurd h Zo
 intro vv A K C F;show VO _ _ _ _ [(vv 0).2,(vv 1).2,(vv 2).2,(vv 3).2,(vv 4).2,(vv 5).2,(vv 6).2,(vv 7).2,(vv 8).2,(vv 9).2,(vv 10).2,(vv 11).2,(vv 12).2,(vv 13).2,(vv 14).2,(vv 15).2,(vv 16).2,(vv 17).2,(vv 18).2,(vv 19).2,(vv 20).2,(vv 21).2,(vv 22).2,(vv 23).2,kA g 0 rU1,T] _ _;obtain⟨G,e5,h5⟩:=A 23 Zo;have s5:=C 23 Zd 5 rfl;have Q:=C 22 Zd 31 rfl;rw[e5]at s5;rw[(A 22 Zo).1]at Q;have s0:=F 0 _ rfl Zd;have s1:=F 1 _ rfl Zd;have s4:=F 4 _ rfl Zd;clear A C F;refine VO.imp (H':=[(vv 23).2,kA g 0 rU1,T]) ZI ?_;rw[h5];refine VO.sub (Δ:=[(0,kE q),(1,vi (u:Int)),(4,kE g),(5,kE G),(31,.agg #[vi o,vi (n:Int),Nz,vi ((st.bi u false).length:Int),vi ((st.bi u true).length:Int),Nz])]) (Sub.cons s0 (Sub.cons s1 (Sub.cons s4 (Sub.cons s5 (Sub.cons Q Sub.nil))))) ?_;clear s0 s1 s4 s5 Q e5 h5;refine af ?_;refine VC.loop (α:=Nat×Value×List Value) (bg:=λs=>[(0,kE q),(1,vi (u:Int)),(4,kE g),(5,kE G),(6,.slice la (st.a9 u).length lc),(7,vi s.1)])
  (Hf:=λs=>[T,kA G 0 [vi o,vi (n:Int),s.2.1,vi ((st.bi u false).length:Int),vi ((st.bi u true).length:Int),Nz],aj s.2.1 ((((st.a9 u).map λt=>(⟨5,st.place o.toNat t,0,e0⟩:wY)).take s.1).flatMap kS) s.2.2,kA g 0 rU1])
  (I:=λs=>s.1<=(st.a9 u).length/\ke 4 s.2.1 s.1 ((((st.a9 u).map λt=>(⟨5,st.place o.toNat t,0,e0⟩:wY)).take s.1).flatMap kS) s.2.2) (μ:=λs=>(st.a9 u).length-s.1) (0,Nz,[]) ⟨X0 _,.nil⟩ ZU
  (ap.cut (M:=[T,kA G 0 [vi o,vi (n:Int),Nz,vi ((st.bi u false).length:Int),vi ((st.bi u true).length:Int),Nz],kA g 0 rU1]) ZI (ap.perm A4)) ?_
 rintro⟨j,sv,sp⟩ ⟨hj,aM⟩
 simp only at hj aM;dsimp only;obtain⟨H,J,rfl⟩:=aM.form;refine af ?_;by_cases gh:j<(st.a9 u).length
 .rw[A0 ((j:Int) < ((st.a9 u).length:Int))];obtain⟨⟨t1,t2⟩,O⟩:∃t,(st.a9 u)[j]? =some t:=⟨_,Zg gh⟩;have Z:=qW.oS hu (Zv O);rw[hoD]at Z;obtain⟨on,rfl⟩:∃on:Nat,o=(on:Int):=⟨o.toNat,by have:=Z.1;omega⟩;have ZT:on<st.a7.length:=by have:=(qW.wf.low u _ N).2;omega
  obtain⟨tb,to,tc,tus,htf,_,htc,rfl⟩:=yG xD O;rw[Value.slice.injEq]at htf;obtain⟨rfl,_,rfl⟩:=htf;have cZ:(((st.a9 u).map λt=>(⟨5,st.place ((on:Int)).toNat t,0,e0⟩:wY)).take j).flatMap kS++([.int .u8 5,vi (st.place on (t1,t2)),vi 0,.string ⟨#[]⟩]:List Value)=(((st.a9 u).map λt=>(⟨5,st.place ((on:Int)).toNat t,0,e0⟩:wY)).take (j+1)).flatMap kS:=by
   rw[Qi,Vu,O,V9];rfl
  refine af ?_;refine VC.draws ⟨?_,?_,trivial⟩
  .exact zAY
  .exact zAY
 rw[A1 ((j:Int) < ((st.a9 u).length:Int))];obtain rfl:j=(st.a9 u).length:=by omega
 rw[Ql (by rw[Q6];exact Qs _)]at aM|-;refine af ?_;refine VC.loop (α:=Nat×List kC×Value×List (List Value)×List Value) (bg:=λs=>[(0,kE q),(1,vi (u:Int)),(4,kE g),(5,kE G),(8,vi s.1)])
  (Hf:=λs=>[s.2.1,aj (.slice H (st.a9 u).length J) (((st.a9 u).map λt=>(⟨5,st.place o.toNat t,0,e0⟩:wY)).flatMap kS) sp,kA G 0 [vi o,vi (n:Int),.slice H (st.a9 u).length J,vi ((st.bi u false).length:Int),vi ((st.bi u true).length:Int),s.2.2.1],kA g 0 rU1,aj s.2.2.1 s.2.2.2.1.flatten s.2.2.2.2])
  (I:=λs=>s.1<=bl.length/\(∃B,s.2.1=T++B)/\ke 11 s.2.2.1 s.1 s.2.2.2.1.flatten s.2.2.2.2/\wk s.2.1 ((bl.take s.1).map (eW st u)) s.2.2.2.1) (μ:=λs=>bl.length-s.1) (0,T,Nz,[],[]) ⟨X0 _,⟨[],(vm T).symm⟩,.nil,wk.nil _⟩ ZU
  (ap.cut (M:=[T,aj (.slice H (st.a9 u).length J) (((st.a9 u).map λt=>(⟨5,st.place o.toNat t,0,e0⟩:wY)).flatMap kS) sp,kA G 0 [vi o,vi (n:Int),.slice H (st.a9 u).length J,vi ((st.bi u false).length:Int),vi ((st.bi u true).length:Int),Nz],kA g 0 rU1]) ZI (ap.perm A4)) ?_
 rintro⟨j,T1,sv,rows,Fw⟩ ⟨hj1,⟨B,rfl⟩,om,bA⟩
 simp only at hj1 om bA;dsimp only;obtain⟨Tg,Th,rfl⟩:=om.form;have m6':kC.cell q 6 (.slice (some ⟨bb,bo,none⟩) st.a8.length bc)∈T++B:=Zw _ m6;have cb':kC.cell bb (bo+u) (.slice ba bl.length U)∈T++B:=Zw _ cb;refine af ?_;by_cases gh:j<bl.length;rotate_left
 .rw[A1 ((j:Int) < (bl.length:Int))];obtain rfl:j=bl.length:=by omega
  rw[Ql (Qs _),<- ue]at bA;refine af ?_;refine⟨.inr rfl,_,[T++(B++(aj (.slice H (st.a9 u).length J) (((st.a9 u).map λt=>(⟨5,st.place o.toNat t,0,e0⟩:wY)).flatMap kS) sp++aj (.slice Tg bl.length Th) rows.flatten Fw))],.az (us:=[vi o,vi (n:Int),.slice H (st.a9 u).length J,vi ((st.bi u false).length:Int),vi ((st.bi u true).length:Int),.slice Tg bl.length Th]) Zr Zr zSb .nil,ap.cut (M:=[T++B,aj (.slice H (st.a9 u).length J) (((st.a9 u).map λt=>(⟨5,st.place o.toNat t,0,e0⟩:wY)).flatMap kS) sp,aj (.slice Tg bl.length Th) rows.flatten Fw]) ZI (ap.perm Zs),_,_,rfl,⟨_,_,rfl,?_,?_⟩,rfl⟩
  .have Wc:=fL (B:=[]) (rs:=((st.a9 u).map λt=>(⟨5,st.place o.toNat t,0,e0⟩:wY))) (sv:=.slice H (st.a9 u).length J) (sp:=sp) (by rw[Q6];exact aM);refine Wc.more λy hy=>?_
   exact zFK
  .refine(zZ (l:=eu st u bl) (by rw[uf];exact om) bA).more λy hy=>?_
   exact zAS
 rw[A0 ((j:Int) < (bl.length:Int))];obtain⟨y,hy⟩:∃y,bl[j]? =some y:=⟨_,Zg gh⟩;obtain rfl:=mo Zo;have cA:∀z∈kA bbk (bbo+j*11) (L j),z∈T:=NX j gh;have cS:=(W j y hy).len;have hyc:=eA j y hy (T++B) (λa h=>Zw _ h) (hF.more λa h=>Zw _ h);generalize L j=uj at cA cS hyc;refine af ?_;refine VC.draws ⟨?_,?_,trivial⟩
 .exact zAD
 .exact zAD
def fu(X:DX)(st:ai)(w:DW)(R:List kC)(hw:gN X st w R)(a6:List Nat)(ev:Value)(he:zI R ev a6)(aI:∀v∈a6,v < st.vars.length)(d:List ByteArray)(nv:Value)(hn:dU R nv d)(cg:Nat)(arg own:Bool)(p:Int)
 (hr1:st.vars.length+d.length < 1073741824) (de:a6.length+d.length < 1073741824):
 aq Tryz.prog 95 [kE X.q,ev,nv,.int .i64 (cg:Int),.bool arg,.bool own,.int .i64 p] [DM X w st,R] (λv dl=>∃w' B,(gN X (kO cg arg own p d 0 st a6).1 w' R/\zI B v (kO cg arg own p d 0 st a6).2)/\dl=[DM X w' (kO cg arg own p d 0 st a6).1,R,B]):=by
 have U:=he;obtain⟨ea,ec,rfl,her⟩:=U;have nG:=hn;obtain⟨na,nc,rfl,hnl,W⟩:=nG;refine aq.intro low95 Zn9 ?_;refine af ?_;refine VO.imp (H':=[aj Nz [] [],DM X w st,R]) (ap.perm A4) ?_;refine Db (m:=a6.length) (ys:=a6.map λb:Nat=>Value.int .i64 (b:Int)) Zr Zr .nil ZK (λh0=>(Ka he h0).mono (λy hy=>by simp[hy])) Zs (Jp a6) Zr Zd Zo (λsv0 sp0 T=>?_);simp only[QV,Qz]at T|-;obtain⟨sa0,sc0,rfl⟩:=T.form;refine af ?_;refine VC.loop (α:=Nat×ai×DW×List Nat×Value×List Value) (bg:=λs=>[(0,kE X.q),(2,.slice na d.length nc),(3,vi (cg:Int)),(4,.bool arg),(5,.bool own),(6,vi p),(15,s.2.2.2.2.1),(16,vi s.1)])
  (Hf:=λs=>[DM X s.2.2.1 s.2.1,R,aj s.2.2.2.2.1 (s.2.2.2.1.map λb:Nat=>Value.int .i64 (b:Int)) s.2.2.2.2.2])
  (I:=λs=>s.1<=d.length/\kO cg arg own p d 0 st a6=kO cg arg own p (d.drop s.1) s.1 s.2.1 s.2.2.2.1/\gN X s.2.1 s.2.2.1 R/\ke 1 s.2.2.2.2.1 s.2.2.2.1.length (s.2.2.2.1.map λb:Nat=>Value.int .i64 (b:Int)) s.2.2.2.2.2/\(∀v∈s.2.2.2.1,v<s.2.1.vars.length)/\s.2.1.vars.length=st.vars.length+s.1/\s.2.2.2.1.length=a6.length+s.1)
  (μ:=λs=>d.length-s.1) (0,st,w,a6,.slice sa0 a6.length sc0,sp0) ⟨X0 _,rfl,hw,T,aI,rfl,rfl⟩ ZU ZI ?_
 rintro⟨j,C,F,g,sv,sp⟩ ⟨hj,D,N,L,S,xE,Kz⟩
 simp only at hj D N L S xE Kz;dsimp only;obtain⟨H,J,rfl⟩:=L.form;refine af ?_;by_cases gh:j<d.length;rotate_left
 .rw[A1 ((j:Int) < (d.length:Int))];rw[vw Zo,kO]at D;rw[D];refine af ?_;exact kG (dl:=[DM X F C,R,aj (.slice H g.length J) (g.map λb:Nat=>Value.int .i64 (b:Int)) sp]) (.inr rfl) zT1 ⟨F,_,⟨N,fI rfl L⟩,rfl⟩ ZI
 rw[A0 ((j:Int) < (d.length:Int))];obtain⟨s,Y⟩:∃s,d[j]? =some s:=⟨_,Zg gh⟩;obtain⟨nb,no,rfl,ez,hss⟩:=W j s Y;have Aw:d.drop j=s::d.drop (j+1):=by
  rw[vt gh]
  congr 1
  rw[Zg gh]at Y;exact X8 Y
 rw[Aw,LJ]at D;have UW:=EN X C F R _ N g _ (fI rfl L) S Zo s;refine af ?_;refine kH UW Zr ZP (λv dl hv=>?_);obtain⟨rfl,rfl⟩:=hv;simp only[aE];refine jB ?_;have pX:=yl (jQ C.vars g s).isSome C 180 p;have lE:=N.aO (jQ C.vars g s).isSome (e:=180) p Zd;refine VC.join (α:=Unit) (bg:=λ_=>[(0,kE X.q),(2,.slice (some ⟨nb,no,none⟩) d.length nc),(3,vi (cg:Int)),(4,.bool arg),(5,.bool own),(6,vi p),(15,.slice H g.length J),(16,vi j)])
  (Hf:=λ_=>[DM X F (aO (jQ C.vars g s).isSome C 180 p),R,aj (.slice H g.length J) (g.map λb:Nat=>Value.int .i64 (b:Int)) sp]) (I:=λ_=>True) ?_ ?_
 .cases hf:jQ C.vars g s with
  |none=>
   rw[show aO (none:Option Nat).isSome C 180 p=C from rfl];unfold D4;exact Ds
  |some v0=>
   rw[show aO (some v0).isSome C 180 p=C.wrong 180 p from rfl];unfold D4;refine af ?_;rw[A0 ((v0:Int) ≥ 0)];refine af ?_;refine kH (HY X C F R N 180 p Zd) Zr ZP (λv dl hv=>?_);obtain⟨rfl,rfl⟩:=hv;simp only[aE];exact Ds
 rintro⟨⟩ -
 generalize aO (jQ C.vars g s).isSome C 180 p=A at*;obtain⟨g1,g2,g3,g4,g5⟩:=pX;rw[<- g1]at xE S;refine jB ?_;refine kJ (λG=>?_);refine jB ?_;obtain⟨E,K⟩:∃E:Int,E=if arg&&own then(j:Int)else -1:=⟨_,rfl⟩;rw[<- K]at D;refine VC.join (α:=Unit) (bg:=λ_=>[(0,kE X.q),(2,.slice (some ⟨nb,no,none⟩) d.length nc),(3,vi (cg:Int)),(4,.bool arg),(5,.bool own),(6,vi p),(15,.slice H g.length J),(16,vi j),(18,kE G)])
  (Hf:=λ_=>[kA G 0 [.string s,vi (cg:Int),.bool arg,vi E],DM X F A,R,aj (.slice H g.length J) (g.map λb:Nat=>Value.int .i64 (b:Int)) sp]) (I:=λ_=>True) ?_ ?_
 .cases arg<;>cases own
  .obtain rfl:E=-1:=K;exact Ds
  .obtain rfl:E=-1:=K;exact Ds
  .obtain rfl:E=-1:=K;exact Ds
  .obtain rfl:E=j:=K;exact Ds
 rintro⟨⟩ -
 refine VC.imp (ap.cut (M:=[DM X F A,kA G 0 [.string s,vi (cg:Int),.bool arg,vi E],R,aj (.slice H g.length J) (g.map λb:Nat=>Value.int .i64 (b:Int)) sp]) ZI (fw X F A _)) ?_;have Z:=lE.v;obtain⟨va,vc,Jk⟩:=Z.form;unfold et;rw[Jk]at Z|-;refine af ?_;refine kV (out:=[.string s,vi (cg:Int),.bool arg,vi E]) Zr Zr (λr=>?_);refine kX (k:=A.vars.length) (m:=1) (xs:=A.vars.flatMap jl) (sp:=F.pD) (ys:=[.string s,vi (cg:Int),.bool arg,vi E]) Zr Zr Z ZK Zr ?_ rfl Zr Zr Zd Zo (λbZ bf ax=>?_)
 .exact l9
 obtain⟨O,Q,rfl⟩:=ax.form;refine af ?_;rw[show(((A.vars.length+1:Nat):Int)-1)=(A.vars.length:Int)from by omega];refine kV (out:=[vi (A.vars.length:Int)]) Zr Zr (λr2=>?_);refine kX (k:=g.length) (m:=1) (xs:=g.map λb:Nat=>Value.int .i64 (b:Int)) (sp:=sp) (ys:=[vi (A.vars.length:Int)]) Zr Zr L ZK Zr ?_ rfl Zr Zr Zd Zo (λYC KZ pJ=>?_)
 .exact l9
 obtain⟨Z4,Yi,rfl⟩:=pJ.form;refine af ?_;have ss:=lE.addVar ⟨s,cg,arg,E⟩ ax;refine⟨(j+1,{A with vars:=A.vars++[⟨s,cg,arg,E⟩]},{F with vv:=.slice O (A.vars.length+1) Q,pD:=bf},g++[A.vars.length],.slice Z4 (g.length+1) Yi,KZ),⟨by simp only;omega,by simp only;rw[D],ss,by simpa using pJ,?_,by simp;omega,by simp;omega⟩,by simp only;omega,ZU,?_⟩
 .intro v hv;simp only at hv|-;rw[Vz,QA];rcases QH.1 hv with hv|hv
  .have:=S v hv;omega
  .rw[QU.1 hv];omega
 .refine ap.cut ?_ (zK X {F with vv:=.slice O (A.vars.length+1) Q,pD:=bf} {A with vars:=A.vars++[⟨s,cg,arg,E⟩]} _);unfold et;simp only[V9,VV,List.flatMap_nil,vm,QC,QE,QG,jl];exact bH
def ref_R(X:DX)(st:ai)(w:DW)(R:List kC)(hw:gN X st w R)(a6:List Nat)(ev:Value)(Q:zI R ev a6)(A:∀v∈a6,v < st.vars.length)(D:a6.length < 1099511627776)(nm:ByteArray)(u:Nat)(p:Int)(put:Bool)(S:st.dg.length < 1073741824):
 aq Tryz.prog 189 [kE X.q,ev,.string nm,.int .i64 (u:Int),.int .i64 p,.bool put] [DM X w st,R] (λv dl=>∃w',(v=.agg (kS (jx X.F X.G st a6 nm u p put).1).toArray/\gN X (jx X.F X.G st a6 nm u p put).2 w' R)/\dl=[DM X w' (jx X.F X.G st a6 nm u p put).2,R]):=by
 have H:=EN X st w R R hw a6 ev Q A D nm;have N:=xG R X.F X.fv hw.F nm;have O:=xG R X.G X.gv hw.G nm;have E:=λi x h=>Ko (i:=i) (x:=x) hw.v h
 obtain⟨va,vc,Jk⟩:=hw.v.form;obtain⟨ua,uc,huf⟩:=hw.u.form;refine aq.intro low189 Zn9 ?_;refine af ?_;refine kJ (λdN=>?_);refine af ?_;by_cases h1:nm=⟨#[115,101,108,102]⟩
 .have hk:wm nm=1:=by rw[h1];decide
  rw[Zt h1];exact zC5
 rw[Zf h1];refine af ?_;by_cases h2:nm=⟨#[115,117,112,101,114]⟩
 .have hk:wm nm=1:=by rw[h2];decide
  rw[Zt h2];exact zC5
 rw[Zf h2];refine af ?_;by_cases h3:nm=⟨#[110,105,108]⟩
 .have hk:wm nm=2:=by rw[h3];decide
  rw[Zt h3];refine af ?_;rw[fG (F:=X.F) (G:=X.G) (st:=st) (a6:=a6) (nm:=nm) (u:=u) (p:=p) (put:=put) (by rw[hk];decide),hk];exact⟨.inr rfl,_,[DM X w st,R],.az (us:=kS ⟨2,0,0,e0⟩) Zr Zr (λy hy=>by simp only[Vd,QH];exact .inl hy) .nil,ZI,w,⟨rfl,hw⟩,rfl⟩
 rw[Zf h3];refine af ?_;by_cases h4:nm=⟨#[116,114,117,101]⟩
 .have hk:wm nm=3:=by rw[h4];decide
  rw[Zt h4];refine af ?_;rw[fG (F:=X.F) (G:=X.G) (st:=st) (a6:=a6) (nm:=nm) (u:=u) (p:=p) (put:=put) (by rw[hk];decide),hk];exact⟨.inr rfl,_,[DM X w st,R],.az (us:=kS ⟨3,0,0,e0⟩) Zr Zr (λy hy=>by simp only[Vd,QH];exact .inl hy) .nil,ZI,w,⟨rfl,hw⟩,rfl⟩
 rw[Zf h4];refine af ?_;by_cases h5:nm=⟨#[102,97,108,115,101]⟩
 .have hk:wm nm=4:=by rw[h5];decide
  rw[Zt h5];refine af ?_;rw[fG (F:=X.F) (G:=X.G) (st:=st) (a6:=a6) (nm:=nm) (u:=u) (p:=p) (put:=put) (by rw[hk];decide),hk];exact⟨.inr rfl,_,[DM X w st,R],.az (us:=kS ⟨4,0,0,e0⟩) Zr Zr (λy hy=>by simp only[Vd,QH];exact .inl hy) .nil,ZI,w,⟨rfl,hw⟩,rfl⟩
 rw[Zf h5];refine af ?_;have j:wm nm=0:=XR h1 h2 h3 h4 h5;refine kH H Zr ZP (λv dl d=>?_);obtain⟨rfl,rfl⟩:=d;simp only[aE];refine jB ?_;cases hf:jQ st.vars a6 nm with
 |some v=>
  obtain⟨x,B⟩:∃x,st.vars[v]? =some x:=⟨_,Zg (A v (ud hf))⟩;obtain⟨J,T,c2,C,_,K⟩:=E v x B;have L:=Sf X.F X.G st a6 nm u p put j hf B;rw[L];have g:kC.cell J (T+v*4+2) (.bool x.arg)∈aj w.vv (st.vars.flatMap jl) w.pD:=K _ (kI.2 ⟨2,_,rfl,Zs⟩);unfold D4;refine af ?_;rw[A0 ((v:Int) ≥ 0)];refine af ?_;refine VO.bool 45 (put&&x.arg) Zr ?_ ?_
  .cases put with
   |false=>
    refine af ?_;exact⟨Zr,ZU,ZI⟩
   |true=>
    refine VO.imp (fw X w st _) ?_;unfold et;rw[C]at g|-;refine af ?_;refine⟨Zr,ZU,ap.cut ?_ (zK X w st _)⟩;unfold et;rw[C];exact bH
  generalize (put&&x.arg)=U;cases U with
  |false=>
   refine af ?_;rw[show DM X w st=DM X w (aO false st 182 p)from rfl];have pX:=yl false st 182 p;have lE:=hw.aO false (e:=182) p Zd;generalize aO false st 182 p=ff at*;exact zAL
  |true=>
   refine af ?_;refine kH (HY X st w R hw 182 p Zd) Zr ZP (λv dl d=>?_);obtain⟨rfl,rfl⟩:=d;simp only[aE];rw[show DM X w (st.wrong 182 p)=DM X w (aO true st 182 p)from rfl];have pX:=yl true st 182 p;have lE:=hw.aO true (e:=182) p Zd;generalize aO true st 182 p=ff at*;exact zAL
 |none=>
  unfold D4;refine VC.imp (fw X w st _) ?_;unfold et;refine af ?_;refine kH N Zr ZP (λv dl d=>?_);obtain⟨rfl,rfl⟩:=d;simp only[aE];refine jB ?_;cases hi:X.F.findIdx? (λs=>decide (s=nm))with
  |some i=>
   rw[rI j hf hi];unfold D4;refine af ?_;refine⟨.inr rfl,_,[DM X w st,R],.az (us:=kS ⟨7,i,0,e0⟩) Zr Zr (λy hy=>by simp only[Vd,QH];unfold kS e0 at hy;repeat (first|exact Or.inl hy|refine Or.inr ?_)) .nil,?_,_,⟨rfl,hw⟩,rfl⟩;exact ap.cut (by unfold et;exact bH) (zK X w st _)
  |none=>
   rw[XT X.F X.G st a6 nm u p put j hf hi];unfold D4;apply VC.seq;refine jB ?_;refine VC.join (α:=Unit) (bg:=λ_=>[(2,.string nm),(12,kE dN)]) (Hf:=λ_=>[DM X w (aO (!(X.G.any λs=>decide (s=nm))) st 181 p),R,kA dN 0 [.int .u8 0,vi 0,vi 0,.string ⟨#[]⟩]]) (I:=λ_=>True) ?_ ?_
   .refine af ?_;refine kH O Zr ZP (λv dl d=>?_);obtain⟨rfl,rfl⟩:=d;simp only[aE];rw[T7];cases hg:X.G.findIdx? (λs=>decide (s=nm))with
    |some i=>
     unfold D4;refine af ?_;rw[A1 ((i:Int) < 0)];refine af ?_;exact⟨(),trivial,ZU,ap.cut (by unfold et;exact bH) (zK X w st _)⟩
    |none=>
     unfold D4;refine af ?_;refine VO.imp (H':=[DM X w st,R,kA dN 0 [.int .u8 0,vi 0,vi 0,.string ⟨#[]⟩]]) (ap.cut (by unfold et;exact bH) (zK X w st _)) ?_;refine kH (HY X st w R hw 181 p Zd) Zr ZP (λv dl d=>?_);obtain⟨rfl,rfl⟩:=d;simp only[aE];refine af ?_;rw[show DM X w (st.wrong 181 p)=DM X w (aO (!(none:Option Nat).isSome) st 181 p)from rfl];exact⟨(),trivial,ZU,ZI⟩
   rintro⟨⟩ -
   refine af ?_;exact⟨.inr rfl,_,[DM X w (aO (!(X.G.any λs=>decide (s=nm))) st 181 p),R],.az (us:=kS ⟨8,0,0,nm⟩) Zr Zr (λy hy=>by simp only[Vd,QH];unfold kS at hy;repeat (first|exact Or.inl hy|refine Or.inr ?_)) .nil,ZI,_,⟨rfl,hw.aO _ p Zd⟩,rfl⟩
def eJ(A x vs)(h:jD A x vs):aq pg9 80 [.agg vs.toArray] [A] (λv dl=>v=.bool (jV x)/\dl=[A]):=by
 obtain⟨e1,e2,e3,e4,e5,e6,e7,a1,c1,a2,c2,a3,c3,bk,o,us,rfl,_⟩:=w9 h;refine aq.intro low80 Zn9 ?_;refine af ?_;refine kZ Zr (λq=>?_);simp only[Value.cells];unfold jV;refine af ?_;by_cases hk:x.kind=7
 .rw[A0 ((x.kind:Int)=7),Zt hk,vV];refine af ?_;rw[show decide ((x.a5.length:Int)=0)=decide (x.a5.length=0)from decide_eq_decide.2 Zo];exact zBV
 .rw[A1 ((x.kind:Int)=7),Zf hk,vM];exact zBV
def xW(A x vs)(h:jD A x vs):aq pg9 190 [.agg vs.toArray] [A] (λv dl=>v=.bool (kg x)/\dl=[A]):=by
 obtain⟨e1,e2,e3,e4,e5,e6,e7,a1,c1,a2,c2,a3,c3,bk,o,us,rfl,_⟩:=w9 h;refine aq.intro low190 Zn9 ?_;refine af ?_;refine kZ Zr (λq=>?_);simp only[Value.cells];refine af ?_;by_cases hk:x.kind=2
 .rw[A0 ((x.kind:Int)=2)];refine af ?_;by_cases hn:x.name=⟨#[115,117,112,101,114]⟩
  .rw[Zt hn];refine af ?_;refine kG (dl:=[A]) (.inr rfl) zT1 ⟨?_,rfl⟩ ZI;have:kg x=true:=by unfold kg;rw[Zt hk,Zt (ze.2 hn)];rfl
   rw[this];rfl
  .rw[Zf hn];refine af ?_;refine kG (dl:=[A]) (.inr rfl) zT1 ⟨?_,rfl⟩ ZI;have:kg x=false:=by unfold kg;rw[Zf (λe=>hn (ze.1 e))];simp
   rw[this];rfl
 .rw[A1 ((x.kind:Int)=2)];refine af ?_;refine kG (dl:=[A]) (.inr rfl) zT1 ⟨?_,rfl⟩ ZI;have:kg x=false:=by unfold kg;rw[Zf hk];rfl
  rw[this];rfl
def Dz(A x vs)(h:jD A x vs):aq pg9 32 [.agg vs.toArray] [A] (λv dl=>v=.bool (z5 x)/\dl=[A]):=by
 obtain⟨e1,e2,e3,e4,e5,e6,e7,X,Z,Y,c2,a3,c3,bk,o,us,rfl,gO,bI,bL,hk8,ha,M,D,lW⟩:=w9 h;refine aq.intro low32 Zn9 ?_;refine VC.join (α:=Nat) (bg:=λq=>[(1,kE q)]) (Hf:=λq=>[kA q 0 (rN x.kind x.name e1 e2 e3 e4 e5 e6 e7 X x.a5.length Z Y x.ae.length c2 a3 x.ak.length c3 x.at_),A]) (I:=λ_=>True) ?_ (λq _=>?_)
 .refine af ?_;exact zDM
 refine VC.join (α:=Unit) (bg:=λ_=>[(1,kE q)]) (Hf:=λ_=>[kA q 0 (rN x.kind x.name e1 e2 e3 e4 e5 e6 e7 X x.a5.length Z Y x.ae.length c2 a3 x.ak.length c3 x.at_),A]) (I:=λ_=>x.kind=4/\0<x.ak.length) ?_ ?_
 .refine af ?_;by_cases hk:x.kind=4;rotate_left
  .rw[A1 ((x.kind:Int)=4)];refine af ?_;have eB:z5 x=false:=by unfold z5 fA;simp[hk]
   exact zD1
  rw[A0 ((x.kind:Int)=4)];refine af ?_;by_cases W:x.ak.length=0
  .rw[A0 ((x.ak.length:Int)=0)];refine af ?_;have sh:x.ak=[]:=vy W;have eB:z5 x=false:=zF8
   exact zD1
  rw[A1 ((x.ak.length:Int)=0)];refine af ?_;exact⟨(),⟨hk,Zo⟩,ZU,ZI⟩
 rintro⟨⟩ ⟨hk,W⟩
 obtain rfl:=ha W;obtain⟨r,sq⟩:∃r,x.ak[0]? =some r:=⟨_,Zg Zo⟩;have j:=D 0 r sq;have S:∀z∈kA bk o (us 0),z∈A:=by simpa using M 0 W
 have hu0:=j.len;have Am:jR x.ak=kg r:=zCK
 have B:=eJ A r (us 0) j;generalize hu:us 0=u0 at j S hu0 B;obtain⟨r1,r2,r3,r4,r5,r6,r7,p1,d1,p2,d2,p3,d3,O6,o2,Dl,Mj,_⟩:=w9 j;subst Mj;refine jB ?_;refine kR (us:=(rN r.kind r.name r1 r2 r3 r4 r5 r6 r7 p1 r.a5.length d1 p2 r.ae.length d2 p3 r.ak.length d3 r.at_)) Zr (λz F=>by have:=S z F;simp[this]) rfl ?_;refine kJ (λK=>?_);refine jB ?_;refine VC.join (α:=Unit) (bg:=λ_=>[(1,kE q),(3,kE K)]) (Hf:=λ_=>[kA q 0 (rN x.kind x.name e1 e2 e3 e4 e5 e6 e7 X x.a5.length Z Y x.ae.length c2 (some ⟨bk,o,none⟩) x.ak.length c3 x.at_),kA K 0 (rN r.kind r.name r1 r2 r3 r4 r5 r6 r7 p1 r.a5.length d1 p2 r.ae.length d2 p3 r.ak.length d3 r.at_),A]) (I:=λ_=>jR x.ak=false) ?_ ?_
 .refine af ?_;by_cases Jg:r.kind=2
  .rw[A0 ((r.kind:Int)=2)];refine af ?_;by_cases hrn:r.name=⟨#[115,117,112,101,114]⟩
   .rw[Zt hrn];refine af ?_;have:kg r=true:=by unfold kg;rw[Zt Jg,Zt (ze.2 hrn)];rfl
    have eB:z5 x=false:=by unfold z5 fA;rw[Am,this];simp
    exact zD1
   rw[Zf hrn];have J:kg r=false:=by unfold kg;rw[Zf (λe=>hrn (ze.1 e))];simp
   refine af ?_;exact⟨(),by rw[Am];exact J,ZU,ZI⟩
  .rw[A1 ((r.kind:Int)=2)];have J:kg r=false:=by unfold kg;rw[Zf Jg];rfl
   refine af ?_;exact⟨(),by rw[Am];exact J,ZU,ZI⟩
 rintro⟨⟩ T
 have eB:z5 x=yi (kd x.name) x.ak:=by unfold z5 fA;rw[hk,T];rfl
 obtain⟨L,SZ⟩:∃L:SH,L=[kA q 0 (rN x.kind x.name e1 e2 e3 e4 e5 e6 e7 X x.a5.length Z Y x.ae.length c2 (some ⟨bk,o,none⟩) x.ak.length c3 x.at_),kA K 0 (rN r.kind r.name r1 r2 r3 r4 r5 r6 r7 p1 r.a5.length d1 p2 r.ae.length d2 p3 r.ak.length d3 r.at_),A]:=⟨_,rfl⟩;refine jB ?_;apply VC.seq;refine jB ?_;refine VC.join (α:=Bool) (bg:=λb=>[(1,kE q),(3,kE K),(4,vi x.ak.length),(30,.string x.name),(31,.bool b)]) (Hf:=λ_=>L) (I:=λb=>b=decide (kd x.name=1)) ?_ ?_
 .refine af ?_;by_cases g0:x.name=⟨#[105,102,84,114,117,101,58]⟩
  .exact zCU
  rw[Zf g0];refine af ?_;by_cases g1:x.name=⟨#[105,102,70,97,108,115,101,58]⟩
  .rw[Zt g1];refine af ?_;exact⟨true,by rw[g1];decide,ZU,by subst SZ;exact bH⟩
  rw[Zf g1];refine af ?_;by_cases g2:x.name=⟨#[97,110,100,58]⟩
  .rw[Zt g2];refine af ?_;exact⟨true,by rw[g2];decide,ZU,by subst SZ;exact bH⟩
  rw[Zf g2];refine af ?_;refine⟨_,?_,ZU,by subst SZ;exact bH⟩;refine decide_eq_decide.2 ⟨λk=>Sn.2 (.inr (.inr (.inr k))),λk=>?_⟩;rcases Sn.1 k with k|k|k|k
  .exact absurd k g0
  .exact absurd k g1
  .exact absurd k g2
  .exact k
 rintro b m
 cases b with
 |true=>
  have E:kd x.name=1:=of_decide_eq_true m.symm;rw[E]at eB;subst SZ;refine af ?_;by_cases h2:x.ak.length=2
  .obtain⟨G,d,lX⟩:=YX h2;have U:∀z∈kA bk (o+1*11) (us 1),z∈A:=M 1 Zo;have Q:=eJ A d (us 1) (D 1 d (by rw[lX];rfl));have O:=(D 1 d (by rw[lX];rfl)).len;have dw:z5 x=jV d:=by rw[eB,lX];rfl
   rw[A0 ((x.ak.length:Int)=2)];refine af ?_;refine kR (us:=us 1) Zr (λz F=>by have:=U z (by simpa using F);simp[this]) O ?_;refine af ?_;refine kH Q Zr ZP (λv dl C=>?_);obtain⟨rfl,rfl⟩:=C;simp only[aE];refine af ?_;exact Tm
  .rw[A1 ((x.ak.length:Int)=2)];refine af ?_;have dw:z5 x=false:=by rw[eB];exact Gj (.inl rfl) h2
   exact Tm
 |false=>
 have H:kd x.name≠1:=of_decide_eq_false m.symm;refine jB ?_;refine VC.join (α:=Bool) (bg:=λb=>[(1,kE q),(3,kE K),(4,vi x.ak.length),(30,.string x.name),(45,.bool b)]) (Hf:=λ_=>L) (I:=λb=>b=decide (kd x.name=2)) ?_ ?_
 .refine af ?_;by_cases g0:x.name=⟨#[105,102,84,114,117,101,58,105,102,70,97,108,115,101,58]⟩
  .exact zCU
  rw[Zf g0];refine af ?_;refine⟨_,?_,ZU,by subst SZ;exact bH⟩;refine decide_eq_decide.2 ⟨λk=>(Yj H).2 (.inr k),λk=>?_⟩;rcases(Yj H).1 k with k|k
  .exact absurd k g0
  .exact k
 rintro b m
 cases b with
 |true=>
  have E:kd x.name=2:=of_decide_eq_true m.symm;rw[E]at eB;subst SZ;refine af ?_;by_cases h2:x.ak.length=3
  .obtain⟨G,d,g,lX⟩:=Ki h2;have U:∀z∈kA bk (o+1*11) (us 1),z∈A:=M 1 Zo;have Q:=eJ A d (us 1) (D 1 d (by rw[lX];rfl));have O:=(D 1 d (by rw[lX];rfl)).len;have rT:∀z∈kA bk (o+2*11) (us 2),z∈A:=M 2 Zo;have sj:=eJ A g (us 2) (D 2 g (by rw[lX];rfl));have fj:=(D 2 g (by rw[lX];rfl)).len;have dw:z5 x=(jV d&&jV g):=by rw[eB,lX];rfl
   rw[A0 ((x.ak.length:Int)=3)];refine af ?_;refine kR (us:=us 1) Zr (λz F=>by have:=U z (by simpa using F);simp[this]) O ?_;refine af ?_;refine kH Q Zr ZP (λv dl C=>?_);obtain⟨rfl,rfl⟩:=C;simp only[aE];refine af ?_;cases cM:jV d with
   |false=>
    rw[cM]at dw;refine af ?_;exact Tm
   |true=>
    rw[cM]at dw;refine af ?_;refine kR (us:=us 2) Zr (λz F=>by have:=rT z (by simpa using F);simp[this]) fj ?_;refine af ?_;refine kH sj Zr ZP (λv dl C=>?_);obtain⟨rfl,rfl⟩:=C;simp only[aE];refine af ?_;exact Tm
  .rw[A1 ((x.ak.length:Int)=3)];refine af ?_;have dw:z5 x=false:=by rw[eB];exact Gj (.inr (.inl rfl)) h2
   exact Tm
 |false=>
 have N:kd x.name≠2:=of_decide_eq_false m.symm;refine jB ?_;refine VC.join (α:=Bool) (bg:=λb=>[(1,kE q),(3,kE K),(4,vi x.ak.length),(30,.string x.name),(64,.bool b)]) (Hf:=λ_=>L) (I:=λb=>b=decide (kd x.name=3)) ?_ ?_
 .refine af ?_;by_cases g0:x.name=⟨#[119,104,105,108,101,84,114,117,101,58]⟩
  .exact zCU
  rw[Zf g0];refine af ?_;refine⟨_,?_,ZU,by subst SZ;exact bH⟩;refine decide_eq_decide.2 ⟨λk=>(sel3 H N).2 (.inr k),λk=>?_⟩;rcases(sel3 H N).1 k with k|k
  .exact absurd k g0
  .exact k
 rintro b m
 cases b with
 |true=>
  have E:kd x.name=3:=of_decide_eq_true m.symm;rw[E]at eB;subst SZ;refine af ?_;by_cases h2:x.ak.length=2
  .obtain⟨G,d,lX⟩:=YX h2;have pR:G=r:=by rw[lX]at sq;simpa using sq
   subst pR;have U:∀z∈kA bk (o+1*11) (us 1),z∈A:=M 1 Zo;have Q:=eJ A d (us 1) (D 1 d (by rw[lX];rfl));have O:=(D 1 d (by rw[lX];rfl)).len;have dw:z5 x=(jV G&&jV d):=by rw[eB,lX];rfl
   rw[A0 ((x.ak.length:Int)=2)];refine af ?_;refine kH B Zr ZP (λv dl C=>?_);obtain⟨rfl,rfl⟩:=C;simp only[aE];refine af ?_;cases cM:jV G with
   |false=>
    rw[cM]at dw;refine af ?_;exact Tm
   |true=>
    rw[cM]at dw;refine af ?_;refine kR (us:=us 1) Zr (λz F=>by have:=U z (by simpa using F);simp[this]) O ?_;refine af ?_;refine kH Q Zr ZP (λv dl C=>?_);obtain⟨rfl,rfl⟩:=C;simp only[aE];refine af ?_;exact Tm
  .rw[A1 ((x.ak.length:Int)=2)];refine af ?_;have dw:z5 x=false:=by rw[eB];exact Gj (.inr (.inr (.inl rfl))) h2
   exact Tm
 |false=>
 have n3:kd x.name≠3:=of_decide_eq_false m.symm;refine jB ?_;refine VC.join (α:=Bool) (bg:=λb=>[(1,kE q),(3,kE K),(4,vi x.ak.length),(30,.string x.name),(80,.bool b)]) (Hf:=λ_=>L) (I:=λb=>b=decide (kd x.name=4)) ?_ ?_
 .refine af ?_;by_cases g0:x.name=⟨#[119,104,105,108,101,84,114,117,101]⟩
  .exact zCU
  rw[Zf g0];refine af ?_;refine⟨_,?_,ZU,by subst SZ;exact bH⟩;refine decide_eq_decide.2 ⟨λk=>(sel4 H N n3).2 (.inr k),λk=>?_⟩;rcases(sel4 H N n3).1 k with k|k
  .exact absurd k g0
  .exact k
 rintro b m
 cases b with
 |true=>
  have E:kd x.name=4:=of_decide_eq_true m.symm;rw[E]at eB;subst SZ;refine af ?_;by_cases h2:x.ak.length=1
  .obtain⟨G,lX⟩:=one_of h2;have pR:G=r:=by rw[lX]at sq;simpa using sq
   subst pR;have dw:z5 x=jV G:=by rw[eB,lX];rfl
   rw[A0 ((x.ak.length:Int)=1)];refine af ?_;refine kH B Zr ZP (λv dl C=>?_);obtain⟨rfl,rfl⟩:=C;simp only[aE];refine af ?_;exact Tm
  .rw[A1 ((x.ak.length:Int)=1)];refine af ?_;have dw:z5 x=false:=by rw[eB];exact Gj (.inr (.inr (.inr rfl))) h2
   exact Tm
 |false=>
 have n4:kd x.name≠4:=of_decide_eq_false m.symm;subst SZ;refine af ?_;by_cases g5:x.name=⟨#[116,111,58,100,111,58]⟩
 .have E:kd x.name=5:=by rw[g5];decide
  rw[E]at eB;rw[Zt g5];refine af ?_;by_cases h2:x.ak.length=3
  .obtain⟨G,d,g,lX⟩:=Ki h2;have dw:z5 x=(decide (g.kind=7)&&decide (g.a5.length=1)):=by rw[eB,lX];rfl
   have GM:=D 2 g (by rw[lX];rfl);have s:=M 2 Zo;generalize us 2=u2 at GM s;obtain⟨s1,s2,s3,s4,s5,s6,s7,t1,v1,t2,v2,t3,v3,bk3,o3,us3,rfl,_⟩:=w9 GM;have c0:kC.cell bk (o+22) (.int .u8 g.kind)∈A:=s _ (kI.2 ⟨0,_,rfl,Zs⟩);have c7:kC.cell bk (o+29) (.slice t1 g.a5.length v1)∈A:=s _ (kI.2 ⟨7,_,rfl,Zs⟩);rw[A0 ((x.ak.length:Int)=3)];refine af ?_;by_cases h7:g.kind=7
   .rw[Zt h7,vV]at dw;rw[A0 ((g.kind:Int)=7)];refine af ?_;refine kG (dl:=[A]) (.inr rfl) zT1 ⟨?_,rfl⟩ ZI;rw[dw,show decide (g.a5.length=1)=decide ((g.a5.length:Int)=1)from decide_eq_decide.2 Zo];rfl
   .rw[Zf h7,vM]at dw;rw[A1 ((g.kind:Int)=7)];refine af ?_;exact Tm
  .rw[A1 ((x.ak.length:Int)=3)];refine af ?_;have dw:z5 x=false:=by rw[eB];exact Ψ h2
   exact Tm
 .have n5:kd x.name≠5:=λk=>g5 ((sel5 H N n3 n4).1 k)
  rw[sel0 H N n3 n4 n5,fit_0]at eB;rw[Zf g5];refine af ?_;exact zD1
def nL(X:DX)(R0:List kC)(x:Nd)(vs:List Value):Prop:=
 ∀st w R,(∀a∈R0,a∈R)->gN X st w R->∀a6 ev,zI R ev a6->(∀v∈a6,v<st.vars.length)->∀u:Nat,yP st (cV x)->a6.length+cV x<1073741824->
  aq pg9 158 [kE X.q,.agg vs.toArray,ev,.int .i64 (u:Int)] [DM X w st,R] (λv dl=>∃w' B ws,(v=.agg ws.toArray/\gN X (jF X.F X.G x st a6 u).2 w' (R++B)/\rS (R++B) (jF X.F X.G x st a6 u).1 ws)/\dl=[DM X w' (jF X.F X.G x st a6 u).2,R++B])
def lg(X:DX)(Y:List kC)(l:List Nd)(a:Option Addr)(ac bk o:Nat)(ks:Nat->List Value)(GA:l.length < 1073741824)(ha:0 < l.length->a=some ⟨bk,o,none⟩)(hm:∀i,i < l.length->∀y∈kA bk (o+i*11) (ks i),y∈Y)(hr:∀i x,l[i]? =some x->jD Y x (ks i))(aR:∀i x,l[i]? =some x->nL X Y x (ks i))
 (st:ai) (w:DW) (R:List kC) (hR:∀a∈Y,a∈R) (hw:gN X st w R) (a6:List Nat) (ev:Value) (he:zI R ev a6) (aI:∀v∈a6,v < st.vars.length) (u:Nat) (bn:yP st (kf l)) (Kz:a6.length+kf l < 1073741824):
 aq Tryz.prog 96 [kE X.q,.slice a l.length ac,ev,.int .i64 (u:Int)] [DM X w st,R] (λv dl=>∃w' B rows sp,(gN X (kQ X.F X.G l st a6 u).2 w' (R++B)/\ke 11 v (kQ X.F X.G l st a6 u).1.length rows.flatten sp/\wk (R++B) (kQ X.F X.G l st a6 u).1 rows)/\dl=[DM X w' (kQ X.F X.G l st a6 u).2,R++B,aj v rows.flatten sp]):=by
 refine aq.intro low96 Zn9 ?_;refine af ?_;refine VC.loop (α:=Nat×ai×DW×List kC×Value×List (List Value)×List Value×List PN) (bg:=λs=>[(0,kE X.q),(1,.slice a l.length ac),(2,ev),(3,vi (u:Int)),(9,s.2.2.2.2.1),(10,vi s.1)])
  (Hf:=λs=>[DM X s.2.2.1 s.2.1,s.2.2.2.1,aj s.2.2.2.2.1 s.2.2.2.2.2.1.flatten s.2.2.2.2.2.2.1])
  (I:=λs=>s.1<=l.length/\(∃B,s.2.2.2.1=R++B)/\gN X s.2.1 s.2.2.1 s.2.2.2.1/\Gr st s.2.1/\yP s.2.1 (kf (l.drop s.1))/\
    (kQ X.F X.G l st a6 u).2=(kQ X.F X.G (l.drop s.1) s.2.1 a6 u).2/\(kQ X.F X.G l st a6 u).1=s.2.2.2.2.2.2.2++(kQ X.F X.G (l.drop s.1) s.2.1 a6 u).1/\s.2.2.2.2.2.2.2.length=s.1/\
    ke 11 s.2.2.2.2.1 s.1 s.2.2.2.2.2.1.flatten s.2.2.2.2.2.2.1/\wk s.2.2.2.1 s.2.2.2.2.2.2.2 s.2.2.2.2.2.1) (μ:=λs=>l.length-s.1) (0,st,w,R,Nz,[],[],[])
  ⟨X0 _,⟨[],(vm R).symm⟩,hw,Gr.refl st,bn,rfl,rfl,rfl,.nil,wk.nil _⟩ ZU (ap.cut (M:=[DM X w st,R]) ZI (ap.perm A4)) ?_
 rintro⟨j,E,w1,Z,sv,rows,sp,Ic⟩ ⟨hj,⟨B,D⟩,mw,Ac,T,A,g,mr,aM,bA⟩
 simp only at hj D mw Ac T A g mr aM bA;dsimp only;obtain⟨sa,sc,gP⟩:=aM.form;subst gP;refine af ?_;by_cases Jd:j<l.length;rotate_left
 .rw[A1 ((j:Int) < (l.length:Int))];have gh:j=l.length:=by omega
  rw[gh,List.drop_length,kQ]at g A;simp only[vm]at g A;refine af ?_;refine kG (dl:=[DM X w1 E,Z,aj (.slice sa j sc) rows.flatten sp]) (.inr rfl) (.tmp (v:=.slice sa j sc) Zr .nil) ⟨w1,B,rows,sp,⟨?_,?_,?_⟩,?_⟩ ZI
  .rw[A,<- D];exact mw
  .rw[g,mr];exact aM
  .rw[g,<- D];exact bA
  .rw[A,<- D];rfl
 obtain rfl:=ha Zo;rw[A0 ((j:Int) < (l.length:Int))];obtain⟨y,hy⟩:∃y,l[j]? =some y:=⟨_,Zg Jd⟩;have Aw:l.drop j=y::l.drop (j+1):=by
  rw[vt Jd]
  congr 1
  rw[Zg Jd]at hy;exact X8 hy
 rw[Aw]at g A T;simp only[kf]at T;rw[wE]at g A;simp only at g A;have cA:=hm j Jd;have bQ:=hr j y hy;have C:∀a∈R,a∈Z:=λa ha=>by rw[D];exact Zw _ ha
 have hcy:cV y<=kf l:=by
  have e:kf l=kf (l.take j)+kf (l.drop j):=by
   rw[<- nR,Qj]
  rw[Aw,kf]at e;omega
 have aK:=aR j y hy E w1 Z (λa ha=>C a (hR a ha)) mw a6 ev (he.more C) (λv hv=>Qv (aI v hv) Ac.vars.length_le) u (T.mono Zo) Zo;have hgp:=(wt X.F X.G _ y (Qs _) E a6 u).1;have hlp:=(dD X.F X.G _ y (Qs _) E a6 u).1;generalize ks j=kj at*;obtain⟨e1,e2,e3,e4,e5,e6,e7,e8,e9,xl,xm,xn,xp,IM,IN,IP,rfl⟩:=yv bQ;refine af ?_;refine kR Zr (λz hz=>by have h9:=C z (hR z (cA z hz));simp[h9]) rfl ?_;refine af ?_;refine kH aK Zr ZP (λv dl hv=>?_);obtain⟨w2,B2,ws,⟨rfl,lE,hn⟩,rfl⟩:=hv;simp only[aE];have nG:=hn;obtain⟨H,J,K,L,N,O,U,W,Q,S,O6,o2,Dl,Az,_⟩:=oD hn;subst Az;generalize oV:(jF X.F X.G y E a6 u).1=d at nG g|-;refine kV (out:=(rP d.kind d.name H J K L N d.lit.ci.length O U d.refs.length W d.cg d.super Q d.ak.length S)) Zr Zr (λr=>?_);refine kX (k:=j) (m:=1) (xs:=rows.flatten) (sp:=sp) (ys:=(rP d.kind d.name H J K L N d.lit.ci.length O U d.refs.length W d.cg d.super Q d.ak.length S)) Zr Zr aM ZK Zr ?_ rfl Zr Zr Zd Zo (λbZ bf ax=>?_)
 .exact l9
 have cf:rows.flatten++((rP d.kind d.name H J K L N d.lit.ci.length O U d.refs.length W d.cg d.super Q d.ak.length S):List Value)=(rows++[((rP d.kind d.name H J K L N d.lit.ci.length O U d.refs.length W d.cg d.super Q d.ak.length S):List Value)]).flatten:=by simp
 rw[cf]at ax|-;obtain⟨dZ,ed,rfl⟩:=ax.form;refine af ?_;refine⟨(j+1,_,w2,Z++B2,.slice dZ (j+1) ed,rows++[(rP d.kind d.name H J K L N d.lit.ci.length O U d.refs.length W d.cg d.super Q d.ak.length S)],bf,Ic++[d]),⟨by simp only;omega,⟨B++B2,by simp only;rw[D,vj]⟩,lE,Ac.trans hgp,T.less hlp,A,by simp only;rw[g];simp,by simp[mr],ax,?_⟩,by simp only;omega,ZU,ZI⟩;exact(bA.more (λx hx=>Zw _ hx)).snoc nG
def oT {X w st i v}(h:(et X w st.f)[i]? =some v):kC.cell X.q i v∈DM X w st:=by
 unfold DM;exact Zw _ (kI.2 ⟨i,v,h,Zs⟩)
def lq(cg:Nat)(arg own:Bool)(p:Int):∀(l:List ByteArray) (i:Nat) (st:ai) (a6:List Nat),(kO cg arg own p l i st a6).2.length=a6.length+l.length
 |[],_,_,a6=>rfl
 |nm::r,i,st,a6=>by
  rw[kO,lq];simp;omega
def oy:∀l:List Nd,l.length<=kf l
 |[]=>Qs _
 |x::r=>by
  have:=oy r;have h1:1<=cV x:=by cases x;simp only[cV,cW];omega
  rw[Q0,kf];omega
def DInl(X:DX)(R0:List kC)(x:Nd)(vs:List Value):Prop:=
 ∀st w R,(∀a∈R0,a∈R)->gN X st w R->∀a6 ev,zI R ev a6->(∀v∈a6,v<st.vars.length)->∀u:Nat,yP st (cV x)->a6.length+cV x<1073741824->
  aq pg9 221 [kE X.q,.agg vs.toArray,ev,.int .i64 (u:Int)] [DM X w st,R] (λv dl=>∃w' B ws,(v=.tuple #[.agg ws.toArray,.agg (kS (wM st.vars.length)).toArray]/\gN X (zW X.F X.G x st a6 u).2 w' (R++B)/\rS (R++B) (zW X.F X.G x st a6 u).1 ws)/\dl=[DM X w' (zW X.F X.G x st a6 u).2,R++B])
def sC {X:DX}{d:List kC}{l:List Nd}{g:Nat->List Value}(m:∀i x,l[i]? =some x->jD d x (g i))(j:∀y∈l,∀ws,jD d y ws->nL X d y ws):∀i x,l[i]? =some x->nL X d x (g i):=
 λi x h=>j x (Zv h) _ (m i x h)
def G0(X g x vs)(h:jD g x vs)(aR:∀y∈x.ak,∀ws,jD g y ws->nL X g y ws):DInl X g x vs:=by
 intro st w R hR hw a6 ev he aI u bn Kz;obtain⟨Z,e2,e3,e4,e5,e6,e7,T,W,U,Y,D,c3,bk,ko,ks,rfl,gO,bI,bL,hk8,ha,hm,hr,lW⟩:=w9 h;have hI:=fB X.F X.G x.kind x.name x.lit x.a5 x.ae x.ak x.at_ st a6 u;rw[<- Nd.eta x]at hI;have Gs:cV x=cW x.a5 x.ae (kf x.ak):=by cases x;rfl
 have Gy:=oy x.ak;rw[Gs]at bn Kz;obtain⟨r1,r2,r3⟩:=bn;simp only[cW]at r1 r2 r3 Kz;obtain⟨D1,Q⟩:∃D1,D1=kO u true false x.at_ x.a5 0 st a6:=⟨_,rfl⟩;obtain⟨D2,S⟩:∃D2,D2=kO u false false x.at_ x.ae 0 D1.1 D1.2:=⟨_,rfl⟩;rw[<- Q,<- S]at hI;rw[hI];simp only;obtain⟨g1,g2,g3,g4⟩:=jO u true false x.at_ x.a5 0 st a6;have g5:=lq u true false x.at_ x.a5 0 st a6;have g6:=λv d=>(zm u true false x.at_ x.a5 0 st a6 aI v d).1
 have g7:=w7 u true false x.at_ x.a5 0 st a6;rw[<- Q]at g1 g2 g3 g4 g5 g6 g7;obtain⟨d1,d2,d3,d4⟩:=jO u false false x.at_ x.ae 0 D1.1 D1.2;have d5:=lq u false false x.at_ x.ae 0 D1.1 D1.2;have d6:=λv d=>(zm u false false x.at_ x.ae 0 D1.1 D1.2 g6 v d).1
 have d7:=w7 u false false x.at_ x.ae 0 D1.1 D1.2;rw[<- S]at d1 d2 d3 d4 d5 d6 d7;have ZM:=fu X st w R hw a6 ev he aI x.a5 _ (bI.more hR) u true false x.at_ Zo Zo;rw[<- Q]at ZM;obtain⟨va,vc,Jk⟩:=hw.v.form;have m2:kC.cell X.q 2 (.slice va st.vars.length vc)∈DM X w st:=oT (by rw[<- Jk];rfl);refine aq.intro low221 Zn9 ?_;refine af ?_;refine kZ Zr (λJ=>?_);simp only[Value.cells];refine kJ (λK=>?_);refine kJ (λL=>?_);refine af ?_;refine kJ (λH=>?_);refine af ?_;refine kJ (λN=>?_);refine af ?_;refine kH ZM Zr ZP (λv dl d=>?_);obtain⟨w1,B1,⟨mw,hi1⟩,rfl⟩:=d;simp only[aE];obtain⟨va1,vc1,A⟩:=mw.v.form;have m21:kC.cell X.q 2 (.slice va1 D1.1.vars.length vc1)∈DM X w1 D1.1:=oT (by rw[<- A];rfl);have US:=fu X D1.1 w1 (R++B1) (mw.more (λy hy=>Zw _ hy)) D1.2 v (hi1.more (λy hy=>QI _ hy)) g6 x.ae _ (bL.more λy hy=>Zw _ (hR y hy)) u false false x.at_ Zo Zo;rw[<- S]at US;refine af ?_;refine VO.imp (H':=[DM X w1 D1.1,R++B1,kA N 0 [.int .u8 99,vi (st.vars.length:Int),vi 0,.string ⟨#[]⟩],kA H 0 [.int .u8 14,.string ⟨#[]⟩,.int .u8 0,vi 0,.int .u64 0,.string ⟨#[]⟩,Nz,Nz,vi 0,.bool false,Nz],kA L 0 [.int .u8 0,vi 0,vi 0,.string ⟨#[]⟩],kA K 0 (rY1 ⟨#[]⟩),kA J 0 (rN x.kind x.name Z e2 e3 e4 e5 e6 e7 T x.a5.length W U x.ae.length Y D x.ak.length c3 x.at_)]) (ap.perm Zs) ?_;refine kH US Zr ZP (λv2 dl d=>?_);obtain⟨O,B2,⟨lE,Gx⟩,rfl⟩:=d;simp only[aE];obtain⟨va2,vc2,C⟩:=lE.v.form;have m22:kC.cell X.q 2 (.slice va2 D2.1.vars.length vc2)∈DM X O D2.1:=oT (by rw[<- C];rfl);have oi:yP D2.1 (kf x.ak):=by
  obtain⟨k1,k2,k3⟩:=g7;obtain⟨k4,k5,k6⟩:=d7;exact⟨Zo,Zo,Zo⟩
 have aw:=lg X g x.ak D c3 bk ko ks Zo ha hm hr (sC hr aR) D2.1 O ((R++B1)++B2) (λy hy=>by simp[hR y hy]) (lE.more (λy hy=>Zw _ hy)) D2.2 v2 (Gx.more (λy hy=>QI _ hy)) d6 u oi Zo;refine af ?_;refine VC.loop (α:=Nat×Value×List Value) (bg:=λs=>[(0,kE X.q),(2,v2),(3,vi (u:Int)),(5,kE J),(8,kE K),(9,kE L),(10,kE H),(11,kE N),(13,vi ((D1.1.vars.length+s.1:Nat):Int))])
  (Hf:=λs=>[DM X O D2.1,(R++B1)++B2,kA N 0 [.int .u8 99,vi (st.vars.length:Int),vi 0,.string ⟨#[]⟩],kA H 0 [.int .u8 14,.string ⟨#[]⟩,.int .u8 0,vi 0,.int .u64 0,.string ⟨#[]⟩,Nz,s.2.1,vi 0,.bool false,Nz],aj s.2.1 (((List.range' D1.1.vars.length s.1).map wM).flatMap kS) s.2.2,kA L 0 [.int .u8 0,vi 0,vi 0,.string ⟨#[]⟩],kA K 0 (rY1 ⟨#[]⟩),kA J 0 (rN x.kind x.name Z e2 e3 e4 e5 e6 e7 T x.a5.length W U x.ae.length Y D x.ak.length c3 x.at_)])
  (I:=λs=>s.1<=x.ae.length/\ke 4 s.2.1 s.1 (((List.range' D1.1.vars.length s.1).map wM).flatMap kS) s.2.2) (μ:=λs=>x.ae.length-s.1) (0,Nz,[]) ⟨X0 _,.nil⟩ ZU
  (ap.cut (M:=[DM X O D2.1,R++B1,B2,kA N 0 [.int .u8 99,vi (st.vars.length:Int),vi 0,.string ⟨#[]⟩],kA H 0 [.int .u8 14,.string ⟨#[]⟩,.int .u8 0,vi 0,.int .u64 0,.string ⟨#[]⟩,Nz,Nz,vi 0,.bool false,Nz],kA L 0 [.int .u8 0,vi 0,vi 0,.string ⟨#[]⟩],kA K 0 (rY1 ⟨#[]⟩),kA J 0 (rN x.kind x.name Z e2 e3 e4 e5 e6 e7 T x.a5.length W U x.ae.length Y D x.ak.length c3 x.at_)]) ZI (ap.perm A4)) ?_
 rintro⟨j,sv,sp⟩ ⟨hj,E⟩
 simp only at hj E;dsimp only;obtain⟨sa,sc,rfl⟩:=E.form;refine af ?_;by_cases gh:j<x.ae.length
 .rw[A0 (((D1.1.vars.length+j:Nat):Int) < (D2.1.vars.length:Int))];refine af ?_;refine kV (out:=[.int .u8 99,vi ((D1.1.vars.length+j:Nat):Int),vi 0,.string ⟨#[]⟩]) Zr Zr (λr=>?_);refine kX (k:=j) (m:=1) (xs:=((List.range' D1.1.vars.length j).map wM).flatMap kS) (sp:=sp) (ys:=[.int .u8 99,vi ((D1.1.vars.length+j:Nat):Int),vi 0,.string ⟨#[]⟩]) Zr Zr E ZK Zr ?_ rfl Zr Zr Zd Zo (λbZ bf ax=>?_)
  .exact l9
  have cf:(((List.range' D1.1.vars.length j).map wM).flatMap kS++[.int .u8 99,vi ((D1.1.vars.length+j:Nat):Int),vi 0,.string ⟨#[]⟩]:List Value)=((List.range' D1.1.vars.length (j+1)).map wM).flatMap kS:=by
   rw[List.range'_1_concat,QC,V9];rfl
  rw[cf]at ax|-;exact zB8
 .rw[A1 (((D1.1.vars.length+j:Nat):Int) < (D2.1.vars.length:Int))];obtain rfl:j=x.ae.length:=by omega
  refine af ?_;refine kH aw Zr ZP (λv3 dl d=>?_);obtain⟨w3,B3,rows,iW,⟨ss,bV,bB⟩,rfl⟩:=d;simp only[aE];obtain⟨gQ,eV,rfl⟩:=bV.form;refine af ?_;have hpr:rS (R++(B1++(B2++(B3++(aj (.slice gQ (kQ X.F X.G x.ak D2.1 D2.2 u).1.length eV) rows.flatten iW++aj (.slice sa x.ae.length sc) (((List.range' D1.1.vars.length x.ae.length).map wM).flatMap kS) sp))))) (.mk 14 e0 Go.V.fD ((List.range' D1.1.vars.length x.ae.length).map wM) 0 false (kQ X.F X.G x.ak D2.1 D2.2 u).1) [.int .u8 14,.string ⟨#[]⟩,.int .u8 0,vi 0,.int .u64 0,.string ⟨#[]⟩,Nz,.slice sa x.ae.length sc,vi 0,.bool false,.slice gQ (kQ X.F X.G x.ak D2.1 D2.2 u).1.length eV]:=by
   have Wc:=fL (B:=[]) (rs:=(List.range' D1.1.vars.length x.ae.length).map wM) (by simpa using E);refine yq (zT _) (Wc.more (λy hy=>?_)) ((zZ bV bB).more (λy hy=>?_))
   .simp only[QH]at hy|-;rcases hy with hy|hy
    .simp only[hy,or_true]
    .cases hy
   .simp only[QH]at hy|-;rcases hy with hy|((hy|hy)|hy)|hy<;>simp only[hy,or_true,true_or]
  have hwF:gN X (kQ X.F X.G x.ak D2.1 D2.2 u).2 w3 (R++(B1++(B2++(B3++(aj (.slice gQ (kQ X.F X.G x.ak D2.1 D2.2 u).1.length eV) rows.flatten iW++aj (.slice sa x.ae.length sc) (((List.range' D1.1.vars.length x.ae.length).map wM).flatMap kS) sp))))):=ss.more λy hy=>by
   exact zF9
  apply VC.seq;refine VC.draws ⟨?_,?_,trivial⟩
  .exact zAP
  .exact zAP
def Ur {X st w R}(h:gN X st w R)(o n){s m q g j A}(D:ke 1 s (st.a7.length+1) ((st.a7.map λn=>Value.int .i64 n)++[.int .i64 o]) g)(B:ke 1 m (st.a5.length+1) ((st.a5.map λn:Nat=>Value.int .i64 (n:Int))++[.int .i64 (n:Int)]) j)(C:ke 1 q (st.a8.length+1) (w.bs++[Nz]) A):gN X (st.aF o n) {w with ov:=s,E8:=g,av:=m,Ep:=j,bv:=q,bs:=w.bs++[Nz],qI:=A} R:=by
 have I5:=h.b.len;refine⟨h.v,by simpa[ai.aF]using D,by simpa[ai.aF]using B,h.u,by simpa[ai.aF]using C,λi l d=>?_,h.ef,h.F,h.G,by simpa[ai.aF]using h.bl,by simpa[ai.aF]using h.al⟩;have d:(st.a8++[[]])[i]? =some l:=d;rw[Vi]at d;show ∃v,(w.bs++[Nz])[i]? =some v/\iZ R v l;split at d
 .rename_i aI;obtain⟨v,E,H⟩:=h.bd i l d;exact⟨v,by rw[Vj Zo];exact E,H⟩
 .have:=(Vt.1 d).1;simp only[QA]at this;have e:i=w.bs.length:=by omega
  subst e;rw[show w.bs.length-st.a8.length=0 by omega]at d;obtain rfl:[]=l:=by simpa using d
  exact⟨Nz,Zs,iZ.nil _⟩
def Us {X st w R}(h:gN X st w R){i v l}(s:i < st.a8.length)(A:iZ R v l):gN X {st with a8:=st.a8.set i l} {w with bs:=w.bs.set i v} R:=by
 have I5:=h.b.len;refine⟨h.v,h.o,h.a,h.u,?_,λj g m=>?_,h.ef,h.F,h.G,by simpa using h.bl,h.al⟩
 .show ke 1 w.bv (st.a8.set i l).length (w.bs.set i v) w.qI;rw[Q9];exact h.b.other Zs
 .have d:(st.a8.set i l)[j]? =some g:=m;clear m;show ∃q,(w.bs.set i v)[j]? =some q/\iZ R q g;rw[Vx]at d;rw[Vx];by_cases e:i=j
  .subst e;rw[if_pos rfl,if_pos s]at d;rw[if_pos rfl,if_pos Zo];cases d;exact⟨v,rfl,A⟩
  .rw[if_neg e]at d;rw[if_neg e];exact h.bd j g d
def xi(X L x vs)(h:jD L x vs)(aR:∀y∈x.ak,∀ws,jD L y ws->nL X L y ws)(st w R)(hR:∀a∈L,a∈R)(s:gN X st w R)(a6 ev)(he:zI R ev a6)(aI:∀v∈a6,v < st.vars.length)(o)(bn:yP st (cV x))(Kz:a6.length+cV x < 1073741824):
 aq pg9 44 [kE X.q,.agg vs.toArray,ev,vi o] [DM X w st,R] (λv dl=>∃w' B,(v=.agg #[.int .u8 8,.string ⟨#[]⟩,.int .u8 0,vi 0,.int .u64 0,.string ⟨#[]⟩,Nz,Nz,vi (st.a7.length:Int),.bool false,Nz]/\gN X (iD X.F X.G x.a5 x.ae x.ak x.at_ st a6 o) w' (R++B))/\dl=[DM X w' (iD X.F X.G x.a5 x.ae x.ak x.at_ st a6 o),R++B]):=by
 obtain⟨e1,e2,e3,e4,e5,e6,e7,a1,c1,a2,c2,N,c3,bk,ko,ks,rfl,gO,bI,bL,hk8,ha,hm,hr,lW⟩:=w9 h;have Gs:cV x=cW x.a5 x.ae (kf x.ak):=by cases x;rfl
 have Gy:=oy x.ak;rw[Gs]at bn Kz;obtain⟨r1,r2,r3⟩:=bn;simp only[cW]at r1 r2 r3 Kz;obtain⟨n,hn⟩:∃n,n=st.a7.length:=⟨_,rfl⟩;have I5:=s.bl;obtain⟨d,Dw⟩:∃d,d=kO n true true x.at_ x.a5 0 (st.aF o x.a5.length) a6:=⟨_,rfl⟩;obtain⟨g,Dx⟩:∃g,g=kO n false true x.at_ x.ae 0 d.1 d.2:=⟨_,rfl⟩;have hI:bq x.a5 x.ae x.at_ st a6 o=g:=by rw[Dx,Dw,hn];rfl
 rw[wu,hI,<- hn];have J:∀v∈a6,v<(st.aF o x.a5.length).vars.length:=aI;obtain⟨g1,g2,g3,g4⟩:=jO n true true x.at_ x.a5 0 (st.aF o x.a5.length) a6;have g5:=lq n true true x.at_ x.a5 0 (st.aF o x.a5.length) a6;have g6:=λv E=>(zm n true true x.at_ x.a5 0 (st.aF o x.a5.length) a6 J v E).1
 have g7:=w7 n true true x.at_ x.a5 0 (st.aF o x.a5.length) a6;rw[<- Dw]at g1 g2 g3 g4 g5 g6 g7;obtain⟨d1,d2,d3,d4⟩:=jO n false true x.at_ x.ae 0 d.1 d.2;have d5:=lq n false true x.at_ x.ae 0 d.1 d.2;have d6:=λv E=>(zm n false true x.at_ x.ae 0 d.1 d.2 g6 v E).1
 have d7:=w7 n false true x.at_ x.ae 0 d.1 d.2;rw[<- Dx]at d1 d2 d3 d4 d5 d6 d7;have hao:=s.al;have g4':d.1.vars.length=st.vars.length+x.a5.length:=g4;have ZF:g.1.a8.length=st.a7.length+1:=by rw[d3,g3];show(st.a8++[[]]).length=_;rw[Vz,s.bl];rfl
 have qY:yP g.1 (kf x.ak):=by
  obtain⟨k1,k2,k3⟩:=g7;obtain⟨k4,k5,k6⟩:=d7;have k7:(st.aF o x.a5.length).vars.length=st.vars.length:=rfl;have k8:(st.aF o x.a5.length).dg.length=st.dg.length:=rfl;have k9:(st.aF o x.a5.length).a7.length=st.a7.length+1:=by simp[ai.aF]
  exact⟨Zo,Zo,Zo⟩
 subst hn;obtain⟨oa,oc,Z⟩:=s.o.form;obtain⟨aa,ac,T⟩:=s.a.form;obtain⟨ba,bc,W⟩:=s.b.form;have si:=s.o;have L2:=s.a;have nK:=s.b;rw[Z]at si;rw[T]at L2;rw[W]at nK;refine aq.intro low44 Zn9 ?_;refine VC.imp (fw X w st [R]) ?_;unfold et;rw[Z,T,W];refine af ?_;refine kZ Zr (λq5=>?_);simp only[Value.cells];refine kJ (λq8=>?_);refine af ?_;refine kV (out:=[vi o]) Zr Zr (λr=>?_);refine kX (k:=st.a7.length) (m:=1) (xs:=st.a7.map λn=>Value.int .i64 n) (sp:=w.E8) (ys:=[vi o]) Zr Zr si ZK Zr ?_ rfl Zr Zr Zd Zo (λov2 osp2 S6=>?_)
 .exact l9
 obtain⟨oa2,oc2,rfl⟩:=S6.form;refine af ?_;refine kV (out:=[vi (x.a5.length:Int)]) Zr Zr (λr2=>?_);refine kX (k:=st.a5.length) (m:=1) (xs:=st.a5.map λn:Nat=>Value.int .i64 (n:Int)) (sp:=w.Ep) (ys:=[vi (x.a5.length:Int)]) Zr Zr L2 ZK Zr ?_ rfl Zr Zr Zd Zo (λav2 O Gp=>?_)
 .exact l9
 obtain⟨aa2,ac2,rfl⟩:=Gp.form;refine af ?_;refine kV (out:=[Nz]) Zr Zr (λr3=>?_);refine kX (k:=st.a8.length) (m:=1) (xs:=w.bs) (sp:=w.qI) (ys:=[Nz]) Zr Zr nK ZK Zr ?_ rfl Zr Zr Zd Zo (λbv2 S mo=>?_)
 .exact l9
 obtain⟨ba2,bc2,rfl⟩:=mo.form;refine af ?_;have Ta:=Ur s o x.a5.length S6 Gp mo;generalize Ws:({w with ov:=.slice oa2 (st.a7.length+1) oc2,E8:=osp2,av:=.slice aa2 (st.a5.length+1) ac2,Ep:=O,bv:=.slice ba2 (st.a8.length+1) bc2,bs:=w.bs++[Nz],qI:=S}:DW)=w0 at Ta;refine VO.imp (H':=[DM X w0 (st.aF o x.a5.length),R,kA q8 0 (rY1 ⟨#[]⟩),kA q5 0 (rN x.kind x.name e1 e2 e3 e4 e5 e6 e7 a1 x.a5.length c1 a2 x.ae.length c2 N x.ak.length c3 x.at_)]) (ap.cut (by rw[<- Ws];unfold et ai.aF;simp only[QC,QE,QG];exact bH) (zK X w0 (st.aF o x.a5.length) _)) ?_;clear Ws;have ZM:=fu X (st.aF o x.a5.length) w0 R Ta a6 ev he J x.a5 _ (bI.more hR) st.a7.length true true x.at_ (by show st.vars.length+_<_;omega) Zo;rw[<- Dw]at ZM;refine kH ZM Zr ZP (λv dl E=>?_);obtain⟨w1,H,⟨mw,hi1⟩,rfl⟩:=E;simp only[aE];have US:=fu X d.1 w1 (R++H) (mw.more (λy hy=>Zw _ hy)) d.2 v (hi1.more (λy hy=>QI _ hy)) g6 x.ae _ (bL.more λy hy=>Zw _ (hR y hy)) st.a7.length false true x.at_ Zo Zo;rw[<- Dx]at US;refine af ?_;refine VO.imp (H':=[DM X w1 d.1,R++H,kA q8 0 (rY1 ⟨#[]⟩),kA q5 0 (rN x.kind x.name e1 e2 e3 e4 e5 e6 e7 a1 x.a5.length c1 a2 x.ae.length c2 N x.ak.length c3 x.at_)]) (ap.perm Zs) ?_;refine kH US Zr ZP (λv2 dl E=>?_);obtain⟨w2,K,⟨lE,Gx⟩,rfl⟩:=E;simp only[aE];have aw:=lg X L x.ak N c3 bk ko ks Zo ha hm hr (sC hr aR) g.1 w2 ((R++H)++K) (λy hy=>by simp[hR y hy]) (lE.more (λy hy=>Zw _ hy)) g.2 v2 (Gx.more (λy hy=>QI _ hy)) d6 st.a7.length qY Zo;refine af ?_;refine VO.imp (H':=[DM X w2 g.1,(R++H)++K,kA q8 0 (rY1 ⟨#[]⟩),kA q5 0 (rN x.kind x.name e1 e2 e3 e4 e5 e6 e7 a1 x.a5.length c1 a2 x.ae.length c2 N x.ak.length c3 x.at_)]) (ap.perm Zs) ?_;refine kH aw Zr ZP (λv3 dl E=>?_);obtain⟨j,B3,rows,iW,⟨ss,bV,bB⟩,rfl⟩:=E;simp only[aE];have U:=ss.b;have hgb:=wa X.F X.G x.ak g.1 g.2 st.a7.length;have Y:st.a7.length<(kQ X.F X.G x.ak g.1 g.2 st.a7.length).2.a8.length:=by
  have k1:=hgb.a7.length_le;have k2:=ss.bl;have k3:=lE.bl;omega
 generalize kQ X.F X.G x.ak g.1 g.2 st.a7.length=A at*;obtain⟨bb,bo,Q,I,hbcap,hbsl⟩:=U.some Zo;refine VO.imp (ap.cut (M:=[DM X j A.2,((R++H)++K)++B3,aj v3 rows.flatten iW,kA q8 0 (rY1 ⟨#[]⟩),kA q5 0 (rN x.kind x.name e1 e2 e3 e4 e5 e6 e7 a1 x.a5.length c1 a2 x.ae.length c2 N x.ak.length c3 x.at_)]) ZI (fw X j A.2 _)) ?_;unfold et;rw[I];obtain⟨D,C,rfl⟩:=bV.form;have hwF:=Us (ss.more (R':=R++(H++(K++(B3++aj (.slice D A.1.length C) rows.flatten iW)))) (λy hy=>by
  simp only[QH]at hy|-;rcases hy with((hy|hy)|hy)|hy<;>simp only[hy,or_true,true_or])) (v:=.slice D A.1.length C) (l:=A.1) Y ((zZ bV bB).more (λy hy=>by
  simp only[QH]at hy|-;rcases hy with hy|((hy|hy)|hy)|hy<;>simp only[hy,or_true,true_or]))
 have hbsn:=U.len;refine af ?_;rw[show aj (.slice (some ⟨bb,bo,none⟩) A.2.a8.length Q) j.bs j.qI=kA bb bo (j.bs++j.qI)from rfl];refine zr (us:=[.slice D A.1.length C]) Zr Zr Zr Zr Zr (.there (.there (.there (.there (.there (Kv.Yk (i:=st.a7.length) Zr ?_)))))) ?_
 .rw[Vz];omega
 rw[List.set_append_left _ _ Zo];rw[show kA bb bo (j.bs.set st.a7.length (.slice D A.1.length C)++j.qI)=aj (.slice (some ⟨bb,bo,none⟩) A.2.a8.length Q) (j.bs.set st.a7.length (.slice D A.1.length C)) j.qI from rfl];refine af ?_;refine⟨.inr rfl,_,[DM X {j with bs:=j.bs.set st.a7.length (.slice D A.1.length C)} {A.2 with a8:=A.2.a8.set st.a7.length A.1},R++(H++(K++(B3++aj (.slice D A.1.length C) rows.flatten iW)))],.az (us:=[.int .u8 8,.string ⟨#[]⟩,.int .u8 0,vi 0,.int .u64 0,.string ⟨#[]⟩,Nz,Nz,vi (st.a7.length:Int),.bool false,Nz]) Zr Zr zSb .nil,?_,_,_,⟨rfl,hwF⟩,rfl⟩;refine ap.cut (M:=[DM X {j with bs:=j.bs.set st.a7.length (.slice D A.1.length C)} {A.2 with a8:=A.2.a8.set st.a7.length A.1},((R++H)++K)++B3,aj (.slice D A.1.length C) rows.flatten iW]) ?_ (ap.perm Zs);refine ap.cut ?_ (zK X _ _ _);unfold et;simp only;rw[I];exact bH
def GZ {s i}(h:kd s=3∨kd s=4):zc s i=true:=by
 unfold zc;rcases h with h|h<;>rw[h]<;>rfl
def inlK_5 {s i}(h:kd s=5):zc s i=decide (i=2):=by
 unfold zc;rw[h];rfl
def inlK_0 {s i}(d:kd s≠3)(g:kd s≠4)(h:kd s≠5):zc s i=decide (0<i):=by
 unfold zc;split
 .exact absurd (by assumption) d
 .exact absurd (by assumption) g
 .exact absurd (by assumption) h
 .rfl
def Ov {s}(h:kd s=3):s=Xl∨s=Xk:=zEK
def Ow {s}(h:kd s=4):s=nmWT∨s=nmWF:=zEK
def Ox {s}(h:kd s=5):s=nmTo:=zEK
def G1(A:List kC)(x:Nd)(vs:List Value)(h:jD A x vs)(i:Nat):aq pg9 220 [.agg vs.toArray,vi (i:Int)] [A] (λv dl=>v=.bool (zc x.name i)/\dl=[A]):=by
 obtain⟨e1,e2,e3,e4,e5,e6,e7,a1,c1,a2,c2,a3,c3,bk,ko,ks,rfl,gO,bI,bL,d,ha,hm,hr,lW⟩:=w9 h;refine aq.intro low220 Zn9 ?_;refine af ?_;refine kZ Zr (λq2=>?_);simp only[Value.cells];refine af ?_;by_cases g1:x.name=⟨#[119,104,105,108,101,84,114,117,101,58]⟩
 .rw[Zt g1];refine af ?_;exact kG (dl:=[A]) (.inr rfl) zT1 ⟨by rw[GZ (.inl (by rw[g1];decide))];rfl,rfl⟩ ZI
 rw[Zf g1];refine af ?_;by_cases g2:x.name=⟨#[119,104,105,108,101,70,97,108,115,101,58]⟩
 .rw[Zt g2];refine af ?_;exact kG (dl:=[A]) (.inr rfl) zT1 ⟨by rw[GZ (.inl (by rw[g2];decide))];rfl,rfl⟩ ZI
 rw[Zf g2];refine af ?_;by_cases g3:x.name=⟨#[119,104,105,108,101,84,114,117,101]⟩
 .rw[Zt g3];refine af ?_;exact kG (dl:=[A]) (.inr rfl) zT1 ⟨by rw[GZ (.inr (by rw[g3];decide))];rfl,rfl⟩ ZI
 rw[Zf g3];refine af ?_;by_cases g4:x.name=⟨#[119,104,105,108,101,70,97,108,115,101]⟩
 .rw[Zt g4];refine af ?_;exact kG (dl:=[A]) (.inr rfl) zT1 ⟨by rw[GZ (.inr (by rw[g4];decide))];rfl,rfl⟩ ZI
 rw[Zf g4];refine af ?_;by_cases g5:x.name=⟨#[116,111,58,100,111,58]⟩
 .rw[Zt g5];refine af ?_;refine kG (dl:=[A]) (.inr rfl) zT1 ⟨?_,rfl⟩ ZI;rw[inlK_5 (by rw[g5];decide),show decide (i=2)=decide ((i:Int)=2)from decide_eq_decide.2 Zo];rfl
 rw[Zf g5];refine af ?_;refine kG (dl:=[A]) (.inr rfl) zT1 ⟨?_,rfl⟩ ZI;have g:kd x.name≠3:=λk=>by rcases Ov k with k|k<;>contradiction
 have j:kd x.name≠4:=λk=>by rcases Ow k with k|k<;>contradiction
 have m:kd x.name≠5:=λk=>g5 (Ox k)
 rw[inlK_0 g j m,show decide (0<i)=decide ((i:Int)>0)from decide_eq_decide.2 Zo];rfl
structure DSp where
 j:Nat
 st:ai
 w:DW
 T:List kC
 sv:Value
 rows:List (List Value)
 sp:List Value
 Ic:List PN
 rv:Value
 Yb:List Value
 rs:List wY
structure F7 (X:DX)(nm:ByteArray)(l:List Nd)(st:ai)(R:List kC)(a6:List Nat)(u:Nat)(s:DSp):Prop where
 j:s.j<=l.length
 T:∃B,s.T=R++B
 ok:gN X s.st s.w s.T
 gr:Gr st s.st
 room:yP s.st (kf (l.drop s.j))
 e3:(ku X.F X.G nm l 0 st a6 u).2.2=(ku X.F X.G nm (l.drop s.j) s.j s.st a6 u).2.2
 e1:(ku X.F X.G nm l 0 st a6 u).1=s.Ic++(ku X.F X.G nm (l.drop s.j) s.j s.st a6 u).1
 e2:(ku X.F X.G nm l 0 st a6 u).2.1=s.rs++(ku X.F X.G nm (l.drop s.j) s.j s.st a6 u).2.1
 pl:s.Ic.length=s.j
 sl:ke 11 s.sv s.j s.rows.flatten s.sp
 rw:wk s.T s.Ic s.rows
 rl:ke 4 s.rv s.rs.length (s.rs.flatMap kS) s.Yb
 few:s.rs.length<=s.j
section
variable {X:DX} {nm:ByteArray} {l:List Nd} {st:ai} {R:List kC} {a6:List Nat} {u:Nat} {s:DSp}
def At {α:Type}{l:List α}{j:Nat}{y:α}(hy:l[j]? =some y):l.drop j=y::l.drop (j+1):=by
 have aI:=(Vt.1 hy).1;exact zD4
def F7.out(h:F7 X nm l st R a6 u s){y:Nd}(H:l[s.j]? =some y)(N:zc nm s.j=false){I:DW}{d:List kC}(Z:gN X (jF X.F X.G y s.st a6 u).2 I (s.T++d)){C:PN}(oV:C=(jF X.F X.G y s.st a6 u).1){ws:List Value}(W:rS (s.T++d) C ws){D:Value}{E:List Value}(M:ke 11 D (s.j+1) (s.rows++[ws]).flatten E):
 F7 X nm l st R a6 u ⟨s.j+1,(jF X.F X.G y s.st a6 u).2,I,s.T++d,D,s.rows++[ws],E,s.Ic++[C],s.rv,s.Yb,s.rs⟩:=by
 subst oV;have L:=(Vt.1 H).1;have Aw:=At H;obtain⟨h1,⟨B,P⟩,h3,Q,g,m,q,A,S,tz,J,K,O⟩:=h;rw[Aw]at g m q A;simp only[kf]at g;rw[zP _ _ _ _ _ _ _ _ _ N]at m q A;have U:=(dD X.F X.G _ y (Qs _) s.st a6 u).1;exact⟨L,⟨B++d,by rw[P,vj]⟩,Z,Q.trans (wt X.F X.G _ y (Qs _) s.st a6 u).1,g.less U,m,by rw[q];simp,A,by simp[S],M,(J.more (λx Y=>Zw _ Y)).snoc W,K,by simp only;omega⟩
def F7.inn(h:F7 X nm l st R a6 u s){y:Nd}(K:l[s.j]? =some y)(Q:zc nm s.j=true){L:DW}{m:List kC}(lE:gN X (zW X.F X.G y s.st a6 u).2 L (s.T++m)){H:PN}(oV:H=(zW X.F X.G y s.st a6 u).1){ws:List Value}(hn:rS (s.T++m) H ws){I:Value}{J:List Value}(O:ke 11 I (s.j+1) (s.rows++[ws]).flatten J)
 {g:Value} {d:List Value} {rs':List wY} (S:rs'=s.rs++(if kd nm=5 then [wM s.st.vars.length]else [])) (E:ke 4 g rs'.length (rs'.flatMap kS) d):
 F7 X nm l st R a6 u ⟨s.j+1,(zW X.F X.G y s.st a6 u).2,L,s.T++m,I,s.rows++[ws],J,s.Ic++[H],g,d,rs'⟩:=by
 subst oV;subst S;have N:=(Vt.1 K).1;have Aw:=At K;obtain⟨h1,⟨B,W⟩,h3,Y,q,A,C,D,Z,tz,M,SW,U⟩:=h;rw[Aw]at q A C D;simp only[kf]at q;rw[yF _ _ _ _ _ _ _ _ _ Q]at A C D;have hl:=(dD X.F X.G _ y (Qs _) s.st a6 u).2;refine⟨N,⟨B++m,by rw[W,vj]⟩,lE,Y.trans (wt X.F X.G _ y (Qs _) s.st a6 u).2,q.less hl,A,by rw[C];simp,?_,by simp[Z],O,(M.more (λx hx=>Zw _ hx)).snoc hn,E,?_⟩
 .rw[D];simp only;split<;>simp
 .exact zEO
def F7.fin(h:F7 X nm l st R a6 u s)(I:s.j=l.length):gN X (ku X.F X.G nm l 0 st a6 u).2.2 s.w s.T/\
 rS (s.T++(aj s.sv s.rows.flatten s.sp++aj s.rv (s.rs.flatMap kS) s.Yb)) (.mk (zB nm) (yA nm) Go.V.fD (ku X.F X.G nm l 0 st a6 u).2.1 0 false (ku X.F X.G nm l 0 st a6 u).1) [.int .u8 (zB nm:Nat),.string (yA nm),.int .u8 0,vi 0,.int .u64 0,.string ⟨#[]⟩,Nz,s.rv,vi 0,.bool false,s.sv]:=by
 obtain⟨h1,⟨B,h2⟩,E,h4,h5,m,d,g,H,q,A,C,D⟩:=h;rw[I,List.drop_length,ku]at m d g;simp only[vm]at d g;rw[m,d,g];refine⟨E,?_⟩;rw[<- H]at q;refine yq (zT _) ((fL (B:=[]) C).more (λy hy=>?_)) ((zZ q A).more (λy hy=>?_))
 .simp only[QH]at hy|-;rcases hy with hy|hy
  .simp only[hy,or_true]
  .cases hy
 .exact zAW
end
def HD {s}(h:kd s=3∨kd s=4):((zB s:Nat):Int)=12/\yA s=s:=by
 unfold zB yA;rcases h with h|h<;>rw[h]<;>exact⟨rfl,rfl⟩
def Yp {s}(h:kd s=5):((zB s:Nat):Int)=13/\yA s=e0:=by
 unfold zB yA;rw[h];exact⟨rfl,rfl⟩
def spe_11 {s}(g:kd s≠3)(h:kd s≠4)(d:kd s≠5):((zB s:Nat):Int)=11/\yA s=s:=by
 unfold zB yA;rw[if_neg d];refine⟨?_,rfl⟩;split
 .exact absurd (by assumption) g
 .exact absurd (by assumption) h
 .exact absurd (by assumption) d
 .rfl
def spe_ne {s}(d:kd s≠5):¬((zB s:Nat):Int)=13:=by
 unfold zB;split
 .decide
 .decide
 .exact absurd (by assumption) d
 .decide
def Ec(X:DX)(C:List kC)(x:Nd)(vs:List Value)(h:jD C x vs)(aR:∀y∈x.ak,∀ws,jD C y ws->nL X C y ws)(aW:∀y∈x.ak,∀ws,jD C y ws->DInl X C y ws)
 (st:ai) (w:DW) (R:List kC) (hR:∀a∈C,a∈R) (hw:gN X st w R) (a6:List Nat) (ev:Value) (he:zI R ev a6) (aI:∀v∈a6,v < st.vars.length) (u:Nat) (bn:yP st (kf x.ak)) (Kz:a6.length+kf x.ak < 1073741824):
 aq Tryz.prog 188 [kE X.q,.agg vs.toArray,ev,.int .i64 (u:Int)] [DM X w st,R] (λv dl=>∃w' B ws,(v=.agg ws.toArray/\gN X (ku X.F X.G x.name x.ak 0 st a6 u).2.2 w' (R++B)/\rS (R++B) (.mk (zB x.name) (yA x.name) Go.V.fD (ku X.F X.G x.name x.ak 0 st a6 u).2.1 0 false (ku X.F X.G x.name x.ak 0 st a6 u).1) ws)/\dl=[DM X w' (ku X.F X.G x.name x.ak 0 st a6 u).2.2,R++B]):=by
 have h':=h;obtain⟨e1,e2,e3,e4,e5,e6,e7,U,Z,W,c2,Y,c3,bk,ko,ks,rfl,gO,bI,bL,hk8,ha,hm,hr,lW⟩:=w9 h;have Gy:=oy x.ak;refine aq.intro low188 Zn9 ?_;refine af ?_;refine kZ Zr (λH=>?_);simp only[Value.cells];refine kJ (λJ=>?_);refine af ?_;refine kJ (λK=>?_);refine jB ?_;refine VC.join (α:=Unit) (bg:=λ_=>[(0,kE X.q),(2,ev),(3,vi (u:Int)),(5,kE H),(8,kE J),(9,kE K)]) (Hf:=λ_=>[DM X w st,R,kA K 0 [.int .u8 (zB x.name:Nat),.string (yA x.name),.int .u8 0,vi 0,.int .u64 0,.string ⟨#[]⟩,Nz,Nz,vi 0,.bool false,Nz],kA J 0 (rY1 ⟨#[]⟩),kA H 0 (rN x.kind x.name e1 e2 e3 e4 e5 e6 e7 U x.a5.length Z W x.ae.length c2 Y x.ak.length c3 x.at_)]) (I:=λ_=>True) ?_ ?_
 .refine af ?_;by_cases g1:x.name=⟨#[119,104,105,108,101,84,114,117,101,58]⟩
  .rw[Zt g1];obtain⟨k1,d⟩:=HD (s:=x.name) (.inl (by rw[g1];decide));rw[k1,d];exact Ds
  rw[Zf g1];refine af ?_;by_cases g2:x.name=⟨#[119,104,105,108,101,70,97,108,115,101,58]⟩
  .rw[Zt g2];obtain⟨k1,d⟩:=HD (s:=x.name) (.inl (by rw[g2];decide));rw[k1,d];exact Ds
  rw[Zf g2];refine af ?_;by_cases g3:x.name=⟨#[119,104,105,108,101,84,114,117,101]⟩
  .rw[Zt g3];obtain⟨k1,d⟩:=HD (s:=x.name) (.inr (by rw[g3];decide));rw[k1,d];exact Ds
  rw[Zf g3];refine af ?_;by_cases g4:x.name=⟨#[119,104,105,108,101,70,97,108,115,101]⟩
  .rw[Zt g4];obtain⟨k1,d⟩:=HD (s:=x.name) (.inr (by rw[g4];decide));rw[k1,d];exact Ds
  rw[Zf g4];refine af ?_;by_cases g5:x.name=⟨#[116,111,58,100,111,58]⟩
  .rw[Zt g5];obtain⟨k1,d⟩:=Yp (s:=x.name) (by rw[g5];decide);rw[k1,d];unfold e0;exact Ds
  rw[Zf g5];obtain⟨k1,d⟩:=spe_11 (s:=x.name) (λk=>by rcases Ov k with k|k<;>contradiction) (λk=>by rcases Ow k with k|k<;>contradiction) (λk=>g5 (Ox k));rw[k1,d];exact Ds
 rintro⟨⟩ -
 apply VC.seq;refine af ?_;refine VC.loop (α:=DSp) (bg:=λs=>[(0,kE X.q),(2,ev),(3,vi (u:Int)),(5,kE H),(8,kE J),(9,kE K),(10,vi s.j)])
  (Hf:=λs=>[DM X s.w s.st,s.T,kA K 0 [.int .u8 (zB x.name:Nat),.string (yA x.name),.int .u8 0,vi 0,.int .u64 0,.string ⟨#[]⟩,Nz,s.rv,vi 0,.bool false,s.sv],aj s.sv s.rows.flatten s.sp,aj s.rv (s.rs.flatMap kS) s.Yb,kA J 0 (rY1 ⟨#[]⟩),kA H 0 (rN x.kind x.name e1 e2 e3 e4 e5 e6 e7 U x.a5.length Z W x.ae.length c2 Y x.ak.length c3 x.at_)])
  (I:=F7 X x.name x.ak st R a6 u) (μ:=λs=>x.ak.length-s.j) ⟨0,st,w,R,Nz,[],[],[],Nz,[],[]⟩
  ⟨X0 _,⟨[],(vm R).symm⟩,hw,Gr.refl st,bn,rfl,rfl,rfl,rfl,.nil,wk.nil _,.nil,X0 _⟩ ZU (ap.cut (M:=[DM X w st,R,kA K 0 [.int .u8 (zB x.name:Nat),.string (yA x.name),.int .u8 0,vi 0,.int .u64 0,.string ⟨#[]⟩,Nz,Nz,vi 0,.bool false,Nz],kA J 0 (rY1 ⟨#[]⟩),kA H 0 (rN x.kind x.name e1 e2 e3 e4 e5 e6 e7 U x.a5.length Z W x.ae.length c2 Y x.ak.length c3 x.at_)]) ZI (ap.perm A4)) ?_
 rintro⟨j,bx,N,T,sv,rows,sp,Ic,rv,S,rs⟩ hI
 have hj:=hI.j;obtain⟨B,D⟩:=hI.T;have mw:=hI.ok;have Q:=hI.gr;have L:=hI.room;have aM:=hI.sl;have A:=hI.rl;have E:=hI.few;simp only at hj D mw Q L aM A E;dsimp only;obtain⟨sa,sc,rfl⟩:=aM.form;obtain⟨ra,rc,rfl⟩:=A.form;have hRT:∀a∈R,a∈T:=λa ha=>by rw[D];exact Zw _ ha
 refine af ?_;by_cases Jd:j<x.ak.length;rotate_left
 .rw[A1 ((j:Int) < (x.ak.length:Int))];have k0:bx=(ku X.F X.G x.name x.ak 0 st a6 u).2.2:=by
   have:=hI.e3;simp only at this;rw[this,vw Zo,ku]
  obtain⟨k1,d⟩:=hI.fin (by simp only;omega);simp only at k1 d;refine af ?_;refine⟨.inr rfl,_,[DM X N (ku X.F X.G x.name x.ak 0 st a6 u).2.2,R++(B++(aj (.slice sa j sc) rows.flatten sp++aj (.slice ra rs.length rc) (rs.flatMap kS) S))],.az (us:=[.int .u8 (zB x.name:Nat),.string (yA x.name),.int .u8 0,vi 0,.int .u64 0,.string ⟨#[]⟩,Nz,.slice ra rs.length rc,vi 0,.bool false,.slice sa j sc]) Zr Zr zSb .nil,?_,N,_,_,⟨rfl,?_,?_⟩,rfl⟩
  .rw[<- k0];refine ap.cut (M:=[DM X N bx,T,aj (.slice sa j sc) rows.flatten sp,aj (.slice ra rs.length rc) (rs.flatMap kS) S]) ZI (ap.perm (by rw[D];simp))
  .exact k1.more (λy hy=>by
    rw[D]at hy;simp only[QH]at hy|-;rcases hy with hy|hy<;>simp only[hy,or_true,true_or])
  .exact d.more (λy hy=>by
    rw[D]at hy;simp only[QH]at hy|-;rcases hy with(hy|hy)|hy|hy<;>simp only[hy,or_true,true_or])
 have Aw:=At (Zg Jd);obtain⟨y,hy⟩:∃y,x.ak[j]? =some y:=⟨_,Zg Jd⟩;have Aw:=At hy;rw[Aw]at L;simp only[kf]at L;have hcy:cV y<=kf x.ak:=by
  have e:kf x.ak=kf (x.ak.take j)+kf (x.ak.drop j):=by
   rw[<- nR,Qj]
  rw[Aw,kf]at e;omega
 obtain rfl:=ha Zo;have cA:=hm j Jd;have O:=hr j y hy;generalize hkj:ks j=kj at*;rw[A0 ((j:Int) < (x.ak.length:Int))];refine af ?_;refine kH (G1 T x _ (h'.more (λa ha=>hRT a (hR a ha))) j) Zr ZP (λv dl hv=>?_);obtain⟨rfl,rfl⟩:=hv;simp only[aE];cases cm:zc x.name j with
 |false=>
  have aK:=aR y (Zv hy) _ O bx N T (λa ha=>hRT a (hR a ha)) mw a6 ev (he.more hRT) (λv hv=>Qv (aI v hv) Q.vars.length_le) u (L.mono Zo) Zo;obtain⟨y1,y2,y3,y4,y5,y6,y7,y8,y9,y10,y11,y12,y13,y14,y15,y16,rfl⟩:=yv O;refine af ?_;apply VC.seq;refine VC.draws ⟨?_,?_,trivial⟩
  .exact zAG
  .exact zAG
 |true=>
  have aK:=aW y (Zv hy) _ O bx N T (λa ha=>hRT a (hR a ha)) mw a6 ev (he.more hRT) (λv hv=>Qv (aI v hv) Q.vars.length_le) u (L.mono Zo) Zo;obtain⟨y1,y2,y3,y4,y5,y6,y7,y8,y9,y10,y11,y12,y13,y14,y15,y16,rfl⟩:=yv O;refine af ?_;refine kR Zr (λz hz=>by have h9:=hRT z (hR z (cA z hz));simp[h9]) rfl ?_;refine af ?_;refine kH aK Zr ZP (λv dl hv=>?_);obtain⟨w2,B2,ws,⟨rfl,lE,hn⟩,rfl⟩:=hv;simp only[aE];have nG:=hn;obtain⟨f1,f2,f3,f4,f5,f7,r1,r3,k1,k3,O6,o2,Dl,Az,_⟩:=oD hn;subst Az;generalize oV:(zW X.F X.G y bx a6 u).1=pn at nG|-;rw[show kS (wM bx.vars.length)=[.int .u8 99,vi (bx.vars.length:Int),vi 0,.string e0]from rfl];refine af ?_;refine kJ (λdN=>?_);refine kJ (λKY=>?_);refine af ?_;refine kV (out:=(rP pn.kind pn.name f1 f2 f3 f4 f5 pn.lit.ci.length f7 r1 pn.refs.length r3 pn.cg pn.super k1 pn.ak.length k3)) Zr Zr (λr=>?_);refine kX (k:=j) (m:=1) (xs:=rows.flatten) (sp:=sp) (ys:=(rP pn.kind pn.name f1 f2 f3 f4 f5 pn.lit.ci.length f7 r1 pn.refs.length r3 pn.cg pn.super k1 pn.ak.length k3)) Zr Zr aM ZK Zr ?_ rfl Zr Zr Zd Zo (λbZ bf ax=>?_)
  .exact l9
  have cf:rows.flatten++((rP pn.kind pn.name f1 f2 f3 f4 f5 pn.lit.ci.length f7 r1 pn.refs.length r3 pn.cg pn.super k1 pn.ak.length k3):List Value)=(rows++[((rP pn.kind pn.name f1 f2 f3 f4 f5 pn.lit.ci.length f7 r1 pn.refs.length r3 pn.cg pn.super k1 pn.ak.length k3):List Value)]).flatten:=by simp
  rw[cf]at ax|-;obtain⟨dZ,ed,rfl⟩:=ax.form;refine af ?_;by_cases h5:kd x.name=5
  .rw[show decide (((zB x.name:Nat):Int)=13)=true from Zt (Yp h5).1];refine af ?_;refine kV (out:=[.int .u8 99,vi (bx.vars.length:Int),vi 0,.string e0]) Zr Zr (λr2=>?_);refine kX (k:=rs.length) (m:=1) (xs:=rs.flatMap kS) (sp:=S) (ys:=[.int .u8 99,vi (bx.vars.length:Int),vi 0,.string e0]) Zr Zr A ZK Zr ?_ rfl Zr Zr Zd Zo (λrv' rsp' g=>?_)
   .exact l9
   have Wc:(rs.flatMap kS++[.int .u8 99,vi (bx.vars.length:Int),vi 0,.string e0]:List Value)=(rs++[wM bx.vars.length]).flatMap kS:=by
    rw[V9];rfl
   rw[Wc]at g|-;have hI2:=hI.inn hy cm lE oV.symm nG ax (rs':=rs++[wM bx.vars.length]) (by rw[if_pos h5]) (by simpa using g);obtain⟨ra',rc',rfl⟩:=g.form;refine af ?_;exact⟨_,hI2,by simp only;omega,ZU,ZI⟩
  .rw[show decide (((zB x.name:Nat):Int)=13)=false from Zf (spe_ne h5)];have hI2:=hI.inn hy cm lE oV.symm nG ax (rs':=rs) (by rw[if_neg h5];simp) A;refine af ?_;exact⟨_,hI2,by simp only;omega,ZU,ZI⟩
def rS.super {T x ws}(h:rS T x ws)(b):rS T (x.sZ b) (ws.set 9 (.bool b)):=by
 cases h with
 |@mk k nm lit refs cg fP ak lv rv a c bk o us hl hr ha hm hs=>
  have d:=hl.len
  match lv,d,hl with
  |[v1,v2,v3,v4,v5],_,hl=>exact .mk (fP:=b) hl hr ha hm hs
def Hq {T l rows}(h:wk T l rows)(b):wk T (we b l) (jn b rows (l.length-1)):=by
 cases l with
 |nil=>
  have:rows=[]:=vy h.len;subst this;exact wk.nil T
 |cons x l=>
  refine⟨?_,zQ h.w,λi y r hy hr=>?_⟩
  .rw[jg,h.len];simp[we]
  .cases h0:rows[i]? with
   |none=>
    exact zFA
   |some r0=>
    rw[wh h0]at hr;have d:=(Vt.1 h0).1;rw[h.len,Q0]at d;cases i with
    |zero=>
     exact zF1
    |succ i=>
     rw[if_pos ⟨Zo,by rw[Q0];omega⟩]at hr;rw[<- X8 hr];simp only[we,Vm,Vu]at hy;obtain⟨z,g,rfl⟩:=X5.1 hy;exact rS.super (h.rd (i+1) z r0 (by simpa using g) h0) b
def JW {T r rr}(h:∀y∈kA r 0 (kS rr),y∈T):jd T (.slice (some ⟨r,0,none⟩) 1 1) [rr]:=
 ⟨_,1,rfl,λi g d=>⟨r,0,rfl,by
   have:=(Vt.1 d).1;simp only[QA]at this;obtain rfl:i=0:=by omega
   obtain rfl:rr=g:=by simpa using d
   simpa using h⟩⟩
def MN(X g N)(ih:∀x,x.size<=N->ML x=true->∀vs,jD g x vs->nL X g x vs)(x)(hx:x.size<=N+1)(aR:ML x=true)(vs)(h:jD g x vs):nL X g x vs:=by
 intro st w R hR S a6 ev O K u bn Kz;have h':=h;obtain⟨e1,e2,e3,e4,e5,e6,e7,a1,c1,a2,c2,a3,c3,bk,s,ks,rfl,gO,bI,bL,hk8,ha,hm,Q,lW⟩:=w9 h;have Jl:x.size=1+Nd.ay x.ak:=by cases x;rfl
 have Gs:cV x=cW x.a5 x.ae (kf x.ak):=by cases x;rfl
 have hokk:okK x.kind x.ak=true/\x.lit.size<=274877906944/\rC x.ak=true:=zFR
 obtain⟨sg,hlb,iL⟩:=hokk;unfold okK at sg;simp only[vG,vS,vP,decide_eq_true_eq,decide_eq_false_iff_not]at sg;obtain⟨⟨⟨hk12,hk5⟩,Z⟩,hk4⟩:=sg;have Gy:=oy x.ak;have eX:yP st (kf x.ak):=bn.mono (by rw[Gs];unfold cW;omega);have m:a6.length+kf x.ak<1073741824:=by rw[Gs]at Kz;unfold cW at Kz;omega
 have eU:∀y∈x.ak,y.size<=N:=λy hy=>by have:=Nd.aJ hy;omega
 have T:∀y∈x.ak,∀ws,jD g y ws->nL X g y ws:=λy hy=>ih y (eU y hy) (yu iL hy)
 have hkin:∀y∈x.ak,∀ws,jD g y ws->DInl X g y ws:=λy hy ws Az=>by
  refine G0 X g y ws Az (λz hz=>ih z ?_ ?_)
  .have h1:=eU y hy;have h2:=Nd.aJ hz;have h3:y.size=1+Nd.ay y.ak:=by cases y;rfl
   omega
  .have h1:=yu iL hy;cases y;simp only[ML,vG]at h1;exact yu h1.2 hz
 have hup:st.dg.length<1073741824:=by obtain⟨_,k,_⟩:=bn;omega
 have aw:=lg X g x.ak a3 c3 bk s ks Zo ha hm Q (sC Q T) st w R hR S a6 ev O K u eX m;refine aq.intro low158 Zn9 ?_;refine af ?_;refine kZ Zr (λq5=>?_);simp only[Value.cells];refine kJ (λq8=>?_);refine af ?_;refine kH (Dz R x _ (h'.more hR)) Zr ZP (λv dl hv=>?_);obtain⟨rfl,rfl⟩:=hv;simp only[aE];cases aW:z5 x with
 |true=>
  have d:=yf X.F X.G x.kind x.name x.lit x.a5 x.ae x.ak x.at_ st a6 u aW;rw[<- Nd.eta x]at d;rw[d];have pY:=Ec X g x _ h' T hkin st w R hR S a6 ev O K u eX m;refine af ?_;refine kH pY Zr ZP (λv dl hv=>?_);obtain⟨B,B2,ws,⟨rfl,D,hn⟩,rfl⟩:=hv;simp only[aE];have nG:=hn;obtain⟨f1,f2,f3,f4,f5,f7,r1,r3,k1,k3,O6,o2,Dl,Az,_⟩:=oD hn;subst Az;simp only[PN.kind,PN.name,PN.lit,PN.refs,PN.cg,PN.super,PN.ak]at nG|-;refine af ?_;exact⟨.inr rfl,_,[DM X B (ku X.F X.G x.name x.ak 0 st a6 u).2.2,R++B2],.az (us:=[.int .u8 (zB x.name:Nat),.string (yA x.name),.int .u8 f1,vi f2,.int .u64 f3,.string f4,.slice f5 Go.V.fD.ci.length f7,.slice r1 (ku X.F X.G x.name x.ak 0 st a6 u).2.1.length r3,vi 0,.bool false,.slice k1 (ku X.F X.G x.name x.ak 0 st a6 u).1.length k3]) Zr Zr zSb .nil,ZI,B,_,_,⟨rfl,D,nG⟩,rfl⟩
 |false=>
 have C:fA x.kind x.name x.ak=false:=aW;refine af ?_;by_cases g1:x.kind=1
 .rw[A0 ((x.kind:Int)=1)];have d:=ig X.F X.G x.kind x.name x.lit x.a5 x.ae x.ak x.at_ st a6 u C g1;rw[<- Nd.eta x]at d;rw[d];refine af ?_;refine⟨.inr rfl,_,[DM X w st,R++[]],.az (us:=[.int .u8 1,.string ⟨#[]⟩,.int .u8 e1,vi e2,.int .u64 e3,.string e4,.slice e5 e6 e7,Nz,vi 0,.bool false,Nz]) Zr Zr zSb .nil,ap.cut (M:=[DM X w st,R]) ZI (ap.perm Zs),w,_,_,⟨rfl,by simpa using S,yq (gO.more (λy hy=>by simpa using hR y hy)) (jd.nil _) (iZ.nil _)⟩,rfl⟩
 rw[A1 ((x.kind:Int)=1)];refine af ?_;by_cases g2:x.kind=2
 .rw[A0 ((x.kind:Int)=2)];have d:=ii X.F X.G x.kind x.name x.lit x.a5 x.ae x.ak x.at_ st a6 u C g2;rw[<- Nd.eta x]at d;rw[d];have Wc:=ref_R X st w R S a6 ev O K Zo x.name u x.at_ false hup;refine af ?_;refine kH Wc Zr ZP (λv dl hv=>?_);obtain⟨B,⟨rfl,D⟩,rfl⟩:=hv;simp only[aE];generalize jx X.F X.G st a6 x.name u x.at_ false=rr at*;obtain⟨⟨rk,ri,rs,rn⟩,ff⟩:=rr;simp only at D|-;rw[show kS ⟨rk,ri,rs,rn⟩=[.int .u8 rk,vi ri,vi rs,.string rn]from rfl];refine af ?_;refine kV (out:=[.int .u8 rk,vi ri,vi rs,.string rn]) Zr Zr (λr=>?_);refine af ?_;refine⟨.inr rfl,_,[DM X B ff,R++kA r 0 [.int .u8 rk,vi ri,vi rs,.string rn]],.az (us:=[.int .u8 2,.string ⟨#[]⟩,.int .u8 0,vi 0,.int .u64 0,.string ⟨#[]⟩,.slice none 0 0,.slice (some ⟨r,0,none⟩) 1 1,vi 0,.bool false,.slice none 0 0]) Zr Zr zSb .nil,ap.cut (M:=[DM X B ff,R,kA r 0 [.int .u8 rk,vi ri,vi rs,.string rn]]) ZI (ap.perm Zs),B,_,_,⟨rfl,D.more (λy hy=>Zw _ hy),yq (zT _) (JW (λy hy=>QI _ hy)) (iZ.nil _)⟩,rfl⟩
 rw[A1 ((x.kind:Int)=2)];refine af ?_;by_cases g3:x.kind=3
 .rw[A0 ((x.kind:Int)=3)];have d:=ij X.F X.G x.kind x.name x.lit x.a5 x.ae x.ak x.at_ st a6 u C g3;rw[<- Nd.eta x]at d;rw[d];have Wc:=ref_R X st w R S a6 ev O K Zo x.name u x.at_ true hup;have U:=uk X.F X.G st a6 x.name u x.at_ true;have H6:=sD X.F X.G st a6 x.name u x.at_ true;refine af ?_;refine kH Wc Zr ZP (λv dl hv=>?_);obtain⟨B,⟨rfl,D⟩,rfl⟩:=hv;simp only[aE];generalize jx X.F X.G st a6 x.name u x.at_ true=rr at*;obtain⟨⟨rk,ri,rs,rn⟩,ff⟩:=rr;simp only at D U H6|-;rw[show kS ⟨rk,ri,rs,rn⟩=[.int .u8 rk,vi ri,vi rs,.string rn]from rfl];have UK:=lg X g x.ak a3 c3 bk s ks Zo ha hm Q (sC Q T) ff B R hR D a6 ev O (λv hv=>Qv (K v hv) U.vars.length_le) u (yP.less (n:=1) (bn.mono (by rw[Gs];unfold cW;omega)) H6) m;refine af ?_;refine kJ (λgz=>?_);refine af ?_;apply VC.seq;refine VC.draws ⟨?_,?_,?_,trivial⟩
  .skip
   refine af ?_;refine kV (out:=[.int .u8 rk,vi ri,vi rs,.string rn]) Zr Zr (λr=>?_);refine af ?_;refine kH UK Zr ZP (λv3 dl hv=>?_);obtain⟨w3,B3,rows,iW,⟨ss,bV,bB⟩,rfl⟩:=hv;simp only[aE];obtain⟨gQ,eV,rfl⟩:=bV.form;exact zAA
  .skip
   refine af ?_;refine kH UK Zr ZP (λv3 dl hv=>?_);obtain⟨w3,B3,rows,iW,⟨ss,bV,bB⟩,rfl⟩:=hv;simp only[aE];obtain⟨gQ,eV,rfl⟩:=bV.form;refine af ?_;refine kV (out:=[.int .u8 rk,vi ri,vi rs,.string rn]) Zr Zr (λr=>?_);exact zAA
  .skip
   refine af ?_;refine kH UK Zr ZP (λv3 dl hv=>?_);obtain⟨w3,B3,rows,iW,⟨ss,bV,bB⟩,rfl⟩:=hv;simp only[aE];obtain⟨gQ,eV,rfl⟩:=bV.form;refine af ?_;refine kV (out:=[.int .u8 rk,vi ri,vi rs,.string rn]) Zr Zr (λr=>?_);exact zAA
 rw[A1 ((x.kind:Int)=3)];refine af ?_;by_cases g7:x.kind=7
 .rw[A0 ((x.kind:Int)=7)];have d:=iq X.F X.G x.kind x.name x.lit x.a5 x.ae x.ak x.at_ st a6 u C g7;rw[<- Nd.eta x]at d;rw[d];have hbk:=xi X g x _ h' T st w R hR S a6 ev O K (u:Int) bn Kz;refine af ?_;refine kH hbk Zr ZP (λv dl hv=>?_);obtain⟨B,B2,⟨rfl,D⟩,rfl⟩:=hv;simp only[aE];refine af ?_;exact⟨.inr rfl,_,[DM X B (iD X.F X.G x.a5 x.ae x.ak x.at_ st a6 (u:Int)),R++B2],.az (us:=[.int .u8 8,.string ⟨#[]⟩,.int .u8 0,vi 0,.int .u64 0,.string ⟨#[]⟩,Nz,Nz,vi (st.a7.length:Int),.bool false,Nz]) Zr Zr zSb .nil,ZI,B,_,_,⟨rfl,D,yq (zT _) (jd.nil _) (iZ.nil _)⟩,rfl⟩
 rw[A1 ((x.kind:Int)=7)];refine af ?_;by_cases g8:x.kind=8
 .rw[A0 ((x.kind:Int)=8)];have d:=ir X.F X.G x.kind x.name x.lit x.a5 x.ae x.ak x.at_ st a6 u C g8;rw[<- Nd.eta x]at d;rw[d];refine af ?_;refine kH aw Zr ZP (λv3 dl hv=>?_);obtain⟨w3,B3,rows,iW,⟨ss,bV,bB⟩,rfl⟩:=hv;simp only[aE];obtain⟨gQ,eV,rfl⟩:=bV.form;refine af ?_;refine⟨.inr rfl,_,[DM X w3 (kQ X.F X.G x.ak st a6 u).2,R++(B3++aj (.slice gQ (kQ X.F X.G x.ak st a6 u).1.length eV) rows.flatten iW)],.az (us:=[.int .u8 9,.string ⟨#[]⟩,.int .u8 0,vi 0,.int .u64 0,.string ⟨#[]⟩,Nz,Nz,vi 0,.bool false,.slice gQ (kQ X.F X.G x.ak st a6 u).1.length eV]) Zr Zr zSb .nil,ap.cut (M:=[DM X w3 (kQ X.F X.G x.ak st a6 u).2,R++B3,aj (.slice gQ (kQ X.F X.G x.ak st a6 u).1.length eV) rows.flatten iW]) ZI (ap.perm Zs),w3,_,_,⟨rfl,ss.more (λy hy=>?_),yq (zT _) (jd.nil _) ((zZ bV bB).more (λy hy=>?_))⟩,rfl⟩
  .exact zAW
  .exact zAS
 rw[A1 ((x.kind:Int)=8)];refine af ?_;by_cases g9:x.kind=9
 .rw[A0 ((x.kind:Int)=9)];have d:=iu X.F X.G x.kind x.name x.lit x.a5 x.ae x.ak x.at_ st a6 u C g9;rw[<- Nd.eta x]at d;rw[d];refine af ?_;refine kH aw Zr ZP (λv3 dl hv=>?_);obtain⟨w3,B3,rows,iW,⟨ss,bV,bB⟩,rfl⟩:=hv;simp only[aE];obtain⟨gQ,eV,rfl⟩:=bV.form;refine af ?_;refine⟨.inr rfl,_,[DM X w3 (kQ X.F X.G x.ak st a6 u).2,R++(B3++aj (.slice gQ (kQ X.F X.G x.ak st a6 u).1.length eV) rows.flatten iW)],.az (us:=[.int .u8 10,.string ⟨#[]⟩,.int .u8 0,vi 0,.int .u64 0,.string ⟨#[]⟩,Nz,Nz,vi 0,.bool false,.slice gQ (kQ X.F X.G x.ak st a6 u).1.length eV]) Zr Zr zSb .nil,ap.cut (M:=[DM X w3 (kQ X.F X.G x.ak st a6 u).2,R++B3,aj (.slice gQ (kQ X.F X.G x.ak st a6 u).1.length eV) rows.flatten iW]) ZI (ap.perm Zs),w3,_,_,⟨rfl,ss.more (λy hy=>?_),yq (zT _) (jd.nil _) ((zZ bV bB).more (λy hy=>?_))⟩,rfl⟩
  .exact zAW
  .exact zAS
 rw[A1 ((x.kind:Int)=9)];refine af ?_;by_cases g6:x.kind=6
 .rw[A0 ((x.kind:Int)=6)];have d:=io X.F X.G x.kind x.name x.lit x.a5 x.ae x.ak x.at_ st a6 u C g6;rw[<- Nd.eta x]at d;rw[d];refine af ?_;apply VC.seq;refine VC.draws ⟨?_,?_,trivial⟩
  .exact zAQ
  .exact zAQ
 rw[A1 ((x.kind:Int)=6)];refine af ?_;have pR:0<x.ak.length:=by
  rcases Z with⟨k1,k2⟩
  by_cases g5:x.kind=5
  .rcases hk5 with k|k
   .exact absurd g5 k
   .exact k
  .rcases hk4 with k|k
   .exact absurd Zo k
   .exact k
 obtain⟨r,sq⟩:∃r,x.ak[0]? =some r:=⟨_,Zg pR⟩;have Am:jR x.ak=kg r:=by
  cases lX:x.ak with
  |nil=>rw[lX]at sq;cases sq
  |cons y l=>
   rw[lX]at sq;obtain rfl:y=r:=by simpa using sq
   rfl
 obtain rfl:=ha pR;have hr0m:=hm 0 pR;have hrr:=Q 0 r sq;rw[show s+0*11=s by omega]at hr0m;by_cases g5:x.kind=5
 .rw[A0 ((x.kind:Int)=5)];have d:=im X.F X.G x.kind x.name x.lit x.a5 x.ae x.ak x.at_ st a6 u C g5;rw[<- Nd.eta x]at d;rw[d];have oU:=It X.F X.G x.ak st a6 u;refine af ?_;refine kH aw Zr ZP (λv3 dl hv=>?_);obtain⟨w3,B3,rows,iW,⟨ss,bV,bB⟩,rfl⟩:=hv;simp only[aE];generalize kQ X.F X.G x.ak st a6 u=A at*;have hrl:rows.length=A.1.length:=bB.len;obtain⟨H,J,eV,rfl,hscl,_⟩:=bV.some Zo;generalize Y:ks 0=k0 at*;obtain⟨y1,y2,y3,y4,y5,y6,y7,y8,y9,y10,y11,y12,y13,y14,y15,y16,rfl⟩:=yv hrr;rw[Am];refine af ?_;refine kJ (λuN=>?_);refine af ?_;refine VC.loop (α:=Nat) (bg:=λj=>[(5,kE q5),(8,kE q8),(11,kE uN),(12,vi ((j+1:Nat):Int))]) (Hf:=λj=>[DM X w3 A.2,R++B3,kA H J ((jn (kg r) rows j).flatten++iW),kA uN 0 [.int .u8 6,.string ⟨#[]⟩,.int .u8 0,vi 0,.int .u64 0,.string ⟨#[]⟩,Nz,Nz,vi 0,.bool false,.slice (some ⟨H,J,none⟩) A.1.length eV],kA q8 0 (rY1 ⟨#[]⟩),kA q5 0 (rN x.kind x.name e1 e2 e3 e4 e5 e6 e7 a1 x.a5.length c1 a2 x.ae.length c2 (some ⟨bk,s,none⟩) x.ak.length c3 x.at_)])
   (I:=λj=>j<=A.1.length-1) (μ:=λj=>A.1.length-1-j) 0 (X0 _) ZU (by rw[Ft];exact(show ap _ [DM X w3 A.2,R++B3,aj (.slice (some ⟨H,J,none⟩) A.1.length eV) rows.flatten iW,kA uN 0 [.int .u8 6,.string ⟨#[]⟩,.int .u8 0,vi 0,.int .u64 0,.string ⟨#[]⟩,Nz,Nz,vi 0,.bool false,.slice (some ⟨H,J,none⟩) A.1.length eV],kA q8 0 (rY1 ⟨#[]⟩),kA q5 0 (rN x.kind x.name e1 e2 e3 e4 e5 e6 e7 a1 x.a5.length c1 a2 x.ae.length c2 (some ⟨bk,s,none⟩) x.ak.length c3 x.at_)] by exact bH)) ?_
  intro j hj;refine af ?_;by_cases gh:j<A.1.length-1;rotate_left
  .rw[A1 (((j+1:Nat):Int) < (A.1.length:Int))];obtain rfl:j=A.1.length-1:=by omega
   have KU:=Hq bB (kg r);have hsl5:ke 11 (.slice (some ⟨H,J,none⟩) A.1.length eV) (we (kg r) A.1).length (jn (kg r) rows (A.1.length-1)).flatten iW:=by
    rw[Dh];exact bV.other (by rw[ew (zQ bB.w),ew bB.w,jg])
   refine af ?_;refine⟨.inr rfl,_,[DM X w3 A.2,R++(B3++aj (.slice (some ⟨H,J,none⟩) A.1.length eV) (jn (kg r) rows (A.1.length-1)).flatten iW)],.az (us:=[.int .u8 6,.string ⟨#[]⟩,.int .u8 0,vi 0,.int .u64 0,.string ⟨#[]⟩,Nz,Nz,vi 0,.bool false,.slice (some ⟨H,J,none⟩) A.1.length eV]) Zr Zr zSb .nil,ap.cut (M:=[DM X w3 A.2,R++B3,kA H J ((jn (kg r) rows (A.1.length-1)).flatten++iW)]) ZI (ap.perm A4),w3,_,_,⟨rfl,ss.more (λy hy=>?_),yq (zT _) (jd.nil _) ((zZ hsl5 KU).more (λy hy=>?_))⟩,rfl⟩
   .exact zAW
   .exact zAS
  rw[A0 (((j+1:Nat):Int) < (A.1.length:Int))];obtain⟨E,q⟩:∃E,rows[j+1]? =some E:=⟨_,Zg Zo⟩;have hrw:=bB.w E (Zv q);have hsj:(jn (kg r) rows j)[j+1]? =some E:=by rw[wh q,if_neg Zo]
  have uw:((jn (kg r) rows j).flatten++iW).set ((j+1)*11+9) (.bool (kg r))=(jn (kg r) rows (j+1)).flatten++iW:=by
   have cf:=ew (zQ (b:=kg r) (j:=j) bB.w);rw[jg]at cf;rw[List.set_append_left _ _ (by rw[cf];omega),IZ (zQ bB.w) hsj Zd,sY q]
  refine af ?_;refine VC.draws ⟨?_,?_,trivial⟩
  .exact zBC
  .exact zBC
 rw[A1 ((x.kind:Int)=5)];have hs4:x.kind≠1/\x.kind≠2/\x.kind≠3/\x.kind≠5/\x.kind≠6/\x.kind≠7/\x.kind≠8/\x.kind≠9:=by omega
 generalize Y:ks 0=k0 at*;obtain⟨y1,y2,y3,y4,y5,y6,y7,y8,y9,y10,y11,y12,y13,y14,y15,y16,rfl⟩:=yv hrr;refine af ?_;refine kR Zr (λz hz=>by have h9:=hR z (hr0m z hz);simp[h9]) rfl ?_;refine af ?_;refine kH (xW R r _ (hrr.more hR)) Zr ZP (λv dl hv=>?_);obtain⟨rfl,rfl⟩:=hv;simp only[aE];cases GN:kg r with
 |true=>
  have d:=eI X.F X.G x.kind x.name x.lit x.a5 x.ae x.ak x.at_ st a6 u C hs4 (Am.trans GN);rw[<- Nd.eta x]at d;rw[d];have sr:x.ak.tail.length=x.ak.length-1:=List.length_tail;have W:∀j,x.ak.tail[j]? =x.ak[j+1]?:=λj=>by rw[List.getElem?_tail]
  have hct:kf x.ak.tail<=kf x.ak:=by
   cases x.ak with
   |nil=>exact Qs _
   |cons y l=>simp only[List.tail_cons,kf];omega
  obtain⟨o',si⟩:∃o',o'=(if c3=1 then s else s+1*11):=⟨_,rfl⟩;have L:=lg X g x.ak.tail (some ⟨bk,o',none⟩) (c3-1) bk (s+11) (λj=>ks (j+1)) Zo (λh0=>by rw[si,if_neg Zo]) (λj hj y hy=>hm (j+1) Zo y (by rw[show s+(j+1)*11=s+11+j*11 by omega];exact hy)) (λj y hy=>Q (j+1) y (by rw[<- W];exact hy)) (sC (λj y hy=>Q (j+1) y (by rw[<- W];exact hy)) (λy hy=>T y (List.mem_of_mem_tail hy))) st w R hR S a6 ev O K u (eX.mono hct) Zo;clear aw;have aw:=L;refine af ?_;apply VC.seq;refine VC.draws ⟨?_,?_,trivial⟩
  .exact zAJ
  .exact zAJ
 |false=>
  have d:=il X.F X.G x.kind x.name x.lit x.a5 x.ae x.ak x.at_ st a6 u C hs4 (Am.trans GN);rw[<- Nd.eta x]at d;rw[d];refine af ?_;apply VC.seq;refine VC.draws ⟨?_,?_,trivial⟩
  .exact zAR
  .exact zAR
def XD(X d):∀N x,x.size<=N->ML x=true->∀vs,jD d x vs->nL X d x vs:=by
 intro N
 induction N with
 |zero=>intro x g;have:=x.size_pos;omega
 |succ N ih=>exact λx g j vs h=>MN X d N ih x g j vs h
end Go.Proofs.YtijnokbblmbpkaaGreatDoor

/-
  What is handed in as a method or as texts; the library's error, the cell of the package errors; a world that meets the condition.
-/
import Derived.Test.YtijnokbblmbpkaaGreatDoorS29
import Derived.Test.YtijnokbblmbpkaaGreatDoorS12
import Derived.Test.YtijnokbblmbpkaaGreatDoorCards
import Derived.Test.YtijnokbblmbpkaaGreatDoorTie
import Derived.OpenShut
import Derived.Deep.DeepHandedRow
import Derived.Deep.DeepWitnessRowRef
import Derived.Lib.LaidTab
import Derived.JoinedCond
import Derived.Lay
import Derived.LaidSub
import Derived.LaidHandle
import Derived.Stop.LaidErr
import Derived.KernelRfl
set_option linter.unusedSimpArgs false
set_option linter.unusedVariables false
namespace Go.Proofs.YtijnokbblmbpkaaGreatDoor
open Go Go.V Go.ChangeShapes Go.WideShapes Go.Deep
set_option maxRecDepth 100000
section
variable {H:Type} {enc:TypeId×Value->H}
theorem u3:Tryz.prog.underlying 3=some (.int .i64):=by kernel_rfl
theorem u4:Tryz.prog.underlying 4=some .bool:=by kernel_rfl
theorem u9:Tryz.prog.underlying 9=some .string:=by kernel_rfl
theorem u22:Tryz.prog.underlying 22=some (.slice 9):=by kernel_rfl
theorem u23:Tryz.prog.underlying 23=some (.slice 72):=by kernel_rfl
theorem u68:Tryz.prog.underlying 68=some (.slice 70):=by kernel_rfl
noncomputable def fs70:Array Field:=match Tryz.prog.underlying 70 with|some (.struct fs)=>fs|_=>#[]
theorem u70:Tryz.prog.underlying 70=some (.struct fs70):=by kernel_rfl
noncomputable def fs72:Array Field:=match Tryz.prog.underlying 72 with|some (.struct fs)=>fs|_=>#[]
theorem u72:Tryz.prog.underlying 72=some (.struct fs72):=by kernel_rfl
theorem litT:LitT Tryz.prog 70 68:=⟨⟨fs70,u70,by kernel_rfl,66,2,67,9,by kernel_rfl,by kernel_rfl,by kernel_rfl,by kernel_rfl,by kernel_rfl,by kernel_rfl,by kernel_rfl,by kernel_rfl,by kernel_rfl,by kernel_rfl⟩,by kernel_rfl,u68⟩
theorem nodT:NodT Tryz.prog 72 70 23 22:=⟨⟨fs72,u72,by kernel_rfl,65,9,3,by kernel_rfl,by kernel_rfl,by kernel_rfl,by kernel_rfl,by kernel_rfl,by kernel_rfl,by kernel_rfl,u22⟩,by kernel_rfl,by kernel_rfl,by kernel_rfl,by kernel_rfl,u23⟩
noncomputable def ms50:Array (String×TypeId):=match Tryz.prog.underlying 50 with|some (.interface ms)=>ms|_=>#[]
theorem u50:Tryz.prog.underlying 50=some (.interface ms50):=by kernel_rfl
theorem closedS:closedB Tryz.prog [2,3,4,9,22,23,25,65,66,67,68,70,72]=true:=by kernel_rfl
theorem closedP:Closed Tryz.prog (·∈[2,3,4,9,22,23,25,65,66,67,68,70,72]):=closed_of closedS
theorem own:ownKnob Tryz.prog.godebug=none:=by kernel_rfl
theorem bulk_one(d:DataW H):1<=Rows.uptoBulk d:=by
 cases d with
 |lit l=>cases l <;> simp[Rows.uptoBulk]
 |_=>simp[Rows.uptoBulk]
theorem bulk_len(l:List (DataW H)):l.length<=Rows.uptoBulkAll l:=by
 induction l with
 |nil=>simp
 |cons d r ih=>
  have:=bulk_one d;simp only[Rows.uptoBulkAll,Vl];omega
theorem bulk_mem {d:DataW H}{l:List (DataW H)}(h:d∈l):Rows.uptoBulk d<=Rows.uptoBulkAll l:=by
 induction l with
 |nil=>cases h
 |cons y r ih=>
  simp only[Rows.uptoBulkAll];exact zBX
theorem bulk_sum(l:List (DataW H)):(l.map Rows.uptoBulk).sum=Rows.uptoBulkAll l:=by
 induction l with
 |nil=>rfl
 |cons d r ih=>simp only[Vy,List.sum_cons,ih,Rows.uptoBulkAll]
theorem bulkB:Bulk (Rows.uptoBulk (H:=H)) where
 agg l d h:=by have:=bulk_mem h;simp only[Rows.uptoBulk];omega
 sl es sp d h:=by have:=bulk_mem h;simp only[Rows.uptoBulk];omega
 len es sp:=by have:=bulk_len es;simp only[Rows.uptoBulk];omega
 str bs:=by simp only[Rows.uptoBulk];omega
 sls es sp:=by rw[bulk_sum];simp only[Rows.uptoBulk];omega
 aggs l:=by rw[bulk_sum];simp only[Rows.uptoBulk];omega
theorem gEr : Tryz.prog.globalNamed "strconv.ErrRange" = some 5 := by kernel_rfl
theorem gErT:(Tryz.prog.globals[5]?).map (·.type)=some 50:=by kernel_rfl
theorem gRen:Tryz.sl174_ren.g 16=5:=by kernel_rfl
theorem range_in {W : World} {d : DataW Unit} {r : List (String × DataW Unit)} (h : laidMet Tryz.prog (("strconv.ErrRange", d) :: r) W) (hd : ∃ nm e, d = .iface nm e) {A : List kC} (hA : ∀ a : kC, a.holds W → a ∈ A) : ErA A := by
 obtain⟨nm,e,rfl⟩:=hd;obtain⟨ps,⟨g0,t0,cs0,f0,p0,q0,hg0,ht0,hv0,hd0,_,e0⟩,_,hrows⟩:=h;obtain rfl:=Qn (gEr.symm.trans hg0);obtain rfl:=Qn (gErT.symm.trans ht0);subst e0;have hcs:∃te pe,cs0=#[.iface te pe]:=by
  obtain⟨_,te,pe,he,_,_⟩:=iface_of_trod u50 hd0;exact⟨te,pe,by rw[<- he]⟩
 obtain⟨te,pe,rfl⟩:=hcs;obtain⟨⟨c,t,hc⟩,_⟩:=hrows 5 0 (by simp[MemPlace.row]);refine⟨.iface te pe,?_,.inr ⟨te,pe,rfl⟩⟩;rw[gRen];have hcell:W.cell? ⟨5,0,none⟩=some (.iface te pe):=by simpa using World.var?_cell gEr hv0 0
 refine hA _ (Go.V.holds_cell hcell ?_);unfold World.frozen?;rw[hc];simp
noncomputable def fs25:Array Field:=match Tryz.prog.underlying 25 with|some (.struct fs)=>fs|_=>#[]
theorem u25:Tryz.prog.underlying 25=some (.struct fs25):=by kernel_rfl
theorem fs25s:fs25.size=5:=by kernel_rfl
theorem fs25l:(fs25.toList.map fun f=>(f.type,f.offset))=[(9,0),(22,1),(22,2),(3,3),(23,4)]:=by kernel_rfl
theorem c9:Tryz.prog.cellsOf 9=1:=by kernel_rfl
theorem c22:Tryz.prog.cellsOf 22=1:=by kernel_rfl
theorem c3:Tryz.prog.cellsOf 3=1:=by kernel_rfl
theorem c23:Tryz.prog.cellsOf 23=1:=by kernel_rfl
theorem c25:Tryz.prog.cellsOf 25=5:=by kernel_rfl
theorem c72:Tryz.prog.cellsOf 72=11:=by kernel_rfl
theorem md_form {W:World}{base:Nat}{v:Value}(hv:Value.okWide Tryz.prog W .any base 25 v):∃cs:List Value,v=.agg cs.toArray:=by
 simp only[Value.okWide,u25]at hv;obtain⟨cs,rfl,_⟩:=hv;exact⟨cs.toList,Zs⟩
theorem rd_md {W:World}{A:List kC}(hA:∀a:kC,a.holds W->a∈A)(n:Nat)(cs:List Value)(x:DataW H×List MemPlace)(hN:Rows.uptoBulk x.1<=1048576)(h:DataW.trod enc Tryz.prog W 0 (fun _=>true) true n 25 cs=some x)(hf:W.noneFrozen x.2):∃m:Md,MdW A m cs/\(Nd.ws m.body<=Rows.uptoBulk x.1/\m.args.length<=Rows.uptoBulk x.1/\m.temps.length<=Rows.uptoBulk x.1):=by
 obtain⟨ys,k,_,rfl,hlen,hyl,hfld⟩:=DataW.trod_struct u25 h;rw[c25]at hlen
 replace hN:Rows.uptoBulk (.agg (ys.map (·.1)))<=1048576:=hN
 have hget:∀(i:Nat) (ty off:Nat),(fs25.toList.map fun f=>(f.type,f.offset))[i]? =some (ty,off)->DataW.trod enc Tryz.prog W 0 (fun _=>true) true k ty ((cs.drop off).take (Tryz.prog.cellsOf ty))=ys[i]?:=fun i ty off hi=>by
  exact zBO
 have hyl5:ys.length=5:=by rw[hyl];exact fs25s
 have hys:∀i,i < 5->ys[i]? =some (ys.getD i (.nil,[])):=fun i hi=>by
  rw[V5,Zg Zo];rfl
 have g0:=(hget 0 9 0 (by rw[fs25l];rfl)).trans (hys 0 Zo);have g1:=(hget 1 22 1 (by rw[fs25l];rfl)).trans (hys 1 Zo);have g2:=(hget 2 22 2 (by rw[fs25l];rfl)).trans (hys 2 Zo);have g3:=(hget 3 3 3 (by rw[fs25l];rfl)).trans (hys 3 Zo);have g4:=(hget 4 23 4 (by rw[fs25l];rfl)).trans (hys 4 Zo);rw[c9]at g0;rw[c22]at g1 g2;rw[c3]at g3;rw[c23]at g4;obtain⟨s,e0,d0,_⟩:=DataW.trod_string u9 g0;obtain⟨z3,e3,_,w3⟩:=DataW.trod_int u3 g3;have hlt:∀i,i < 5->Rows.uptoBulk (ys.getD i (.nil,[])).1 < Rows.uptoBulk (.agg (ys.map (·.1))):=fun i hi=>bulkB.agg _ _ (Q9.2 ⟨_,Zv (hys i hi),rfl⟩)
 have hfr:∀i,i < 5->W.noneFrozen (ys.getD i (.nil,[])).2:=fun i hi b o hbo=>hf b o (flat_sub (hys i hi) hbo)
 obtain⟨v1,e1⟩:∃v,(cs.drop 1).take 1=[v]:=Vn.1 Zam;obtain⟨v2,e2⟩:∃v,(cs.drop 2).take 1=[v]:=Vn.1 Zam;obtain⟨v4,e4⟩:∃v,(cs.drop 4).take 1=[v]:=Vn.1 Zam;rw[e1]at g1;rw[e2]at g2;rw[e4]at g4;have l1:=hlt 1 Zo;have l2:=hlt 2 Zo;have l4:=hlt 4 Zo;obtain⟨args,hargs,hargl⟩:=rd_texts bulkB u22 u9 c9 g1 (hfr 1 Zo) hA Zo;obtain⟨temps,htemps,htempl⟩:=rd_texts bulkB u22 u9 c9 g2 (hfr 2 Zo) hA Zo;obtain⟨a,kk,c,bk,o,us,D,Pl,m,rfl,⟨hk,hks,hkc⟩,ha,hi⟩:=rd_rows bulkB u23 c72 Zd g4 (hfr 4 Zo) hA;obtain⟨l,hl,hq⟩:=choose_rows (α:=Nd) (Q:=fun i y=>jQ A y (us i)/\y.w<=Rows.uptoBulk (D i)) (n:=kk) (fun i hik=>by
  obtain⟨q1,_,_,q4,q5⟩:=hi i hik;exact rd_node bulkB nodT litT hA (Rows.uptoBulk (D i)) m (us i) (D i,Pl i) (QW _) Zo q4 q5)
 have b3:=wf_i64 w3;have hs0:s.size<=1048576:=by
  have h3:=hlt 0 Zo;have e:(ys.getD 0 (.nil,[])).1=.lit (.string s.data.toList):=congrArg Prod.fst d0;rw[e]at h3;have h5:=bulkB.str (H:=H) s.data.toList;have e2:s.data.toList.length=s.size:=by simp
  omega
 have hsz4:Nd.ws l<=Rows.uptoBulk (ys.getD 4 (.nil,[])).1:=by
  refine QY (Nd.ws_le (f:=fun i=>Rows.uptoBulk (D i)) (o:=0) (fun i x hx=>?_)) ?_
  ·rw[Qe];exact(hq i x hx).2
  ·rw[hl];exact hks
 have hcs:cs=[.string s,v1,v2,vi z3,.slice a l.length c]:=by
  exact zB2
 have hargs2:=hargs;have htemps2:=htemps;obtain⟨aa,ac,rfl,_,_⟩:=hargs2;obtain⟨ta,tc,rfl,_,_⟩:=htemps2;refine⟨⟨s,args,temps,z3,l⟩,⟨⟨aa,ac,ta,tc,a,c,bk,o,us,hcs,hargs,htemps,⟨fun hp=>ha (by simp only at hp;omega),by simp only;omega,fun i hi'=>(hi i (by simp only at hi';omega)).2.2.1,fun i x hx=>(hq i x hx).1⟩⟩,by simp only;omega,b3⟩,?_⟩;show Nd.ws l<=Rows.uptoBulk (.agg (ys.map (·.1)))/\args.length<=Rows.uptoBulk (.agg (ys.map (·.1)))/\temps.length<=Rows.uptoBulk (.agg (ys.map (·.1)));omega
theorem texts_form {W:World}{base:Nat}{v:Value}{d:DataW H}{p:List MemPlace}(hv:Value.okWide Tryz.prog W .any base 22 v)(h:DataW.Trod enc Tryz.prog W 0 (fun _=>true) true 22 v d p)(hb:Rows.uptoBulk d<=1048576)(hf:W.noneFrozen p){A:List kC}(hA:∀a:kC,a.holds W->a∈A):∃l:List ByteArray,RdT A v l:=by
 obtain⟨n,hn⟩:=h;have hs:v.cells=#[v]:=by
  cases v <;> simp only[Value.okWide,u22,Cell.okWide,Cell.ok]at hv <;> rfl
 have hn':DataW.trod enc Tryz.prog W 0 (fun _=>true) true n 22 [v]=some (d,p):=by simpa[hs]using hn
 obtain⟨l,h1,_⟩:=rd_texts bulkB u22 u9 c9 hn' hf hA hb;exact⟨l,h1⟩
theorem witZ {C:Checked}{os:Os}{f:FuncId}{fn:Func}{s:OpenSpec}{conds:List PathCond}{apart:Bool}{laid:List (String×DataW Unit)}(w0:World)(args:Array Value)(hos:w0.os=os)
 (hs:(w0.forCall (fun _ _=>0) ⟨#[],args,[]⟩).Shaped C.prog) (hok:Input.okWideB C.prog (w0.forCall (fun _ _=>0) ⟨#[],args,[]⟩) f ⟨#[],args,[]⟩=true)
 (hrow:s.preRow enc C.prog fn conds apart laid (w0.forCall (fun _ _=>0) ⟨#[],args,[]⟩).memory args):
 ∃(w:World) (tape:Tape) (i:Input),w.os=os/\(w.forCall tape i).Shaped C.prog/\i.vars=[]/\Input.okWide C.prog (w.forCall tape i) .any w.heap.size f i/\
  s.preRow enc C.prog fn conds apart laid (w.forCall tape i).memory i.args/\({modest:=false}:Assume).holds C.prog (lone (Frame.enter C.prog f i.args .normal) [] (w.forCall tape i)):=
 ⟨w0,fun _ _=>0,⟨#[],args,[]⟩,hos,hs,(Input.okWide_of_okWideB (base:=0) hok).1,(Input.okWide_of_okWideB hok).2,hrow,by
   simp only[Assume.holds];exact⟨Zs,Zs,fun _=>Modest.zero,Zs,Zs⟩⟩
theorem gErr : Tryz.prog.globalNamed "errors.errorType" = some 0 := by kernel_rfl
theorem hRt : (Tryz.prog.cutTypes.find? (·.1 == "internal/reflectlite.rtype")).map (·.2) = some 242 := by kernel_rfl
theorem hOne:((List.range Tryz.prog.types.size).filter fun t=>Tryz.prog.rowNamed t [101,114,114,111,114])=[50]:=by kernel_rfl
theorem hZero:(((begin Tryz.prog (fun _ _=>0) default).world.heap[0]?).bind Obj.row?).isSome=true:=by kernel_rfl
theorem hGlob:0 < Tryz.prog.globals.size:=by decide+kernel
theorem hIn : ("errors.errorType", Rows.laid_errors_errorType) ∈ Rows.scopeSoundUptoRow.laid :=
 Q5 _ <|Q5 _ <|Q5 _ <|Q5 _ <|Q6 ..
theorem err_cell {W:World}(h:laidMetH Tryz.prog Rows.scopeSoundUptoRow.laid W):W.cell? ⟨0,0,none⟩=some (.iface 242 (.agg #[.pointer (some ⟨9,50,none⟩)])):=by
 obtain ⟨_, h2⟩ := laidMetH_iff.1 h;obtain ⟨name, u, ty, e1, e2, e3, e4, e5⟩ := h2 ("errors.errorType", Rows.laid_errors_errorType) (Q7.2 ⟨hIn, rfl⟩);have en : name = [101, 114, 114, 111, 114] := (Qn e1).symm;subst en;obtain rfl := Qn (hRt.symm.trans e2);have hm : ty ∈ (List.range Tryz.prog.types.size).filter fun t => Tryz.prog.rowNamed t [101, 114, 114, 111, 114] := Q7.2 ⟨QB.2 e3, e4⟩
 rw[hOne]at hm;obtain rfl:=QC.1 hm;have hh:typeHandle Tryz.prog 50=.pointer (some ⟨9,50,none⟩):=by kernel_rfl
 rw[hh]at e5;simpa using World.var?_cell gErr e5 0
theorem err_in {W:World}(h:laidMetH Tryz.prog Rows.scopeSoundUptoRow.laid W)(hS:W.ShapedOpen Tryz.prog){A:List kC}(hA:∀a:kC,a.holds W->a∈A):EtA∈A:=by
 obtain⟨⟨z,ty⟩,hzt⟩:=Qj.1 hZero;obtain⟨cs,hc,hz,_⟩:=hS.1 0 z ty hGlob hzt;have hcell:=err_cell h;have h0:cs[0]? =some (.iface 242 (.agg #[.pointer (some ⟨9,50,none⟩)])):=by simpa[World.cell?,hc]using hcell
 exact hA _ ⟨cs,ty,0,0,hc,h0,Zo⟩
noncomputable def lstN:List (String×DataW Unit):=Rows.scopeSoundUptoRow.laid.filter fun x=>x.2.handleName?.isNone
noncomputable def w00(os:Os):World:=
 let w:=World.holding Tryz.prog os ⟨#[],#[],[]⟩
 {w with heap:=w.heap.modify 0 fun
    |.cells _ t frozen=>.cells #[.iface 242 (.agg #[.pointer (some ⟨9,50,none⟩)])] t frozen
    |o=>o}
noncomputable def wW(os:Os):World:=(w00 os).layVars Tryz.prog lstN
theorem wW_os(os:Os):(wW os).os=os:=World.layVars_os _ _ _
theorem wW_fits(os:Os):(w00 os).layFits Tryz.prog lstN []=true:=by kernel_rfl
theorem wW_ifaces(os:Os):(w00 os).layIfaces Tryz.prog lstN (wW os)=true:=by kernel_rfl
theorem wW_laid(os:Os)(args:Array Value):laidMet Tryz.prog lstN ((wW os).forCall (fun _ _=>0) ⟨#[],args,[]⟩).memory:=by
 have e1:(lstN.filter fun x=>(lstN.map (·.1)).contains x.1)=lstN:=vt.2 fun x hx=>vg.2 (Q9.2 ⟨x,hx,rfl⟩)
 have e2:(lstN.filter fun x=>!(lstN.map (·.1)).contains x.1)=[]:=vr.2 fun x hx=>by rw[vg.2 (Q9.2 ⟨x,hx,rfl⟩)];simp
 have h:laidMet Tryz.prog lstN (wW os):=laidMet_layVars (w0:=w00 os) (lstN.map (·.1)) [] (by rw[e1];rfl) (by rw[e1];exact wW_fits os) (by rw[e1];exact wW_ifaces os) (by rw[e2];exact LaidIn.none);exact h.of_heap (by simp[World.memory,World.forCall,Input.heap])
theorem lib_in {W:World}(h:laidMetH Tryz.prog Rows.scopeSoundUptoRow.laid W){A:List kC}(hA:∀a:kC,a.holds W->a∈A):ErA A:=by
 obtain ⟨h1, _⟩ := laidMetH_iff.1 h;have h2 : laidMet Tryz.prog [("math/bits.deBruijn32tab", Rows.laid_math_bits_deBruijn32tab), ("math/bits.deBruijn64tab", Rows.laid_math_bits_deBruijn64tab), ("internal/strconv.uint64pow10", Rows.laid_internal_strconv_uint64pow10), ("unicode/utf8.acceptRanges", Rows.laid_unicode_utf8_acceptRanges), ("strconv.ErrRange", Rows.laid_strconv_ErrRange), ("strconv.ErrSyntax", Rows.laid_strconv_ErrSyntax), ("unicode/utf8.first", Rows.laid_unicode_utf8_first)] W := h1;exact range_in (laidMet.tail (laidMet.tail (laidMet.tail (laidMet.tail h2)))) ⟨_, _, rfl⟩ hA
end
end Go.Proofs.YtijnokbblmbpkaaGreatDoor

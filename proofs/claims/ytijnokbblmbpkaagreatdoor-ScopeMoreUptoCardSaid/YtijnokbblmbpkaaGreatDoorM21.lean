/-
  A method's units, as they come out.
-/
import Derived.Test.YtijnokbblmbpkaaGreatDoorM20
import Derived.Test.YtijnokbblmbpkaaGreatDoorM17
set_option linter.all false
namespace Go.Proofs.YtijnokbblmbpkaaGreatDoor
open Go Go.V
set_option maxHeartbeats 12800000
set_option maxRecDepth 100000
theorem Lk {st:ah}(hf:st.f=none)(h1:st.outer.length<=255)(h2:∀i,i < st.outer.length->(st.aG i).UJ=false):st.answer=((List.range st.outer.length).map st.aG,0,0):=by
 unfold ah.answer;rw[hf];simp only;rw[if_neg Zo,if_neg];rw[Bool.not_eq_true,vg];intro x hx;obtain⟨i,hi,rfl⟩:=QM.1 hx;rw[h2 i (QO.1 hi)];simp
theorem xj {st:ah}(hf:st.f=none){i:Nat}(hi:i < st.outer.length)(h:(st.aG i).UJ=true):st.answer=([],183,0):=by
 unfold ah.answer;rw[hf];simp only;split
 ·rfl
 ·rw[if_pos];rw[vh];exact⟨_,QM.2 ⟨i,QO.2 hi,rfl⟩,h⟩
theorem Fm {st:ah}(hf:st.f=none)(h:255 < st.outer.length):st.answer=([],183,0):=by
 unfold ah.answer;rw[hf];simp only;rw[if_pos h]
structure Bnds (st:ah):Prop where
 b:Ii st
 w:∀l∈st.ai,PN.ws l<=4194304
theorem JM(st:ah)(xM:Ph st)(hBs:Bnds st)(hf:st.f=none)(U:List UC)(Vs:List az)(hR:fg st 0 U Vs)(us:Value)(bA:List Value)(bD:jA 1 us U.length (U.map fun u=>kM (some u.q)) bA)(T:List kC)(IT:∀(i:Nat) u,U[i]? =some u->tV T (Vs.map az.q) u.body (st.ai.getD i []))
 (wq:Nat) (fv gv av tv bv:Value) (aE:ByteArray) (ax:Int):
 ji Tryz.prog 50 [kF wq,.agg #[.string aE,av,tv,.int .i64 ax,bv]] [kA wq 0 [fv,gv,us],aj us (U.map fun u=>kM (some u.q)) bA,WK U Vs,T]
  (fun v Post=>∃uY B,(st.answer=((List.range st.outer.length).map st.aG,0,0)/\v=.agg #[.string aE,.int .i64 ax,uY]/\pN B uY ((List.range st.outer.length).map st.aG))/\Post=[B])
  (fun ch Post=>∃q,st.answer=([],183,0)/\ch=oW q/\Post=[jP q 183 0]):=by
 obtain⟨hB,hBw⟩:=hBs;have DU:=hR.ul;have U7:=hB.o;have hpt:z5 (aj us ((U.map UC.q).map fun b=>kM (some b)) bA) us (U.map UC.q):=iD (by rw[Q5]) (by rw[QD];exact bD);have Ui:((U.map UC.q).map fun b=>kM (some b))=U.map fun u=>kM (some u.q):=by rw[QD];rfl
 rw[Ui]at hpt;obtain⟨ua,uc,rfl⟩:=bD.form;obtain⟨ua',uc',Y8,hptr⟩:=hpt;rw[Value.slice.injEq]at Y8;obtain⟨rfl,_,rfl⟩:=Y8;refine ji.intro low50 (by simp[n50]) ?_;have aB:∀(k:Nat) w,U[k]? =some w->∃b o,ua=some ⟨b,o,none⟩/\kC.cell b (o+k) (kF w.q)∈aj (.slice ua U.length uc) (U.map fun u=>kM (some u.q)) bA:=fun k w hw=>by
  obtain⟨b,o,h1,h2⟩:=hptr k w.q (by rw[Vu,hw];rfl);exact⟨b,o,h1,h2⟩
 refine ae ?_;refine kX Zr (fun q3=>?_);simp only[Value.cells];refine kO (fun q4=>?_);refine ae ?_;refine kO (fun q5=>?_);refine jF ?_;refine VC.join (α:=Unit) (bi:=fun _=>[(0,kF wq),(4,kF q4),(5,kF q5)]) (Hf:=fun _=>[kA q5 0 [.string aE,.int .i64 ax,Nz],kA q4 0 [.string e0,.int .i64 0,Nz],kA wq 0 [fv,gv,.slice ua U.length uc],aj (.slice ua U.length uc) (U.map fun u=>kM (some u.q)) bA,WK U Vs,T]) (I:=fun _=>st.outer.length<=255) ?_ (fun _ sq=>?_)
 ·refine ae ?_;by_cases hc:255 < U.length
  ·rw[show decide ((255:Int) < (U.length:Int))=true from Zt Zo];refine ae ?_;refine kL (df 183 0) Zr ZP (fun v Post hv=>False.elim hv) (fun ch Post hz=>?_);obtain⟨q1,rfl,rfl⟩:=hz;exact⟨[jP q1 183 0],ZI,q1,Fm hf Zo,rfl,rfl⟩
  ·rw[show decide ((255:Int) < (U.length:Int))=false from Zf Zo];refine ae ?_;exact⟨(),by show st.outer.length<=255;omega,ZU,by unfold e0;exact bS⟩
 refine VC.join (α:=List UC×List az) (bi:=fun _=>[(0,kF wq),(4,kF q4),(5,kF q5)]) (Hf:=fun s=>[kA q5 0 [.string aE,.int .i64 ax,Nz],kA q4 0 [.string e0,.int .i64 0,Nz],kA wq 0 [fv,gv,.slice ua U.length uc],aj (.slice ua U.length uc) (U.map fun u=>kM (some u.q)) bA,WK s.1 s.2,T]) (I:=fun s=>fg st st.outer.length s.1 s.2/\s.1.map UC.q=U.map UC.q/\s.1.map UC.body=U.map UC.body/\s.2.map az.q=Vs.map az.q) ?_ ?_
 ·refine ae ?_;refine VC.loop (α:=Nat×List UC×List az) (bi:=fun s=>[(0,kF wq),(4,kF q4),(5,kF q5),(30,.slice ua U.length uc),(31,vi U.length),(32,vi s.1)]) (Hf:=fun s=>[kA q5 0 [.string aE,.int .i64 ax,Nz],kA q4 0 [.string e0,.int .i64 0,Nz],kA wq 0 [fv,gv,.slice ua U.length uc],aj (.slice ua U.length uc) (U.map fun u=>kM (some u.q)) bA,WK s.2.1 s.2.2,T]) (I:=fun s=>s.1<=U.length/\fg st s.1 s.2.1 s.2.2/\s.2.1.map UC.q=U.map UC.q/\s.2.1.map UC.body=U.map UC.body/\s.2.2.map az.q=Vs.map az.q) (μ:=fun s=>U.length - s.1) (0,U,Vs) ⟨Qv _,hR,rfl,rfl,rfl⟩ ZU ZI ?_
  rintro⟨k,Uk,Vk⟩ ⟨hk,hRk,E3,iN,I4⟩
  simp only at hk hRk E3 iN I4;dsimp only;refine ae ?_;by_cases aS:k < U.length;rotate_left
  ·rw[show decide ((k:Int) < (U.length:Int))=false from Zf Zo];have hke:k=st.outer.length:=by omega
   rw[hke]at hRk;refine ae ?_;exact⟨(Uk,Vk),⟨hRk,E3,iN,I4⟩,ZU,ZI⟩
  rw[show decide ((k:Int) < (U.length:Int))=true from Zt Zo];obtain⟨w,hw⟩:∃w,Uk[k]? =some w:=⟨_,Zg (by rw[hRk.ul];omega)⟩;obtain⟨w0,hw0⟩:∃w0,U[k]? =some w0:=⟨_,Zg aS⟩;have pK:w0.q=w.q:=by
   have:=DA E3 k;rw[hw,hw0]at this;exact(X3 this).symm
  obtain⟨ub,uo,hub,huc⟩:=aB k w0 hw0;subst hub;rw[pK]at huc;have hlay:=Ra st xM Uk Vk k hRk w hw ⟨hB.v,hB.o,hB.a⟩;refine ae ?_;refine kH hlay Zr ZP (fun v Post hv=>?_);obtain⟨U',V',⟨rfl,h1,h2,h3,h4⟩,rfl⟩:=hv;simp only[aJ];refine ae ?_;exact⟨(k+1,U',V'),⟨by simp only;omega,h1,h2.trans E3,h3.trans iN,h4.trans I4⟩,by simp only;omega,ZU,ZI⟩
 rintro⟨Uf,Vf⟩ ⟨T7,E3,iN,I4⟩
 simp only at T7 E3 iN I4;dsimp only;have hgetf:∀k,k < st.outer.length->∃w,Uf[k]? =some w/\∃b o,ua=some ⟨b,o,none⟩/\kC.cell b (o+k) (kF w.q)∈aj (.slice ua U.length uc) (U.map fun u=>kM (some u.q)) bA:=fun k hk=>by
  obtain⟨w,hw⟩:∃w,Uf[k]? =some w:=⟨_,Zg (by rw[T7.ul];omega)⟩;obtain⟨w0,hw0⟩:∃w0,U[k]? =some w0:=⟨_,Zg Zo⟩;have pK:w0.q=w.q:=by
   have:=DA E3 k;rw[hw,hw0]at this;exact(X3 this).symm
  obtain⟨b,o,h1,h2⟩:=aB k w0 hw0;exact⟨w,hw,b,o,h1,pK ▸ h2⟩
 have hbodf:∀(k:Nat) w,Uf[k]? =some w->tV T (Vf.map az.q) w.body (st.ai.getD k []):=fun k w hw=>by
  have h1:(U.map UC.body)[k]? =some w.body:=by rw[<- iN,Vu,hw];rfl
  rw[Vu]at h1;obtain⟨w0,hw0,he⟩:=X0.1 h1;rw[I4,<- he];exact IT k w0 hw0
 clear hR E3 iN I4 aB IT;refine jF ?_;refine VC.join (α:=Value×List (List Value)×List Value×List kC) (bi:=fun _=>[(4,kF q4),(5,kF q5)]) (Hf:=fun s=>[kA q5 0 [.string aE,.int .i64 ax,s.1],aj (s.1) s.2.1.flatten s.2.2.1,kA q4 0 [.string e0,.int .i64 0,Nz],aj (.slice ua U.length uc) (U.map fun u=>kM (some u.q)) bA,WK Uf Vf,T,s.2.2.2]) (I:=fun s=>st.answer=((List.range st.outer.length).map st.aG,0,0)/\jA 6 s.1 st.outer.length s.2.1.flatten s.2.2.1/\ie 6 (Nt (T++s.2.2.2)) ((List.range st.outer.length).map st.aG) s.2.1) ?_ ?_
 ·refine ae ?_;refine VC.loop (α:=Nat×Value×List (List Value)×List Value×List kC) (bi:=fun s=>[(4,kF q4),(5,kF q5),(42,.slice ua U.length uc),(43,vi U.length),(44,vi s.1)]) (Hf:=fun s=>[kA q5 0 [.string aE,.int .i64 ax,s.2.1],aj (s.2.1) s.2.2.1.flatten s.2.2.2.1,kA q4 0 [.string e0,.int .i64 0,Nz],aj (.slice ua U.length uc) (U.map fun u=>kM (some u.q)) bA,WK Uf Vf,T,s.2.2.2.2]) (I:=fun s=>s.1<=U.length/\(∀i,i < s.1->(st.aG i).UJ=false)/\jA 6 s.2.1 s.1 s.2.2.1.flatten s.2.2.2.1/\ie 6 (Nt (T++s.2.2.2.2)) ((List.range s.1).map st.aG) s.2.2.1) (μ:=fun s=>U.length - s.1) (0,Nz,[],[],[]) ⟨Qv _,(fun i h=>by omega),.nil,ie.nil⟩ ZU (ao.cut (M:=[kA q5 0 [.string aE,.int .i64 ax,Nz],kA q4 0 [.string e0,.int .i64 0,Nz],aj (.slice ua U.length uc) (U.map fun u=>kM (some u.q)) bA,WK Uf Vf,T]) ZI (ao.perm (by simp[aj]))) ?_
  rintro⟨j,sv,rows,sp,B⟩ ⟨hj,hnb,gT,dJ⟩
  simp only at hj hnb gT dJ;dsimp only;obtain⟨sa,sc,rfl⟩:=gT.form;refine ae ?_;by_cases aS:j < U.length;rotate_left
  ·rw[show decide ((j:Int) < (U.length:Int))=false from Zf Zo];have hje:j=st.outer.length:=by omega
   rw[hje]at gT dJ hnb|-;refine ae ?_;exact⟨(.slice sa st.outer.length sc,rows,sp,B),⟨Lk hf sq hnb,gT,dJ⟩,ZU,ZI⟩
  rw[show decide ((j:Int) < (U.length:Int))=true from Zt Zo];have xT:j < st.outer.length:=by omega
  obtain⟨u,hu,ub,uo,hub,huc⟩:=hgetf j xT;subst hub;obtain⟨ca,cc,Wd,Y8,hulc,huv,mL⟩:=T7.cells hu;have hba:=hB.a j;have hbc:=hB.dk j;have H7:=hB.loc j false;have hbv:=hB.loc j true;have oi:∀(k:Nat) x,u.row[k]? =some x->kC.cell u.q k x∈WK Uf Vf:=fun k x hx=>zy hu _ (QI _ (Zw _ (kJ.2 ⟨k,x,hx,by rw[Qu]⟩)))
  have k0:kC.cell u.q 0 (.int .i64 (st.args.getD j 0))∈WK Uf Vf:=oi 0 _ (by unfold UC.row;rw[Y8];rfl);have k1:kC.cell u.q 1 (.int .i64 (st.locals j false).length)∈WK Uf Vf:=oi 1 _ (by unfold UC.row;rw[hulc];rfl);have k2:kC.cell u.q 2 (.int .i64 (st.locals j true).length)∈WK Uf Vf:=oi 2 _ (by unfold UC.row;rw[huv];rfl);have k3:kC.cell u.q 3 (kM u.outer)∈WK Uf Vf:=oi 3 _ rfl;have k7:kC.cell u.q 7 (.slice ca (st.copied j).length cc)∈WK Uf Vf:=oi 7 _ (by unfold UC.row;rw[Wd];rfl);have k8:kC.cell u.q 8 u.body∈WK Uf Vf:=oi 8 _ rfl;have cE:(st.aG j).UJ=(decide (63 < (((st.args.getD j 0+(st.copied j).length+(st.locals j false).length+(if 0 < (st.locals j true).length then 1 else 0):Nat):Int)))||decide (63 < ((st.locals j true).length:Int))):=by
   unfold wY.UJ;rw[nB]
   congr 1
   unfold ah.frame;exact decide_eq_decide.2 (by split <;> omega)
  obtain⟨na,E0⟩:∃na,na=st.args.getD j 0:=⟨_,rfl⟩;obtain⟨nc,hnc⟩:∃nc,nc=(st.copied j).length:=⟨_,rfl⟩;obtain⟨nl,hnl⟩:∃nl,nl=(st.locals j false).length:=⟨_,rfl⟩;obtain⟨nv,hnv⟩:∃nv,nv=(st.locals j true).length:=⟨_,rfl⟩;rw[<- E0]at hba k0 cE;rw[<- hnc]at hbc k7 cE;rw[<- hnl]at H7 k1 cE;rw[<- hnv]at hbv k2 cE;have hW3:∀z∈kA u.q 0 [.int .i64 na,.int .i64 nl,.int .i64 nv],z∈WK Uf Vf:=fun z hz=>by
   obtain⟨jj,x,hx,rfl⟩:=kJ.1 hz;have hz3:jj=0∨jj=1∨jj=2:=by
    exact zEU
   rcases hz3 with rfl|rfl|rfl
   ·obtain rfl:(.int .i64 na:Value)=x:=by simpa using hx
    exact k0
   ·obtain rfl:(.int .i64 nl:Value)=x:=by simpa using hx
    exact k1
   ·obtain rfl:(.int .i64 nv:Value)=x:=by simpa using hx
    exact k2
  refine jF ?_;refine VC.join (α:=Unit) (bi:=fun _=>[(4,kF q4),(5,kF q5),(9,kF u.q),(42,.slice (some ⟨ub,uo,none⟩) U.length uc),(43,vi U.length),(44,vi j)]) (Hf:=fun _=>[kA q5 0 [.string aE,.int .i64 ax,.slice sa j sc],aj (.slice sa j sc) rows.flatten sp,kA q4 0 [.string e0,.int .i64 0,Nz],aj (.slice (some ⟨ub,uo,none⟩) U.length uc) (U.map fun u=>kM (some u.q)) bA,WK Uf Vf,T,B]) (I:=fun _=>(st.aG j).UJ=false) ?_ (fun _ hnbj=>?_)
  ·refine ae ?_;refine kS (us:=[.int .i64 na,.int .i64 nl,.int .i64 nv]) Zr (fun z hz=>by have h9:=hW3 z hz;simp[h9]) rfl ?_;refine ae ?_;refine kH (Dg na nl nv nc ⟨Zo,Zo,Zo,Zo⟩) Zr ZP (fun v Post hv=>?_);obtain⟨rfl,rfl⟩:=hv;simp only[QS];refine ae ?_;by_cases c1:(63:Int) < ((na+nc+nl+(if 0 < nv then 1 else 0):Nat):Int)
   ·rw[Zt c1];refine ae ?_;refine kL (df 183 0) Zr ZP (fun v Post hv=>False.elim hv) (fun ch Post hz=>?_);obtain⟨q1,rfl,rfl⟩:=hz;exact⟨[jP q1 183 0],ZI,q1,xj hf xT (by rw[cE,Zt c1];rfl),rfl,rfl⟩
   rw[Zf c1];refine ae ?_;by_cases c2:(63:Int) < (nv:Int)
   ·rw[Zt c2];refine ae ?_;refine kL (df 183 0) Zr ZP (fun v Post hv=>False.elim hv) (fun ch Post hz=>?_);obtain⟨q1,rfl,rfl⟩:=hz;exact⟨[jP q1 183 0],ZI,q1,xj hf xT (by rw[cE,Zt c2,Bool.or_true]),rfl,rfl⟩
   rw[Zf c2];refine ae ?_;exact⟨(),by rw[cE,Zf c1,Zf c2];rfl,ZU,ZI⟩
  refine VC.join (α:=Nat) (bi:=fun ov=>[(4,kF q4),(5,kF q5),(9,kF u.q),(10,kF ov),(42,.slice (some ⟨ub,uo,none⟩) U.length uc),(43,vi U.length),(44,vi j)]) (Hf:=fun ov=>[kA ov 0 [.int .i64 (-1),.int .i64 na,Nz,.int .i64 nl,.int .i64 nv,Nz],kA q5 0 [.string aE,.int .i64 ax,.slice sa j sc],aj (.slice sa j sc) rows.flatten sp,kA q4 0 [.string e0,.int .i64 0,Nz],aj (.slice (some ⟨ub,uo,none⟩) U.length uc) (U.map fun u=>kM (some u.q)) bA,WK Uf Vf,T,B]) (I:=fun _=>True) ?_ (fun ov _=>?_)
  ·refine ae ?_;refine kO (fun ov=>?_);refine ae ?_;exact⟨ov,trivial,ZU,ZI⟩
  refine VC.join (α:=Unit) (bi:=fun _=>[(4,kF q4),(5,kF q5),(9,kF u.q),(10,kF ov),(42,.slice (some ⟨ub,uo,none⟩) U.length uc),(43,vi U.length),(44,vi j)]) (Hf:=fun _=>[kA ov 0 [.int .i64 (st.outer.getD j (-1)),.int .i64 na,Nz,.int .i64 nl,.int .i64 nv,Nz],kA q5 0 [.string aE,.int .i64 ax,.slice sa j sc],aj (.slice sa j sc) rows.flatten sp,kA q4 0 [.string e0,.int .i64 0,Nz],aj (.slice (some ⟨ub,uo,none⟩) U.length uc) (U.map fun u=>kM (some u.q)) bA,WK Uf Vf,T,B]) (I:=fun _=>True) ?_ (fun _ _=>?_)
  ·have NI:=T7.ou j u hu;have mP:=xM.wf.ef j;by_cases hn:st.outer.getD j (-1) < 0
   ·rw[if_pos hn]at NI;rw[NI]at k3;have AJ:st.outer.getD j (-1)=-1:=by
     have e:st.outer[j]? =some st.outer[j]:=Zg xT;have h1:=xM.wf.low j _ e;have h2:st.outer.getD j (-1)=st.outer[j]:=by rw[Vh,e];rfl
     omega
    rw[AJ];have k3:kC.cell u.q 3 (.pointer none)∈WK Uf Vf:=k3;exact Yq
   ·rw[if_neg hn]at NI;obtain⟨w,hw⟩:∃w,Uf[(st.outer.getD j (-1)).toNat]? =some w:=⟨_,Zg (by rw[T7.ul];omega)⟩;rw[hw]at NI;rw[NI]at k3;have k3:kC.cell u.q 3 (kF w.q)∈WK Uf Vf:=k3;have hwn:=(T7.ar _ w hw).2;have k4:kC.cell w.q 4 (.int .i64 (st.outer.getD j (-1)))∈WK Uf Vf:=zy hw _ (QI _ (Zw _ (kJ.2 ⟨4,_,by unfold UC.row;rw[hwn,show(((st.outer.getD j (-1)).toNat:Nat):Int)=st.outer.getD j (-1) by omega];rfl,rfl⟩)));exact Yq
  refine VC.join (α:=Value×List kC) (bi:=fun _=>[(4,kF q4),(5,kF q5),(9,kF u.q),(10,kF ov),(42,.slice (some ⟨ub,uo,none⟩) U.length uc),(43,vi U.length),(44,vi j)]) (Hf:=fun s=>[kA ov 0 [.int .i64 (st.outer.getD j (-1)),.int .i64 na,s.1,.int .i64 nl,.int .i64 nv,Nz],s.2,kA q5 0 [.string aE,.int .i64 ax,.slice sa j sc],aj (.slice sa j sc) rows.flatten sp,kA q4 0 [.string e0,.int .i64 0,Nz],aj (.slice (some ⟨ub,uo,none⟩) U.length uc) (U.map fun u=>kM (some u.q)) bA,WK Uf Vf,T,B]) (I:=fun s=>jy s.2 s.1 (st.aG j).copied) ?_ ?_
  ·refine ae ?_;refine VC.loop (α:=Nat×Value×List Value) (bi:=fun s=>[(4,kF q4),(5,kF q5),(9,kF u.q),(10,kF ov),(42,.slice (some ⟨ub,uo,none⟩) U.length uc),(43,vi U.length),(44,vi j),(100,.slice ca nc cc),(101,vi nc),(102,vi s.1)]) (Hf:=fun s=>[kA ov 0 [.int .i64 (st.outer.getD j (-1)),.int .i64 na,s.2.1,.int .i64 nl,.int .i64 nv,Nz],aj s.2.1 ((((st.aG j).copied).take s.1).flatMap jN) s.2.2,kA q5 0 [.string aE,.int .i64 ax,.slice sa j sc],aj (.slice sa j sc) rows.flatten sp,kA q4 0 [.string e0,.int .i64 0,Nz],aj (.slice (some ⟨ub,uo,none⟩) U.length uc) (U.map fun u=>kM (some u.q)) bA,WK Uf Vf,T,B]) (I:=fun s=>s.1<=nc/\jA 4 s.2.1 s.1 ((((st.aG j).copied).take s.1).flatMap jN) s.2.2) (μ:=fun s=>nc - s.1) (0,Nz,[]) ⟨Qv _,.nil⟩ ZU (ao.cut (M:=[kA ov 0 [.int .i64 (st.outer.getD j (-1)),.int .i64 na,Nz,.int .i64 nl,.int .i64 nv,Nz],kA q5 0 [.string aE,.int .i64 ax,.slice sa j sc],aj (.slice sa j sc) rows.flatten sp,kA q4 0 [.string e0,.int .i64 0,Nz],aj (.slice (some ⟨ub,uo,none⟩) U.length uc) (U.map fun u=>kM (some u.q)) bA,WK Uf Vf,T,B]) ZI (ao.perm (by simp[aj]))) ?_;have hcpl:(st.aG j).copied.length=nc:=by rw[hnc];exact Q5 _
   rintro⟨k,rv,rsp⟩ ⟨hk,Ic⟩
   simp only at hk Ic;dsimp only;obtain⟨ra,rc,rfl⟩:=Ic.form;refine ae ?_;by_cases KB:k < nc;rotate_left
   ·rw[show decide ((k:Int) < (nc:Int))=false from Zf Zo];have hke:nc=k:=by omega
    subst hke;have cH:(st.aG j).copied.take nc=(st.aG j).copied:=Qg Zo;rw[cH]at Ic|-;refine ae ?_;refine⟨(.slice ra nc rc,aj (.slice ra nc rc) ((st.aG j).copied.flatMap jN) rsp),?_,ZU,ZI⟩;have:=C6 (B:=[]) (rs:=(st.aG j).copied) (by rw[hcpl];exact Ic);simpa only[vm]using this
   rw[show decide ((k:Int) < (nc:Int))=true from Zt Zo];obtain⟨t,ht⟩:∃t,(st.copied j)[k]? =some t:=⟨_,Zg Zo⟩;have Wx:=Zv ht;obtain⟨o0,o1,o2,o3,o4,o5⟩:=xM.nH xT Wx;have mP:=xM.wf.ef j;obtain⟨w,hw⟩:∃w,Uf[(st.outer.getD j (-1)).toNat]? =some w:=⟨_,Zg (by rw[T7.ul];omega)⟩;have NI:=T7.ou j u hu;rw[if_neg Zo,hw]at NI;rw[NI]at k3;have k3:kC.cell u.q 3 (kF w.q)∈WK Uf Vf:=k3;have mR:=yW st xM hB Uf Vf T7 _ w hw t o2 (by
    by_cases e:t.1=(st.outer.getD j (-1)).toNat
    ·exact .inl ⟨e,o4,by rw[<- e];exact o5,fun c=>by rw[<- e];exact xM.HP Wx c⟩
    ·rcases o1 with c|c
     ·exact absurd c e
     ·exact .inr ⟨e,c⟩)
   obtain⟨cb,co,rfl,IU⟩:=mL k (qU Uf t.1,t.2) (by unfold zW;rw[Vu,ht];rfl);have hcm:∀z∈kA cb (co+k*2) [kF (qU Uf t.1),.int .i64 t.2],z∈WK Uf Vf:=fun z hz=>zy hu _ (IU z hz)
   have hrk:(st.aG j).copied[k]? =some ⟨5,st.place (st.outer.getD j (-1)).toNat t,0,e0⟩:=by
    show((st.copied j).map _)[k]? =_;rw[Vu,ht];rfl
   obtain⟨pl,oC⟩:∃pl,pl=st.place (st.outer.getD j (-1)).toNat t:=⟨_,rfl⟩;rw[<- oC]at mR hrk;have cH:(st.aG j).copied.take (k+1)=(st.aG j).copied.take k++[⟨5,pl,0,e0⟩]:=by rw[Qe,hrk];rfl
   generalize hqt:qU Uf t.1=qt at mR hcm;unfold gE at mR;refine ae ?_;refine kS (us:=[kF qt,.int .i64 t.2]) Zr (fun z hz=>by have h9:=hcm z hz;simp[h9]) rfl ?_;refine ae ?_;refine kO (fun fR=>?_);refine ae ?_;refine VC.draws ⟨?_,?_,trivial⟩
   all_goals
    refine ae ?_;refine kH mR Zr ZP (fun v Post hv=>?_);obtain⟨rfl,rfl⟩:=hv;simp only[aJ];refine ae ?_;refine jB (out:=[.int .u8 5,.int .i64 pl,.int .i64 0,.string e0]) Zr Zr (fun rr=>?_);refine ae ?_;refine jH (k:=k) (m:=1) (xs:=((st.aG j).copied.take k).flatMap jN) (sp:=rsp) (ys:=[.int .u8 5,.int .i64 pl,.int .i64 0,.string e0]) Zr Zr Ic ZK Zr ?_ rfl Zr Zr Zd Zo (fun eW bE aT=>?_)
    ·exact ET
    have gS:((st.aG j).copied.take k).flatMap jN++([.int .u8 5,.int .i64 pl,.int .i64 0,.string e0]:List Value)=((st.aG j).copied.take (k+1)).flatMap jN:=by
     rw[cH,VV,Vb];rfl
    rw[gS]at aT|-;obtain⟨nU,nV,rfl⟩:=aT.form;refine ae ?_;exact⟨(k+1,.slice nU (k+1) nV,bE),⟨by simp only;omega,aT⟩,by simp only;omega,ZU,ZI⟩
  rintro⟨cv,Bc⟩ Wc
  simp only at Wc;dsimp only;obtain⟨IA,IB,hcve⟩:∃IA IB,cv=.slice IA (st.aG j).copied.length IB:=let⟨e1,e2,e3,_⟩:=Wc;⟨e1,e2,e3⟩;subst hcve;obtain⟨Jy,hncp⟩:∃Jy,Jy=(st.aG j).copied.length:=⟨_,rfl⟩;rw[<- hncp]at Wc|-;have hbj:=hbodf j u hu;obtain⟨l,hl⟩:∃l,l=st.ai.getD j []:=⟨_,rfl⟩;rw[<- hl]at hbj;have O3:st.ai[j]? =some l:=by
   rw[hl,Vh,Zg (by rw[xM.wf.bl];exact xT)];rfl
  have hlraw:=xM.bd j l O3;have KD:=hBw l (Zv O3);have KC:=PN.Rc l;have hub:(st.aG j).body=l.map (gN st j):=by
   show fw st j (st.ai.getD j [])=_;rw[<- hl,sh]
  obtain⟨ba,bc,bk,bo,bus,hbv2,hba2,hbm,hbr⟩:=hbj;rw[hbv2]at k8;refine VC.join (α:=Value×List kC) (bi:=fun _=>[(4,kF q4),(5,kF q5),(9,kF u.q),(10,kF ov),(42,.slice (some ⟨ub,uo,none⟩) U.length uc),(43,vi U.length),(44,vi j)]) (Hf:=fun s=>[kA ov 0 [.int .i64 (st.outer.getD j (-1)),.int .i64 na,.slice IA Jy IB,.int .i64 nl,.int .i64 nv,s.1],Bc,s.2,kA q5 0 [.string aE,.int .i64 ax,.slice sa j sc],aj (.slice sa j sc) rows.flatten sp,kA q4 0 [.string e0,.int .i64 0,Nz],aj (.slice (some ⟨ub,uo,none⟩) U.length uc) (U.map fun u=>kM (some u.q)) bA,WK Uf Vf,T,B]) (I:=fun s=>AN (T++s.2) s.1 (st.aG j).body) ?_ ?_
  ·refine ae ?_;refine VC.loop (α:=Nat×Value×List (List Value)×List Value×List kC) (bi:=fun s=>[(4,kF q4),(5,kF q5),(9,kF u.q),(10,kF ov),(42,.slice (some ⟨ub,uo,none⟩) U.length uc),(43,vi U.length),(44,vi j),(122,.slice ba l.length bc),(123,vi l.length),(124,vi s.1)]) (Hf:=fun s=>[kA ov 0 [.int .i64 (st.outer.getD j (-1)),.int .i64 na,.slice IA Jy IB,.int .i64 nl,.int .i64 nv,s.2.1],aj s.2.1 s.2.2.1.flatten s.2.2.2.1,Bc,s.2.2.2.2,kA q5 0 [.string aE,.int .i64 ax,.slice sa j sc],aj (.slice sa j sc) rows.flatten sp,kA q4 0 [.string e0,.int .i64 0,Nz],aj (.slice (some ⟨ub,uo,none⟩) U.length uc) (U.map fun u=>kM (some u.q)) bA,WK Uf Vf,T,B]) (I:=fun s=>s.1<=l.length/\jA 11 s.2.1 s.1 s.2.2.1.flatten s.2.2.2.1/\ff (T++s.2.2.2.2) ((l.take s.1).map (gN st j)) s.2.2.1) (μ:=fun s=>l.length - s.1) (0,Nz,[],[],[]) ⟨Qv _,.nil,ff.nil _⟩ ZU (ao.cut (M:=[kA ov 0 [.int .i64 (st.outer.getD j (-1)),.int .i64 na,.slice IA Jy IB,.int .i64 nl,.int .i64 nv,Nz],Bc,kA q5 0 [.string aE,.int .i64 ax,.slice sa j sc],aj (.slice sa j sc) rows.flatten sp,kA q4 0 [.string e0,.int .i64 0,Nz],aj (.slice (some ⟨ub,uo,none⟩) U.length uc) (U.map fun u=>kM (some u.q)) bA,WK Uf Vf,T,B]) ZI (ao.perm (by simp[aj]))) ?_
   rintro⟨k,pv,tJ,psp,Bb⟩ ⟨hk,hpv,DO⟩
   simp only at hk hpv DO;dsimp only;obtain⟨pa,pc,rfl⟩:=hpv.form;refine ae ?_;by_cases KB:k < l.length;rotate_left
   ·rw[show decide ((k:Int) < (l.length:Int))=false from Zf Zo];have hke:k=l.length:=by omega
    subst hke;rw[List.take_length,<- hub]at DO;have hlk:(st.aG j).body.length=l.length:=by rw[hub,Q5]
    have NJ:=KV (l:=(st.aG j).body) (by rw[hlk];exact hpv) DO;refine ae ?_;refine⟨(.slice pa l.length pc,aj (.slice pa l.length pc) tJ.flatten psp++Bb),?_,ZU,ao.cut (M:=[kA ov 0 [.int .i64 (st.outer.getD j (-1)),.int .i64 na,.slice IA Jy IB,.int .i64 nl,.int .i64 nv,.slice pa l.length pc],aj (.slice pa l.length pc) tJ.flatten psp,Bc,Bb,kA q5 0 [.string aE,.int .i64 ax,.slice sa j sc],aj (.slice sa j sc) rows.flatten sp,kA q4 0 [.string e0,.int .i64 0,Nz],aj (.slice (some ⟨ub,uo,none⟩) U.length uc) (U.map fun u=>kM (some u.q)) bA,WK Uf Vf,T,B]) ZI (ao.perm ?_)⟩
    ·refine NJ.more fun y hy=>?_
     simp only[QF]at hy|-;rcases hy with hy|hy|hy
     ·exact .inr (.inl hy)
     ·exact .inl hy
     ·exact .inr (.inr hy)
    ·simp only[Vd,Ve,vm];refine vX _ ?_;generalize aj (.slice pa l.length pc) tJ.flatten psp=P;rw[vj];refine(QX P Bc _).trans ?_;exact vZ _
   rw[show decide ((k:Int) < (l.length:Int))=true from Zt Zo];obtain rfl:=hba2 Zo;obtain⟨x,hxj⟩:∃x,l[k]? =some x:=⟨_,Zg KB⟩;have hxm:=Zv hxj;have NG:=hbm k KB;have Pt:=hbr k x hxj;have aC:=II st xM hB Uf Vf T7 j u hu T _ x (Qn _) (by have:=PN.K9 hxm;omega) _ Pt (qH hlraw x hxm);generalize bus k=uj at*;obtain⟨f1,f2,f3,f4,f5,f6,f7,r1,r2,r3,p1,p2,p3,k1,k2,k3,rfl⟩:=lr Pt;have cH:(l.take (k+1)).map (gN st j)=(l.take k).map (gN st j)++[gN st j x]:=by
    rw[Qe,hxj,QA];rfl
   refine ae ?_;refine kS Zr (fun z hz=>by have h9:=NG z hz;simp[h9]) rfl ?_;refine ae ?_;refine kO (fun q14=>?_);refine ae ?_;refine VC.draws ⟨?_,?_,trivial⟩
   all_goals
    refine ae ?_;refine kH aC Zr ZP (fun v Post hv=>?_);obtain⟨ws',B3,⟨rfl,hp⟩,rfl⟩:=hv;simp only[aJ];obtain⟨pn,Cv⟩:∃pn,pn=gN st j x:=⟨_,rfl⟩;rw[<- Cv]at hp cH;have tz:=hp;obtain⟨g1,g2,g3,g4,g5,g7,s1,s3,t1,t3,_,_,_,rfl,_⟩:=Sp tz;refine ae ?_;refine jB (out:=(rP pn.kind pn.name g1 g2 g3 g4 g5 pn.lit.items.length g7 s1 pn.refs.length s3 pn.unit pn.super t1 pn.kids.length t3)) Zr Zr (fun rr=>?_);refine ae ?_;refine jH (k:=k) (m:=1) (xs:=tJ.flatten) (sp:=psp) (ys:=(rP pn.kind pn.name g1 g2 g3 g4 g5 pn.lit.items.length g7 s1 pn.refs.length s3 pn.unit pn.super t1 pn.kids.length t3)) Zr Zr hpv ZK Zr ?_ rfl Zr Zr Zd Zo (fun eW bE aT=>?_)
    ·exact ET
    have gS:tJ.flatten++((rP pn.kind pn.name g1 g2 g3 g4 g5 pn.lit.items.length g7 s1 pn.refs.length s3 pn.unit pn.super t1 pn.kids.length t3):List Value)=(tJ++[((rP pn.kind pn.name g1 g2 g3 g4 g5 pn.lit.items.length g7 s1 pn.refs.length s3 pn.unit pn.super t1 pn.kids.length t3):List Value)]).flatten:=by simp
    rw[gS]at aT|-;obtain⟨nU,nV,rfl⟩:=aT.form;refine ae ?_;refine⟨(k+1,.slice nU (k+1) nV,tJ++[(rP pn.kind pn.name g1 g2 g3 g4 g5 pn.lit.items.length g7 s1 pn.refs.length s3 pn.unit pn.super t1 pn.kids.length t3)],bE,Bb++B3),⟨by simp only;omega,aT,?_⟩,by simp only;omega,ZU,?_⟩
    ·show ff (T++(Bb++B3)) ((l.take (k+1)).map (gN st j)) _;rw[cH];refine(DO.more fun y hy=>?_).snoc (hp.more fun y hy=>?_)
     ·simp only[QF]at hy|-;exact hy.elim .inl fun h=>.inr (.inl h)
     ·simp only[QF]at hy|-;exact hy.elim .inl fun h=>.inr (.inr h)
    ·simp only;refine ao.cut (M:=[kA ov 0 [.int .i64 (st.outer.getD j (-1)),.int .i64 na,.slice IA Jy IB,.int .i64 nl,.int .i64 nv,.slice nU (k+1) nV],aj (.slice nU (k+1) nV) (tJ++[((rP pn.kind pn.name g1 g2 g3 g4 g5 pn.lit.items.length g7 s1 pn.refs.length s3 pn.unit pn.super t1 pn.kids.length t3):List Value)]).flatten bE,Bc,Bb,B3,kA q5 0 [.string aE,.int .i64 ax,.slice sa j sc],aj (.slice sa j sc) rows.flatten sp,kA q4 0 [.string e0,.int .i64 0,Nz],aj (.slice (some ⟨ub,uo,none⟩) U.length uc) (U.map fun u=>kM (some u.q)) bA,WK Uf Vf,T,B]) ZI (ao.perm Zs)
  rintro⟨bv2,Bb⟩ xP
  simp only at xP;dsimp only;obtain⟨xa,xc,hbv3⟩:∃xa xc,bv2=.slice xa (st.aG j).body.length xc:=let⟨e1,e2,_,_,_,e3,_⟩:=xP;⟨e1,e2,e3⟩;subst hbv3;obtain⟨nb,hnb2⟩:∃nb,nb=(st.aG j).body.length:=⟨_,rfl⟩;rw[<- hnb2]at xP|-;have hurow:Nt (T++(B++(Bc++Bb))) (st.aG j) [.int .i64 (st.outer.getD j (-1)),.int .i64 na,.slice IA Jy IB,.int .i64 nl,.int .i64 nv,.slice xa nb xc]:=by
   refine⟨.slice IA Jy IB,.slice xa nb xc,?_,Wc.more fun y hy=>?_,xP.more fun y hy=>?_⟩
   ·rw[E0,hnl,hnv];rfl
   ·simp only[QF];exact .inr (.inr (.inl hy))
   ·simp only[QF]at hy|-;exact hy.elim .inl fun h=>.inr (.inr (.inr h))
  have hrg:(List.range (j+1)).map st.aG=(List.range j).map st.aG++[st.aG j]:=by rw[List.range_succ,QA];rfl
  refine ae ?_;refine jB (out:=[.int .i64 (st.outer.getD j (-1)),.int .i64 na,.slice IA Jy IB,.int .i64 nl,.int .i64 nv,.slice xa nb xc]) Zr Zr (fun rr=>?_);refine ae ?_;refine jH (k:=j) (m:=1) (xs:=rows.flatten) (sp:=sp) (ys:=[.int .i64 (st.outer.getD j (-1)),.int .i64 na,.slice IA Jy IB,.int .i64 nl,.int .i64 nv,.slice xa nb xc]) Zr Zr gT ZK Zr ?_ rfl Zr Zr Zd Zo (fun eW bE aT=>?_)
  ·exact ET
  have gS:rows.flatten++([.int .i64 (st.outer.getD j (-1)),.int .i64 na,.slice IA Jy IB,.int .i64 nl,.int .i64 nv,.slice xa nb xc]:List Value)=(rows++[([.int .i64 (st.outer.getD j (-1)),.int .i64 na,.slice IA Jy IB,.int .i64 nl,.int .i64 nv,.slice xa nb xc]:List Value)]).flatten:=by simp
  rw[gS]at aT|-;obtain⟨nU,nV,rfl⟩:=aT.form;refine ae ?_;refine⟨(j+1,.slice nU (j+1) nV,rows++[[.int .i64 (st.outer.getD j (-1)),.int .i64 na,.slice IA Jy IB,.int .i64 nl,.int .i64 nv,.slice xa nb xc]],bE,B++(Bc++Bb)),⟨by simp only;omega,?_,aT,?_⟩,by simp only;omega,ZU,?_⟩
  ·intro i hi;by_cases e:i=j
   ·subst e;exact hnbj
   ·exact hnb i (by simp only at hi;omega)
  ·show ie 6 (Nt (T++(B++(Bc++Bb)))) ((List.range (j+1)).map st.aG) _;rw[hrg];refine(dJ.imp fun x r hx=>hx.more fun y hy=>?_).snoc rfl hurow;simp only[QF]at hy|-;exact hy.elim .inl fun h=>.inr (.inl h)
  ·simp only;refine ao.cut (M:=[kA q5 0 [.string aE,.int .i64 ax,.slice nU (j+1) nV],aj (.slice nU (j+1) nV) (rows++[([.int .i64 (st.outer.getD j (-1)),.int .i64 na,.slice IA Jy IB,.int .i64 nl,.int .i64 nv,.slice xa nb xc]:List Value)]).flatten bE,kA q4 0 [.string e0,.int .i64 0,Nz],aj (.slice (some ⟨ub,uo,none⟩) U.length uc) (U.map fun u=>kM (some u.q)) bA,WK Uf Vf,T,B,Bc,Bb]) ZI (ao.perm Zs)
 rintro⟨uY,rows,sp,B⟩ ⟨xO,husl,Pu⟩
 simp only at xO husl Pu;dsimp only;have NE:((List.range st.outer.length).map st.aG).length=st.outer.length:=by simp
 have Wz:pN (aj uY rows.flatten sp++(T++B)) uY ((List.range st.outer.length).map st.aG):=xf.imp (X7 (B:=T++B) (by rw[NE];exact husl) Pu) (fun _ h=>h) fun x r hx=>hx.more fun y hy=>QG _ hy
 obtain⟨na,nc,rfl⟩:=husl.form;refine ae ?_;refine jL ⟨.inr rfl,_,[aj (.slice na st.outer.length nc) rows.flatten sp++(T++B)],.aN (us:=[.string aE,.int .i64 ax,.slice na st.outer.length nc]) Zr Zr (fun y hy=>by simp only[Vd,QF];repeat (first|exact Or.inl hy|refine Or.inr ?_)) .nil,ao.cut (M:=[aj (.slice na st.outer.length nc) rows.flatten sp,T,B]) ZI (ao.perm Zs),⟨_,_,⟨xO,rfl,Wz⟩,rfl⟩⟩
set_option maxHeartbeats 3200000
def N4(qs:List Nat)(unit gq:Nat)(arg own:Bool)(fv:Value)(len:Nat)(J:List Nat->List kC->Prop):Prop:=
 ∀(st:ah) U Vs ps A (k:Nat),cK st U Vs->U.map UC.q=qs->unit < st.outer.length->st.args.getD unit 0=gq->st.vars.length < 1073741824->J ps A->ps.length=k->k < len->
  dE Tryz.prog fv [vi k] [A,WK U Vs] (fun r Post=>∃U' y A',(r=kF y.q/\(∀nm,cK (st.bf ⟨nm,unit,arg,if arg&&own then k else -1⟩) U' (Vs++[y]))/\U'.map UC.q=U.map UC.q/\U'.map UC.body=U.map UC.body/\J (ps++[y.q]) A')/\Post=[A',WK U' (Vs++[y])])
theorem r9(unit:Nat)(arg own:Bool)(p:Int)(l:List ByteArray)(i:Nat)(st:ah)(env:List Nat){e:Nat×Int}(h:st.f=some e):(kP unit arg own p l i st env).1.f=some e:=(zf unit arg own p l i st env).f e h
theorem Lu(unit:Nat)(arg own:Bool)(p:Int)(nm:ByteArray)(r:List ByteArray)(i:Nat)(st:ah)(env:List Nat)(h:jw st.vars env nm=none):
 kP unit arg own p (nm::r) i st env=kP unit arg own p r (i+1) (st.bf ⟨nm,unit,arg,if arg&&own then i else -1⟩) (env++[st.vars.length]):=by
 rw[kP,h];rfl
theorem Ow(unit:Nat)(arg own:Bool)(p:Int)(nm:ByteArray)(r:List ByteArray)(i:Nat)(st:ah)(env:List Nat){v:Nat}(h:jw st.vars env nm=some v)(hf:st.f=none):
 (kP unit arg own p (nm::r) i st env).1.f=some (180,p):=by
 rw[kP,h];refine r9 _ _ _ _ _ _ _ _ ?_;simp only[Option.isSome_some,if_true,ah.wrong,hf,Option.isNone_none]
theorem ob(S:List kC)(unit gq:Nat)(arg own:Bool)(p:Int)(l:List ByteArray)(lv:Value)(hl:dG S lv l)(fv:Value)(J:List Nat->List kC->Prop)
 (st:ah) (U:List UC) (Vs:List az) (hmk:N4 (U.map UC.q) unit gq arg own fv l.length J) (hR:cK st U Vs) (hun:unit < st.outer.length) (E0:st.args.getD unit 0=gq) (hf:st.f=none) (hb:st.vars.length+l.length < 1073741824) (A:List kC) (hJ:J [] A) (env:List Nat) (b:Nat) (es:Array MapEntry) (c:Nat) (hs:zH st Vs env es c):
 ji Tryz.prog 108 [.map (some b),.int .i64 p,lv,fv] [A,WK U Vs,[.obj b (.map es c)],S]
  (fun v Post=>∃b' cB c' U' og A',((kP unit arg own p l 0 st env).1.f=none/\v=.map (some b')/\cK (kP unit arg own p l 0 st env).1 U' og/\U'.map UC.q=U.map UC.q/\U'.map UC.body=U.map UC.body/\Vs.map az.q <+:og.map az.q/\zH (kP unit arg own p l 0 st env).1 og (kP unit arg own p l 0 st env).2 cB c'/\
    J ((og.map az.q).drop Vs.length) A')/\Post=[A',WK U' og,[.obj b' (.map cB c')],[.obj b (.map es c)],S])
  (fun ch Post=>(kP unit arg own p l 0 st env).1.f=some (180,p)/\∃q,ch=oW q/\Post=[S,jP q 180 p]):=by
 obtain⟨la,lc,rfl,Wj,fQ⟩:=hl;refine ji.intro low108 (by simp[n108]) ?_;refine ae ?_;refine kH (Ix b es c) Zr ZP (fun v Post hv=>?_);obtain⟨b',rfl,rfl⟩:=hv;simp only[aJ];refine ae ?_;refine VC.loop (α:=Nat×ah×List Nat×List UC×List az×List kC×Array MapEntry×Nat) (bi:=fun s=>[(1,.int .i64 p),(3,fv),(9,.map (some b')),(14,.slice la l.length lc),(15,vi l.length),(16,vi s.1)])
  (Hf:=fun s=>[s.2.2.2.2.2.1,WK s.2.2.2.1 s.2.2.2.2.1,[.obj b' (.map s.2.2.2.2.2.2.1 s.2.2.2.2.2.2.2)],[.obj b (.map es c)],S])
  (I:=fun s=>s.1<=l.length/\kP unit arg own p l 0 st env=kP unit arg own p (l.drop s.1) s.1 s.2.1 s.2.2.1/\cK s.2.1 s.2.2.2.1 s.2.2.2.2.1/\s.2.1.f=none/\s.2.1.outer=st.outer/\s.2.1.args=st.args/\s.2.1.vars.length=st.vars.length+s.1/\s.2.2.2.1.map UC.q=U.map UC.q/\s.2.2.2.1.map UC.body=U.map UC.body/\Vs.map az.q <+:s.2.2.2.2.1.map az.q/\
    zH s.2.1 s.2.2.2.2.1 s.2.2.1 s.2.2.2.2.2.2.1 s.2.2.2.2.2.2.2/\J ((s.2.2.2.2.1.map az.q).drop Vs.length) s.2.2.2.2.2.1) (μ:=fun s=>l.length - s.1) (0,st,env,U,Vs,A,es,c)
  ⟨Qv _,rfl,hR,hf,rfl,rfl,rfl,rfl,rfl,Qc _,hs,by simpa[vx]using hJ⟩ ZU ZI ?_
 have hvl0:=hR.vl;clear hR hf hs hJ
 rintro⟨j,bN,AT,U1,Vs1,A1,es1,c1⟩ ⟨hj,hd,hR,hf,ho,ha,DV,hq,hqb,DN,hs,hJ⟩
 simp only at hj hd hR hf ho ha DV hq hqb DN hs hJ;dsimp only;refine ae ?_;by_cases aS:j < l.length;rotate_left
 ·rw[show decide ((j:Int) < (l.length:Int))=false from Zf Zo];have xT:j=l.length:=by omega
  rw[xT,List.drop_length,kP]at hd;refine ae ?_;refine jL (kG (Post:=[A1,WK U1 Vs1,[.obj b' (.map es1 c1)],[.obj b (.map es c)],S]) (.inr rfl) (.tmp (v:=.map (some b')) Zr .nil) ⟨b',es1,c1,U1,Vs1,A1,⟨?_,rfl,?_,hq,hqb,DN,?_,hJ⟩,rfl⟩ ZI)
  ·rw[hd];exact hf
  ·rw[hd];exact hR
  ·rw[hd];exact hs
 rw[show decide ((j:Int) < (l.length:Int))=true from Zt Zo];obtain⟨nm,L8⟩:∃nm,l[j]? =some nm:=⟨_,Zg aS⟩;obtain⟨lb,lo,rfl,hm,YZ⟩:=fQ j nm L8;have O5:l.drop j=nm::l.drop (j+1):=by
  rw[vw aS]
  congr 1
  rw[Zg aS]at L8;exact X3 L8
 rw[O5]at hd;obtain⟨hg1,hg2⟩:=hs.find nm;refine ae ?_;refine zB (E:=yK) (V:=fun b=>kM (some b)) (k:=nm) Zr Zr rfl (.there (.there .here)) hs.is ?_;rw[hg1];cases IY:jw bN.vars AT nm with
 |some v=>
  have gQ:=Ow unit arg own p nm (l.drop (j+1)) j bN AT IY hf;rw[<- hd]at gQ;simp only[ng,X2,kM,if_false,vL];refine ae ?_;refine kL (df 180 p) Zr ZP (fun v Post hv=>hv.elim) (fun ch Post hz=>?_);obtain⟨q,rfl,rfl⟩:=hz;exact⟨[S,jP q 180 p],ZI,gQ,q,rfl,rfl⟩
 |none=>
  have l7:=Lu unit arg own p nm (l.drop (j+1)) j bN AT IY;rw[l7]at hd;simp only[ng,X1,if_false,vL];refine ae ?_;refine dX Zr (hmk bN U1 Vs1 _ A1 j hR hq (by rw[ho];exact hun) (by rw[ha];exact E0) Zo hJ (by rw[Q0,Q5,hR.vl,DV,hvl0];omega) aS) Zr ZP (fun v Post hv=>?_);obtain⟨U2,y,A2,⟨rfl,Kv,iN,hqb2,hJ2⟩,rfl⟩:=hv;simp only[aJ];refine ae ?_;refine zA (E:=yK) (V:=fun b=>kM (some b)) (k:=nm) (v:=y.q) Zr Zr Zr rfl ZK hs.is (fun EU c2 xQ=>?_);refine ae ?_;have oC:Vs.length<=Vs1.length:=by
   obtain⟨r,hr⟩:=DN;have:=congrArg List.length hr;simp only[Vy,Q5]at this;omega
  refine⟨(j+1,bN.bf ⟨nm,unit,arg,if arg&&own then j else -1⟩,AT++[bN.vars.length],U2,Vs1++[y],A2,EU,c2),⟨by simp only;omega,hd,Kv nm,hf,ho,ha,?_,iN.trans hq,hqb2.trans hqb,?_,hs.add hR.vl IY xQ,?_⟩,by simp only;omega,ZU,ZI⟩
  ·show(bN.vars++[_]).length=_;rw[Vy,DV];rfl
  ·simp only[QA];exact DN.trans (Qa _ _)
  ·simp only[QA,QC,QE];rw[List.drop_append_of_le_length (by rw[Q5];exact oC)];exact hJ2
theorem lI {qs:List Nat}{U:List UC}(h:U.map UC.q=qs){unit uq:Nat}(hq:qs[unit]? =some uq):∃u,U[unit]? =some u/\u.q=uq:=by
 rw[<- h,Vu]at hq;obtain⟨u,h1,h2⟩:=X0.1 hq;exact⟨u,h1,h2⟩
theorem mk_arg(qs:List Nat)(unit gq uq k:Nat)(hq:qs[unit]? =some uq)(hn:gq < 1073741824):N4 qs unit gq true true (.func (.func 109) #[] #[kF k]) gq (fun _ A=>A=kA k 0 [kF uq]):=by
 intro st U Vs ps A j hR Wq hun E0 hb hJ NJ hj;subst hJ;obtain⟨u,hu,rfl⟩:=lI Wq hq;have hf:aw Tryz.prog 109 [vi j,kF k] [kA k 0 [kF u.q],WK U Vs] (fun r Post=>∃U' y A',(r=kF y.q/\(∀nm,cK (st.bf ⟨nm,unit,true,if true&&true then j else -1⟩) U' (Vs++[y]))/\U'.map UC.q=U.map UC.q/\U'.map UC.body=U.map UC.body/\A'=kA k 0 [kF u.q])/\Post=[A',WK U' (Vs++[y])]):=by
  refine aw.intro low109 (by simp[n109]) ?_;refine ae ?_;refine kX Zr (fun q=>?_);simp only[Value.cells];refine ae ?_;refine kG (Post:=[kA k 0 [kF u.q],WK U (Vs++[⟨q,u.q,j,true,false,0⟩])]) (.inr rfl) (.tmp (v:=kF q) Zr .nil) ⟨U,⟨q,u.q,j,true,false,0⟩,kA k 0 [kF u.q],⟨rfl,fun nm=>?_,rfl,rfl,rfl⟩,rfl⟩ ?_
  ·refine cz.bf (u':=u) hR rfl hu (by simp only[Bool.and_self,if_true];omega) ⟨rfl,rfl,rfl,rfl,rfl⟩ (zO hu).symm rfl ?_ ?_
   ·rw[if_neg (by simp only[Bool.and_self,if_true];omega),vm]
   ·exact(hR.tm unit u hu).2
  ·refine ao.cut (M:=[kA k 0 [kF u.q],kA q 0 [kF u.q,.int .i64 j,.bool true,.bool false,.int .i64 0],WK U Vs]) ZI (ao.perm ?_);simp only[Vd,Ve,vm];exact vX _ (HQ U Vs ⟨q,u.q,j,true,false,0⟩).symm
 exact dE.ck (first:=#[]) (cap:=#[kF k]) hf
theorem W4(qs:List Nat)(unit gq uq k len:Nat)(hq:qs[unit]? =some uq):N4 qs unit gq false true (.func (.func 110) #[] #[kF k]) len (fun _ A=>A=kA k 0 [kF uq]):=by
 intro st U Vs ps A j hR Wq hun E0 hb hJ NJ hj;subst hJ;obtain⟨u,hu,rfl⟩:=lI Wq hq;have hf:aw Tryz.prog 110 [vi j,kF k] [kA k 0 [kF u.q],WK U Vs] (fun r Post=>∃U' y A',(r=kF y.q/\(∀nm,cK (st.bf ⟨nm,unit,false,if false&&true then j else -1⟩) U' (Vs++[y]))/\U'.map UC.q=U.map UC.q/\U'.map UC.body=U.map UC.body/\A'=kA k 0 [kF u.q])/\Post=[A',WK U' (Vs++[y])]):=by
  refine aw.intro low110 (by simp[n110]) ?_;refine ae ?_;refine kH (sZ st U Vs hR unit u hu false hb) Zr ZP (fun v Post hv=>?_);obtain⟨U',y,⟨rfl,h1,h2,h2b⟩,rfl⟩:=hv;simp only[aJ];refine ae ?_;exact kG (Post:=[kA k 0 [kF u.q],WK U' (Vs++[y])]) (.inr rfl) (.tmp (v:=kF y.q) Zr .nil) ⟨U',y,_,⟨rfl,h1,h2,h2b,rfl⟩,rfl⟩ ZI
 exact dE.ck (first:=#[]) (cap:=#[kF k]) hf
def cI(ps:List Nat):Value:=match ps.getLast? with|some q=>kF q|none=>.pointer none
theorem Rt(qs:List Nat)(unit gq uq k k2 len:Nat)(hq:qs[unit]? =some uq):N4 qs unit gq true false (.func (.func 251) #[] #[kF k,kF k2]) len (fun ps A=>A=kA k 0 [kF uq]++kA k2 0 [cI ps]):=by
 intro st U Vs ps A j hR Wq hun E0 hb hJ NJ hj;subst hJ;obtain⟨u,hu,rfl⟩:=lI Wq hq;have hf:aw Tryz.prog 251 [vi j,kF k,kF k2] [kA k 0 [kF u.q]++kA k2 0 [cI ps],WK U Vs] (fun r Post=>∃U' y A',(r=kF y.q/\(∀nm,cK (st.bf ⟨nm,unit,true,if true&&false then j else -1⟩) U' (Vs++[y]))/\U'.map UC.q=U.map UC.q/\U'.map UC.body=U.map UC.body/\A'=kA k 0 [kF u.q]++kA k2 0 [cI (ps++[y.q])])/\Post=[A',WK U' (Vs++[y])]):=by
  refine aw.intro low251 (by simp[n251]) ?_;refine VC.imp (H':=[kA k 0 [kF u.q],kA k2 0 [cI ps],WK U Vs]) (ao.perm Zs) ?_;refine ae ?_;refine kH (sZ st U Vs hR unit u hu true hb) Zr ZP (fun v Post hv=>?_);obtain⟨U',y,⟨rfl,h1,h2,h2b⟩,rfl⟩:=hv;simp only[aJ];refine ae ?_;refine kG (Post:=[kA k 0 [kF u.q]++kA k2 0 [cI (ps++[y.q])],WK U' (Vs++[y])]) (.inr rfl) (.tmp (v:=kF y.q) Zr .nil) ⟨U',y,_,⟨rfl,h1,h2,h2b,rfl⟩,rfl⟩ ?_;have e:cI (ps++[y.q])=kF y.q:=by unfold cI;simp
  rw[e];exact ao.cut (M:=[kA k 0 [kF u.q],kA k2 0 [kF y.q],WK U' (Vs++[y])]) ZI (ao.perm Zs)
 exact dE.ck (first:=#[]) (cap:=#[kF k,kF k2]) hf
def jn(tv kv:Value):List Value:=[cv 14,.string e0,cv 0,.int .i64 0,.int .u64 0,.string e0,Nz,Nz,.int .i64 0,.bool false,Nz,tv,kv]
def NW(uq k k2:Nat)(ps:List Nat)(A:List kC):Prop:=∃tv iJ,jA 1 tv ps.length (ps.map fun b=>kM (some b)) iJ/\A=kA k 0 [kF uq]++(kA k2 0 (jn tv Nz)++aj tv (ps.map fun b=>kM (some b)) iJ)
theorem W3(qs:List Nat)(unit gq uq k k2 len:Nat)(hq:qs[unit]? =some uq)(hlen:len < 1073741824):N4 qs unit gq false false (.func (.func 252) #[] #[kF k,kF k2]) len (NW uq k k2):=by
 intro st U Vs ps A j hR Wq hun E0 hb hJ NJ hj;obtain⟨tv,iJ,bD,rfl⟩:=hJ;obtain⟨u,hu,rfl⟩:=lI Wq hq;obtain⟨ta,tc,rfl⟩:=bD.form;have hf:aw Tryz.prog 252 [vi j,kF k,kF k2] [kA k 0 [kF u.q]++(kA k2 0 (jn (.slice ta ps.length tc) Nz)++aj (.slice ta ps.length tc) (ps.map fun b=>kM (some b)) iJ),WK U Vs] (fun r Post=>∃U' y A',(r=kF y.q/\(∀nm,cK (st.bf ⟨nm,unit,false,if false&&false then j else -1⟩) U' (Vs++[y]))/\U'.map UC.q=U.map UC.q/\U'.map UC.body=U.map UC.body/\NW u.q k k2 (ps++[y.q]) A')/\Post=[A',WK U' (Vs++[y])]):=by
  refine aw.intro low252 (by simp[n252]) ?_;refine VC.imp (H':=[kA k 0 [kF u.q],kA k2 0 (jn (.slice ta ps.length tc) Nz),aj (.slice ta ps.length tc) (ps.map fun b=>kM (some b)) iJ,WK U Vs]) (ao.perm Zs) ?_;unfold jn;refine ae ?_;refine kH (sZ st U Vs hR unit u hu false hb) Zr ZP (fun v Post hv=>?_);obtain⟨U',y,⟨rfl,h1,h2,h2b⟩,rfl⟩:=hv;simp only[aJ];refine ae ?_;refine jB (out:=[kF y.q]) Zr Zr (fun q2=>?_);refine jH (k:=ps.length) (m:=1) (xs:=ps.map fun b=>kM (some b)) (sp:=iJ) (ys:=[kF y.q]) Zr Zr bD ZK Zr ?_ rfl Zr Zr Zd Zo (fun eW bE aT=>?_)
  ·exact ET
  obtain⟨a',c',rfl⟩:=aT.form;have gS:(ps.map fun b=>kM (some b))++[kF y.q]=(ps++[y.q]).map fun b=>kM (some b):=by simp[kM]
  rw[gS]at aT|-;refine ae ?_;refine kG (Post:=[kA k 0 [kF u.q]++(kA k2 0 (jn (.slice a' (ps.length+1) c') (.slice none 0 0))++aj (.slice a' (ps.length+1) c') ((ps++[y.q]).map fun b=>kM (some b)) bE),WK U' (Vs++[y])]) (.inr rfl) (.tmp (v:=kF y.q) Zr .nil) ⟨U',y,_,⟨rfl,h1,h2,h2b,.slice a' (ps.length+1) c',bE,by simpa using aT,rfl⟩,rfl⟩ ?_;unfold jn;exact ao.cut (M:=[kA k 0 [kF u.q],kA k2 0 (jn (.slice a' (ps.length+1) c') (.slice none 0 0)),aj (.slice a' (ps.length+1) c') ((ps++[y.q]).map fun b=>kM (some b)) bE,WK U' (Vs++[y])]) (by unfold jn;exact bS) (ao.perm (by simp[jn]))
 exact dE.ck (first:=#[]) (cap:=#[kF k,kF k2]) hf
set_option maxHeartbeats 6400000
theorem J4(F G:List ByteArray)(wq fb gb:Nat)(us:Value)(bG bL:Array MapEntry)(fc gc:Nat)(hF:pM F bG fc)(hG:uD G bL gc)(k:Nat)(nm:ByteArray)(l1 l2 l3 l4 l5 a7 a8 a9:Value)(p:Int)
 (st:ah) (U:List UC) (Vs:List az) (hR:cK st U Vs) (i:Nat) (u:UC) (hu:U[i]? =some u) (hf:st.f=none) (hb:st.uses.length < 1073741824) (env:List Nat) (b:Nat) (es:Array MapEntry) (c:Nat) (hs:zH st Vs env es c) (EX:∀v∈env,st.af v∈st.line i):
 ji Tryz.prog 209 [kF wq,.agg #[cv k,.string nm,l1,l2,l3,l4,l5,a7,a8,a9,.int .i64 p],kF u.q,.map (some b)] [kA wq 0 [.map (some fb),.map (some gb),us],[.obj fb (.map bG fc)],[.obj gb (.map bL gc)],WK U Vs,[.obj b (.map es c)]]
  (fun v Post=>∃U' og,((wD F G st env nm i p (decide (k=3))).2.f=none/\v=sT og (wD F G st env nm i p (decide (k=3))).1/\cK (wD F G st env nm i p (decide (k=3))).2 U' og/\U'.map UC.q=U.map UC.q/\U'.map UC.body=U.map UC.body/\og.map az.q=Vs.map az.q)/\
    Post=[kA wq 0 [.map (some fb),.map (some gb),us],[.obj fb (.map bG fc)],[.obj gb (.map bL gc)],WK U' og,[.obj b (.map es c)]])
  (fun ch Post=>∃q e,(wD F G st env nm i p (decide (k=3))).2.f=some (e,p)/\ch=oW q/\Post=[jP q e p]):=by
 obtain⟨mF,hF1,hF2⟩:=hF.is;obtain⟨mG,hG1,hG2⟩:=hG.is;refine ji.intro low209 (by simp[n209]) ?_;refine ae ?_;refine kX Zr (fun q5=>?_);simp only[Value.cells];refine kO (fun q8=>?_);refine ae ?_;by_cases h1:nm=⟨#[115,101,108,102]⟩
 ·have hk:wx nm=1:=by rw[h1];decide
  rw[Zt h1];exact zAW
 rw[Zf h1];refine ae ?_;by_cases h2:nm=⟨#[115,117,112,101,114]⟩
 ·have hk:wx nm=1:=by rw[h2];decide
  rw[Zt h2];exact zAW
 rw[Zf h2];refine ae ?_;by_cases h3:nm=⟨#[110,105,108]⟩
 ·have hk:wx nm=2:=by rw[h3];decide
  rw[Zt h3];refine ae ?_;have hr:=qW (F:=F) (G:=G) (st:=st) (env:=env) (nm:=nm) (u:=i) (p:=p) (put:=decide (k=3)) (by rw[hk];decide);rw[hr,hk];exact jL ⟨.inr rfl,_,[kA wq 0 [.map (some fb),.map (some gb),us],[.obj fb (.map bG fc)],[.obj gb (.map bL gc)],WK U Vs,[.obj b (.map es c)]],.aN (us:=jN ⟨2,0,0,e0⟩) Zr Zr (fun y hy=>by simp only[Vd,QF];exact .inl hy) (.tmp Zr .nil),ZI,U,Vs,⟨hf,rfl,hR,rfl,rfl,rfl⟩,rfl⟩
 rw[Zf h3];refine ae ?_;by_cases h4:nm=⟨#[116,114,117,101]⟩
 ·have hk:wx nm=3:=by rw[h4];decide
  rw[Zt h4];refine ae ?_;have hr:=qW (F:=F) (G:=G) (st:=st) (env:=env) (nm:=nm) (u:=i) (p:=p) (put:=decide (k=3)) (by rw[hk];decide);rw[hr,hk];exact jL ⟨.inr rfl,_,[kA wq 0 [.map (some fb),.map (some gb),us],[.obj fb (.map bG fc)],[.obj gb (.map bL gc)],WK U Vs,[.obj b (.map es c)]],.aN (us:=jN ⟨3,0,0,e0⟩) Zr Zr (fun y hy=>by simp only[Vd,QF];exact .inl hy) (.tmp Zr .nil),ZI,U,Vs,⟨hf,rfl,hR,rfl,rfl,rfl⟩,rfl⟩
 rw[Zf h4];refine ae ?_;by_cases h5:nm=⟨#[102,97,108,115,101]⟩
 ·have hk:wx nm=4:=by rw[h5];decide
  rw[Zt h5];refine ae ?_;have hr:=qW (F:=F) (G:=G) (st:=st) (env:=env) (nm:=nm) (u:=i) (p:=p) (put:=decide (k=3)) (by rw[hk];decide);rw[hr,hk];exact jL ⟨.inr rfl,_,[kA wq 0 [.map (some fb),.map (some gb),us],[.obj fb (.map bG fc)],[.obj gb (.map bL gc)],WK U Vs,[.obj b (.map es c)]],.aN (us:=jN ⟨4,0,0,e0⟩) Zr Zr (fun y hy=>by simp only[Vd,QF];exact .inl hy) (.tmp Zr .nil),ZI,U,Vs,⟨hf,rfl,hR,rfl,rfl,rfl⟩,rfl⟩
 rw[Zf h5];refine ae ?_;have hk:=refK_0 h1 h2 h3 h4 h5;obtain⟨hg1,hg2⟩:=hs.find nm;refine zB (E:=yK) (V:=fun b=>kM (some b)) (k:=nm) Zr Zr rfl Zay hs.is ?_;rw[hg1];cases IY:jw st.vars env nm with
 |some v=>
  obtain⟨hg3,hg4,hg5⟩:=hg2 v IY;obtain⟨x,hx⟩:∃x,st.vars[v]? =some x:=⟨_,Zg hg4⟩;obtain⟨y,hy⟩:∃y,Vs[v]? =some y:=⟨_,Zg (by rw[hR.vl];exact hg4)⟩;have hyq:y.q=tL Vs v:=by unfold tL;rw[Vh,hy];rfl
  have hfx:=(hR.vn v x y hx hy).2.2.1;have m2:kC.cell y.q 2 (.bool y.fixed)∈WK U Vs:=lL hy _ (kJ.2 ⟨2,.bool y.fixed,rfl,Zs⟩);rw[hfx]at m2;simp only[ng,X2,kM,if_false,vL];rw[<- hyq];generalize hB:WK U Vs=B at m2|-;cases hxa:x.arg with
  |true=>
   rw[hxa]at m2;by_cases rI:k=3
   ·subst rI;have gk:(decide (3=3)&&((st.vars[v]?).map (·.arg)).getD false)=true:=by rw[hx];simp[hxa]
    have gQ:=Hj (F:=F) (G:=G) (env:=env) (u:=i) (p:=p) hk IY gk hf;refine ae ?_;refine kL (df 182 p) Zr ZP (fun v Post hv=>hv.elim) (fun ch Post hz=>?_);obtain⟨q,rfl,rfl⟩:=hz;exact⟨[jP q 182 p],ZI,q,182,gQ,rfl,rfl⟩
   ·have gk:(decide (k=3)&&((st.vars[v]?).map (·.arg)).getD false)=false:=by simp[rI]
    refine ae ?_;rw[show decide ((k:Int)=3)=false from Zf Zo];exact zAL
  |false=>
   rw[hxa]at m2;have gk:(decide (k=3)&&((st.vars[v]?).map (·.arg)).getD false)=false:=by rw[hx];simp[hxa]
   exact zAL
 |none=>
  simp only[ng,X1,if_false,vL];refine ae ?_;refine zB (E:=yK) (V:=fun n:Nat=>.int .i64 n) (k:=nm) Zr Zr rfl Zay hF1 ?_;rw[hF2];cases hfi:F.findIdx? (fun s=>decide (s=nm))with
  |some fi=>
   simp only[ng,X2,if_true];refine ae ?_;rw[Ac hk IY hfi];exact jL ⟨.inr rfl,_,[kA wq 0 [.map (some fb),.map (some gb),us],[.obj fb (.map bG fc)],[.obj gb (.map bL gc)],WK U Vs,[.obj b (.map es c)]],.aN (us:=jN ⟨7,fi,0,e0⟩) Zr Zr (fun y hy=>by simp only[Vd,QF];exact .inl hy) (.tmp Zr .nil),ZI,U,Vs,⟨hf,rfl,hR,rfl,rfl,rfl⟩,rfl⟩
  |none=>
   simp only[ng,X1,if_true];refine ae ?_;refine zB (E:=yK) (V:=fun n:Nat=>.int .i64 n) (k:=nm) Zr Zr rfl Zay hG1 ?_;have hg:=hG2 nm;cases hga:G.any (fun s=>decide (s=nm))with
   |true=>
    rw[hga]at hg;have bZ:(kz nm mG).getD 0≠0:=by simpa using hg
    obtain⟨n,hn⟩:∃n,kz nm mG=some n:=by
     cases e:kz nm mG with
     |none=>rw[e]at bZ;exact absurd rfl bZ
     |some n=>exact⟨n,rfl⟩
    rw[hn]at bZ|-;simp only[Qy]at bZ;simp only[ng,X2,if_false,vL];refine ae ?_;rw[show decide ((n:Int)=0)=false from Zf Zo];refine ae ?_;rw[C3 hk IY hfi hga];exact jL ⟨.inr rfl,_,[kA wq 0 [.map (some fb),.map (some gb),us],[.obj fb (.map bG fc)],[.obj gb (.map bL gc)],WK U Vs,[.obj b (.map es c)]],.aN (us:=jN ⟨8,0,0,nm⟩) Zr Zr (fun y hy=>by simp only[Vd,QF];exact .inl hy) (.tmp Zr .nil),ZI,U,Vs,⟨hf,rfl,hR,rfl,rfl,rfl⟩,rfl⟩
   |false=>
    rw[hga]at hg;have gQ:=C4 (F:=F) (G:=G) (st:=st) (env:=env) (nm:=nm) (u:=i) (p:=p) (put:=decide (k=3)) hk IY hfi hga hf;have hz0:(kz nm mG).getD 0=0:=by simpa using hg
    have hv0:ng false (.int .i64 0) ((kz nm mG).map fun n:Nat=>.int .i64 n)=.int .i64 0:=by
     cases e:kz nm mG with
     |none=>rfl
     |some n=>rw[e]at hz0;simp only[Qy]at hz0;rw[hz0];rfl
    rw[hv0];refine ae ?_;refine kL (df 181 p) Zr ZP (fun v Post hv=>hv.elim) (fun ch Post hz=>?_);obtain⟨q,rfl,rfl⟩:=hz;exact⟨[jP q 181 p],ZI,q,181,gQ,rfl,rfl⟩
structure Fix where
 F:List ByteArray
 G:List ByteArray
 wq:Nat
 fb:Nat
 gb:Nat
 bG:Array MapEntry
 bL:Array MapEntry
 fc:Nat
 gc:Nat
 S:List kC
structure NZ (X:Fix):Prop where
 f:pM X.F X.bG X.fc
 g:uD X.G X.bL X.gc
def rR(X:Fix)(f:Nat)(args:List Value)(st Ih:ah)(us:Value)(bA:List Value)(U:List UC)(Vs:List az)(T:List kC)(b:Nat)(es:Array MapEntry)(c:Nat)(R:Value->List Nat->List kC->Prop):Prop:=
 ji Tryz.prog f args [kA X.wq 0 [.map (some X.fb),.map (some X.gb),us],aj us (U.map fun u=>kM (some u.q)) bA,[.obj X.fb (.map X.bG X.fc)],[.obj X.gb (.map X.bL X.gc)],WK U Vs,T,[.obj b (.map es c)],X.S]
  (fun v Post=>∃K8 Tq U' og T' B,(ii Ih K8 Tq U' og T'/\U.map UC.q <+:U'.map UC.q/\Vs.map az.q <+:og.map az.q/\R v (og.map az.q) B)/\
    Post=[kA X.wq 0 [.map (some X.fb),.map (some X.gb),K8],aj K8 (U'.map fun u=>kM (some u.q)) Tq,[.obj X.fb (.map X.bG X.fc)],[.obj X.gb (.map X.bL X.gc)],WK U' og,T',[.obj b (.map es c)],X.S,B])
  (fun ch Post=>∃q e p,Ih.f=some (e,p)/\ch=oW q/\Post=[X.S,jP q e p])
def Yt(pn:PN)(v:Value)(qs:List Nat)(B:List kC):Prop:=∃ws,v=.agg ws.toArray/\xd B qs pn ws
def AllR(l:List PN)(v:Value)(qs:List Nat)(B:List kC):Prop:=∃rows sp B',jA 13 v l.length rows.flatten sp/\zh B' qs l rows/\B=aj v rows.flatten sp++B'
def oL(X:Fix)(x:Nd)(vs:List Value):Prop:=
 ∀st us bA U Vs T,ii st us bA U Vs T->∀(i:Nat) (u:UC),U[i]? =some u->∀env b es c,zH st Vs env es c->(∀v∈env,st.af v∈st.line i)->Room st (pW x)->
  rR X 172 [kF X.wq,.agg vs.toArray,kF u.q,.map (some b)] st (j9 X.F X.G x st env i).2 us bA U Vs T b es c (Yt (j9 X.F X.G x st env i).1)
theorem sW {st Ih:ah}(h:Gr st Ih)(hw:Wf st)(sF:Wf Ih){i:Nat}(hi:i < st.outer.length){v:Nat}(hv:v < st.vars.length):Ih.line i=st.line i/\Ih.af v=st.af v:=by
 refine⟨?_,?_⟩
 ·induction i using Nat.strongRecOn with
  |_ i ih=>
   have ho:Ih.outer.getD i (-1)=st.outer.getD i (-1):=by
    obtain⟨t,ht⟩:=h.outer;rw[<- ht,Vh,Vh,Vj hi]
   have hl:=h.outer.length_le;rw[sF.line Zo,hw.line Zo,ho]
   congr 1
   split
   ·rfl
   ·have:=hw.ef i;exact ih _ Zo Zo
 ·obtain⟨t,ht⟩:=h.vars;unfold ah.af;rw[<- ht,Vj hv]
theorem xi(X:Fix)(l:List Nd)(a:Option Addr)(ac bk o:Nat)(ks:Nat->List Value)(KC:l.length < 1073741824)(ha:0 < l.length->a=some ⟨bk,o,none⟩)(hm:∀i,i < l.length->∀y∈kA bk (o+i*11) (ks i),y∈X.S)(hr:∀i x,l[i]? =some x->jJ X.S x (ks i))(aP:∀i x,l[i]? =some x->oL X x (ks i))
 (st:ah) (us:Value) (bA:List Value) (U:List UC) (Vs:List az) (T:List kC) (hS:ii st us bA U Vs T) (i:Nat) (u:UC) (hu:U[i]? =some u) (env:List Nat) (b:Nat) (es:Array MapEntry) (c:Nat) (hs:zH st Vs env es c) (EX:∀v∈env,st.af v∈st.line i) (bX:Room st (jM l)):
 rR X 112 [kF X.wq,.slice a l.length ac,kF u.q,.map (some b)] st (kT X.F X.G l st env i).2 us bA U Vs T b es c (AllR (kT X.F X.G l st env i).1):=by
 refine ji.intro low112 (by simp[n112]) ?_;refine ae ?_;refine VC.loop (α:=Nat×ah×Value×List Value×List UC×List az×List kC×Value×List (List Value)×List Value×List kC×List PN) (bi:=fun s=>[(0,kF X.wq),(2,kF u.q),(3,.map (some b)),(9,s.2.2.2.2.2.2.2.1),(12,.slice a l.length ac),(13,vi l.length),(14,vi s.1)])
  (Hf:=fun s=>[kA X.wq 0 [.map (some X.fb),.map (some X.gb),s.2.2.1],aj s.2.2.1 (s.2.2.2.2.1.map fun u=>kM (some u.q)) s.2.2.2.1,[.obj X.fb (.map X.bG X.fc)],[.obj X.gb (.map X.bL X.gc)],WK s.2.2.2.2.1 s.2.2.2.2.2.1,s.2.2.2.2.2.2.1,[.obj b (.map es c)],X.S,aj s.2.2.2.2.2.2.2.1 s.2.2.2.2.2.2.2.2.1.flatten s.2.2.2.2.2.2.2.2.2.1,s.2.2.2.2.2.2.2.2.2.2.1])
  (I:=fun s=>s.1<=l.length/\(∃w,s.2.2.2.2.1[i]? =some w/\w.q=u.q)/\ii s.2.1 s.2.2.1 s.2.2.2.1 s.2.2.2.2.1 s.2.2.2.2.2.1 s.2.2.2.2.2.2.1/\Gr st s.2.1/\U.map UC.q <+:s.2.2.2.2.1.map UC.q/\Vs.map az.q <+:s.2.2.2.2.2.1.map az.q/\Room s.2.1 (jM (l.drop s.1))/\
    (kT X.F X.G l st env i).2=(kT X.F X.G (l.drop s.1) s.2.1 env i).2/\(kT X.F X.G l st env i).1=s.2.2.2.2.2.2.2.2.2.2.2++(kT X.F X.G (l.drop s.1) s.2.1 env i).1/\s.2.2.2.2.2.2.2.2.2.2.2.length=s.1/\
    jA 13 s.2.2.2.2.2.2.2.1 s.1 s.2.2.2.2.2.2.2.2.1.flatten s.2.2.2.2.2.2.2.2.2.1/\zh s.2.2.2.2.2.2.2.2.2.2.1 (s.2.2.2.2.2.1.map az.q) s.2.2.2.2.2.2.2.2.2.2.2 s.2.2.2.2.2.2.2.2.1) (μ:=fun s=>l.length - s.1) (0,st,us,bA,U,Vs,T,Nz,[],[],[],[])
  ⟨Qv _,⟨u,hu,rfl⟩,hS,Gr.refl st,Qc _,Qc _,bX,rfl,rfl,rfl,.nil,zh.nil _ _⟩ ZU (ao.cut (M:=[kA X.wq 0 [.map (some X.fb),.map (some X.gb),us],aj us (U.map fun u=>kM (some u.q)) bA,[.obj X.fb (.map X.bG X.fc)],[.obj X.gb (.map X.bL X.gc)],WK U Vs,T,[.obj b (.map es c)],X.S]) ZI (ao.perm (by simp[aj]))) ?_
 rintro⟨j,bN,Bx,ox,U1,V1,T1,sv,rows,sp,B,XG⟩ ⟨hj,⟨w,hw,pK⟩,LX,DI,hpU,hpV,Uj,We,Ub,oC,bD,dJ⟩
 simp only at hj hw pK LX DI hpU hpV Uj We Ub oC bD dJ;dsimp only;obtain⟨sa,sc,gT⟩:=bD.form;subst gT;refine ae ?_;by_cases aS:j < l.length;rotate_left
 ·rw[show decide ((j:Int) < (l.length:Int))=false from Zf Zo];have xT:j=l.length:=by omega
  rw[xT,List.drop_length,kT]at Ub We;simp only[vm]at Ub We;have hpl2:XG.length=j:=oC;refine ae ?_;refine jL (kG (Post:=[kA X.wq 0 [.map (some X.fb),.map (some X.gb),Bx],aj Bx (U1.map fun u=>kM (some u.q)) ox,[.obj X.fb (.map X.bG X.fc)],[.obj X.gb (.map X.bL X.gc)],WK U1 V1,T1,[.obj b (.map es c)],X.S,aj (.slice sa j sc) rows.flatten sp++B]) (.inr rfl) (.tmp (v:=.slice sa j sc) Zr .nil)
   ⟨Bx,ox,U1,V1,T1,_,⟨?_,hpU,hpV,rows,sp,B,?_,?_,rfl⟩,rfl⟩ (ao.cut (M:=[kA X.wq 0 [.map (some X.fb),.map (some X.gb),Bx],aj Bx (U1.map fun u=>kM (some u.q)) ox,[.obj X.fb (.map X.bG X.fc)],[.obj X.gb (.map X.bL X.gc)],WK U1 V1,T1,[.obj b (.map es c)],X.S,aj (.slice sa j sc) rows.flatten sp,B]) ZI (ao.perm Zs)))
  ·rw[We];exact LX
  ·rw[Ub,hpl2];exact bD
  ·rw[Ub];exact dJ
 obtain rfl:=ha Zo;rw[show decide ((j:Int) < (l.length:Int))=true from Zt Zo];obtain⟨y,hy⟩:∃y,l[j]? =some y:=⟨_,Zg aS⟩;have O5:l.drop j=y::l.drop (j+1):=by
  rw[vw aS]
  congr 1
  rw[Zg aS]at hy;exact X3 hy
 rw[O5]at Ub We Uj;simp only[jM]at Uj;rw[je]at Ub We;simp only at Ub We;have cQ:=hm j aS;have bK:=hr j y hy;have cF:i < st.outer.length:=by have:=(Vt.1 hu).1;rw[hS.rep.ul]at this;exact this
 have aC:=aP j y hy bN Bx ox U1 V1 T1 LX i w hw env b es c (hs.more DI.vars hpV hS.rep.vl) (fun v hv=>by
  obtain⟨k1,k2⟩:=sW DI hS.rep.wf LX.rep.wf cF (hs.lt v hv);rw[k1,k2];exact EX v hv) (Uj.mono Zo)
 have hgp:=(wd X.F X.G _ y (Qn _) bN env i).1;have hlp:=(nM X.F X.G _ y (Qn _) bN env i).1;rw[pK]at aC;generalize ks j=kj at*;obtain⟨e1,e2,e3,e4,e5,e6,e7,e8,e9,uf,ug,uh,ui,H0,H4,H5,rfl⟩:=qO bK;refine ae ?_;refine kS Zr (fun z hz=>by have h9:=cQ z hz;simp[h9]) rfl ?_;refine ae ?_;refine kO (fun MQ=>?_);refine ae ?_;refine kL aC Zr ZP (fun v Post hv=>?_) (fun ch Post hz=>?_);rotate_left
 ·obtain⟨q,e,p,gQ,rfl,rfl⟩:=hz;refine⟨[X.S,jP q e p],ZI,q,e,p,?_,rfl,rfl⟩;rw[We];exact(wV X.F X.G (l.drop (j+1)) _ env i).f _ gQ
 obtain⟨Dj,iL,U2,V2,T2,B2,⟨H6,ux,uy,ws,rfl,hn⟩,rfl⟩:=hv;simp only[aJ];obtain⟨f1,f2,f3,f4,f5,f6,f7,r1,r2,r3,p1,p2,p3,k1,k2,k3,Um⟩:=lr hn;subst Um;generalize Cv:(j9 X.F X.G y bN env i).1=pn at hn Ub|-;refine jB (out:=[.int .u8 pn.kind,.string pn.name,.int .u8 f1,.int .i64 f2,.int .u64 f3,.string f4,.slice f5 f6 f7,.slice r1 r2 r3,.int .i64 pn.unit,.bool pn.super,.slice none 0 0,.slice p1 p2 p3,.slice k1 k2 k3]) Zr Zr (fun r=>?_);refine jH (k:=j) (m:=1) (xs:=rows.flatten) (sp:=sp) (ys:=[.int .u8 pn.kind,.string pn.name,.int .u8 f1,.int .i64 f2,.int .u64 f3,.string f4,.slice f5 f6 f7,.slice r1 r2 r3,.int .i64 pn.unit,.bool pn.super,.slice none 0 0,.slice p1 p2 p3,.slice k1 k2 k3]) Zr Zr bD ZK Zr ?_ rfl Zr Zr Zd Zo (fun eW bE aT=>?_)
 ·exact ET
 have gS:rows.flatten++([.int .u8 pn.kind,.string pn.name,.int .u8 f1,.int .i64 f2,.int .u64 f3,.string f4,.slice f5 f6 f7,.slice r1 r2 r3,.int .i64 pn.unit,.bool pn.super,Nz,.slice p1 p2 p3,.slice k1 k2 k3]:List Value)=(rows++[([.int .u8 pn.kind,.string pn.name,.int .u8 f1,.int .i64 f2,.int .u64 f3,.string f4,.slice f5 f6 f7,.slice r1 r2 r3,.int .i64 pn.unit,.bool pn.super,Nz,.slice p1 p2 p3,.slice k1 k2 k3]:List Value)]).flatten:=by simp
 rw[gS]at aT|-;obtain⟨nU,nV,rfl⟩:=aT.form;refine ae ?_;refine⟨(j+1,_,Dj,iL,U2,V2,T2,.slice nU (j+1) nV,rows++[[.int .u8 pn.kind,.string pn.name,.int .u8 f1,.int .i64 f2,.int .u64 f3,.string f4,.slice f5 f6 f7,.slice r1 r2 r3,.int .i64 pn.unit,.bool pn.super,Nz,.slice p1 p2 p3,.slice k1 k2 k3]],bE,B++B2,XG++[pn]),⟨by simp only;omega,?_,H6,DI.trans hgp,hpU.trans ux,hpV.trans uy,Uj.less hlp,We,by simp only;rw[Ub];simp,by simp[oC],aT,?_⟩,by simp only;omega,ZU,?_⟩
 ·obtain⟨t,ht⟩:=ux;have h1:(U1.map UC.q)[i]? =some w.q:=by rw[Vu,hw];rfl
  have h2:(U2.map UC.q)[i]? =some w.q:=by
   rw[<- ht,Vj (Vt.1 h1).1];exact h1
  rw[Vu]at h2;obtain⟨w',h3,h4⟩:=X0.1 h2;exact⟨w',h3,h4.trans pK⟩
 ·exact(dJ.more (fun x hx=>Zw _ hx) uy).snoc (hn.more (fun x hx=>QG _ hx) (Qc _))
 ·simp only;refine ao.cut (M:=[kA X.wq 0 [.map (some X.fb),.map (some X.gb),Dj],aj Dj (U2.map fun u=>kM (some u.q)) iL,[.obj X.fb (.map X.bG X.fc)],[.obj X.gb (.map X.bL X.gc)],WK U2 V2,T2,[.obj b (.map es c)],X.S,aj (.slice nU (j+1) nV) (rows++[([.int .u8 pn.kind,.string pn.name,.int .u8 f1,.int .i64 f2,.int .u64 f3,.string f4,.slice f5 f6 f7,.slice r1 r2 r3,.int .i64 pn.unit,.bool pn.super,Nz,.slice p1 p2 p3,.slice k1 k2 k3]:List Value)]).flatten bE,B,B2]) ZI (ao.perm Zs)
end Go.Proofs.YtijnokbblmbpkaaGreatDoor

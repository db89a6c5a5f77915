/-
  Short names for the code of functions: a function's code is laid by them, and holds the code itself.
-/
import Derived.Test.YtijnokbblmbpkaaGreatDoorS6
import Derived.Test.YtijnokbblmbpkaaGreatDoorS9
import Derived.Test.YtijnokbblmbpkaaGreatDoorS7
import Derived.Test.YtijnokbblmbpkaaGreatDoorS8
import Derived.KernelRfl
import Derived.Test.YtijnokbblmbpkaaGreatDoorProg
import Derived.Below
import Derived.Lib.Bytealg
import Derived.Shelf.Strings.Search2
import Derived.Shelf.Lay
set_option linter.unusedSimpArgs false
set_option linter.unusedVariables false
namespace Go.V
open Go
def qm(d a:Nat):RO:=⟨some d,none,.mv (.tmp a)⟩
def qk(d:Nat)(v:Int):RO:=⟨some d,none,.mv (.const (.int .i64 v))⟩
def qz(d:Nat)(b:Bool):RO:=⟨some d,none,.mv (.const (.bool b))⟩
def qo(d:Nat)(r:R):RO:=⟨some d,none,r⟩
def ql(d a:Nat):RO:=⟨some d,none,.load1 (.tmp a)⟩
def qf(d o a:Nat):RO:=⟨some d,none,.fld o (.tmp a)⟩
def qi(d s a b:Nat):RO:=⟨some d,none,.idxL s (.tmp a) (.tmp b)⟩
def qb(d:Nat)(o:BinOp)(a b:Nat):RO:=⟨some d,none,.bin o (.tmp a) (.tmp b)⟩
def qc(d:Nat)(o:BinOp)(a:Nat)(v:Int):RO:=⟨some d,none,.bin o (.tmp a) (.const (.int .i64 v))⟩
def qn(d a:Nat):RO:=⟨some d,none,.nilck (.tmp a)⟩
def qs(n a b:Nat):RO:=⟨none,none,.store n (.tmp a) (.tmp b)⟩
def qp(d c a b:Nat):RO:=⟨some d,none,.pick (.tmp c) (.tmp a) (.tmp b)⟩
def qa(d c a:Nat):RO:=⟨some d,none,.pick (.tmp c) (.tmp a) (.const (.bool false))⟩
def qr(d c b:Nat):RO:=⟨some d,none,.pick (.tmp c) (.const (.bool true)) (.tmp b)⟩
def qe(d a i:Nat):RO:=⟨some d,none,.ext (.tmp a) i⟩
def tmps:List Nat->List Operand
 |[]=>[]
 |a::r=>.tmp a::tmps r
def qx(d f:Nat)(l:List Nat):RO:=⟨some d,none,.call f (tmps l)⟩
def qL(d a:Nat):RO:=⟨some d,none,.lenL (.tmp a)⟩
def qN(d n a:Nat):RO:=⟨some d,none,.loadN n (.tmp a)⟩
def qB(d t a:Nat):RO:=⟨some d,none,.box t (.tmp a)⟩
def qt(g:Nat)(x:RO):RO:=⟨x.dst,some (g,true),x.op⟩
def qu(g:Nat)(x:RO):RO:=⟨x.dst,some (g,false),x.op⟩
def qS(rs:List RO)(k:List Nat)(r:IC):IC:=.seq (.reg rs k) r
def qC(c:Nat)(a b:IC):IC:=.cond (.tmp c) a b
def nthO:List RO->Nat->RO
 |[],_=>default
 |x::_,0=>x
 |_::r,n+1=>nthO r n
def ordO(l:List RO):List Nat->List RO
 |[]=>[]
 |i::r=>nthO l i::ordO l r
def ordsO(l:List RO):List (List Nat)->List (List RO)
 |[]=>[]
 |p::r=>ordO l p::ordsO l r
def qD(l:List RO)(ps:List (List Nat))(k:List Nat):IC:=.draw (ordsO l ps) k
def keepsO:IC->List (List Nat)
 |.skip|.exit _|.ret|.label _=>[]
 |.reg _ k|.draw _ k|.free _ _ k=>[k]
 |.seq a b|.cond _ a b|.rangef _ _ a b=>keepsO a++keepsO b
 |.loop (.seq a (.seq b c))=>keepsO a++(keepsO c++keepsO b)
 |.block _ b|.loop b|.scope b=>keepsO b
def kpO(F:FIR)(i:Nat):List Nat:=(keepsO F.body).getD i []
def laid {X F:FIR}(_h:F=X:=by(dsimp only[qm,qk,qz,qo,ql,qf,qi,qb,qc,qn,qs,qp,qa,qr,qe,tmps,qx,qL,qN,qB,qt,qu,qS,qC,nthO,ordO,ordsO,qD] <;> exact rfl)):FIR:=F
theorem TKx {H R:SH}{A:List kC}(h:Tk H A R:=by(focus ((repeat (first|with_reducible exact Tk.here|apply Tk.there));done))):Tk H A R:=h
theorem IMx {H D:SH}(h:Imp H D:=by(first|with_reducible exact Imp.refl|with_reducible exact Imp.left|(focus ((try simp only[QD]);(repeat (first|exact Imp.nil|(apply Imp.cons;(focus ((repeat (first|with_reducible exact Tk.here|apply Tk.there));done)))));done)))):Imp H D:=h
theorem SPx {H D R:SH}(h:Spl H D R:=by(focus ((repeat (first|exact Spl.nil|(apply Spl.cons;(focus ((repeat (first|with_reducible exact Tk.here|apply Tk.there));done)))));done))):Spl H D R:=h
theorem SUx {G D:Env}(h:Sub G D:=by(repeat (first|exact Sub.nil|(apply Sub.cons;rfl)))):Sub G D:=h
theorem CNx {α:Type}:(∀(a:α) (l r:List α),(a::l)++r=a::(l++r))/\(∀r:List α,([]:List α)++r=r):=⟨fun _ _ _=>rfl,fun _=>rfl⟩
end Go.V
namespace Go.V
open Go
theorem run_mem {A:List kC}{P:Program}{N0:Nat}{tab:List (Nat×FE)}{orc:CF}(ht:TabOk P tab)(ho:SoundF A P N0 orc){L k f:Nat}{args:List Value}{v0:Value}{h1:Mp}{n1:Nat}(ha:args.all plainV=true)(he:evalF N0 tab orc L k f args [] N0=some (.val v0 h1 n1)):
 Fun P f args [A] (fun u Post=>∃σ,ke N0 σ [v0] h1 n1/\u=rn σ v0/\Post=[A,kT [] σ h1]):=by
 have g:ke N0 ⟨fun i=>i,fun _=>0,fun _=>0,fun _=>[]⟩ args [] N0:=⟨fun _ _=>⟨rfl,rfl⟩,QW _,(fun p hp=>by cases hp),(fun p hp=>by cases hp),(fun p hp=>by cases hp),fun u hu=>ScV.plain (vX.1 ha u hu)⟩;have hs:=f_sound ht ho L k f args [] N0 _ he _ g;have hargs:args.map (rn ⟨fun i=>i,fun _=>0,fun _=>0,fun _=>[]⟩)=args:=by
  conv=>rhs;rw[<- List.map_id args]
  exact Vx fun u hu=>rn_plain (vX.1 ha u hu)
 rw[hargs]at hs;have hs2:=hs.conv (H:=[A]) (R:=[]) (Q':=fun u Post=>∃σ,ke N0 σ [v0] h1 n1/\u=rn σ v0/\Post=[A,kT [] σ h1]) (Z':=fun _ _=>False) (by simp[Spl,kT]) ?_ ?_
 ·exact hs2.fun
 ·rintro u Post ⟨v1,h2,n2,σ1,e,_,_,g1,rfl,rfl⟩
  cases e;exact⟨[A,kT [] σ1 h1],⟨σ1,g1,rfl,rfl⟩,Imp.perm (by simpa using instH_split)⟩
 ·rintro ch Post ⟨ch0,h2,n2,σ1,e,_⟩
  cases e
def capOk(h:Mp)(w:Nat)(b n c:Nat):Bool:=match Nat.blt c BIG with
 |true=>Nat.ble n c
 |false=>match getB h b with
  |some (.grow s vs)=>Nat.beq s w&&Nat.beq c BIG&&Nat.blt 0 w&&Nat.ble (n*w) vs.length
  |_=>false
theorem capOk_sound {N0 nx:Nat}{σ:Sg}{vals:List Value}{h:Mp}(g:ke N0 σ vals h nx){w b n c:Nat}(hc:capOk h w b n c=true):n<=rnC σ b c:=by
 unfold capOk at hc;unfold rnC;split at hc
 ·rename_i hlt;rw[if_pos (bltT hlt)];exact bleT hc
 ·rename_i hlt;split at hc
  case h_2=>cases hc
  rename_i s vs hb;simp only[vF]at hc;obtain⟨⟨⟨h1,h2⟩,h3⟩,h4⟩:=hc;obtain rfl:=zd h1;obtain rfl:=zd h2;rw[if_neg (Nat.lt_irrefl _),Qd,Nat.sub_zero];have hg:=g.grow _ (zF hb);have hg:vs.length+(σ.tl b).length=σ.cap b*s:=hg;have h5:=bleT h4;have h6:=bltT h3;exact Nat.le_of_mul_le_mul_right (QY h5 Zo) h6
def rdRows {α:Type}(f:List Value->Option α)(w:Nat):Nat->List Value->Option (List α)
 |0,_=>some []
 |n+1,us=>match f (us.take w)with
  |some x=>match rdRows f w n (us.drop w)with
   |some l=>some (x::l)
   |none=>none
  |none=>none
theorem rdRows_sound {α:Type}{f:List Value->Option α}{w:Nat}:∀{n:Nat} {us:List Value} {l:List α},rdRows f w n us=some l->l.length=n/\∀i x,l[i]? =some x->f ((us.drop (i*w)).take w)=some x
 |0,us,l,h=>by
  obtain rfl:[]=l:=Qn h;exact⟨rfl,fun i x hx=>by simp at hx⟩
 |n+1,us,l,h=>by
  rw[rdRows]at h;split at h
  case h_2=>cases h
  rename_i x hx;split at h
  case h_2=>cases h
  rename_i r hr;obtain rfl:=Qn h;obtain⟨h1,h2⟩:=rdRows_sound hr;refine⟨by rw[Vl,h1],fun i y hy=>?_⟩;cases i with
  |zero=>
   obtain rfl:x=y:=by simpa using hy
   simpa using hx
  |succ i=>
   have:=h2 i y (by simpa using hy);rw[List.drop_drop]at this;rw[Nat.succ_mul,Nat.add_comm];exact this
def rdSl {α:Type}(h:Mp)(w:Nat)(f:List Value->Option α):Value->Option (List α)
 |.slice none 0 _=>some []
 |.slice (some ⟨b,o,none⟩) n c=>match Nat.beq o 0&&capOk h w b n c with
  |true=>match readN h b 0 (n*w)with
   |some us=>rdRows f w n us
   |none=>none
  |false=>none
 |_=>none
theorem rdSl_sound {N0 nx:Nat}{σ:Sg}{vals:List Value}{h:Mp}(g:ke N0 σ vals h nx){α:Type}{w:Nat}{f:List Value->Option α}{v:Value}{l:List α}(hr:rdSl h w f v=some l):
 ∃(a:Option Addr) (c bk o:Nat) (us:Nat->List Value),rn σ v=.slice a l.length c/\(0 < l.length->a=some ⟨bk,o,none⟩/\l.length<=c)/\(∀i,i < l.length->∀y∈kA bk (o+i*w) (us i),y∈kT [] σ h)/\∀i x,l[i]? =some x->∃ws,us i=ws.map (rn σ)/\f ws=some x:=by
 unfold rdSl at hr;split at hr
 ·obtain rfl:[]=l:=Qn hr;exact⟨none,_,0,0,fun _=>[],by simp;rfl,fun h=>absurd h Zs,fun i hi=>absurd hi Zs,fun i x hx=>by simp at hx⟩
 ·rename_i b o n c;split at hr
  case h_2=>cases hr
  rename_i hc;rw[vF]at hc;obtain rfl:=zd hc.1;split at hr
  case h_2=>cases hr
  rename_i us hus;obtain⟨h1,h2⟩:=rdRows_sound hr;have hcap:=capOk_sound g hc.2;have hm:=readN_mem (σ:=σ) (A:=[]) hus;have hl:=readN_len hus;refine⟨some ⟨σ.blk b,σ.off b,none⟩,rnC σ b c,σ.blk b,σ.off b,fun i=>((us.drop (i*w)).take w).map (rn σ),?_,fun _=>⟨rfl,Zo⟩,fun i hi y hy=>?_,fun i x hx=>⟨_,rfl,h2 i x hx⟩⟩
  ·rw[h1,rn_slice];rfl
  ·refine hm y ?_;rw[QU];refine cellsAt_mem_sub (i:=i*w) (m:=w) ?_ y hy;show((us.drop (i*w)).take w).map (rn σ)=((us.map (rn σ)).drop (i*w)).take w;rw[List.map_take,List.map_drop]
 ·cases hr
def rdStr:List Value->Option ByteArray
 |[.string s]=>match Nat.ble s.size 1000 with|true=>some s|false=>none
 |_=>none
def rdStrs(h:Mp)(v:Value):Option (List ByteArray):=match rdSl h 1 rdStr v with
 |some l=>match Nat.ble l.length 1000 with|true=>some l|false=>none
 |none=>none
theorem rdStrs_sound {N0 nx:Nat}{σ:Sg}{vals:List Value}{h:Mp}(g:ke N0 σ vals h nx){v:Value}{l:List ByteArray}(hr:rdStrs h v=some l):RdT (kT [] σ h) (rn σ v) l:=by
 unfold rdStrs at hr;split at hr
 case h_2=>cases hr
 rename_i l' hl;split at hr
 case h_2=>cases hr
 rename_i hb;obtain rfl:=Qn hr;have hb:=bleT hb;obtain⟨a,c,bk,o,us,h1,h2,h3,h4⟩:=rdSl_sound g hl;refine⟨a,c,h1,Zo,fun i t ht=>?_⟩;have hi:=(Vd.1 ht).1;obtain⟨ws,e1,e2⟩:=h4 i t ht;unfold rdStr at e2;split at e2
 case h_2=>cases e2
 rename_i s;split at e2
 case h_2=>cases e2
 rename_i hs;obtain rfl:=Qn e2;refine⟨bk,o,(h2 Zo).1,?_,by have:=bleT hs;omega⟩;refine h3 i hi _ ?_;rw[e1,Nat.mul_one];exact kI.2 ⟨0,.string s,Zs,rfl⟩
def ndOkB(k lk ln lb p:Int)(s lt:ByteArray)(n:Nat):Bool:=decide (0<=k/\k < 256/\0<=lk/\lk < 256/\0<=lb/\lb < 18446744073709551616)&&decide (-9223372036854775808<=ln/\ln<=9223372036854775807/\-9223372036854775808<=p/\p<=9223372036854775807)&&(Nat.ble s.size 1000&&Nat.ble lt.size 1000&&Nat.ble n 1000)
def rdNdC(kr:Value->Option (List Nd))(h:Mp):List Value->Option Nd
 |[.int .u8 k,.string s,.int .u8 lk,.int .i64 ln,.int .u64 lb,.string lt,.slice none 0 _,av,tv,kv,.int .i64 p]=>match rdStrs h av with
  |some a=>match rdStrs h tv with
   |some t=>match kr kv with
    |some ks=>match ndOkB k lk ln lb p s lt ks.length with
     |true=>some (.mk k.toNat s (.mk lk.toNat ln lb.toNat lt []) a t ks p)
     |false=>none
    |none=>none
   |none=>none
  |none=>none
 |_=>none
def rdNds:Nat->Mp->Value->Option (List Nd)
 |0,_,_=>none
 |f+1,h,v=>rdSl h 11 (rdNdC (rdNds f h) h) v
theorem rdNds_sound {N0 nx:Nat}{σ:Sg}{vals:List Value}{h:Mp}(g:ke N0 σ vals h nx):∀(f:Nat) (v:Value) (l:List Nd),rdNds f h v=some l->
 ∃(a:Option Addr) (c bk o:Nat) (us:Nat->List Value),rn σ v=.slice a l.length c/\(0 < l.length->a=some ⟨bk,o,none⟩/\l.length<=c)/\(∀i,i < l.length->∀y∈kA bk (o+i*11) (us i),y∈kT [] σ h)/\∀i x,l[i]? =some x->jQ (kT [] σ h) x (us i):=by
 intro f
 induction f with
 |zero=>intro v l h;cases h
 |succ f ih=>
  intro v l hr;obtain⟨a,c,bk,o,us,h1,h2,h3,h4⟩:=rdSl_sound g hr;refine⟨a,c,bk,o,us,h1,h2,h3,fun i x hx=>?_⟩;obtain⟨ws,e1,e2⟩:=h4 i x hx;rw[e1];unfold rdNdC at e2;split at e2
  case h_2=>cases e2
  rename_i k s lk ln lb lt lc av tv kv p;split at e2
  case h_2=>cases e2
  rename_i A hA;split at e2
  case h_2=>cases e2
  rename_i T hT;split at e2
  case h_2=>cases e2
  rename_i ks hks;split at e2
  case h_2=>cases e2
  rename_i hok;obtain rfl:=Qn e2;unfold ndOkB at hok;simp only[vF,decide_eq_true_eq]at hok;obtain⟨⟨⟨b1,b2,b3,b4,b5,b6⟩,b7,b8,b9,b10⟩,⟨b11,b12⟩,b13⟩:=hok;have b11:=bleT b11;have b12:=bleT b12;have b13:=bleT b13;obtain⟨a',c',bk',o',us',k1,k2,k3,k4⟩:=ih kv ks hks;have hlt:LtRd (kT [] σ h) (.mk lk.toNat ln lb.toNat lt []) [cv lk.toNat,vi ln,uv lb.toNat,.string lt,.slice none 0 lc]:=.mk (a:=none) (c:=lc) (bk:=0) (o:=0) (us:=fun _=>[]) ⟨Zo,Zo,Zo,Zo,Zd⟩ (fun h=>absurd h Zs) (fun i hi=>absurd hi Zs) (fun i x hx=>by simp at hx);have hav:=rdStrs_sound g hA;have htv:=rdStrs_sound g hT;by_cases hk0:0 < ks.length
  ·obtain⟨k5,k6⟩:=k2 hk0;have:=jQ.mk (k:=k.toNat) (s:=s) (p:=p) (a:=a') (c:=c') (bk:=bk') (o:=o') (us:=us') (kids:=ks) ⟨Zo,Zo,Zo,Zo⟩ hlt hav htv (fun _=>k5) k3 k4 k6;have e:([Value.int .u8 k,.string s,.int .u8 lk,.int .i64 ln,.int .u64 lb,.string lt,.slice none 0 lc,av,tv,kv,.int .i64 p]).map (rn σ)=[cv k.toNat,.string s]++[cv lk.toNat,vi ln,uv lb.toNat,.string lt,.slice none 0 lc]++[rn σ av,rn σ tv,.slice a' ks.length c',vi p]:=by
    exact zBP
   rw[e];exact this
  ·have hkn:ks=[]:=vj Zo;subst hkn;have:=jQ.mk (k:=k.toNat) (s:=s) (p:=p) (a:=a') (c:=c') (bk:=bk') (o:=o') (us:=us') (kids:=[]) ⟨Zo,Zo,Zs,Zo⟩ hlt hav htv (fun h=>absurd h Zs) k3 k4 (Qf _);have e:([Value.int .u8 k,.string s,.int .u8 lk,.int .i64 ln,.int .u64 lb,.string lt,.slice none 0 lc,av,tv,kv,.int .i64 p]).map (rn σ)=[cv k.toNat,.string s]++[cv lk.toNat,vi ln,uv lb.toNat,.string lt,.slice none 0 lc]++[rn σ av,rn σ tv,.slice a' ([]:List Nd).length c',vi p]:=by
    exact zBP
   rw[e];exact this
end Go.V
namespace Go.V
open Go
def laidA {α:Type}{X F:α}(_h:F=X:=by(dsimp only[qm,qk,qz,qo,ql,qf,qi,qb,qc,qn,qs,qp,qa,qr,qe,tmps,qx,qL,qN,qB,qt,qu,qS,qC,nthO,ordO,ordsO,qD] <;> exact rfl)):α:=F
end Go.V
namespace Go.Proofs.YtijnokbblmbpkaaGreatDoor
open Go Go.V
set_option maxRecDepth 100000
def F192:FIR:=laid (X:=⟨21,[.tmp 2],(qS [qz 2 false] [0] (qS [qm 3 0,qo 4 (.bin .leq (.const (.int .u8 97)) (.tmp 3)),qm 5 4,qt 5 (qm 6 0),
 qt 5 (qo 7 (.bin .leq (.tmp 6) (.const (.int .u8 122)))),qa 8 5 7,qm 9 8,qu 9 (qm 10 0),
 qu 9 (qo 11 (.bin .leq (.const (.int .u8 65)) (.tmp 10))),qu 9 (qm 12 11),qt 12 (qm 13 0),
 qt 12 (qo 14 (.bin .leq (.tmp 13) (.const (.int .u8 90)))),qu 9 (qa 15 12 14),qr 16 9 15,qm 17 16,qu 17 (qm 18 0),
 qu 17 (qo 19 (.bin .eql (.tmp 18) (.const (.int .u8 95)))),qr 20 17 19,qm 2 20] [2] .ret))⟩)
theorem n192:F192.n=21:=rfl
theorem low192:ki Tryz.prog (kpO F192) (kQ []) 192=some F192:=by kernel_rfl
def F197:FIR:=laid (X:=⟨9,[.tmp 2],(qS [qz 2 false] [0] (qS [qm 3 0,qo 4 (.bin .leq (.const (.int .u8 48)) (.tmp 3)),qm 5 4,qt 5 (qm 6 0),
 qt 5 (qo 7 (.bin .leq (.tmp 6) (.const (.int .u8 57)))),qa 8 5 7,qm 2 8] [2] .ret))⟩)
theorem n197:F197.n=9:=rfl
theorem low197:ki Tryz.prog (kpO F197) (kQ []) 197=some F197:=by kernel_rfl
def F194:FIR:=laid (X:=⟨9,[.tmp 2],(qS [qz 2 false] [0] (qS [qm 3 0,qx 4 192 [3],qm 5 4,qu 5 (qm 6 0),qu 5 (qx 7 197 [6]),qr 8 5 7,qm 2 8] [2] .ret))⟩)
theorem n194:F194.n=9:=rfl
theorem low194:ki Tryz.prog (kpO F194) (kQ []) 194=some F194:=by kernel_rfl
def F193:FIR:=laid (X:=⟨21,[.tmp 6],(qS [qk 6 0] [0,1,2] (.seq (.block 0 (.loop (.seq (qS [qm 7 1,qm 8 0,qo 9 (.lenS (.tmp 8)),qb 10 .lss 7 9,qm 11 10,qt 11 (qm 12 2),qt 11 (qm 13 0),qt 11 (qm 14 1),
 qt 11 (qo 15 (.idxS (.tmp 13) (.tmp 14))),qt 11 (qo 16 (.callv (.tmp 12) [(.tmp 15)])),qa 17 11 16] [0,1,2,17] (qC 17 .skip (.exit 0))) (.block 1 (.reg [qm 18 1,qc 19 .add 18 1,qm 1 19] [0,1,2]))))) (qS [qm 20 1,qm 6 20] [6] .ret)))⟩)
theorem n193:F193.n=21:=rfl
theorem low193:ki Tryz.prog (kpO F193) (kQ []) 193=some F193:=by kernel_rfl
def F161:FIR:=laid (X:=⟨22,[.tmp 2],(qS [qz 2 false] [0] (qS [qm 3 0,qo 4 (.bin .neq (.tmp 3) (.const (.string ⟨#[]⟩))),qm 5 4,qt 5 (qm 6 0),qt 5 (qo 7 (.lenS (.tmp 6))),
 qt 5 (qc 8 .leq 7 40),qa 9 5 8,qm 10 9,qt 10 (qm 11 0),qt 10 (qo 12 (.idxS (.tmp 11) (.const (.int .i64 0)))),qt 10 (qx 13 192 [12]),
 qa 14 10 13,qm 15 14,qt 15 (qm 16 0),qt 15 (qo 17 (.call 193 [(.tmp 16),(.const (.int .i64 0)),(.func 194)])),qt 15 (qm 18 0),
 qt 15 (qo 19 (.lenS (.tmp 18))),qt 15 (qb 20 .eql 17 19),qa 21 15 20,qm 2 21] [2] .ret))⟩)
theorem n161:F161.n=22:=rfl
theorem low161:ki Tryz.prog (kpO F161) (kQ []) 161=some F161:=by kernel_rfl
def F162:FIR:=laid (X:=⟨6,[.tmp 2],(qS [qz 2 false] [0] (qS [qm 3 0,qo 4 (.call 195 [(.const (.string ⟨#[43,45,42,47,92,126,60,62,61,64,37,38,63,44,33]⟩)),(.tmp 3)]),
 qc 5 .geq 4 0,qm 2 5] [2] .ret))⟩)
theorem n162:F162.n=6:=rfl
theorem low162:ki Tryz.prog (kpO F162) (kQ []) 162=some F162:=by kernel_rfl
def F198:FIR:=laid (X:=⟨12,[.tmp 4],(qS [qo 4 (.mv (.const (.int .u8 0)))] [0,1] (.seq (qS [qm 5 1,qm 6 0,qo 7 (.lenS (.tmp 6)),qb 8 .lss 5 7] [0,1,8] (qC 8 (qS [qm 9 0,qm 10 1,qo 11 (.idxS (.tmp 9) (.tmp 10)),qm 4 11] [4] .ret) .skip)) (qS [qo 4 (.mv (.const (.int .u8 0)))] [4] .ret)))⟩)
theorem n198:F198.n=12:=rfl
theorem low198:ki Tryz.prog (kpO F198) (kQ []) 198=some F198:=by kernel_rfl
def F163:FIR:=laid (X:=⟨17,[.tmp 4],(qS [qB 2 9 0,qB 3 3 1,qk 4 0] [2,3] (.seq (qS [ql 6 2,ql 7 3,qo 8 (.idxS (.tmp 6) (.tmp 7)),qo 9 (.bin .eql (.tmp 8) (.const (.int .u8 124)))] [2,3,9] (qC 9 (qS [ql 10 3,qc 11 .add 10 1,qm 4 11] [4] .ret) .skip)) (qS [ql 12 3,qo 5 (.alloc 3 [(.int .i64 0)]),qs 1 5 12] [2,3,5] (qS [ql 13 2,ql 14 3,qo 15 (.clos (.func 196) [] [(.tmp 3),(.tmp 5),(.tmp 2)]),qx 16 193 [13,14,15],qm 4 16] [4] .ret))))⟩)
theorem n163:F163.n=17:=rfl
theorem low163:ki Tryz.prog (kpO F163) (kQ []) 163=some F163:=by kernel_rfl
def F196:FIR:=laid (X:=⟨29,[.tmp 5],(qS [qz 5 false] [0,1,2,3] (qS [qm 7 0,qx 8 162 [7],qm 9 8,qt 9 (ql 10 1),qt 9 (ql 11 2),qt 9 (qb 12 .eql 10 11),qt 9 (qm 13 12),qu 13 (qm 14 0),
 qu 13 (qo 15 (.bin .neq (.tmp 14) (.const (.int .u8 45)))),qt 9 (qr 16 13 15),qt 9 (qm 17 16),qu 17 (ql 18 3),qu 17 (ql 19 1),
 qu 17 (qc 20 .add 19 1),qu 17 (qx 21 198 [18,20]),qu 17 (qx 22 197 [21]),qu 17 (qo 23 (.un .not (.tmp 22))),qt 9 (qr 24 17 23),qa 25 9 24,qm 6 25] [1,6] (qS [ql 26 1,qc 27 .add 26 1,qs 1 1 27] [6] (qS [qm 28 6,qm 5 28] [5] .ret))))⟩)
theorem n196:F196.n=29:=rfl
theorem low196:ki Tryz.prog (kpO F196) (kQ []) 196=some F196:=by kernel_rfl
def F195:FIR:=laid (X:=⟨8,[.tmp 4],(qS [qk 4 0] [0,1] (qS [qm 5 0,qm 6 1,qx 7 222 [5,6],qm 4 7] [4] .ret))⟩)
theorem n195:F195.n=8:=rfl
theorem low195:ki Tryz.prog (kpO F195) (kQ []) 195=some F195:=by kernel_rfl
def F164:FIR:=laid (X:=⟨10,[.tmp 4],(qS [qo 4 (.mv (.const Value.nilFunc))] [0,1] (qS [qm 5 0,qm 6 1,qm 7 1,qo 8 (.lenS (.tmp 7)),qx 9 199 [5,6,8],qm 4 9] [4] .ret))⟩)
theorem n164:F164.n=10:=rfl
theorem low164:ki Tryz.prog (kpO F164) (kQ []) 164=some F164:=by kernel_rfl
def F199:FIR:=laid (X:=⟨8,[.tmp 6],(qS [qB 3 9 0,qB 4 9 1,qB 5 3 2,qo 6 (.mv (.const Value.nilFunc))] [3,4,5] (qS [qo 7 (.clos (.func 223) [] [(.tmp 4),(.tmp 3),(.tmp 5)]),qm 6 7] [6] .ret))⟩)
theorem n199:F199.n=8:=rfl
theorem low199:ki Tryz.prog (kpO F199) (kQ []) 199=some F199:=by kernel_rfl
def F223:FIR:=laid (X:=⟨52,[],(.seq (qS [ql 9 1,qo 10 (.lenS (.tmp 9)),qc 11 .eql 10 0] [0,1,2,3,11] (qC 11 (.seq (.block 0 (.loop (.seq (qS [ql 12 2,qo 13 (.lenS (.tmp 12)),qc 14 .gtr 13 0] [0,2,14] (qC 14 .skip (.exit 0))) (.block 1 (qS [ql 16 2,qx 17 224 [16],qm 15 17,qe 18 15 0,qe 19 15 1,qm 5 18,qm 6 19] [0,2,6] (.seq (qS [qm 20 0,ql 21 2,qm 22 6,qo 23 (.slcS (.tmp 21) none (some (.tmp 22))),qo 24 (.callv (.tmp 20) [(.tmp 23)]),
 qo 25 (.un .not (.tmp 24))] [0,2,6,25] (qC 25 .ret .skip)) (.reg [ql 26 2,qm 27 6,qo 28 (.slcS (.tmp 26) (some (.tmp 27)) none),qs 1 2 28] [0,2]))))))) .ret) .skip)) (.seq (.block 2 (.loop (.block 3 (qS [ql 29 2,ql 30 1,qx 31 225 [29,30],qm 7 31] [0,1,2,3,7] (.seq (qS [qm 32 7,qc 33 .lss 32 0] [0,1,2,3,7,33] (qC 33 (.exit 2) .skip)) (qS [ql 34 2,qm 35 7,ql 36 3,qb 37 .add 35 36,qo 38 (.slcS (.tmp 34) none (some (.tmp 37))),qm 8 38] [0,1,2,3,7,8] (.seq (qS [qm 39 0,qm 40 8,qo 41 (.callv (.tmp 39) [(.tmp 40)]),qo 42 (.un .not (.tmp 41))] [0,1,2,3,7,42] (qC 42 .ret .skip)) (.reg [ql 43 2,qm 44 7,ql 45 1,qo 46 (.lenS (.tmp 45)),qb 47 .add 44 46,qo 48 (.slcS (.tmp 43) (some (.tmp 47)) none),qs 1 2 48] [0,1,2,3])))))))) (.reg [qm 49 0,ql 50 2,qo 51 (.callv (.tmp 49) [(.tmp 50)])] [])))⟩)
theorem n223:F223.n=52:=rfl
theorem low223:ki Tryz.prog (kpO F223) (kQ []) 223=some F223:=by kernel_rfl
def F225:FIR:=laid (X:=⟨8,[.tmp 4],(qS [qk 4 0] [0,1] (qS [qm 5 0,qm 6 1,qx 7 246 [5,6],qm 4 7] [4] .ret))⟩)
theorem n225:F225.n=8:=rfl
theorem low225:ki Tryz.prog (kpO F225) (kQ []) 225=some F225:=by kernel_rfl
def F165:FIR:=laid (X:=⟨11,[.tmp 4,.tmp 5],(qS [qo 4 (.mv (.const (.string ⟨#[]⟩))),qz 5 false] [0,1] (qS [qm 6 0,qm 7 1,qx 8 200 [6,7],qe 9 8 0,qe 10 8 1,qm 4 9,qm 5 10] [4,5] .ret))⟩)
theorem n165:F165.n=11:=rfl
theorem low165:ki Tryz.prog (kpO F165) (kQ []) 165=some F165:=by kernel_rfl
def F200:FIR:=laid (X:=⟨18,[.tmp 4,.tmp 5],(qS [qo 4 (.mv (.const (.string ⟨#[]⟩))),qz 5 false] [0,1] (.seq (qS [qm 6 0,qm 7 1,qx 8 226 [6,7],qo 9 (.un .not (.tmp 8))] [0,1,9] (qC 9 (qS [qm 10 0,qm 4 10,qz 5 false] [4,5] .ret) .skip)) (qS [qm 11 0,qm 12 0,qo 13 (.lenS (.tmp 12)),qm 14 1,qo 15 (.lenS (.tmp 14)),qb 16 .sub 13 15,
 qo 17 (.slcS (.tmp 11) none (some (.tmp 16))),qm 4 17,qz 5 true] [4,5] .ret)))⟩)
theorem n200:F200.n=18:=rfl
theorem low200:ki Tryz.prog (kpO F200) (kQ []) 200=some F200:=by kernel_rfl
def F226:FIR:=laid (X:=⟨21,[.tmp 4],(qS [qz 4 false] [0,1] (qS [qm 5 0,qo 6 (.lenS (.tmp 5)),qm 7 1,qo 8 (.lenS (.tmp 7)),qb 9 .geq 6 8,qm 10 9,qt 10 (qm 11 0),qt 10 (qm 12 0),
 qt 10 (qo 13 (.lenS (.tmp 12))),qt 10 (qm 14 1),qt 10 (qo 15 (.lenS (.tmp 14))),qt 10 (qb 16 .sub 13 15),
 qt 10 (qo 17 (.slcS (.tmp 11) (some (.tmp 16)) none)),qt 10 (qm 18 1),qt 10 (qb 19 .eql 17 18),qa 20 10 19,qm 4 20] [4] .ret))⟩)
theorem n226:F226.n=21:=rfl
theorem low226:ki Tryz.prog (kpO F226) (kQ []) 226=some F226:=by kernel_rfl
def F105:FIR:=laid (X:=⟨47,[.cell1 2],(qS [qo 2 (.alloc 3 [(.int .i64 0)])] [0,2] (.seq (.block 0 (qS [qm 8 0,qx 9 161 [8],qm 7 9] [0,2,7] (qC 7 (qS [⟨none,none,.store 1 (.tmp 2) (.const (.int .i64 0))⟩] [2] .ret) (qS [qm 11 0,qo 12 (.bin .eql (.tmp 11) (.const (.string ⟨#[]⟩))),qm 10 12] [0,2,10] (qC 10 (qS [⟨none,none,.store 1 (.tmp 2) (.const (.int .i64 (-1)))⟩] [2] .ret) (qS [qm 14 0,qo 15 (.idxS (.tmp 14) (.const (.int .i64 0))),qx 16 162 [15],qm 17 16,qu 17 (qm 18 0),
 qu 17 (qo 19 (.idxS (.tmp 18) (.const (.int .i64 0)))),qu 17 (qo 20 (.bin .eql (.tmp 19) (.const (.int .u8 124)))),qr 21 17 20,
 qm 13 21] [0,2,13] (qC 13 (.seq (qS [qm 22 0,qo 23 (.call 163 [(.tmp 22),(.const (.int .i64 0))]),qm 24 0,qo 25 (.lenS (.tmp 24)),qb 26 .eql 23 25] [2,26] (qC 26 (qS [⟨none,none,.store 1 (.tmp 2) (.const (.int .i64 1))⟩] [2] .ret) .skip)) (qS [⟨none,none,.store 1 (.tmp 2) (.const (.int .i64 (-1)))⟩] [2] .ret)) .skip))))))) (qS [qo 3 (.alloc 3 [(.int .i64 0)]),⟨none,none,.store 1 (.tmp 3) (.const (.int .i64 0))⟩] [0,2,3] (.seq (qS [qm 27 0,qo 28 (.call 164 [(.tmp 27),(.const (.string ⟨#[58]⟩))])] [2,3,28] (.block 1 (.rangef (.tmp 28) [29] (.reg [qm 4 29] [2,3,4]) (.block 2 (.seq (qS [qm 30 4,qo 31 (.bin .eql (.tmp 30) (.const (.string ⟨#[]⟩)))] [2,3,4,31] (qC 31 (.exit 1) .skip)) (qS [qm 33 4,qo 34 (.call 165 [(.tmp 33),(.const (.string ⟨#[58]⟩))]),qm 32 34,qe 35 32 0,qe 36 32 1,qm 5 35,qm 6 36] [2,3,5,6] (.seq (qS [qm 37 6,qo 38 (.un .not (.tmp 37)),qm 39 38,qu 39 (qm 40 5),qu 39 (qx 41 161 [40]),qu 39 (qo 42 (.un .not (.tmp 41))),qr 43 39 42] [2,3,43] (qC 43 (qS [⟨none,none,.store 1 (.tmp 2) (.const (.int .i64 (-1)))⟩] [2] .ret) .skip)) (.reg [ql 44 3,qc 45 .add 44 1,qs 1 3 45] [])))))))) (qS [ql 46 3,qs 1 2 46] [2] .ret)))))⟩)
theorem n105:F105.n=47:=rfl
theorem low105:ki Tryz.prog (kpO F105) (kQ []) 105=some F105:=by kernel_rfl
end Go.Proofs.YtijnokbblmbpkaaGreatDoor
namespace Go.V
open Go
theorem Sat.below {w w':World}{L:List kC}(h:RowKit.Below w.heap.size w w')(hs:Sat w L):Sat w' L:=by
 refine⟨fun x hx=>?_,hs.nodup⟩;have hl:=hs.lt hx;have hh:=hs.holds x hx;cases x with
 |cell b off v=>
  obtain⟨c,t,lo,hi,hb,r⟩:=hh;exact⟨c,t,lo,hi,by rw[h.block b hl];exact hb,r⟩
 |obj b o=>exact⟨by rw[h.block b hl];exact hh.1,hh.2⟩
 |row b n=>
  exact zE4
 |own b n=>
  exact zE4
theorem kg.below {w w':World}(h:RowKit.Below w.heap.size w w'):kg w w':=
 ⟨h.os,h.output,h.size,fun i c t lo hi hi'=>⟨c,by rw[h.block i (v8.1 hi').1];exact hi',rfl,fun _ _=>rfl⟩⟩
theorem Fun.of_calls {P:Program}{f:Nat}{args:List Value}{Q:Value->Prop}(hc:ji P f=true)(h:∀w,Calls P f args.toArray w fun e w'=>∃v,e=.returned v/\Q v/\w'=w):Fun P f args [] (fun v Post=>Q v/\Post=[]):=
 ⟨hc,fun F w hs=>(h w).mono fun e w' ⟨v,h1,h2,h3⟩=>by subst h3;exact⟨v,[],h1,⟨h2,rfl⟩,hs,.refl _⟩⟩
theorem Fun.of_calls2 {P:Program}{f:Nat}{args:List Value}{Q:Value->Prop}{A:List kC}(hc:ji P f=true)(h:∀w F,Sat w (A++F)->Calls P f args.toArray w fun e w'=>∃v,e=.returned v/\Q v/\RowKit.Below w.heap.size w w'):Fun P f args [A] (fun v Post=>Q v/\Post=[A]):=
 ⟨hc,fun F w hs=>(h w F (by simpa using hs)).mono fun e w' ⟨v,h1,h2,h3⟩=>⟨v,[A],h1,⟨h2,rfl⟩,hs.below h3,.below h3⟩⟩
theorem jH(s:ByteArray):(kF s).length=s.size:=by simp[kF]
theorem bytesN_get {s:ByteArray}{i:Nat}{c:UInt8}(h:s[i]? =some c):(kF s)[i]? =some c.toNat:=by
 have hi:i < s.size:=by
  by_cases hi:i < s.size
  ·exact hi
  ·simp[hi]at h
 have h2:s.data[i]? =some c:=by
  have h3:s[i]? =some s[i]:=by simp[hi]
  rw[h3]at h;rw[<- h];exact v7 (xs:=s.data) hi
 simp[kF,h2]
theorem bytesN_lt(s:ByteArray):∀c∈kF s,c < 256:=by
 intro c hc;obtain⟨x,_,rfl⟩:=Q9.1 hc;exact x.toNat_lt
theorem jX {s t:ByteArray}(h:kF s=kF t):s=t:=by
 have h2:s.data.toList=t.data.toList:=by
  have hm:∀l m:List UInt8,l.map UInt8.toNat=m.map UInt8.toNat->l=m:=by
   intro l
   induction l with
   |nil=>intro m e;cases m with|nil=>rfl|cons=>cases e
   |cons a l ih=>
    intro m e;cases m with
    |nil=>cases e
    |cons b m=>
     simp only[Vy,ve]at e;rw[UInt8.toNat_inj.1 e.1,ih m e.2]
  exact hm _ _ h
 exact ByteArray.ext (vC.1 h2)
theorem bytesN_ex {s:ByteArray}{i:Nat}(h:i < s.size):∃c:UInt8,s[i]? =some c/\(kF s)[i]? =some c.toNat:=⟨s[i],by simp[h],bytesN_get (by simp[h])⟩
def ixN:List Nat->Nat->Int
 |[],_=>-1
 |b::l,c=>if b=c then 0 else if ixN l c=-1 then -1 else ixN l c+1
theorem ix_eq(l:List UInt8)(c:UInt8):Lib.indexByte l c=ixN (l.map UInt8.toNat) c.toNat:=by
 induction l with
 |nil=>rfl
 |cons b l ih=>
  simp only[Lib.indexByte,Vy,ixN,ih];by_cases h:b=c
  ·subst h;simp
  ·have:b.toNat≠c.toNat:=fun e=>h (UInt8.toNat_inj.1 e)
   simp[h,this]
theorem ixN_bin {c:Nat}(h:c < 256):decide (0<=ixN [43,45,42,47,92,126,60,62,61,64,37,38,63,44,33] c)=binB c:=by
 have h2:∀c:Fin 256,decide (0<=ixN [43,45,42,47,92,126,60,62,61,64,37,38,63,44,33] c.val)=binB c.val:=by decide+kernel
 exact h2 ⟨c,h⟩
theorem ixN_cases(l:List Nat)(c:Nat):(ixN l c=-1/\c∉l)∨∃p r:List Nat,l=p++c::r/\c∉p/\ixN l c=p.length:=by
 induction l with
 |nil=>exact .inl ⟨rfl,Zs⟩
 |cons b l ih=>
  by_cases h:b=c
  ·subst h;exact .inr ⟨[],l,rfl,Zs,by simp[ixN]⟩
  ·rcases ih with⟨h1,h2⟩|⟨p,r,h1,h2,h3⟩
   ·exact .inl ⟨by simp[ixN,h,h1],by simp[h2,Ne.symm h]⟩
   ·refine .inr ⟨b::p,r,by simp[h1],by simp[h2,Ne.symm h],?_⟩;have hne:¬((p.length:Int)=-1):=by omega
    simp[ixN,h,h3,hne]
theorem pieces_none:∀{l:List Nat},58∉l->jO l=[l]:=by
 intro l
 induction l with
 |nil=>intro _;rfl
 |cons b l ih=>
  intro h;simp only[Q4,not_or]at h;simp only[jO,if_neg (Ne.symm h.1),ih h.2]
theorem pieces_cons:∀{p r:List Nat},58∉p->jO (p++58::r)=(p++[58])::jO r:=by
 intro p r
 induction p with
 |nil=>intro _;simp[jO]
 |cons b p ih=>
  intro h;simp only[Q4,not_or]at h;simp only[vf,jO,if_neg (Ne.symm h.1),ih h.2]
theorem all_run {l:List Nat}{p:Nat->Bool}{e:Nat}(h1:e<=l.length)(h2:∀k,k < e->p (l.getD k 0)=true)(h3:e < l.length->p (l.getD e 0)=false):l.all p=decide (e=l.length):=by
 by_cases h:e=l.length
 ·rw[Zt h,vX];intro x hx;obtain⟨i,hi,rfl⟩:=List.getElem_of_mem hx;have:=h2 i Zo
  rwa [V5,Zg hi]at this
 ·rw[Zf h,List.all_eq_false];have hlt:e < l.length:=by omega
  have:=h3 hlt;rw[V5,Zg hlt]at this;exact⟨_,List.getElem_mem hlt,by simpa using this⟩
theorem bytesN_cons {s:ByteArray}(h:s≠⟨#[]⟩):∃(c:UInt8) (r:List Nat),s[0]? =some c/\kF s=c.toNat::r/\c.toNat < 256/\0 < s.size:=by
 have hpos:0 < s.size:=by
  rcases Nat.eq_zero_or_pos s.size with h2|h2
  ·exact absurd (ByteArray.ext (v6 h2)) h
  ·exact h2
 obtain⟨c,hc,hc2⟩:=bytesN_ex hpos;refine⟨c,(kF s).tail,hc,?_,c.toNat_lt,hpos⟩;cases hb:kF s with
 |nil=>rw[hb]at hc2;cases hc2
 |cons a r=>rw[hb]at hc2;cases hc2;rfl
theorem jt(s:ByteArray)(a b:Nat):kF (s.extract a b)=((kF s).take b).drop a:=by
 simp only[kF,ByteArray.data_extract,Array.toList_extract,List.extract_eq_take_drop,List.map_take,List.map_drop,List.drop_take]
def ofN(l:List Nat):ByteArray:=⟨(l.map Nat.toUInt8).toArray⟩
theorem bytesN_ofN {l:List Nat}(h:∀c∈l,c < 256):kF (ofN l)=l:=by
 simp only[kF,ofN,Vz]
 conv=>rhs;rw[<- List.map_id l]
 refine Vx fun c hc=>?_
 exact Nat.mod_eq_of_lt (h c hc)
theorem pieces_flat(l:List Nat):(jO l).flatten=l:=by
 induction l with
 |nil=>rfl
 |cons c r ih=>
  simp only[jO];split
  ·rename_i h;simp[ih,h]
  ·cases h:jO r with
   |nil=>rw[h]at ih;simp at ih;simp[<- ih]
   |cons p ps=>rw[h]at ih;simp at ih|-;exact ih
theorem pieces_ex(t:ByteArray):∃full:List ByteArray,full.map kF=jO (kF t):=by
 have h:∀p∈jO (kF t),∀c∈p,c < 256:=fun p hp c hc=>bytesN_lt t c (by rw[<- pieces_flat (kF t)];exact List.mem_flatten.2 ⟨p,hp,hc⟩)
 generalize jO (kF t)=l at h;refine⟨l.map ofN,?_⟩;rw[Vz]
 conv=>rhs;rw[<- List.map_id l]
 exact Vx fun p hp=>bytesN_ofN (h p hp)
theorem runL_eq {on:List Nat->Bool}:∀{l:List Nat} {e:Nat},e<=l.length->(∀k,k < e->on (l.drop k)=true)->(e < l.length->on (l.drop e)=false)->runL on l=e:=by
 intro l
 induction l with
 |nil=>intro e h _ _;simp at h;simp[runL,h]
 |cons c r ih=>
  intro e h h2 h3;cases e with
  |zero=>
   have:=h3 Zs;simp only[List.drop_zero]at this;simp[runL,this]
  |succ e=>
   have h0:=h2 0 Zo;simp only[List.drop_zero]at h0;have:=ih (e:=e) (by simpa using h) (fun k hk=>by simpa using h2 (k+1) Zo) (fun hk=>by simpa using h3 (by simpa using hk));simp[runL,h0,this];omega
theorem signOn_drop {l:List Nat}{k:Nat}{c:Nat}(h:l[k]? =some c):signOn (l.drop k)=(binB c&&(decide (c≠45)||!digB (l.getD (k+1) 0))):=by
 obtain⟨hk,rfl⟩:=Vd.1 h;rw[vh hk];simp only[signOn]
 congr 2
 rw[V5];by_cases h2:k+1 < l.length
 ·rw[vh h2];simp[h2]
 ·rw[List.drop_eq_nil_of_le Zo,Vb Zo];rfl
theorem sign_run {c:Nat}{r:List Nat}{e:Nat}(h0:c≠124)(hb:binB c=true)(h1:e<=(c::r).length)(h2:∀k,k < e->1<=k->signOn ((c::r).drop k)=true)(h3:e < (c::r).length->1<=e/\signOn ((c::r).drop e)=false):signL (c::r)=e∨(e=0):=by
 cases e with
 |zero=>exact .inr rfl
 |succ e=>
  left;simp only[signL,if_neg h0,hb,if_true];have:=runL_eq (on:=signOn) (l:=r) (e:=e) (by simpa using h1) (fun k hk=>by simpa using h2 (k+1) Zo Zo) (fun hk=>by simpa using(h3 (by simpa using hk)).2);omega
theorem bytesN_append(s t:ByteArray):kF (s++t)=kF s++kF t:=by
 simp[kF]
end Go.V
namespace Go.Proofs.YtijnokbblmbpkaaGreatDoor
open Go Go.V Go.Shelf
set_option maxHeartbeats 3200000
set_option maxRecDepth 100000
shelf_lay Lays.n217 Nm 217 at Tryz as Tryz.sl217
shelf_lay Lays.n219 Nm 219 at Tryz as Tryz.sl219
theorem ixb_spec(s:ByteArray)(c:Nat)(hc:c < 256):Fun Tryz.prog 222 [.string s,cv c] [] (fun v Post=>v=vi (ixN (kF s) c)/\Post=[]):=by
 refine Fun.of_calls (by kernel_rfl) (fun w=>(Any.stringslite_IndexByte Tryz.sl217 s c w).mono ?_)
 rintro e w' ⟨rfl,rfl⟩
 refine⟨_,rfl,?_,rfl⟩;have hx:((c:Int).toNat.toUInt8).toNat=c:=by
  rw[vS];exact Nat.mod_eq_of_lt hc
 rw[ix_eq,hx];rfl
theorem ixs_spec(s:ByteArray):Fun Tryz.prog 246 [.string s,.string ⟨#[58]⟩] [] (fun v Post=>v=vi (ixN (kF s) 58)/\Post=[]):=by
 refine Fun.of_calls (by kernel_rfl) (fun w=>(Any.stringslite_Index_one Tryz.sl219 s 58 w).mono ?_)
 rintro e w' ⟨rfl,rfl⟩
 exact⟨_,rfl,by rw[ix_eq];rfl,rfl⟩
theorem letter_spec(c:Nat)(hc:c < 256):Fun Tryz.prog 192 [cv c] [] (fun v Post=>v=.bool (letB c)/\Post=[]):=by
 refine Fun.intro low192 (by simp[n192]) ?_
 (repeat' (first|refine GOPH ?_|refine st_gcase Zr (fun _=>?_) (fun _=>?_)|refine st_pcase Zr (fun _=>?_) (fun _=>?_)|refine VC.seq_cond Zr (fun _=>?_) (fun _=>?_)|refine VC.cond Zr (fun _=>?_) (fun _=>?_)))
 all_goals refine⟨.inr rfl,_,_,.tmp Zr .nil,ZI,?_,rfl⟩
 all_goals (simp only[tup,letB,Value.bool.injEq,decide_eq_true_eq,decide_eq_false_iff_not]at*)
 all_goals (rw[Bool.eq_iff_iff];simp only[vO,vF,vK,decide_eq_true_eq,decide_eq_false_iff_not,true_iff,iff_true,reduceCtorEq,false_iff,iff_false];omega)
theorem digit_spec(c:Nat)(hc:c < 256):Fun Tryz.prog 197 [cv c] [] (fun v Post=>v=.bool (digB c)/\Post=[]):=by
 refine Fun.intro low197 (by simp[n197]) ?_
 (repeat' (first|refine GOPH ?_|refine st_gcase Zr (fun _=>?_) (fun _=>?_)|refine st_pcase Zr (fun _=>?_) (fun _=>?_)|refine VC.seq_cond Zr (fun _=>?_) (fun _=>?_)|refine VC.cond Zr (fun _=>?_) (fun _=>?_)))
 all_goals refine⟨.inr rfl,_,_,.tmp Zr .nil,ZI,?_,rfl⟩
 all_goals (simp only[tup,digB,Value.bool.injEq,decide_eq_true_eq,decide_eq_false_iff_not]at*)
 all_goals (rw[Bool.eq_iff_iff];simp only[vO,vF,vK,decide_eq_true_eq,decide_eq_false_iff_not,true_iff,iff_true,reduceCtorEq,false_iff,iff_false];omega)
theorem inner_spec(c:Nat)(hc:c < 256):Fun Tryz.prog 194 [cv c] [] (fun v Post=>v=.bool (innB c)/\Post=[]):=by
 refine Fun.intro low194 (by simp[n194]) ?_;refine GOH ?_;refine kV (letter_spec c hc) Zr ?_;cases hl:letB c with
 |true=>
  refine GOH ?_;refine⟨.inr rfl,_,_,.tmp Zr .nil,ZI,?_,rfl⟩;simp[tup,innB,hl]
 |false=>
  refine GOH ?_;refine kV (digit_spec c hc) Zr ?_;refine GOH ?_;refine⟨.inr rfl,_,_,.tmp Zr .nil,ZI,?_,rfl⟩;simp[tup,innB,hl]
theorem binary_spec(c:Nat)(hc:c < 256):Fun Tryz.prog 162 [cv c] [] (fun v Post=>v=.bool (binB c)/\Post=[]):=by
 refine Fun.intro low162 (by simp[n162]) ?_;have hb:=ixN_bin hc;have h:Fun Tryz.prog 195 [.string ⟨#[43,45,42,47,92,126,60,62,61,64,37,38,63,44,33]⟩,cv c] [] (fun v Post=>v=vi (ixN [43,45,42,47,92,126,60,62,61,64,37,38,63,44,33] c)/\Post=[]):=by
  refine Fun.intro low195 (by simp[n195]) ?_;refine GOH ?_;refine kV (ixb_spec _ c hc) Zr ?_;exact zDA
 generalize ixN [43,45,42,47,92,126,60,62,61,64,37,38,63,44,33] c=z at h hb;refine GOH ?_;refine kV h Zr ?_;refine GOH ?_;refine⟨.inr rfl,_,_,.tmp Zr .nil,ZI,?_,rfl⟩;simp only[tup,<- hb]
theorem peek_spec(s:ByteArray)(hs:s.size<=140737488355328)(k:Nat):Fun Tryz.prog 198 [.string s,vi k] [] (fun v Post=>v=cv ((kF s).getD k 0)/\Post=[]):=by
 refine Fun.intro low198 (by simp[n198]) ?_;refine GOH ?_;by_cases h:k < s.size
 ·rw[Zt Zo];obtain⟨c,hc,hc2⟩:=bytesN_ex h;refine GOH ?_;refine st_idxS Zr Zr (j:=k) rfl hc ?_;refine GOH ?_;refine⟨.inr rfl,_,_,.tmp Zr .nil,ZI,?_,rfl⟩;simp[tup,V5,hc2]
 ·rw[Zf Zo];refine GOH ?_;refine⟨.inr rfl,_,_,.tmp Zr .nil,ZI,?_,rfl⟩;have:(kF s)[k]? =none:=Vb (by rw[jH];omega);simp[tup,V5,this]
theorem run_spec(s:ByteArray)(hs:s.size<=140737488355328)(a:Nat)(ha:a<=s.size)(fv:Value)(I:Nat->SH)(on:Nat->Bool)
 (h:∀k c,a<=k->(kF s)[k]? =some c->FunV Tryz.prog fv [cv c] (I k) (fun v Post=>v=.bool (on k)/\Post=I (k+1))):
 Fun Tryz.prog 193 [.string s,vi a,fv] (I a) (fun v Post=>∃e j:Nat,v=vi e/\a<=e/\e<=s.size/\(∀k,a<=k->k < e->on k=true)/\(e < s.size->on e=false)/\Post=I j):=by
 refine Fun.intro low193 (by simp[n193]) ?_;refine GOH ?_;refine VC.loop (α:=Nat) (Γf:=fun k=>[(0,.string s),(1,vi k),(2,fv)]) (Hf:=fun k=>I k) (I:=fun k=>a<=k/\k<=s.size/\∀i,a<=i->i < k->on i=true) (μ:=fun k=>s.size - k) a ⟨QW _,ha,fun i _ _=>by omega⟩ ZU (Imp.refl _) ?_
 rintro k ⟨i1,i2,i3⟩
 refine GOH ?_;by_cases hk:k < s.size
 ·rw[Zt Zo];obtain⟨c,hc,hc2⟩:=bytesN_ex hk;refine GOH ?_;refine st_idxS Zr Zr (j:=k) rfl hc ?_;refine GOH ?_;refine st_callV Zr (h k _ i1 hc2) Zr (R:=[]) (by simp[V.Spl]) ?_
  rintro v Post ⟨rfl,rfl⟩
  rw[vd];cases ho:on k with
  |true=>
   refine GOH ?_;refine⟨k+1,⟨Zo,Zo,fun i g1 g2=>?_⟩,Zo,ZU,Imp.refl _⟩;by_cases e:i=k
   ·subst e;exact ho
   ·exact i3 i g1 Zo
  |false=>
   refine GOH ?_;exact kG (Post:=I (k+1)) (.inr rfl) (.tmp Zr .nil) ⟨k,k+1,rfl,i1,i2,i3,fun _=>ho,rfl⟩ (Imp.refl _)
 ·rw[Zf Zo];refine GOH ?_;exact kG (Post:=I k) (.inr rfl) (.tmp Zr .nil) ⟨k,k,rfl,i1,i2,i3,fun hh=>absurd hh hk,rfl⟩ (Imp.refl _)
theorem name_spec(s:ByteArray)(hs:s.size<=140737488355328):Fun Tryz.prog 161 [.string s] [] (fun v Post=>v=.bool (nameS s)/\Post=[]):=by
 refine Fun.intro low161 (by simp[n161]) ?_;have hlen:=jH s;unfold nameS nameL;refine GOH ?_;by_cases h0:s=⟨#[]⟩
 ·subst h0;exact zDA
 obtain⟨c,r,hc,hr,hc256,hpos⟩:=bytesN_cons h0;rw[Zf h0,vL];refine GOH ?_;by_cases h40:s.size<=40;rotate_left
 ·rw[Zf Zo];refine GOH ?_;refine⟨.inr rfl,_,_,.tmp Zr .nil,ZI,?_,rfl⟩;have h2:¬(c.toNat::r).length<=40:=by rw[<- hr];omega
  simp only[tup,hr,Zf h2,vH]
 rw[Zt Zo];refine GOH ?_;refine st_idxS Zr Zr (j:=0) rfl hc ?_;refine GOH ?_;refine kV (letter_spec _ hc256) Zr ?_;cases hl:letB c.toNat with
 |false=>
  refine GOH ?_;refine⟨.inr rfl,_,_,.tmp Zr .nil,ZI,?_,rfl⟩;simp[tup,hr,hl]
 |true=>
  refine GOH ?_;refine kM (run_spec s hs 0 Zo (.func (.func 194) #[] #[]) (fun _=>[]) (fun k=>innB ((kF s).getD k 0)) (fun k x _ hx=>FunV.of_fun ?_)) Zr ZP (fun v Post hv=>?_)
  ·rw[V5,hx];exact inner_spec _ (bytesN_lt s _ (Zv hx))
  obtain⟨e,j,rfl,e1,e2,e3,e4,rfl⟩:=hv;have hall:=all_run (l:=kF s) (p:=innB) (e:=e) Zo (fun k hk=>e3 k Zo hk) (fun hk=>e4 Zo);have h2:(c.toNat::r).length<=40:=by rw[<- hr];omega
  simp only[QD];refine GOH ?_;refine⟨.inr rfl,_,_,.tmp Zr .nil,ZI,?_,rfl⟩;rw[hr]at hall;simp only[tup,hr,Zt h2,hl,hall,vR,Value.bool.injEq];rw[<- hr,hlen]
  (rw[Bool.eq_iff_iff];simp only[vO,vF,vK,decide_eq_true_eq,decide_eq_false_iff_not,true_iff,iff_true,reduceCtorEq,false_iff,iff_false];omega)
end Go.Proofs.YtijnokbblmbpkaaGreatDoor
namespace Go.Proofs.YtijnokbblmbpkaaGreatDoor
open Go Go.V
set_option maxHeartbeats 3200000
set_option maxRecDepth 100000
theorem sign1_spec(pa pf ps:Nat)(s:ByteArray)(hs:s.size<=140737488355328)(k c:Nat)(hk:k < s.size)(hc:c < 256):
 Fun Tryz.prog 196 [cv c,kE pa,kE pf,kE ps] [kA pa 0 [vi k],kA pf 0 [vi 0],kA ps 0 [.string s]] (fun v Post=>v=.bool (binB c&&(decide (k=0)||decide (c≠45)||!digB ((kF s).getD (k+1) 0)))/\Post=[kA pa 0 [vi ((k:Int)+1)],kA pf 0 [vi 0],kA ps 0 [.string s]]):=by
 refine Fun.intro low196 (by simp[n196]) ?_;have hd:(kF s).getD (k+1) 0 < 256:=by
  rw[V5];cases h:(kF s)[k+1]? with
  |none=>decide
  |some x=>exact bytesN_lt s _ (Zv h)
 have hp:=peek_spec s hs (k+1);generalize (kF s).getD (k+1) 0=d at hd hp|-;refine GOH ?_;refine kV (binary_spec c hc) Zr ?_;cases hb:binB c with
 |false=>
  refine GOH ?_;refine kG (.inr rfl) (.tmp Zr .nil) ⟨by simp[tup],rfl⟩ ZI
 |true=>
  refine GOH ?_;by_cases h0:k=0
  ·rw[Zt (show(k:Int)=0 by omega)];refine GOH ?_;refine kG (.inr rfl) (.tmp Zr .nil) ⟨by simp[tup,h0],rfl⟩ ZI
  rw[Zf (show ¬(k:Int)=0 by omega)];refine GOH ?_;by_cases h45:c=45;rotate_left
  ·rw[show decide ((c:Int)=45)=false from Zf Zo];exact zCT
  rw[show decide ((c:Int)=45)=true from Zt Zo];refine GOH ?_;refine kV hp Zr ?_;refine GOH ?_;refine kV (digit_spec d hd) Zr ?_;cases hdd:digB d
  ·exact zCT
  ·exact zCT
theorem sign_spec(s:ByteArray)(hs:s.size<=140737488355328)(c:UInt8)(r:List Nat)(hc:s[0]? =some c)(hr:kF s=c.toNat::r)(hb:c.toNat=124∨binB c.toNat=true):
 Fun Tryz.prog 163 [.string s,vi 0] [] (fun v Post=>v=vi (signL (kF s))/\Post=[]):=by
 refine Fun.intro low163 (by simp[n163]) ?_;have hlen:=jH s;have hpos:0 < s.size:=by rw[<- hlen,hr];simp
 refine GOH ?_;refine kd Zr (fun ps=>?_);simp only[Value.cells];refine GOH ?_;refine kd Zr (fun pa=>?_);simp only[Value.cells];refine GOH ?_;refine st_idxS Zr Zr (j:=0) rfl hc ?_;refine GOH ?_;by_cases h0:c.toNat=124
 ·rw[show decide ((c.toNat:Int)=124)=true from Zt Zo];refine GOH ?_;refine kG (Post:=[]) (.inr rfl) (.tmp Zr .nil) ⟨by simp[tup,hr,signL,h0],rfl⟩ ZI
 rw[show decide ((c.toNat:Int)=124)=false from Zf Zo];have hbin:binB c.toNat=true:=by
  rcases hb with h|h
  ·exact absurd h h0
  ·exact h
 refine GOH ?_;refine kL (fun pf=>?_);refine GOH ?_;have hrun:=run_spec s hs 0 Zo (.func (.func 196) #[] #[kE pa,kE pf,kE ps]) (fun k=>[kA pa 0 [vi k],kA pf 0 [vi 0],kA ps 0 [.string s]])
  (fun k=>binB ((kF s).getD k 0)&&(decide (k=0)||decide ((kF s).getD k 0≠45)||!digB ((kF s).getD (k+1) 0))) (fun k x _ hx=>FunV.of_fun (by
    have hk:k < s.size:=by rw[<- hlen];exact(Vd.1 hx).1
    have:=sign1_spec pa pf ps s hs k x hk (bytesN_lt s _ (Zv hx));rw[V5 (i:=k),hx];exact this))
 simp only[show((0:Nat):Int)=0 from rfl]at hrun;refine kM hrun Zr ZP (fun v Post hv=>?_);obtain⟨e,j,rfl,e1,e2,e3,e4,rfl⟩:=hv;simp only[CNx];refine GOH ?_;refine kG (Post:=[]) (.inr rfl) (.tmp Zr .nil) ⟨?_,rfl⟩ ZI;have hget:∀k,k < s.size->∃x,(kF s)[k]? =some x/\(kF s).getD k 0=x:=fun k hk=>by
  obtain⟨x,_,hx⟩:=bytesN_ex hk;exact⟨_,hx,by rw[V5,hx];rfl⟩
 have he0:e≠0:=fun e0=>by
  subst e0;have:=e4 hpos;rw[hr]at this;simp[hbin]at this
 have hon:∀k,1<=k->k < s.size->signOn ((kF s).drop k)=(binB ((kF s).getD k 0)&&(decide (k=0)||decide ((kF s).getD k 0≠45)||!digB ((kF s).getD (k+1) 0))):=fun k h1 hk=>by
  obtain⟨x,hx,hx2⟩:=hget k hk;rw[signOn_drop hx,hx2,Zf (show ¬k=0 by omega),vJ]
 have:=sign_run (c:=c.toNat) (r:=r) (e:=e) h0 hbin (by rw[<- hr];omega) (fun k h1 h2=>by rw[<- hr,hon k h2 Zo];exact e3 k Zo h1) (fun hk=>by
  rw[<- hr]at hk|-;exact⟨Zo,by rw[hon e Zo Zo];exact e4 Zo⟩)
 rcases this with h|h
 ·rw[hr,h];rfl
 ·exact absurd h he0
theorem keys_iter(qs qt qn:Nat)(s:ByteArray)(hs:s.size<=140737488355328):
 Iter Tryz.prog (.func (.func 223) #[] #[kE qs,kE qt,kE qn]) (fun x=>[.string x]) [kA qs 0 [.string ⟨#[58]⟩],kA qt 0 [.string s],kA qn 0 [vi 1]] [] (fun full=>full.map kF=jO (kF s)):=by
 intro y J SP hy A hA;refine FunV.of_fun (first:=#[]) (cap:=#[kE qs,kE qt,kE qn]) ?_;show Fun Tryz.prog 223 [y,kE qs,kE qt,kE qn] _ _;refine Fun.intro low223 (by simp[n223]) ?_;simp only[CNx];refine GOH ?_;refine VC.loop (α:=List ByteArray×ByteArray×List kC) (Γf:=fun _=>[(0,y),(1,kE qs),(2,kE qt),(3,kE qn)]) (Hf:=fun st=>[kA qs 0 [.string ⟨#[58]⟩],kA qt 0 [.string st.2.1],kA qn 0 [vi 1],st.2.2])
  (I:=fun st=>st.1.map kF++jO (kF st.2.1)=jO (kF s)/\st.2.1.size<=s.size/\J st.1 st.2.2) (μ:=fun st=>st.2.1.size) ([],s,A) ⟨rfl,QW _,hA⟩ ZU ZI ?_
 rintro⟨c,t,A1⟩ ⟨i1,i2,i3⟩
 simp only at i1 i2 i3;dsimp only;have hlen:=jH t;have hix:Fun Tryz.prog 225 [.string t,.string ⟨#[58]⟩] [] (fun v Post=>v=vi (ixN (kF t) 58)/\Post=[]):=by
  refine Fun.intro low225 (by simp[n225]) ?_;refine GOH ?_;refine kV (ixs_spec t) Zr ?_;exact zDA
 refine GOH ?_;refine kV hix Zr ?_;rcases ixN_cases (kF t) 58 with⟨h1,h2⟩|⟨p,r,h1,h2,h3⟩
 ·rw[h1];refine GOH ?_;have hfull:(c++[t]).map kF=jO (kF s):=by rw[<- i1,pieces_none h2];simp
  refine st_callV Zr (hy c t A1 ⟨[],by simpa using hfull⟩ i3) Zr ZP (fun v Post hv=>?_);rcases hv with⟨rfl,A',hA',rfl⟩|⟨rfl,B',hB',rfl⟩
  ·simp only[CNx];refine GOH ?_;exact kG (Post:=[A']) (.inl rfl) .nil ⟨rfl,.inl ⟨c++[t],A',hfull,hA',rfl⟩⟩ ZI
  ·simp only[CNx];refine GOH ?_;exact kG (Post:=[B']) (.inl rfl) .nil ⟨rfl,.inr ⟨c++[t],B',⟨[],by simpa using hfull⟩,hB',rfl⟩⟩ ZI
 ·have hsz:t.size=p.length+1+r.length:=by rw[<- hlen,h1];simp;omega
  have hx:kF (t.extract 0 (p.length+1))=p++[58]:=by
   rw[jt,h1,show p++58::r=(p++[58])++r by simp,List.take_left' Zs];rfl
  have hy2:kF (t.extract (p.length+1) t.size)=r:=by
   rw[jt,QR Zo,h1];simp[List.drop_append]
  have hys:(t.extract (p.length+1) t.size).size=r.length:=by rw[<- jH,hy2]
  have hpc:=pieces_cons (p:=p) (r:=r) h2;rw[<- h1]at hpc;obtain⟨full,hful⟩:=pieces_ex (t.extract (p.length+1) t.size);rw[hy2]at hful;have hok:OkC (fun full=>full.map kF=jO (kF s)) (c++[t.extract 0 (p.length+1)]):=⟨full,by rw[<- i1,hpc];simp[hx,hful]⟩;rw[h3];refine GOH ?_;rw[Zf (show ¬((p.length:Int) < 0) by omega)];refine GOH ?_;refine st_slcS (l:=0) (h:=p.length+1) Zr .dft (.num Zr) Zo ?_;refine GOH ?_;refine st_callV Zr (hy c _ A1 hok i3) Zr ZP (fun v Post hv=>?_);rcases hv with⟨rfl,A',hA',rfl⟩|⟨rfl,B',hB',rfl⟩
  ·simp only[CNx];refine GOH ?_;rw[show(((⟨#[58]⟩:ByteArray).size:Nat):Int)=1 from rfl,wrap64 (show -9223372036854775808<=(p.length:Int)+1/\(p.length:Int)+1<=9223372036854775807 by omega)];refine st_slcS (l:=p.length+1) (h:=t.size) Zr (.num Zr) .dft Zo ?_;refine GOH ?_;exact⟨(c++[t.extract 0 (p.length+1)],t.extract (p.length+1) t.size,A'),⟨by simp only[hy2];rw[<- i1,hpc];simp[hx],by simp only[hys];omega,hA'⟩,by simp only[hys];omega,ZU,ZI⟩
  ·exact zDM
theorem cutSuffix_spec(s:ByteArray)(hs:s.size<=140737488355328):Fun Tryz.prog 165 [.string s,.string ⟨#[58]⟩] [] (fun v Post=>∃t,v=.tuple #[.string t,.bool (decide ((kF s).getLast? =some 58))]/\((kF s).getLast? =some 58->kF t=(kF s).dropLast)/\t.size<=s.size/\Post=[]):=by
 have hlen:=jH s;have hlast:∀(h:1<=s.size),s.extract (s.size - 1) s.size=⟨#[58]⟩↔(kF s).getLast? =some 58:=fun h=>by
  have hb:kF (s.extract (s.size - 1) s.size)=(kF s).drop (s.size - 1):=by rw[jt,QR Zo]
  rw[List.getLast?_eq_getElem?,hlen];constructor
  ·intro e;rw[e]at hb;have:(kF s).drop (s.size - 1)=[58]:=hb.symm;have h2:=congrArg (fun l=>l[0]?) this;simpa using h2
  ·intro e;apply jX;rw[hb];obtain⟨hk,hv⟩:=Vd.1 e;rw[vh hk,hv,List.drop_eq_nil_of_le Zo];rfl
 have hsuf:Fun Tryz.prog 226 [.string s,.string ⟨#[58]⟩] [] (fun v Post=>v=.bool (decide ((kF s).getLast? =some 58))/\Post=[]):=by
  refine Fun.intro low226 (by simp[n226]) ?_;refine GOH ?_;rw[show(((⟨#[58]⟩:ByteArray).size:Nat):Int)=1 from rfl];by_cases h:1<=s.size
  ·rw[Zt (show(s.size:Int) ≥ 1 by omega)];refine GOH ?_;rw[show(((⟨#[58]⟩:ByteArray).size:Nat):Int)=1 from rfl,wrap64 (show -9223372036854775808<=(s.size:Int) - 1/\(s.size:Int) - 1<=9223372036854775807 by omega),show(s.size:Int) - 1=((s.size - 1:Nat):Int) by omega];refine st_slcS (l:=s.size - 1) (h:=s.size) Zr (.num Zr) .dft Zo ?_;refine GOH ?_;refine⟨.inr rfl,_,_,.tmp Zr .nil,ZI,?_,rfl⟩;simp only[tup,hlast h]
  ·exact zCI
 have hcut:Fun Tryz.prog 200 [.string s,.string ⟨#[58]⟩] [] (fun v Post=>∃t,v=.tuple #[.string t,.bool (decide ((kF s).getLast? =some 58))]/\((kF s).getLast? =some 58->kF t=(kF s).dropLast)/\t.size<=s.size/\Post=[]):=by
  refine Fun.intro low200 (by simp[n200]) ?_;refine GOH ?_;refine kV hsuf Zr ?_;by_cases h:(kF s).getLast? =some 58
  ·have hpos:1<=s.size:=by
    cases hb:kF s with
    |nil=>rw[hb]at h;cases h
    |cons a r=>rw[<- hlen,hb];simp
   rw[Zt h];refine GOH ?_;rw[show(((⟨#[58]⟩:ByteArray).size:Nat):Int)=1 from rfl,wrap64 (show -9223372036854775808<=(s.size:Int) - 1/\(s.size:Int) - 1<=9223372036854775807 by omega),show(s.size:Int) - 1=((s.size - 1:Nat):Int) by omega];refine st_slcS (l:=0) (h:=s.size - 1) Zr .dft (.num Zr) Zo ?_;refine GOH ?_;have hb:kF (s.extract 0 (s.size - 1))=(kF s).dropLast:=by rw[jt,List.drop_zero,List.dropLast_eq_take,hlen]
   refine kG (Post:=[]) (.inr rfl) (.tmp Zr (.tmp Zr .nil)) ⟨_,rfl,fun _=>hb,?_,rfl⟩ ZI;rw[<- jH,hb,<- hlen];simp
  ·rw[Zf h];refine GOH ?_;refine kG (Post:=[]) (.inr rfl) (.tmp Zr (.tmp Zr .nil)) ⟨_,rfl,fun h2=>absurd h2 h,QW _,rfl⟩ ZI
 refine Fun.intro low165 (by simp[n165]) ?_;exact zBZ
theorem splitAfter_spec(s:ByteArray):Fun Tryz.prog 164 [.string s,.string ⟨#[58]⟩] [] (fun v Post=>∃qs qt qn,v=.func (.func 223) #[] #[kE qs,kE qt,kE qn]/\Post=[kA qs 0 [.string ⟨#[58]⟩],kA qt 0 [.string s],kA qn 0 [vi 1]]):=by
 have h:Fun Tryz.prog 199 [.string s,.string ⟨#[58]⟩,vi 1] [] (fun v Post=>∃qs qt qn,v=.func (.func 223) #[] #[kE qs,kE qt,kE qn]/\Post=[kA qs 0 [.string ⟨#[58]⟩],kA qt 0 [.string s],kA qn 0 [vi 1]]):=by
  refine Fun.intro low199 (by simp[n199]) ?_;refine GOH ?_;refine kd Zr (fun qt=>?_);simp only[Value.cells];refine GOH ?_;refine kd Zr (fun qs=>?_);simp only[Value.cells];refine GOH ?_;refine kd Zr (fun qn=>?_);simp only[Value.cells];refine GOH ?_;refine kG (.inr rfl) (.tmp Zr .nil) ⟨qs,qt,qn,rfl,rfl⟩ ZI
 refine Fun.intro low164 (by simp[n164]) ?_;refine GOH ?_;rw[show(((⟨#[58]⟩:ByteArray).size:Nat):Int)=1 from rfl];refine kM h Zr ZP (fun v Post hv=>?_);obtain⟨qs,qt,qn,rfl,rfl⟩:=hv;simp only[CNx];refine GOH ?_;refine kG (.inr rfl) (.tmp Zr .nil) ⟨qs,qt,qn,rfl,rfl⟩ ZI
end Go.Proofs.YtijnokbblmbpkaaGreatDoor
namespace Go.Proofs.YtijnokbblmbpkaaGreatDoor
open Go Go.V
set_option maxHeartbeats 3200000
set_option maxRecDepth 100000
def keyL(p:List Nat):Bool:=decide (p.getLast? =some 58)&&nameL p.dropLast
theorem keysL_good:∀{c:List (List Nat)} {rest:List (List Nat)} {n:Nat},(∀p∈c,keyL p=true)->keysL (c++rest) n=keysL rest (n+c.length):=by
 intro c
 induction c with
 |nil=>intro rest n _;simp
 |cons p c ih=>
  intro rest n h;have hp:=h p Zs;simp only[keyL,vF,decide_eq_true_eq]at hp;have hne:p≠[]:=fun e=>by rw[e]at hp;simp at hp
  simp only[vf,keysL,if_neg hne,hp.1,hp.2,decide_true,Bool.and_self,if_true];rw[ih (fun q hq=>h q (by simp[hq])),Vl,show n+1+c.length=n+(c.length+1) by omega]
theorem keysL_bad {p:List Nat}{rest:List (List Nat)}{n:Nat}(h0:p≠[])(h:keyL p=false):keysL (p::rest) n=-1:=by
 simp only[keyL]at h;simp[keysL,h0,h]
theorem pieces_len(l:List Nat):(jO l).length<=l.length+1:=by
 induction l with
 |nil=>simp[jO]
 |cons c r ih=>
  simp only[jO];split
  ·simp;omega
  ·cases h:jO r with
   |nil=>simp
   |cons p ps=>rw[h]at ih;simp at ih|-;omega
theorem arity_spec(s:ByteArray)(hs:s.size<=140737488355328):Fun Tryz.prog 105 [.string s] [] (fun v Post=>v=vi (j7 s)/\Post=[]):=by
 refine Fun.intro low105 (by simp[n105]) ?_;have hlen:=jH s;refine GOH ?_;refine kL (fun pr=>?_);refine GOH ?_;refine kV (name_spec s hs) Zr ?_;cases hn:nameS s with
 |true=>
  refine GOH ?_;have:j7 s=0:=by unfold j7 arityL;rw[show nameL (kF s)=true from hn];rfl
  rw[this];exact⟨.inr rfl,[vi 0],[],.cell1 (v:=vi 0) Zr Zan .nil,Imp.nil,⟨rfl,rfl⟩⟩
 |false=>
  have hn2:nameL (kF s)=false:=hn;refine GOH ?_;by_cases h0:s=⟨#[]⟩
  ·subst h0;refine GOH ?_;exact zB9
  obtain⟨c,r,hc,hr,hc256,hpos⟩:=bytesN_cons h0;rw[Zf h0];refine GOH ?_;refine st_idxS Zr Zr (j:=0) rfl hc ?_;refine GOH ?_;have har:j7 s=if(binB c.toNat||decide (c.toNat=124))=true then(if signL (kF s)=(kF s).length then 1 else -1)else keysL (jO (kF s)) 0:=by
   unfold j7 arityL;rw[if_neg (by rw[hn2];simp)];simp only[hr]
  refine kV (binary_spec _ hc256) Zr ?_;cases hb:binB c.toNat with
  |true=>
   refine GOH ?_;refine kV (sign_spec s hs c r hc hr (.inr hb)) Zr ?_;rw[show(binB c.toNat||decide (c.toNat=124))=true by simp[hb],if_pos rfl]at har;exact zAU
  |false=>
   refine GOH ?_;refine st_idxS Zr Zr (j:=0) rfl hc ?_;refine GOH ?_;by_cases h124:c.toNat=124
   ·rw[show decide ((c.toNat:Int)=124)=true from Zt Zo];refine GOH ?_;refine kV (sign_spec s hs c r hc hr (.inl h124)) Zr ?_;rw[show(binB c.toNat||decide (c.toNat=124))=true by simp[h124],if_pos rfl]at har;exact zAU
   rw[show decide ((c.toNat:Int)=124)=false from Zf Zo];rw[if_neg (by simp[hb,h124])]at har;refine GOH ?_;refine kL (fun pn=>?_);refine GOH ?_;refine kM (splitAfter_spec s) Zr ZP (fun v Post hv=>?_);obtain⟨qs,qt,qn,rfl,rfl⟩:=hv;simp only[CNx];refine GOH ?_;have hcl:∀d:List ByteArray,OkC (fun full:List ByteArray=>full.map kF=jO (kF s)) d->d.length<=s.size+1:=fun d ⟨t,ht⟩=>by
    have h1:=congrArg List.length ht;have h2:=pieces_len (kF s);simp at h1;omega
   refine VC.rangef (α:=ByteArray) (enc:=fun x=>[.string x]) (fun d A=>(∀x∈d,keyL (kF x)=true)/\A=[kA pn 0 [vi d.length],kA pr 0 [vi 0]].flatten) ([kA pn 0 [vi 0],kA pr 0 [vi 0]].flatten) Zr (keys_iter qs qt qn s hs) (R:=[kA pn 0 [vi 0],kA pr 0 [vi 0]]) ZP (Imp.perm Zs)
    ⟨fun x hx=>(by cases hx),rfl⟩ (fun _=>rfl) ?_ ?_
   ·rintro d x A hok ⟨hd,rfl⟩
    have hdl:=hcl _ hok;simp only[Vj,Vu]at hdl;obtain⟨rest,hrest⟩:=hok;have har2:j7 s=keysL (kF x::rest.map kF) d.length:=by
     rw[har,<- hrest];have:=keysL_good (c:=d.map kF) (rest:=kF x::rest.map kF) (n:=0) (fun p hp=>by obtain⟨y,hy,rfl⟩:=Q9.1 hp;exact hd y hy);simpa using this
    have hxs:x.size<=s.size:=by
     have h1:kF x∈jO (kF s):=by rw[<- hrest];simp
     have h2:=(List.sublist_flatten_of_mem h1).length_le;rw[pieces_flat,jH,jH]at h2;omega
    simp only[bindE];refine VC.imp (H':=[kA pn 0 [vi d.length],kA pr 0 [vi 0]]) (Imp.perm Zs) ?_;refine VC.reg ?_;refine GOH ?_;refine⟨trivial,?_⟩;refine GOH ?_;by_cases hx0:x=⟨#[]⟩
    ·rw[Zt hx0];have:j7 s=d.length:=by
      rw[har2,hx0];rfl
     refine GOH ?_;rw[this];exact⟨.inr rfl,[vi d.length],[],.cell1 (v:=vi d.length) Zr Zan .nil,Imp.nil,⟨rfl,rfl⟩⟩
    rw[Zf hx0];have hx1:kF x≠[]:=fun e=>hx0 (jX (by rw[e];rfl))
    refine GOH ?_;refine kM (cutSuffix_spec x Zo) Zr ZP (fun v Post hv=>?_);obtain⟨y,rfl,hy1,hy2,rfl⟩:=hv;simp only[QD];by_cases h58:(kF x).getLast? =some 58
    ·rw[Zt h58];have hyb:=hy1 h58;refine GOH ?_;refine kV (name_spec y Zo) Zr ?_;cases hny:nameS y with
     |true=>
      have hk:keyL (kF x)=true:=by
       unfold keyL;rw[Zt h58,<- hyb];exact hny
      refine GOH ?_;refine⟨[kA pn 0 [vi (d.length+1:Nat)],kA pr 0 [vi 0]].flatten,⟨fun z hz=>?_,Zs⟩,?_⟩
      ·rcases Q1.1 hz with h|h
       ·exact hd z h
       ·rw[QC.1 h];exact hk
      ·refine Imp.cut (M:=[kA pn 0 [vi ((d.length:Int)+1)],kA pr 0 [vi 0]]) ZI (Imp.perm Zs)
     |false=>
      have hk:keyL (kF x)=false:=by
       unfold keyL;rw[Zt h58,<- hyb];exact hny
      have:j7 s=-1:=by rw[har2,keysL_bad hx1 hk]
      refine GOH ?_;rw[this];exact zB9
    ·rw[Zf h58];have hk:keyL (kF x)=false:=by
      unfold keyL;rw[Zf h58];rfl
     have:j7 s=-1:=by rw[har2,keysL_bad hx1 hk]
     refine GOH ?_;rw[this];exact zB9
   ·rintro full A hfull ⟨hd,rfl⟩
    have:j7 s=full.length:=by
     rw[har,<- hfull];have:=keysL_good (c:=full.map kF) (rest:=[]) (n:=0) (fun p hp=>by obtain⟨y,hy,rfl⟩:=Q9.1 hp;exact hd y hy);simpa[keysL]using this
    refine VC.imp (H':=[kA pn 0 [vi full.length],kA pr 0 [vi 0]]) (Imp.perm Zs) ?_;refine GOH ?_;rw[this];exact⟨.inr rfl,[vi full.length],[],.cell1 (v:=vi full.length) Zr Zan .nil,Imp.nil,⟨rfl,rfl⟩⟩
end Go.Proofs.YtijnokbblmbpkaaGreatDoor

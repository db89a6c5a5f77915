/-
  The rules as they are used: one for each kind of operation; side conditions are met by themselves where they can be.
-/
import Derived.Test.YtijnokbblmbpkaaGreatDoorN4
set_option linter.all false
namespace Go.V
open Go
inductive Tk:SH->List kB->SH->Prop where
 |here {A:List kB} {L:SH}:Tk (A::L) A L
 |there {A B:List kB} {L R:SH}:Tk L A R->Tk (B::L) A (B::R)
theorem ju(A B X:List kB):(A++(B++X)).Perm (B++(A++X)):=by
 exact zAV
theorem Tk.perm {L R:SH}{A:List kB}(h:Tk L A R):L.flatten.Perm (A++R.flatten):=by
 induction h with
 |here=>simp
 |there _ ih=>
  simp only[V6];refine(vU _ ih).trans ?_;exact zAV
theorem cz.nil {H:SH}:cz H [] H:=by simp[cz]
theorem cz.cons {H R R' bq:SH}{A:List kB}(h:Tk H A R)(k:cz R bq R'):cz H (A::bq) R':=by
 simp only[cz,V6,vZ];exact h.perm.trans (vU _ k)
theorem aj.nil {H:SH}:aj H []:=⟨H,by simp[cz]⟩
theorem aj.cons {H R Δ:SH}{A:List kB}(h:Tk H A R)(k:aj R Δ):aj H (A::Δ):=by
 obtain⟨X,hX⟩:=k;refine⟨X,?_⟩;simp only[cz,V6,vZ];exact h.perm.trans (vU _ hX)
theorem Sub.nil {Γ:Env}:Sub Γ []:=fun t v h=>by simp[look]at h
theorem Sub.cons {Γ Δ:Env}{t:Nat}{v:Value}(h:look Γ t=some v)(k:Sub Γ Δ):Sub Γ ((t,v)::Δ):=fun s u e=>by
 simp only[look]at e;split at e
 ·rename_i es;subst es;cases e;exact h
 ·exact k s u e
theorem Sub.refl {Γ:Env}:Sub Γ Γ:=fun _ _ h=>h
inductive Has:SH->Nat->Nat->Value->Prop where
 |cells {b o k:Nat} {vs:List Value} {v:Value} {L:SH}:o<=k->vs[k - o]? =some v->Has (kA b o vs::L) b k v
 |there {A:List kB} {L:SH} {b k:Nat} {v:Value}:Has L b k v->Has (A::L) b k v
 |among {A:List kB} {L:SH} {b k:Nat} {v:Value}:kB.cell b k v∈A->Has (A::L) b k v
theorem Has.mem {H:SH}{b k:Nat}{v:Value}(h:Has H b k v):kB.cell b k v∈H.flatten:=by
 induction h with
 |cells h1 h2=>
  simp only[V6,Q7];left;exact kH.2 ⟨_,_,h2,by congr 1;omega⟩
 |there _ ih=>simp only[V6,Q7];exact .inr ih
 |among h=>simp only[V6,Q7];exact .inl h
inductive G4:SH->Nat->Nat->List Value->Prop where
 |cells {b o k n:Nat} {vs us:List Value} {L:SH}:o<=k->(vs.drop (k - o)).take us.length=us->us.length=n->G4 (kA b o vs::L) b k us
 |there {A:List kB} {L:SH} {b k:Nat} {us:List Value}:G4 L b k us->G4 (A::L) b k us
theorem G4.mem {H:SH}{b k:Nat}{us:List Value}(h:G4 H b k us):∀x∈kA b k us,x∈H.flatten:=by
 induction h with
 |cells h1 h2 _=>
  intro x hx;obtain⟨i,v,hi,rfl⟩:=kH.1 hx;simp only[V6,Q7];left;rw[<- h2]at hi;simp only[List.getElem?_take,Vd]at hi;split at hi
  ·exact kH.2 ⟨_,v,hi,by congr 1;omega⟩
  ·cases hi
 |there _ ih=>intro x hx;simp only[V6,Q7];exact .inr (ih x hx)
def Dy(Γ:Env)(x:Operand):Value:=(ev Γ x).getD undef
def known(Γ:Env)(x:Operand):Bool:=(ev Γ x).isSome
theorem Oo {Γ:Env}{x:Operand}{ρ:Operand->Value}(h:known Γ x=true)(aG:∀x u,ev Γ x=some u->ρ x=u):ρ x=Dy Γ x:=by
 obtain⟨u,hu⟩:=Qw.1 h;simp[Dy,hu,aG _ _ hu]
def ptr(b o:Nat):Value:=.pointer (some ⟨b,o,none⟩)
section
variable {P:Program} {n:Nat} {rs:List RO} {Γ Δ:Env} {H:SH} {Z:List PanicEntry->Env->SH->Prop} {K:Env->SH->Prop} {d:Option Nat} {g:Option (Nat×Bool)}
theorem iO {r:R}{v:Value}(hp:kf r=true)(hk:(iI r).all (known Γ)=true)(hv:kR (Dy Γ) r=some v)(h:VO P n rs (ak d v Γ) H Z K):VO P n (⟨d,none,r⟩::rs) Γ H Z K:=
 VO.pure hp (fun ρ aG=>by
  rw[<- hv];exact fN hp (fun x hx=>Oo (vX.1 hk x hx) aG)) h
theorem zq {x:Operand}{v:Value}(hx:ev Γ x=some v)(h:VO P n rs (ak d v Γ) H Z K):VO P n (⟨d,none,.mv x⟩::rs) Γ H Z K:=
 VO.pure rfl (fun ρ aG=>by simp[kR,aG _ _ hx]) h
theorem zL {off:Nat}{x:Operand}{b o o':Nat}(hx:ev Γ x=some (.pointer (some ⟨b,o,none⟩)))(ho:o+off=o')(h:VO P n rs (ak d (.pointer (some ⟨b,o',none⟩)) Γ) H Z K):VO P n (⟨d,none,.JF off x⟩::rs) Γ H Z K:=
 VO.pure rfl (fun ρ aG=>by simp[kR,aG _ _ hx,ho]) h
theorem yz {x:Operand}{a:Addr}(hx:ev Γ x=some (.pointer (some a)))(h:VO P n rs (ak d (.pointer (some a)) Γ) H Z K):VO P n (⟨d,none,.sU x⟩::rs) Γ H Z K:=
 VO.pure rfl (fun ρ aG=>by simp[kR,aG _ _ hx]) h
theorem wrap64 {z:Int}(h:-9223372036854775808<=z/\z<=9223372036854775807):IntKind.i64.wrap z=z:=by
 exact zDY
theorem yq {x y:Operand}{a b:Int}(hx:ev Γ x=some (.int .i64 a))(hy:ev Γ y=some (.int .i64 b))(hr:-9223372036854775808<=a+b/\a+b<=9223372036854775807)(h:VO P n rs (ak d (.int .i64 (a+b)) Γ) H Z K):
 VO P n (⟨d,none,.bin .add x y⟩::rs) Γ H Z K:=
 VO.pure rfl (fun ρ aG=>by simp[kR,aG _ _ hx,aG _ _ hy,zF,mh,wrap64 hr]) h
theorem yF {x y:Operand}{a b:Int}(hx:ev Γ x=some (.int .i64 a))(hy:ev Γ y=some (.int .i64 b))(hr:-9223372036854775808<=a - b/\a - b<=9223372036854775807)(h:VO P n rs (ak d (.int .i64 (a - b)) Γ) H Z K):
 VO P n (⟨d,none,.bin .sub x y⟩::rs) Γ H Z K:=
 VO.pure rfl (fun ρ aG=>by simp[kR,aG _ _ hx,aG _ _ hy,zF,mh,wrap64 hr]) h
theorem yy {x y:Operand}{a b:Int}(hx:ev Γ x=some (.int .i64 a))(hy:ev Γ y=some (.int .i64 b))(hr:-9223372036854775808<=a*b/\a*b<=9223372036854775807)(h:VO P n rs (ak d (.int .i64 (a*b)) Γ) H Z K):
 VO P n (⟨d,none,.bin .mul x y⟩::rs) Γ H Z K:=
 VO.pure rfl (fun ρ aG=>by simp[kR,aG _ _ hx,aG _ _ hy,zF,mh,wrap64 hr]) h
theorem yE {x y:Operand}{k:IntKind}{a b:Int}(hx:ev Γ x=some (.int k a))(hy:ev Γ y=some (.int k b))(hr:b≠0)(h:VO P n rs (ak d (.int k (a.tmod b)) Γ) H Z K):
 VO P n (⟨d,none,.bin .rem x y⟩::rs) Γ H Z K:=
 VO.pure rfl (fun ρ aG=>by simp[kR,aG _ _ hx,aG _ _ hy,zF,mh,hr]) h
theorem Xs {k k':IntKind}{x:Operand}{a b:Int}(hx:ev Γ x=some (.int k' a))(hr:k.wrap a=b)(h:VO P n rs (ak d (.int k b) Γ) H Z K):VO P n (⟨d,none,.conv k x⟩::rs) Γ H Z K:=
 VO.pure rfl (fun ρ aG=>by simp[kR,aG _ _ hx,hr]) h
theorem dh {size:Nat}{x i:Operand}{b o o' len cap:Nat}{k:IntKind}{m:Int}(hx:ev Γ x=some (.slice (some ⟨b,o,none⟩) len cap))(hi:ev Γ i=some (.int k m))(hb:0<=m/\m < len)
 (ho:o+m.toNat*size=o') (h:VO P n rs (ak d (.pointer (some ⟨b,o',none⟩)) Γ) H Z K):VO P n (⟨d,none,.xA size x i⟩::rs) Γ H Z K:=
 VO.pure rfl (fun ρ aG=>by simp[kR,aG _ _ hx,aG _ _ hi,hb,ho]) h
theorem qP {len size:Nat}{x i:Operand}{b o o':Nat}{k:IntKind}{m:Int}(hx:ev Γ x=some (.pointer (some ⟨b,o,none⟩)))(hi:ev Γ i=some (.int k m))(hb:0<=m/\m < len)
 (ho:o+m.toNat*size=o') (h:VO P n rs (ak d (.pointer (some ⟨b,o',none⟩)) Γ) H Z K):VO P n (⟨d,none,.Lv len size x i⟩::rs) Γ H Z K:=
 VO.pure rfl (fun ρ aG=>by simp[kR,aG _ _ hx,aG _ _ hi,hb,ho]) h
theorem fR {x i:Operand}{s:ByteArray}{k:IntKind}{m:Int}{j:Nat}{c:UInt8}(hx:ev Γ x=some (.string s))(hi:ev Γ i=some (.int k m))(hm:m=(j:Int))(hc:s[j]? =some c)
 (h:VO P n rs (ak d (.int .u8 c.toNat) Γ) H Z K):VO P n (⟨d,none,.Lw x i⟩::rs) Γ H Z K:=
 VO.pure rfl (fun ρ aG=>by subst hm;simp[kR,aG _ _ hx,aG _ _ hi,hc]) h
theorem eJ {c a b:Operand}{v:Value}(hc:ev Γ c=some (.bool true))(ha:ev Γ a=some v)(h:VO P n rs (ak d v Γ) H Z K):VO P n (⟨d,none,.pick c a b⟩::rs) Γ H Z K:=
 VO.pure rfl (fun ρ aG=>by simp[kR,aG _ _ hc,aG _ _ ha]) h
theorem cS {c a b:Operand}{v:Value}(hc:ev Γ c=some (.bool false))(hb:ev Γ b=some v)(h:VO P n rs (ak d v Γ) H Z K):VO P n (⟨d,none,.pick c a b⟩::rs) Γ H Z K:=
 VO.pure rfl (fun ρ aG=>by simp[kR,aG _ _ hc,aG _ _ hb]) h
theorem Kp {s:Nat}{c:Bool}(hs:look Γ s=some (.bool c))(ht:c=true->VO P n rs ((s,.bool true)::Γ) H Z K)(hf:c=false->VO P n rs ((s,.bool false)::Γ) H Z K):VO P n rs Γ H Z K:=by
 cases c with
 |true=>exact VO.sub (Sub.cons hs Sub.refl) (ht rfl)
 |false=>exact VO.sub (Sub.cons hs Sub.refl) (hf rfl)
theorem zG {r:R}{s:Nat}{b:Bool}(hs:look Γ s=some (.bool b))(h:VO P n (⟨d,none,r⟩::rs) Γ H Z K):VO P n (⟨d,some (s,b),r⟩::rs) Γ H Z K:=by
 intro l hl a w F ZZ Q ha fC hq hz;obtain⟨o,l',rfl,qZ,ops,ho⟩:=wz hl;obtain⟨g1,g2,g3,g4⟩:=jG ho;have hw:jD (some (s,b)) a=true:=by simp[jD,ha.slots _ _ hs]
 have:=h ((⟨d,none,r⟩,{o with guard:=none})::l') ⟨by simp[qZ.1],fun x hx=>by
  rcases Q9.1 hx with rfl|hx
  ·refine⟨ops,?_⟩;have hd:o.dst.all (fun x=>decide (x < n))=true:=by
    rw[<- g2];cases S6:d with
    |none=>rfl
    |some t=>have:=g3 t S6;simpa using this
   simp only at g2 g1;simp[dJ,g1,hd,g2]
  ·exact qZ.2 x hx⟩ a w F ZZ Q ha fC hq hz
 have me:jx P ZZ (⟨d,none,r⟩,{o with guard:=none}) (eK P ZZ Q l') a w:=this;show jx P ZZ (⟨d,some (s,b),r⟩,o) (eK P ZZ Q l') a w;unfold jx at me|-;rw[if_pos (show jD _ a=true from hw)];rw[if_pos (show jD none a=true from rfl)]at me;exact me
theorem yx {r:R}{s:Nat}{b c:Bool}(hs:look Γ s=some (.bool c))(hc:(c==b)=false)(h:VO P n rs (ak d undef Γ) H Z K):VO P n (⟨d,some (s,b),r⟩::rs) Γ H Z K:=by
 intro l hl a w F ZZ Q ha fC hq hz;obtain⟨o,l',rfl,qZ,ops,ho⟩:=wz hl;obtain⟨g1,g2,g3,g4⟩:=jG ho;have hw:jD (some (s,b)) a=false:=by simpa[jD,ha.slots _ _ hs]using hc
 exact zBI
theorem jI {x:Operand}{b o:Nat}{v:Value}(hx:ev Γ x=some (.pointer (some ⟨b,o,none⟩)))(hm:Has H b o v)(h:VO P n rs (ak d v Γ) H Z K):VO P n (⟨d,none,.cj x⟩::rs) Γ H Z K:=
 VO.read rfl rfl (fun ρ aG=>⟨_,rfl,fun F w hs=>by
  have:=(hs.cell (Zw F hm.mem)).1;simp[aG _ _ hx,Instr.sureAddr,this]⟩) h
theorem Si {m:Nat}{x:Operand}{b o:Nat}{us:List Value}(hx:ev Γ x=some (.pointer (some ⟨b,o,none⟩)))(hm:G4 H b o us)(hn:us.length=m)(h:VO P n rs (ak d (.agg us.toArray) Γ) H Z K):VO P n (⟨d,none,.gS m x⟩::rs) Γ H Z K:=
 VO.read rfl rfl (fun ρ aG=>⟨_,rfl,fun F w hs=>by
  simp[aG _ _ hx,Instr.sureAddr,run_loadCells hn hm.mem hs]⟩) h
inductive iY:SH->Nat->Nat->List Value->SH->Prop where
 |cells {b o k:Nat} {vs us ws:List Value} {L:SH}:o<=k->k - o+us.length<=vs.length->vs.take (k - o)++us++vs.drop (k - o+us.length)=ws->iY (kA b o vs::L) b k us (kA b o ws::L)
 |there {A:List kB} {L L':SH} {b k:Nat} {us:List Value}:iY L b k us L'->iY (A::L) b k us (A::L')
theorem iY.split {H H':SH}{b k:Nat}{us:List Value}(h:iY H b k us H'):∃(old:List Value) (R:List kB),old.length=us.length/\H.flatten.Perm (kA b k old++R)/\H'.flatten.Perm (kA b k us++R):=by
 induction h with
 |@cells b o k vs us ws L h1 h2 h3=>
  subst h3;have tK:vs=vs.take (k - o)++((vs.drop (k - o)).take us.length++vs.drop (k - o+us.length)):=by
   rw[<- List.drop_drop,QZ,QZ]
  have hl:(vs.take (k - o)).length=k - o:=by simp;omega
  have dz:((vs.drop (k - o)).take us.length).length=us.length:=by simp;omega
  have hk:o+(k - o)=k:=by omega
  refine⟨(vs.drop (k - o)).take us.length,kA b o (vs.take (k - o))++(kA b (k+us.length) (vs.drop (k - o+us.length))++L.flatten),dz,?_,?_⟩
  ·have e:kA b o vs=kA b o (vs.take (k - o))++(kA b k ((vs.drop (k - o)).take us.length)++kA b (k+us.length) (vs.drop (k - o+us.length))):=by
    conv=>lhs;rw[tK]
    rw[kd,hl,hk,kd,dz]
   simp only[V6,e,vZ];exact ju _ _ _
  ·simp only[V6,kd,hl,hk,vZ];exact ju _ _ _
 |@there A L L' b k us _ ih=>
  obtain⟨old,R,h1,h2,h3⟩:=ih;refine⟨old,A++R,h1,?_,?_⟩
  ·simp only[V6];refine(vU A h2).trans ?_;exact zAV
  ·simp only[V6];refine(vU A h3).trans ?_;exact zAV
theorem Gi {m:Nat}{x y:Operand}{b o:Nat}{v:Value}{H':SH}(hx:ev Γ x=some (.pointer (some ⟨b,o,none⟩)))(hy:ev Γ y=some v)(hn:v.cells.size=m)(gg:v.cells.toList.all je=true)
 (hu:iY H b o v.cells.toList H') (h:VO P n rs (ak d undef Γ) H' Z K):VO P n (⟨d,none,.store m x y⟩::rs) Γ H Z K:=by
 refine VO.act rfl rfl (fun ρ aG=>⟨_,rfl,?_⟩);obtain⟨old,R,h1,h2,h3⟩:=hu.split;refine az.perm h2 ?_;have hρy:ρ y=v:=aG _ _ hy;have:=LN (P:=P) (ρ:=ρ) (n:=m) (x:=x) (v:=y) (us:=old) (R:=R) (b:=b) (o:=o) (K:=fun nx L=>∃v H',(nx=.value v∨(nx=.skip/\v=undef))/\L.Perm H'.flatten/\VO P n rs (ak d v Γ) H' Z K)
  (aG _ _ hx) (by rw[hρy];exact hn) (by rw[h1];simpa using hn) (by rw[hρy];exact vX.1 gg) ⟨undef,H',.inr ⟨rfl,rfl⟩,by rw[hρy];exact h3.symm,h⟩
 exact this
theorem jk {m:Nat}{x y:Operand}{b o:Nat}{v:Value}{us:List Value}{H':SH}(hx:ev Γ x=some (.pointer (some ⟨b,o,none⟩)))(hy:ev Γ y=some v)(hv:v.cells.toList=us)(hn:us.length=m)(gg:us.all je=true)
 (hu:iY H b o us H') (h:VO P n rs (ak d undef Γ) H' Z K):VO P n (⟨d,none,.store m x y⟩::rs) Γ H Z K:=by
 subst hv;exact Gi hx hy (by simpa using hn) gg hu h
theorem mN {z:List Value}{ps:List (Nat×Nat×Operand)}{out:List Value}(hk:(ps.map (·.2.2)).all (known Γ)=true)(ho:jT z (jR (Dy Γ) ps)=some out)
 (h:VO P n rs (ak d (.agg out.toArray) Γ) H Z K):VO P n (⟨d,none,.build z ps⟩::rs) Γ H Z K:=by
 refine VO.pure rfl (fun ρ aG=>?_) h;have:jR ρ ps=jR (Dy Γ) ps:=by
  exact zD2
 simp[kR,this,ho]
theorem kW {t:TypeId}{x:Operand}{v:Value}(hx:ev Γ x=some v)(h:∀b,VO P n rs (ak d (.pointer (some ⟨b,0,none⟩)) Γ) (kA b 0 v.cells.toList::H) Z K):VO P n (⟨d,none,.box t x⟩::rs) Γ H Z K:=by
 refine VO.act rfl rfl (fun ρ aG=>⟨_,rfl,?_⟩);refine uh (fun b=>⟨_,_,.inl rfl,?_,h b⟩);rw[aG _ _ hx];simp
theorem kM {t:TypeId}{z:List Value}(h:∀b,VO P n rs (ak d (.pointer (some ⟨b,0,none⟩)) Γ) (kA b 0 z::H) Z K):VO P n (⟨d,none,.alloc t z⟩::rs) Γ H Z K:=by
 refine VO.act rfl rfl (fun ρ aG=>⟨_,rfl,?_⟩);exact zEC
theorem ia(h:∀b,VO P n rs (ak d (.map (some b)) Γ) ([.obj b (.map #[] 0)]::H) Z K):VO P n (⟨d,none,.og⟩::rs) Γ H Z K:=by
 refine VO.act rfl rfl (fun ρ aG=>⟨_,rfl,?_⟩);refine Is rfl (fun b=>⟨_,_,.inl rfl,?_,h b⟩);simp
theorem pg {t:TypeId}{size bytes:Nat}{z:List Value}{l c:Operand}{kl kc:IntKind}{li ci:Int}(hl:ev Γ l=some (.int kl li))(hc:ev Γ c=some (.int kc ci))(hb:0<=li/\li<=ci/\ci<=9223372036854775807/\bytes*ci<=2 ^ 48)
 (hz:z.length=size) (h:∀b,VO P n rs (ak d (.slice (some ⟨b,0,none⟩) li.toNat ci.toNat) Γ) (kA b 0 (kX ci.toNat z)::H) Z K):VO P n (⟨d,none,.C5 t size bytes z l c⟩::rs) Γ H Z K:=by
 refine VO.act rfl rfl (fun ρ aG=>⟨_,rfl,?_⟩);rw[aG _ _ hl,aG _ _ hc];simp only[hb,hz,and_self,if_true];exact zEC
theorem kg {t:TypeId}{len:Nat}{z:List Value}{ps:List (Nat×Nat×Operand)}{out:List Value}(hk:(ps.map (·.2.2)).all (known Γ)=true)(ho:jT (kX len z) (jR (Dy Γ) ps)=some out)
 (h:∀b,VO P n rs (ak d (.slice (some ⟨b,0,none⟩) len len) Γ) (kA b 0 out::H) Z K):VO P n (⟨d,none,.lJ t len z ps⟩::rs) Γ H Z K:=by
 refine VO.act rfl rfl (fun ρ aG=>⟨_,rfl,?_⟩);have:jR ρ ps=jR (Dy Γ) ps:=by
  exact zD2
 rw[this,ho];exact zEC
theorem kI {f:Nat}{xs:List Operand}{args:List Value}{bq R:SH}{Q:Value->SH->Prop}(hf:ao P f args bq Q)(he:gN Γ xs=some args)(hs:cz H bq R)
 (h:∀v Post,Q v Post->VO P n rs (ak d v Γ) (Post++R) Z K):VO P n (⟨d,none,.call f xs⟩::rs) Γ H Z K:=VO.call hf he hs h
variable {Q:Exit->Env->SH->Prop} {aP:List Nat}
theorem VC.uZ(h:VO P n rs Γ H (fun _ _ _=>False) fun aw H'=>Q .normal (aJ aP aw) H'):VC P n (.draw [rs] aP) Γ H Q:=VC.draw (by simpa using h)
theorem VC.qI {y:IC}(h:VO P n rs Γ H (fun ch aw H'=>Q (.panic ch) aw H') fun aw H'=>VC P n y (aJ aP aw) H' Q):VC P n (.seq (.lE rs aP) y) Γ H Q:=VC.seq (VC.lE h)
theorem VC.hO {y:IC}(h:VO P n rs Γ H (fun _ _ _=>False) fun aw H'=>VC P n y (aJ aP aw) H' Q):VC P n (.seq (.draw [rs] aP) y) Γ H Q:=VC.seq (VC.uZ h)
theorem VC.uw {x y z:IC}(h:VC P n (.seq x y) Γ H (bt (fun aw H'=>VC P n z aw H' Q) Q)):VC P n (.seq (.seq x y) z) Γ H Q:=VC.seq h
theorem VC.hK {id:Nat}{x z:IC}(h:VC P n x Γ H (bb id (bt (fun aw H'=>VC P n z aw H' Q) Q))):VC P n (.seq (.block id x) z) Γ H Q:=VC.seq (VC.block h)
theorem VC.mJ {y:IC}(h:VC P n y Γ H Q):VC P n (.seq .skip y) Γ H Q:=VC.seq (VC.skip h)
theorem VC.oE {c:Operand}{x y:IC}(hc:ev Γ c=some (.bool true))(h:VC P n x Γ H Q):VC P n (.cond c x y) Γ H Q:=VC.cond hc (fun _=>h) (fun e=>by cases e)
theorem VC.oD {c:Operand}{x y:IC}(hc:ev Γ c=some (.bool false))(h:VC P n y Γ H Q):VC P n (.cond c x y) Γ H Q:=VC.cond hc (fun e=>by cases e) (fun _=>h)
theorem VC.Ga {c:Operand}{x y z:IC}{t:Bool}(hc:ev Γ c=some (.bool t))(ht:t=true->VC P n x Γ H (bt (fun aw H'=>VC P n z aw H' Q) Q))(hf:t=false->VC P n y Γ H (bt (fun aw H'=>VC P n z aw H' Q) Q)):
 VC P n (.seq (.cond c x y) z) Γ H Q:=VC.seq (VC.cond hc ht hf)
end
theorem Nt:(∀cs:List Value,jT cs []=some cs)/\
 (∀(cs:List Value) (o s:Nat) (v:Value) (r:List (Nat×Nat×Value)),jT cs ((o,s,v)::r)=if v.cells.size=s/\o+s<=cs.length then jT (cs.take o++v.cells.toList++cs.drop (o+s)) r else none)/\
 (∀ρ:Operand->Value,jR ρ []=[])/\(∀(ρ:Operand->Value) (o s:Nat) (x:Operand) (r:List (Nat×Nat×Operand)),jR ρ ((o,s,x)::r)=(o,s,ρ x)::jR ρ r)/\
 (∀(Γ:Env) (x:Operand),Dy Γ x=(ev Γ x).getD undef)/\(∀(Γ:Env) (t:Nat),ev Γ (.tmp t)=look Γ t)/\(∀(Γ:Env) (v:Value),ev Γ (.const v)=some v)/\
 (∀(Γ:Env) (g:Nat),ev Γ (.global g)=some (.pointer (some ⟨g,0,none⟩)))/\(∀(Γ:Env) (f:Nat),ev Γ (.func f)=some (.func (.func f) #[] #[]))/\
 (∀(s t:Nat) (v:Value) (r:Env),look ((s,v)::r) t=if s=t then some v else look r t)/\(∀(d:Nat) (v:Value) (Γ:Env),ak (some d) v Γ=(d,v)::Γ)/\(∀(v:Value) (Γ:Env),ak none v Γ=Γ)/\
 (∀v d:Value,(some v).getD d=v)/\(∀l:List Value,l.toArray.size=l.length)/\(∀l:List Value,l.toArray.toList=l)/\(∀(a:Value) (l:List Value),(a::l).length=l.length+1)/\(([]:List Value).length=0)/\
 (∀(a:Value) (l:List Value) (n:Nat),(a::l).take (n+1)=a::l.take n)/\(∀l:List Value,l.take 0=[])/\(∀(a:Value) (l:List Value) (n:Nat),(a::l).drop (n+1)=l.drop n)/\(∀l:List Value,l.drop 0=l)/\
 (∀(a:Value) (l m:List Value),a::l++m=a::(l++m))/\(∀l:List Value,[]++l=l)/\(∀l:List Value,l++[]=l):=
 ⟨fun _=>rfl,fun _ _ _ _ _=>rfl,fun _=>rfl,fun _ _ _ _ _=>rfl,fun _ _=>rfl,fun _ _=>rfl,fun _ _=>rfl,fun _ _=>rfl,fun _ _=>rfl,fun _ _ _ _=>rfl,fun _ _ _=>rfl,fun _ _=>rfl,fun _ _=>rfl,fun _=>List.size_toArray,fun _=>rfl,
   fun _ _=>rfl,rfl,fun _ _ _=>rfl,fun _=>rfl,fun _ _ _=>rfl,fun _=>rfl,fun _ _ _=>rfl,fun _=>rfl,fun _=>vd _⟩
def ky {κ β:Type}[DecidableEq κ](k:κ):List (κ×β)->Option β
 |[]=>none
 |(a,v)::r=>if a=k then some v else ky k r
def jc {κ β:Type}[DecidableEq κ](k:κ)(v:β):List (κ×β)->List (κ×β)
 |[]=>[(k,v)]
 |(a,u)::r=>if a=k then(a,v)::r else(a,u)::jc k v r
def E0 {κ β:Type}[DecidableEq κ](k:κ):List (κ×β)->List (κ×β)
 |[]=>[]
 |(a,u)::r=>if a=k then r else(a,u)::E0 k r
structure KE (κ:Type)[DecidableEq κ] where
 sk:SK
 enc:κ->Value
 same:∀a b,Km sk (enc a) (enc b)=some (decide (a=b))
def zw:KE ByteArray:=⟨.str,.string,fun _ _=>rfl⟩
def mo(ok:Bool)(zero:Value):Option Value->Value
 |some v=>if ok then .tuple #[v,.bool true]else v
 |none=>if ok then .tuple #[zero,.bool false]else zero
section
variable {κ β:Type} [DecidableEq κ] {E:KE κ} {V:β->Value}
def iX(E:KE κ)(V:β->Value)(es:List MapEntry)(m:List (κ×β)):Prop:=es.map (fun e=>(e.key,e.val))=m.map fun p=>(E.enc p.1,V p.2)
structure zW (E:KE κ)(V:β->Value)(es:Array MapEntry)(c:Nat)(m:List (κ×β)):Prop where
 of:iX E V es.toList m
 born:es.toList.Pairwise fun a b=>a.born < b.born
 clock:∀e∈es.toList,e.born < c
theorem zW.nil:zW E V #[] 0 []:=⟨rfl,.nil,Zs⟩
theorem Co {k:κ}:∀{es:List MapEntry} {m:List (κ×β)} {i:Nat},iX E V es m->
 ∃r,lS E.sk (E.enc k) es i=some r/\r.map (·.2)=(ky k m).map V/\∀j v,r=some (j,v)->i<=j/\j - i < es.length/\∃e,es[j - i]? =some e/\e.key=E.enc k/\
  (∀e' u,e'.val=V u->(iX E V (es.set (j - i) e') (jc k u m)↔e'.key=E.enc k))/\iX E V (es.eraseIdx (j - i)) (E0 k m):=by
 intro es
 induction es with
 |nil=>
  intro m i h;cases m with
  |nil=>exact⟨none,rfl,rfl,fun _ _ h=>by cases h⟩
  |cons p m=>simp[iX]at h
 |cons e es ih=>
  intro m i h;cases m with
  |nil=>simp[iX]at h
  |cons p m=>
   obtain⟨a,u⟩:=p;simp only[iX,Q3,ve,X2]at h;obtain⟨⟨h1,h2⟩,h3⟩:=h;simp only[lS,h1,E.same,h2];by_cases ek:k=a
   ·subst ek;refine⟨some (i,V u),Zs,by simp[ky],fun j v hj=>?_⟩;cases hj;refine⟨Qj _,Zs,e,Zs,h1,fun e' u' he'=>?_,?_⟩
    ·simp only[Qp,List.set_cons_zero,jc,if_true,iX,Q3,ve,X2,he',and_true];exact⟨fun h=>h.1,fun h=>⟨h,h3⟩⟩
    ·simpa[E0,iX]using h3
   ·obtain⟨r,f1,f2,f3⟩:=ih (m:=m) (i:=i+1) h3;have ea:¬a=k:=fun e=>ek e.symm
    refine⟨r,by simp[ek,f1],by simp[ky,ea,f2],fun j v hj=>?_⟩;obtain⟨g1,g2,x,g3,g4,g5,g6⟩:=f3 j v hj;have JR:j - i=(j - (i+1))+1:=by omega
    refine⟨Zo,by simp;omega,x,by rw[JR];simpa using g3,g4,fun e' u' he'=>?_,?_⟩
    ·rw[JR];simp only[QV,jc,ea,if_false,iX,Q3,ve,h1,h2,true_and];exact g5 e' u' he'
    ·rw[JR];simp only[List.eraseIdx_cons_succ,E0,ea,if_false,iX,Q3,ve,h1,h2,true_and];exact g6
theorem fh {k:κ}{v:β}:∀{m:List (κ×β)},ky k m=none->jc k v m=m++[(k,v)]:=by
 intro m
 induction m with
 |nil=>intro _;rfl
 |cons p m ih=>
  obtain⟨a,u⟩:=p;intro h;simp only[ky]at h;split at h
  ·cases h
  ·rename_i hn;simp[jc,hn,ih h]
theorem zW.modify {es:Array MapEntry}{c:Nat}{m:List (κ×β)}(h:zW E V es c m){k:κ}{j:Nat}{u key:Value}{v:β}(hf:lS E.sk (E.enc k) es.toList 0=some (some (j,u)))(hk:key=E.enc k):
 zW E V (es.modify j fun e=>{e with key,val:=V v}) c (jc k v m):=by
 subst hk;obtain⟨r,f1,f2,f3⟩:=Co (k:=k) (i:=0) h.of;rw[hf]at f1;cases f1;obtain⟨_,g2,e,g3,g4,g5,_⟩:=f3 j u rfl;simp only[Nat.sub_zero]at g2 g3 g5;have hl:(es.modify j fun e=>{e with key:=E.enc k,val:=V v}).toList=es.toList.set j {e with key:=E.enc k,val:=V v}:=by
  apply vm;intro i;rw[vC,vA,Vl];by_cases hi:j=i
  ·subst hi;have:es[j]? =some e:=by simpa using g3
   have g2':j < es.size:=by simpa using g2
   exact zE9
  ·simp[hi]
 have Et:(es.toList.set j {e with key:=E.enc k,val:=V v}).map (·.born)=es.toList.map (·.born):=by
  apply vm;intro i;simp only[Vi,Vl];by_cases hi:j=i
  ·subst hi;have g2':j < es.size:=by simpa using g2
   have:es[j]? =some e:=by simpa using g3
   exact zE9
  ·simp[hi]
 refine⟨?_,?_,?_⟩
 ·rw[hl];exact(g5 {e with key:=E.enc k,val:=V v} v rfl).2 rfl
 ·rw[hl];have hp:=h.born;have e1:∀l:List MapEntry,l.Pairwise (fun a b=>a.born < b.born)↔(l.map MapEntry.born).Pairwise (·< ·):=fun l=>List.pairwise_map.symm
  rw[e1]at hp|-;have sK:(es.toList.set j {e with key:=E.enc k,val:=V v}).map MapEntry.born=es.toList.map MapEntry.born:=Et;rw[sK];exact hp
 ·rw[hl];intro x hx;have:x.born∈(es.toList.set j {e with key:=E.enc k,val:=V v}).map (·.born):=QE.2 ⟨x,hx,rfl⟩;rw[Et]at this;obtain⟨y,hy,hyb⟩:=QE.1 this;rw[<- hyb];exact h.clock y hy
theorem zW.push {es:Array MapEntry}{c:Nat}{m:List (κ×β)}(h:zW E V es c m){k:κ}{v:β}(hn:ky k m=none):
 zW E V (es.push {key:=E.enc k,val:=V v,born:=c}) (c+1) (jc k v m):=by
 refine⟨?_,?_,?_⟩
 ·rw[fh hn];have:=h.of;simp only[iX]at this|-;simp[this]
 ·exact zDM
 ·exact zD3
variable {P:Program} {n:Nat} {rs:List RO} {Γ:Env} {H:SH} {Z:List PanicEntry->Env->SH->Prop} {K:Env->SH->Prop} {d:Option Nat}
inductive uG:SH->Nat->Obj->Prop where
 |here {b:Nat} {o:Obj} {L:SH}:uG ([.obj b o]::L) b o
 |there {A:List kB} {L:SH} {b:Nat} {o:Obj}:uG L b o->uG (A::L) b o
 |among {A:List kB} {L:SH} {b:Nat} {o:Obj}:kB.obj b o∈A->uG (A::L) b o
theorem uG.mem {b:Nat}{o:Obj}(h:uG H b o):kB.obj b o∈H.flatten:=by
 induction h with
 |here=>simp
 |there _ ih=>simp only[V6,Q7];exact .inr ih
 |among h=>simp only[V6,Q7];exact .inl h
theorem gu {b:Nat}{o:Obj}{L F:List kB}{w:World}(hm:kB.obj b o∈L)(hs:Sat w (L++F)):(getObj b).run P w=.ok o w:=by
 obtain⟨h1,h2⟩:=hs.obj (Zw F hm);cases o <;> simp_all [Go.getObj,Sem.run,wT]
theorem wd {sk:SK}{zero:Value}{ok:Bool}{m x:Operand}{b c:Nat}{es:Array MapEntry}{k:κ}{l:List (κ×β)}(hm:ev Γ m=some (.map (some b)))(hx:ev Γ x=some (E.enc k))(he:sk=E.sk)
 (ho:uG H b (.map es c)) (hl:zW E V es c l) (h:VO P n rs (ak d (mo ok zero ((ky k l).map V)) Γ) H Z K):VO P n (⟨d,none,.lookup sk zero ok m x⟩::rs) Γ H Z K:=by
 subst he;refine VO.read rfl rfl (fun ρ aG=>⟨_,rfl,fun F w hs=>?_⟩) h;obtain⟨r,f1,f2,_⟩:=Co (k:=k) (i:=0) hl.of;have hg:=gu (P:=P) ho.mem hs;rw[aG _ _ hm,aG _ _ hx];simp only[wA,Sem.run_bind,hg,Result.andThen_ok,Sem.run_pure,f1];rw[<- f2];cases r with
 |none=>rfl
 |some p=>rfl
theorem wa {sk:SK}{m x y:Operand}{b c:Nat}{es:Array MapEntry}{k:κ}{v:β}{l:List (κ×β)}{R:SH}(hm:ev Γ m=some (.map (some b)))(hx:ev Γ x=some (E.enc k))(hy:ev Γ y=some (V v))(he:sk=E.sk)
 (ht:Tk H [.obj b (.map es c)] R) (hl:zW E V es c l) (h:∀cp c',zW E V cp c' (jc k v l)->VO P n rs (ak d undef Γ) ([.obj b (.map cp c')]::R) Z K):VO P n (⟨d,none,.xP sk m x y⟩::rs) Γ H Z K:=by
 subst he;refine VO.act rfl rfl (fun ρ aG=>⟨_,rfl,?_⟩);rw[aG _ _ hm,aG _ _ hx,aG _ _ hy];refine az.perm ht.perm ?_;refine Gl (m:=b) (c:=c) (es:=es) Zs ?_;obtain⟨r,f1,f2,f3⟩:=Co (k:=k) (i:=0) hl.of;simp only[f1];cases r with
 |none=>
  refine az.bind (az.setObj rfl (az.pure ⟨undef,_,.inr ⟨rfl,rfl⟩,?_,h _ _ (hl.push (by simpa using f2.symm))⟩));simp
 |some p=>
  obtain⟨j,u⟩:=p;obtain⟨_,g2,e,g3,g4,_⟩:=f3 j u rfl;simp only[Nat.sub_zero]at g3;have Z3:((es[j]?).map (·.key)).getD (E.enc k)=E.enc k:=by
   have:es[j]? =some e:=by simpa using g3
   simp[this,g4]
  refine az.bind (Kt _ _ (fun kk iy=>?_));have Z4:kk=E.enc k:=by rcases iy with h|h;rw[h,Z3];exact h
  refine az.bind (az.setObj rfl (az.pure ⟨undef,_,.inr ⟨rfl,rfl⟩,?_,h _ _ (hl.modify f1 Z4)⟩));simp
end
inductive kY (size:Nat):Value->Nat->List Value->List Value->Prop where
 |mk {b o n c:Nat} {xs sp:List Value}:xs.length=n*size->xs.length+sp.length=c*size->n<=c->kY size (.slice (some ⟨b,o,none⟩) n c) n xs sp
 |nil:kY size Nz 0 [] []
def ai:Value->List Value->List Value->List kB
 |.slice (some ⟨b,o,none⟩) _ _,xs,sp=>kA b o (xs++sp)
 |_,_,_=>[]
theorem kY.len {size n:Nat}{v:Value}{xs sp:List Value}(h:kY size v n xs sp):xs.length=n*size:=by
 cases h with
 |mk h1 _ _=>exact h1
 |nil=>simp
theorem kY.some {size n:Nat}{v:Value}{xs sp:List Value}(h:kY size v n xs sp)(hn:0 < n):∃b o c,v=.slice (some ⟨b,o,none⟩) n c/\n<=c/\xs.length+sp.length=c*size:=by
 cases h with
 |mk h1 h2 h3=>exact⟨_,_,_,rfl,h3,h2⟩
 |nil=>omega
theorem kY.form {size n:Nat}{v:Value}{xs sp:List Value}(h:kY size v n xs sp):∃a c,v=.slice a n c:=by
 cases h with
 |mk h1 h2 h3=>exact⟨_,_,rfl⟩
 |nil=>exact⟨_,_,rfl⟩
theorem K9(bg:Nat):∀(r c:Nat),c<=2*bg+192->Builtin.growBy bg r c<=2*bg+192:=by
 intro r
 induction r with
 |zero=>intro c h;exact h
 |succ r ih=>
  intro c h;simp only[Builtin.growBy];split
  ·exact h
  ·exact ih _ Zo
theorem x4 {bg c:Nat}(h:c < bg):Builtin.nextslicecap bg c<=2*bg+192:=by
 unfold Builtin.nextslicecap;split
 ·omega
 ·split
  ·omega
  ·exact K9 bg 4 c Zo
theorem Src.mono {H H':List kB}{size n:Nat}{vs:List Value}{v:Value}(hs:∀x∈H,x∈H')(h:Src H size n vs v):Src H' size n vs v:=by
 unfold Src at*;split at h
 ·exact⟨h.1,fun x hx=>hs x (h.2 x hx)⟩
 ·exact h
 ·exact h
 ·exact h.elim
theorem zm(n:Nat)(z:List Value):(kX n z).length=n*z.length:=by simp[kX]
section
variable {P:Program} {n:Nat} {rs:List RO} {Γ:Env} {H:SH} {Z:List PanicEntry->Env->SH->Prop} {K:Env->SH->Prop} {d:Option Nat}
theorem j8 {t:TypeId}{size bytes:Nat}{zero:List Value}{s x:Operand}{sv xv:Value}{k m:Nat}{xs sp ys:List Value}{R:SH}(hs:ev Γ s=some sv)(hx:ev Γ x=some xv)(bh:kY size sv k xs sp)
 (ht:Tk H (ai sv xs sp) R) (hm:cR xv=some m) (O4:Src R.flatten size m ys xv) (hlen:ys.length=m*size) (gg:ys.all je=true) (hz:zero.length=size) (hb:bytes≠0) (bm:(2*(k+m)+192)*bytes<=2 ^ 48)
 (h:∀cq aY,kY size cq (k+m) (xs++ys) aY->VO P n rs (ak d cq Γ) (ai cq (xs++ys) aY::R) Z K):VO P n (⟨d,none,.append t size bytes zero s x⟩::rs) Γ H Z K:=by
 refine VO.Tv rfl rfl (fun ρ aG=>⟨_,rfl,?_⟩);rw[aG _ _ hs,aG _ _ hx];refine az.perm ht.perm ?_;have A4:Src (ai sv xs sp++R.flatten) size m ys xv:=O4.mono (fun x hx=>Q8 _ hx);have grow:∀(a:Option Addr) (c:Nat),sv=.slice a k c->¬(k+m<=c)->Src (ai sv xs sp++R.flatten) size k xs sv->
  az P (if Builtin.nextslicecap (k + m) c * bytes > 2 ^ 48 ∨ bytes = 0 then stuck "size" else do
   let cap <- choose (.appendCap (k+m) c t)
   let old <- Builtin.firstCells size k sv
   let new <- Builtin.firstCells size m xv
   let b <- newObj (.cells (old++new++(kX (cap - (k+m)) zero).toArray) t)
   pure (Next.value (.slice (Option.some ⟨b,0,none⟩) (k+m) cap)):Sem Next) (ai sv xs sp++R.flatten) fun nx L=>∃v H' X,(nx=.value v∨(nx=.skip/\v=undef))/\L.Perm (List.flatten H'++X)/\VO P n rs (ak d v Γ) H' Z K:=by
  intro a c gO hle hso;have δ:Builtin.nextslicecap (k+m) c*bytes<=2 ^ 48:=Ql (Qo _ (x4 Zo)) bm;rw[if_neg Zo];have fin:∀cap,k+m<=cap->az P (do
   let old <- Builtin.firstCells size k sv
   let new <- Builtin.firstCells size m xv
   let b <- newObj (.cells (old++new++(kX (cap - (k+m)) zero).toArray) t)
   pure (Next.value (.slice (Option.some ⟨b,0,none⟩) (k+m) cap)):Sem Next) (ai sv xs sp++R.flatten) fun nx L=>∃v H' X,(nx=.value v∨(nx=.skip/\v=undef))/\L.Perm (List.flatten H'++X)/\VO P n rs (ak d v Γ) H' Z K:=by
   intro cap Cw;refine az.bind (az.firstCells hso (az.bind (az.firstCells A4 (uh (fun b=>?_)))));have hI:kY size (.slice (Option.some ⟨b,0,none⟩) (k+m) cap) (k+m) (xs++ys) (kX (cap - (k+m)) zero):=by
    exact zCS
   refine⟨_,_,ai sv xs sp,.inl rfl,?_,h _ _ hI⟩;have:(xs.toArray++ys.toArray++(kX (cap - (k+m)) zero).toArray).toList=xs++ys++kX (cap - (k+m)) zero:=by simp
   rw[this];simp only[V6,vZ];refine List.Perm.trans ?_ (vU _ QN);simp only[ai,vZ];exact vW _
  exact zDX
 cases bh with
 |@mk b o _ c _ _ h1 h2 h3=>
  simp only[hm];by_cases hle:k+m<=c
  ·rw[if_pos hle];refine az.bind (az.firstCells A4 ?_);have dz:ys.length<=sp.length:=by
    have e1:(k+m)*size<=c*size:=Qo _ hle;rw[Qf]at e1;omega
   have mf:kA b o (xs++sp)=kA b o xs++(kA b (o+k*size) (sp.take ys.length)++kA b (o+k*size+ys.length) (sp.drop ys.length)):=by
    exact zDV
   have hI:kY size (.slice (Option.some ⟨b,o,none⟩) (k+m) c) (k+m) (xs++ys) (sp.drop ys.length):=by
    exact zE2
   have ZD:((⟨b,o,none⟩:Addr).add (k*size))=⟨b,o+k*size,none⟩:=eu b o _;simp only[ZD];have cg:(ai (.slice (Option.some ⟨b,o,none⟩) k c) xs sp++R.flatten).Perm (kA b (o+k*size) (sp.take ys.length)++(kA b o xs++(kA b (o+k*size+ys.length) (sp.drop ys.length)++R.flatten))):=by
    simp only[ai,mf,vZ];exact ju _ _ _
   refine az.perm cg (az.bind (az.storeCells tj (vX.1 gg) (az.pure ?_)));refine⟨_,_,[],.inl rfl,?_,h _ _ hI⟩;exact zE7
  ·exact zDO
 |nil=>
  exact zBQ
end
theorem aj.left {A B:SH}:aj (A++B) A:=⟨B,by simp[cz]⟩
theorem aj.perm {A B:SH}(h:A.flatten.Perm B.flatten):aj A B:=⟨[],by simpa[cz]using h⟩
theorem VO.imp {P:Program}{n:Nat}{rs:List RO}{Γ:Env}{H H':SH}{Z:List PanicEntry->Env->SH->Prop}{K:Env->SH->Prop}(i:aj H H')(h:VO P n rs Γ H' Z K):VO P n rs Γ H Z K:=
 fun l hl a w F ZZ Q ha hs hq hz=>h l hl a w F ZZ Q ha (hs.imp i) hq hz
theorem kG {bG:List RV}{Q:Value->SH->Prop}{e:Exit}{Γ:Env}{H Post:SH}{vs:List Value}(he:e=.normal∨e=.ret)(hr:Ng Γ H bG vs)(hq:Q (gw vs) Post)(hi:aj H Post):rK bG Q e Γ H:=⟨he,vs,Post,hr,hi,hq⟩
inductive DJ:SH->Nat->Nat->Nat->List Value->Prop where
 |cells {b o k n:Nat} {vs us:List Value} {L:SH}:o<=k->k - o+n<=vs.length->(vs.drop (k - o)).take n=us->us.length=n->DJ (kA b o vs::L) b k n us
 |there {A:List kB} {L:SH} {b k n:Nat} {us:List Value}:DJ L b k n us->DJ (A::L) b k n us
theorem DJ.row {H:SH}{b k n:Nat}{us:List Value}(h:DJ H b k n us):G4 H b k us/\us.length=n:=by
 induction h with
 |cells h1 _ h2 h3=>exact⟨.cells h1 (by rw[h3,h2]) h3,h3⟩
 |there _ ih=>exact⟨.there ih.1,ih.2⟩
theorem zQ {P:Program}{n:Nat}{rs:List RO}{Γ:Env}{H:SH}{Z:List PanicEntry->Env->SH->Prop}{K:Env->SH->Prop}{d:Option Nat}{m:Nat}{x:Operand}{b o:Nat}{us:List Value}(hx:ev Γ x=some (.pointer (some ⟨b,o,none⟩)))(hm:DJ H b o m us)(h:VO P n rs (ak d (.agg us.toArray) Γ) H Z K):VO P n (⟨d,none,.gS m x⟩::rs) Γ H Z K:=
 Si hx hm.row.1 hm.row.2 h
inductive DH (Γ:Env)(d:Nat):Option Operand->Nat->Prop where
 |Jx:DH Γ d none d
 |num {x:Operand} {k:IntKind} {m:Nat}:ev Γ x=some (.int k m)->DH Γ d (some x) m
theorem DH.val {Γ:Env}{d y m:Nat}{o:Option Operand}{ρ:Operand->Value}(h:DH Γ d o m)(hm:m<=y)(aG:∀x u,ev Γ x=some u->ρ x=u):jr y (some d) (o.map ρ)=some m:=by
 cases h with
 |Jx=>rfl
 |num hx=>simp[jr,aG _ _ hx,bound,hm]
section
variable {P:Program} {n:Nat} {rs:List RO} {Γ:Env} {H:SH} {Z:List PanicEntry->Env->SH->Prop} {K:Env->SH->Prop} {d:Option Nat}
theorem nG {size len cap l h b o o':Nat}{x:Operand}{lo hi:Option Operand}(hx:ev Γ x=some (.slice (some ⟨b,o,none⟩) len cap))(GN:DH Γ 0 lo l)(Ya:DH Γ len hi h)(hr:l<=h/\h<=cap)(ho:(if cap=l then o else o+l*size)=o')
 (hh:VO P n rs (ak d (.slice (some ⟨b,o',none⟩) (h - l) (cap - l)) Γ) H Z K):VO P n (⟨d,none,.nW size x lo hi none⟩::rs) Γ H Z K:=
 VO.pure rfl (fun ρ aG=>by
  have h1:=GN.val (y:=h) hr.1 aG;have h2:=Ya.val (y:=cap) hr.2 aG;have h3:jr cap (some cap) none=some cap:=rfl;simp[kR,aG _ _ hx,z5,h1,h2,h3,ho]) hh
theorem iP {l h:Nat}{x:Operand}{lo hi:Option Operand}{s:ByteArray}(hx:ev Γ x=some (.string s))(GN:DH Γ 0 lo l)(Ya:DH Γ s.size hi h)(hr:l<=h/\h<=s.size)
 (hh:VO P n rs (ak d (.string (s.extract l h)) Γ) H Z K):VO P n (⟨d,none,.I4 x lo hi⟩::rs) Γ H Z K:=
 VO.pure rfl (fun ρ aG=>by
  have h1:=GN.val (y:=h) hr.1 aG;have h2:=Ya.val (y:=s.size) hr.2 aG;have h3:jr s.size (some s.size) none=some s.size:=rfl;simp[kR,aG _ _ hx,z5,h1,h2,h3]) hh
end
theorem yw {P:Program}{n:Nat}{rs:List RO}{Γ:Env}{H:SH}{Z:List PanicEntry->Env->SH->Prop}{K:Env->SH->Prop}{d:Option Nat}{i:Nat}{x:Operand}{vs:Array Value}{v:Value}(hx:ev Γ x=some (.tuple vs))(hv:vs[i]? =some v)(h:VO P n rs (ak d v Γ) H Z K):VO P n (⟨d,none,.ext x i⟩::rs) Γ H Z K:=
 VO.pure rfl (fun ρ aG=>by simp[kR,aG _ _ hx,hv]) h
section
variable {P:Program} {n:Nat} {rs:List RO} {Γ:Env} {H R:SH} {Z:List PanicEntry->Env->SH->Prop} {K:Env->SH->Prop} {A B C:List kB} {c:IC} {Q:Exit->Env->SH->Prop}
end
section
variable {κ β:Type} [DecidableEq κ]
theorem xU {k:κ}{v:β}:∀{m:List (κ×β)},ky k m=some v->(k,v)∈m:=by
 intro m
 induction m with
 |nil=>intro h;simp[ky]at h
 |cons p m ih=>
  obtain⟨a,u⟩:=p;intro h;simp only[ky]at h;split at h
  ·rename_i e;cases h;subst e;simp
  ·simp[ih h]
theorem LO {k:κ}:∀{m:List (κ×β)},ky k m=none↔k∉m.map (·.1):=by
 intro m
 induction m with
 |nil=>simp[ky]
 |cons p m ih=>
  obtain⟨a,u⟩:=p;simp only[ky,Q3,Q9];split
  ·rename_i e;simp[e]
  ·rename_i e;rw[ih];simp only[not_or];exact⟨fun h=>⟨fun x=>e x.symm,h⟩,fun h=>h.2⟩
theorem jv {k j:κ}{v:β}:∀{m:List (κ×β)},ky j (jc k v m)=if k=j then some v else ky j m:=by
 intro m
 induction m with
 |nil=>simp[jc,ky]
 |cons p m ih=>
  obtain⟨a,u⟩:=p;simp only[jc];split
  ·rename_i e;subst e;simp only[ky];split <;> rfl
  ·rename_i e;simp only[ky,ih];by_cases h1:a=j
   ·subst h1;simp[show ¬k=a from fun x=>e x.symm]
   ·simp[h1]
theorem LR {k:κ}{v:β}:∀{m:List (κ×β)},(jc k v m).map (·.1)=if k∈m.map (·.1)then m.map (·.1)else m.map (·.1)++[k]:=by
 intro m
 induction m with
 |nil=>simp[jc]
 |cons p m ih=>
  obtain⟨a,u⟩:=p;simp only[jc];split
  ·rename_i e;simp[e]
  ·rename_i e;have e':¬k=a:=fun x=>e x.symm
   simp only[Q3,ih,Q9,e',false_or];split <;> simp
theorem oV {k:κ}{v:β}{m:List (κ×β)}(h:(m.map (·.1)).Nodup):((jc k v m).map (·.1)).Nodup:=by
 rw[LR];split
 ·exact h
 ·rename_i hk;rw[QK];refine⟨h,Zs,?_⟩;intro a ha b hb;simp at hb
  rintro rfl
  exact hk (hb ▸ ha)
theorem PX {k:κ}:∀{m:List (κ×β)},(E0 k m).Sublist m:=by
 intro m
 induction m with
 |nil=>exact .slnil
 |cons p m ih=>
  obtain⟨a,u⟩:=p;simp only[E0];split
  ·exact QX _ _
  ·exact ih.cons_cons _
theorem LS {k:κ}{x:β}:∀{m:List (κ×β)},(jc k x m).Perm ((k,x)::E0 k m):=by
 intro m
 induction m with
 |nil=>exact .refl _
 |cons p m ih=>
  obtain⟨a,u⟩:=p;simp only[jc,E0];split
  ·rename_i e;subst e;simp
  ·exact(ih.cons _).trans (List.Perm.swap _ _ _)
theorem Bh {k:κ}{x y:β}:∀{m:List (κ×β)},jc k y (jc k x m)=jc k y m:=by
 intro m
 induction m with
 |nil=>simp[jc]
 |cons p m ih=>
  obtain⟨a,u⟩:=p;simp only[jc];split
  ·rename_i e;simp[jc,e]
  ·rename_i e;simp[jc,e,ih]
theorem E4 {k:κ}{v:β}{q:κ×β}:∀{m:List (κ×β)},q∈jc k v m->q=(k,v)∨q∈m:=by
 intro m hq;have:=LS.mem_iff.1 hq;rcases Q9.1 this with h|h
 ·exact .inl h
 ·exact .inr (PX.subset h)
end
theorem iY.IZ {b o i k:Nat}{vs:List Value}{u:Value}{L:SH}(hk:o+i=k)(h:i < vs.length):iY (kA b o vs::L) b k [u] (kA b o (vs.set i u)::L):=by
 subst hk;refine .cells Zo tj ?_;rw[Qg,List.set_eq_take_append_cons_drop,if_pos h];simp
section
variable {κ β:Type} [DecidableEq κ] {E:KE κ} {V:β->Value}
end
theorem VC.fu {P:Program}{n:Nat}{Γ:Env}{H:SH}{Q:Exit->Env->SH->Prop}{c:Operand}{x y z:IC}(hc:ev Γ c=some (.bool true))(h:VC P n x Γ H (bt (fun aw H'=>VC P n z aw H' Q) Q)):VC P n (.seq (.cond c x y) z) Γ H Q:=VC.seq (VC.oE hc h)
theorem VC.ft {P:Program}{n:Nat}{Γ:Env}{H:SH}{Q:Exit->Env->SH->Prop}{c:Operand}{x y z:IC}(hc:ev Γ c=some (.bool false))(h:VC P n y Γ H (bt (fun aw H'=>VC P n z aw H' Q) Q)):VC P n (.seq (.cond c x y) z) Γ H Q:=VC.seq (VC.oD hc h)
abbrev vi (n:Int):Value:=.int .i64 n
abbrev kE (b:Nat):Value:=.pointer (some ⟨b,0,none⟩)
theorem aj.cut {H M Δ:SH}(h:aj H M)(k:aj M Δ):aj H Δ:=by
 obtain⟨X,hX⟩:=h;obtain⟨Y,hY⟩:=k;refine⟨Y++X,?_⟩;simp only[cz,V5]at*;refine hX.trans ?_;rw[<- vZ];exact hY.append_right _
theorem kS {P:Program}{n:Nat}{rs:List RO}{Γ:Env}{H:SH}{Z:List PanicEntry->Env->SH->Prop}{K:Env->SH->Prop}{d:Option Nat}{m:Nat}{x:Operand}{b o:Nat}{us:List Value}(hx:ev Γ x=some (.pointer (some ⟨b,o,none⟩)))(hm:∀a∈kA b o us,a∈H.flatten)(hn:us.length=m)(h:VO P n rs (ak d (.agg us.toArray) Γ) H Z K):VO P n (⟨d,none,.gS m x⟩::rs) Γ H Z K:=
 VO.read rfl rfl (fun ρ aG=>⟨_,rfl,fun F w hs=>by
  simp[aG _ _ hx,Instr.sureAddr,run_loadCells hn hm hs]⟩) h
theorem qO {P:Program}{n:Nat}{rs:List RO}{Γ:Env}{H:SH}{Z:List PanicEntry->Env->SH->Prop}{K:Env->SH->Prop}{d:Option Nat}{i:Nat}{x:Operand}{l:List Value}{v:Value}(hx:ev Γ x=some (.tuple l.toArray))(hi:l[i]? =some v)(h:VO P n rs (ak d v Γ) H Z K):VO P n (⟨d,none,.ext x i⟩::rs) Γ H Z K:=
 VO.pure rfl (fun ρ aG=>by simp[kR,aG _ _ hx,hi]) h
theorem Cb {P:Program}{n:Nat}{rs:List RO}{Γ:Env}{H:SH}{Z:List PanicEntry->Env->SH->Prop}{K:Env->SH->Prop}{d:Option Nat}{r:R}{s:Nat}{b:Bool}(hs:look Γ s=some undef)(h:VO P n rs (ak d undef Γ) H Z K):VO P n (⟨d,some (s,b),r⟩::rs) Γ H Z K:=by
 intro l hl a w F ZZ Q ha fC hq hz;obtain⟨o,l',rfl,qZ,ops,ho⟩:=wz hl;obtain⟨g1,g2,g3,g4⟩:=jG ho;have hw:jD (some (s,b)) a=false:=by simp[jD,ha.slots _ _ hs,undef]
 exact zBI
structure Jl (R:Prop):Prop where
 out:R
theorem GO {R G:Prop}(r:R)(h:Jl R->G:=by
 intro later
 (repeat (first
   |(first
   |(apply zG;rfl)
   |(apply yx;rfl;rfl)
   |(apply Cb;rfl)
   |(apply zq;rfl)
   |(apply yz;rfl)
   |(apply eJ;rfl;rfl)
   |(apply cS;rfl;rfl)
   |(apply zL;rfl;exact Zz)
   |(apply jI;rfl;exact Zh)
   |(apply jI;rfl;exact Zm)
   |(apply zQ;rfl;exact SZ)
   |(apply qO;rfl;rfl)
   |(apply yw;rfl;rfl)
   |(apply yq;rfl;rfl;omega)
   |(apply yF;rfl;rfl;omega)
   |(apply yy;rfl;rfl;omega)
   |(apply yE;rfl;rfl;decide)
   |(apply dh;rfl;rfl;omega;exact Zz)
   |(apply qP;rfl;rfl;omega;exact Zz)
   |(apply mN;rfl;(focus (simp only[Nt,Value.cells,Qr,Nat.reduceEqDiff,↓reduceIte,eq_self,Nat.reduceAdd,Nat.reduceSub,Qp,Nat.reduceLeDiff,Qj,and_self,rep,kX] <;> rfl)))
   |(apply jk;rfl;rfl;(focus (simp only[Nt,Value.cells,Qr,Nat.reduceEqDiff,↓reduceIte,eq_self,Nat.reduceAdd,Nat.reduceSub,Qp,Nat.reduceLeDiff,Qj,and_self,rep,kX] <;> rfl));rfl;rfl;exact Zac)
   |(apply iO;rfl;rfl;rfl))
    |(refine VO.nil ?_;simp only[V.aB,V.aJ,V.look,V.ak,V.bt,V.bb,Qr,Nat.reduceAdd,Nat.reduceEqDiff,↓reduceIte,eq_self])
    |refine VC.qI ?_
    |refine VC.hO ?_
    |refine VC.uw ?_
    |refine VC.hK ?_
    |refine VC.mJ ?_
    |refine VC.lE ?_
    |refine VC.uZ ?_
    |refine VC.block ?_
    |(refine VC.skip ?_;simp only[V.aB,V.aJ,V.look,V.ak,V.bt,V.bb,Qr,Nat.reduceAdd,Nat.reduceEqDiff,↓reduceIte,eq_self])
    |(refine VC.exit ?_;simp only[V.aB,V.aJ,V.look,V.ak,V.bt,V.bb,Qr,Nat.reduceAdd,Nat.reduceEqDiff,↓reduceIte,eq_self])
    |(refine VC.ret ?_;try simp only[V.bt,V.bb])
    |(apply VC.fu;rfl)
    |(apply VC.ft;rfl)
    |(apply VC.oE;rfl)
    |(apply VC.oD;rfl)))
 exact later.out):G:=h ⟨r⟩
def DK(P:Program)(fv:Value)(args:List Value)(w:World)(R:Ending->World->Prop):Prop:=
 match fv with
 |.func (.func f) first cap=>jo P f=true/\Calls P f (first++args.toArray++cap) w R
 |.func (.yield l) first _=>∃f tmps G9 body,(Instr.yield l (first++args.toArray)).run P w=.ok (.round l f tmps G9 body) w/\RoundIn Fence.wide 0 P l f tmps G9 body w R
 |_=>False
def dj(P:Program)(fv:Value)(args:List Value)(bq:SH)(Q:Value->SH->Prop):Prop:=
 ∀F w,Sat w (bq.flatten++F)->DK P fv args w fun e w'=>∃v Post,e=.returned v/\Q v Post/\Sat w' (Post.flatten++F)/\ki w w'
theorem DK.mono {P:Program}{fv:Value}{args:List Value}{w:World}{R R':Ending->World->Prop}(h:DK P fv args w R)(hr:∀e w',R e w'->R' e w'):DK P fv args w R':=by
 unfold DK at*;split at h
 ·exact⟨h.1,Calls.mono h.2 hr⟩
 ·obtain⟨f,tmps,G9,body,h1,h2⟩:=h;exact⟨f,tmps,G9,body,h1,RoundIn.mono h2 hr⟩
 ·exact h.elim
theorem dj.conv {P:Program}{fv:Value}{args:List Value}{H bq R:SH}{Q Q':Value->SH->Prop}(h:dj P fv args bq Q)(hs:cz H bq R)(hq:∀v Post,Q v Post->∃aO,Q' v aO/\aj (Post++R) aO):dj P fv args H Q':=by
 intro F w hw;have rT:Sat w (bq.flatten++(R.flatten++F)):=by
  rw[<- vZ];exact hw.perm (vV F hs)
 refine(h (R.flatten++F) w rT).mono ?_
 rintro e w' ⟨v,Post,h1,h2,h3,h4⟩
 obtain⟨aO,h5,h6⟩:=hq v Post h2;refine⟨v,aO,h1,h5,Sat.imp h6 ?_,h4⟩;rw[V5,vZ];exact h3
theorem dj.bX {P:Program}{f:Nat}{first cap:Array Value}{args:List Value}{bq:SH}{Q:Value->SH->Prop}(h:ao P f (first.toList++args++cap.toList) bq Q):dj P (.func (.func f) first cap) args bq Q:=by
 exact zCV
theorem dR {P:Program}{n:Nat}{rs:List RO}{Γ:Env}{H:SH}{Z:List PanicEntry->Env->SH->Prop}{K:Env->SH->Prop}{d:Option Nat}{x:Operand}{fv:Value}{xs:List Operand}{args:List Value}{bq R:SH}{Q:Value->SH->Prop}
 (hx:ev Γ x=some fv) (hf:dj P fv args bq Q) (he:gN Γ xs=some args) (hs:cz H bq R)
 (h:∀v Post,Q v Post->VO P n rs (ak d v Γ) (Post++R) Z K):VO P n (⟨d,none,.pK x xs⟩::rs) Γ H Z K:=by
 intro l hl a w F ZZ Q' ha fC hq hz;obtain⟨o,l',rfl,qZ,ops,ho⟩:=wz hl;obtain⟨g1,g2,g3,g4⟩:=jG ho;show jx P ZZ (_,o) (eK P ZZ Q' l') a w;unfold jx;have hp:kf (V.R.pK x xs)=false:=rfl;have hr:jE (V.R.pK x xs)=false:=rfl;simp only[jD,hp,hr,if_true,vJ,if_false];refine⟨fun e=>(by cases e),?_⟩;obtain⟨c,h1,h2,h3⟩:=Bg g1;have hm:xs.map a.eval=args:=ha.gN he;have cu:(c.args.map a.eval)=args.toArray:=by
  exact zEM
 have xy:Sat w (bq.flatten++(R.flatten++F)):=by
  exact zD9
 have hi:=hf (R.flatten++F) w xy;have fin:∀(e:Ending) (w':World),(∃v Post,e=.returned v/\Q v Post/\Sat w' (Post.flatten++(R.flatten++F))/\ki w w')->∃v,e=.returned v/\eK P ZZ Q' l' (a.put o.dst v) w':=by
  rintro e w' ⟨v,Post,rfl,hQ,DD,hk⟩
  refine⟨v,rfl,?_⟩;exact zBM
 have OQ:a.eval x=fv:=ha.ev hx;unfold DK at hi;split at hi
 ·rename_i f first cap
  have bI:(execOp a.eval o).run P w=.ok (.enter f (first++args.toArray++cap)) w:=by
   simp[execOp,h1,resolve,h2,OQ,Deferred.ofValue,invoke,cu];rw[zC hi.1]
  simp only[yS,bI,jg];refine hi.2.mono (fun e w' he=>?_);obtain⟨v,rfl,hv⟩:=fin e w' he;exact hv
 ·rename_i l0 first cap
  obtain⟨f,tmps,G9,body,hy,sO⟩:=hi;have bI:(execOp a.eval o).run P w=.ok (.round l0 f tmps G9 body) w:=by
   simp[execOp,h1,resolve,h2,OQ,Deferred.ofValue,invoke,cu];exact hy
  simp only[yS,bI,jg];refine sO.mono (fun e w' he=>?_);obtain⟨v,rfl,hv⟩:=fin e w' he;exact hv
 ·exact hi.elim
def uT:List Nat->List Value->Env->Env
 |p::ps,v::vs,Γ=>uT ps vs ((p,v)::Γ)
 |_,_,Γ=>Γ
def OkC {α:Type}(Spec:List α->Prop)(c:List α):Prop:=∃t,Spec (c++t)
def Iter(P:Program)(g:Value){α:Type}(enc:α->List Value)(bq Post:SH)(Spec:List α->Prop):Prop:=
 ∀(y:Value) (J SP:List α->List kB->Prop),
  (∀c x A,OkC Spec (c++[x])->J c A->dj P y (enc x) [A] (fun v B=>(v=.bool true/\∃A',J (c++[x]) A'/\B=[A'])∨(v=.bool false/\∃B',SP (c++[x]) B'/\B=[B'])))->
  ∀A,J [] A->dj P g [y] (bq++[A]) (fun v B=>v=.tuple #[]/\((∃full A',Spec full/\J full A'/\B=Post++[A'])∨(∃c B',OkC Spec c/\SP c B'/\B=Post++[B'])))
section
variable {P:Program} {n:Nat} {Γ:Env} {H:SH} {Q:Exit->Env->SH->Prop}
theorem Hb {ps:List Nat}:∀{vs:List Value} {Γ:Env} {tmps:Array Value},(∀t∈ps,t < n)->ps.length=vs.length->jl n Γ {tmps:=tmps,defers:=[]}->
 jl n (uT ps vs Γ) {tmps:=(ps.zip vs).foldl (fun tmps (t,a)=>tmps.setIfInBounds t a) tmps,defers:=[]}:=by
 induction ps with
 |nil=>intro vs Γ tmps _ _ h;cases vs <;> exact h
 |cons p ps ih=>
  intro vs Γ tmps hp hl h;cases vs with
  |nil=>simp at hl
  |cons v vs=>
   simp only[uT,List.zip_cons_cons,List.foldl_cons];refine ih (fun t ht=>hp t (by simp[ht])) (by simpa using hl) ?_;exact h.put (d:=p) (hp p Zs) v
def wi(fn:FuncId)(tmps:Array Value)(qs:Array Tmp)(A B:Code)(db:Nat)(st:LoopState)(pe:Option Code):Loop:={state:=st,pending:=pe,fn,tmps,params:=qs,assign:=A,body:=B,defers:=db}
theorem dP {w:World}{l:Nat}{r:Loop}(h:w.heap[l]? =some (.loop r)):(Instr.getLoop l).run P w=.ok r w:=by
 simp[Instr.getLoop,Go.getObj,Sem.run,h]
theorem IS {kp:Nat->List Nat}{od:Nat->List (List Nat)}{fn:FuncId}{tmps:Array Value}{qs:Array Tmp}{A B:Code}{db l:Nat}{G9 body:IC}{vs:List Value}{I:List kB}{Qb:Exit->SH->Prop}
 (UK:∀t∈qs.toList,t < n) (hlen:qs.toList.length=vs.length) (ha:jl n Γ {tmps:=tmps,defers:=[]}) (h1:wk P n kp od A=some G9) (h2:wk P n kp od B=some body)
 (h:VC P n G9 (uT qs.toList vs Γ) [I] (fun e aw H'=>e=.normal/\VC P n body aw H' (fun e _ lD=>match e with|.normal=>Qb .normal lD|.ret=>Qb .ret lD|.exit id=>Qb (.exit id) lD|_=>False))):
 dj P (.func (.yield l) #[] #[]) vs [I++[.obj l (.loop (wi fn tmps qs A B db .ready none))]] (fun v Bk=>(v=.bool true/\∃lD,Qb .normal lD/\Bk=[lD.flatten++[.obj l (.loop (wi fn tmps qs A B db .ready none))]])∨
  (v=.bool false/\∃lD,((Qb .ret lD/\Bk=[lD.flatten++[.obj l (.loop (wi fn tmps qs A B db .done (some .ret)))]])∨(∃id,Qb (.exit id) lD/\Bk=[lD.flatten++[.obj l (.loop (wi fn tmps qs A B db .done (some (.exit id))))]])))):=by
 intro F w hs;have nS:Sat w ([I].flatten++(.obj l (.loop (wi fn tmps qs A B db .ready none))::F)):=by simpa using hs
 have hobj:=(nS.obj (b:=l) (Q8 _ (QB ..))).1;refine⟨fn,(qs.zip vs.toArray).foldl (fun tmps (t,a)=>tmps.setIfInBounds t a) tmps,A,B,?_,?_⟩
 ·simp only[Instr.yield,Sem.run_bind,dP hobj,Result.andThen_ok];have:(#[]++vs.toArray:Array Value).size=qs.size:=by simpa using hlen.symm
  simp[wi,hlen.symm]
 ·have hz:(qs.zip vs.toArray).foldl (fun tmps (t,a)=>tmps.setIfInBounds t a) tmps=(qs.toList.zip vs).foldl (fun tmps (t,a)=>tmps.setIfInBounds t a) tmps:=by
   rw[<- Array.foldl_toList];simp
  rw[hz];refine roundIn_of_wpIn trivial ?_;refine h (some l) kp od A h1 _ w _ _ (fun l' e=>by cases e;exact⟨_,QB ..⟩) (Hb UK hlen ha) nS ?_
  rintro e a1 w1 YO H1 X ⟨rfl,hb⟩ g1 _ g3 g4
  have g3':Sat w1 (.obj l (.loop (wi fn tmps qs A B db .ready none))::(H1.flatten++(F++marks X))):=by
   refine g3.perm ?_;simp only[vf];exact QR
  have Yi:=(g3'.obj (QB ..)).1;obtain⟨s1,s2⟩:=Sat.setObj (u:=.loop (wi fn tmps qs A B db .busy none)) g3' rfl;refine⟨{w1 with heap:=w1.heap.setIfInBounds l (.loop (wi fn tmps qs A B db .busy none))},?_,?_⟩
  ·have hg:=dP (P:=P) Yi;simp only[Instr.beginRound,Sem.run_bind,hg,Result.andThen_ok];simp[wi,Go.setObj,Sem.run,Yi]
  have s3:Sat {w1 with heap:=w1.heap.setIfInBounds l (.loop (wi fn tmps qs A B db .busy none))} (H1.flatten++(.obj l (.loop (wi fn tmps qs A B db .busy none))::(F++marks X))):=s1.perm QR.symm;refine hb (some l) kp od B h2 a1 _ _ _ (fun l' e=>by cases e;exact⟨_,QB ..⟩) g1 s3 ?_;intro e a2 w2 cr H2 Y q k1 _ k3 k4;have k3':Sat w2 (.obj l (.loop (wi fn tmps qs A B db .busy none))::(H2.flatten++F)):=by
   have p:(H2.flatten++(.obj l (.loop (wi fn tmps qs A B db .busy none))::(F++marks X)++marks Y)).Perm ((.obj l (.loop (wi fn tmps qs A B db .busy none))::(H2.flatten++F))++(marks X++marks Y)):=by
    simp only[vf,vZ];exact QR
   exact(k3.perm p).left
  have Yj:=(k3'.obj (QB ..)).1;have aP:=g4.trans (s2.trans k4);have fin:∀(j:Option Code) (st:LoopState),∀(DF:st=if j.isNone then .ready else .done),(Instr.endRound l j).run P w2=.ok (.bool j.isNone) {w2 with heap:=w2.heap.setIfInBounds l (.loop (wi fn tmps qs A B db st j))}/\
   Sat {w2 with heap:=w2.heap.setIfInBounds l (.loop (wi fn tmps qs A B db st j))} ([H2.flatten++[kB.obj l (.loop (wi fn tmps qs A B db st j))]].flatten++F)/\ki w {w2 with heap:=w2.heap.setIfInBounds l (.loop (wi fn tmps qs A B db st j))}:=by
   intro j st DF;obtain⟨t1,t2⟩:=Sat.setObj (u:=.loop (wi fn tmps qs A B db st j)) k3' rfl;refine⟨?_,?_,aP.trans t2⟩
   ·subst DF;simp only[Instr.endRound,Sem.run_bind,dP Yj,Result.andThen_ok,wi,Go.setObj,Sem.run,Yj,Sem.run_pure]
   ·refine t1.perm ?_;simp only[V6,V7,vd,vZ,QW];exact QR.symm
  cases e with
  |normal=>
   obtain⟨f1,f2,f3⟩:=fin none .ready rfl;exact⟨_,_,f1,_,_,rfl,.inl ⟨rfl,_,q,rfl⟩,f2,f3⟩
  |ret=>
   obtain⟨f1,f2,f3⟩:=fin (some .ret) .done rfl;exact⟨_,_,f1,_,_,rfl,.inr ⟨rfl,_,.inl ⟨q,rfl⟩⟩,f2,f3⟩
  |exit id=>
   obtain⟨f1,f2,f3⟩:=fin (some (.exit id)) .done rfl;exact⟨_,_,f1,_,_,rfl,.inr ⟨rfl,_,.inr ⟨id,q,rfl⟩⟩,f2,f3⟩
  |goto _=>exact q.elim
  |panic _=>exact q.elim
  |outgrown=>exact q.elim
theorem Hl {iu:FuncId}{tmps:Array Value}{qs:Array Tmp}{A B:Code}{ρ:Option Nat}{w:World}{L F:List kB}(hr:Rnd ρ F)(fC:Sat w (L++F)):
 ∃(l db:Nat) (X:List Nat) (w1:World),(Instr.enterLoop iu tmps qs A B ρ).run P w=.ok (l,X.map oC) w1/\
  Sat w1 (.obj l (.loop (wi iu tmps qs A B db .ready none))::(L++(F++marks X)))/\ki w w1:=by
 cases ρ with
 |none=>
  obtain⟨s1,s2⟩:=fC.newObj (.deferred (some [])) rfl;obtain⟨s3,s4⟩:=s1.newObj (.loop (wi iu tmps qs A B w.heap.size .ready none)) rfl;refine⟨(w.heap.push (.deferred (some []))).size,w.heap.size,[w.heap.size],_,?_,s3.perm ?_,s2.trans s4⟩
  ·simp[Instr.enterLoop,Go.newObj,Sem.run,wi,oC];rfl
  ·refine List.Perm.cons _ ?_;simp only[marks,Q3,Q6];rw[<- vZ];exact(List.perm_append_singleton _ _).symm
 |some l0=>
  obtain⟨r,ud⟩:=hr l0 rfl;have ho:=(fC.obj (Q8 _ ud)).1;obtain⟨s3,s4⟩:=fC.newObj (.loop (wi iu tmps qs A B r.defers .ready none)) rfl;refine⟨w.heap.size,r.defers,[],_,?_,?_,s4⟩
  ·simp[Instr.enterLoop,dP ho,Go.newObj,Sem.run,wi]
  ·simpa[marks]using s3
theorem xf {iu:FuncId}{tmps:Array Value}{qs:Array Tmp}{A B:Code}{db l:Nat}{st:LoopState}{pe:Option Code}{w:World}{L F:List kB}(DF:st≠.busy)
 (hs:Sat w (L++[.obj l (.loop (wi iu tmps qs A B db st pe))]++F)):∃w4,(Instr.endLoop l).run P w=.ok pe w4/\Sat w4 (L++F)/\ki w w4:=by
 have hs5:Sat w (.obj l (.loop (wi iu tmps qs A B db st pe))::(L++F)):=by
  refine hs.perm ?_;rw[vZ];exact QR
 have ho:=(hs5.obj (QB ..)).1;obtain⟨t1,t2⟩:=Sat.setObj (u:=.loop (wi iu tmps qs A B db .exhausted pe)) hs5 rfl;refine⟨_,?_,t1.sub (QX ..),t2⟩;have hgl:=dP (P:=P) ho;have hb:((wi iu tmps qs A B db st pe).state==LoopState.busy)=false:=by cases st <;> first|rfl|exact absurd rfl DF
 simp only[Instr.endLoop,Sem.run_bind,hgl,Result.andThen_ok,hb];simp[wi,Go.setObj,Sem.run,ho]
theorem VC.gp {α:Type}{enc:α->List Value}{g:Operand}{f:Nat}{first cap:Array Value}{ps:List Nat}{G9 body:IC}{bq Post R:SH}{Spec:List α->Prop}(I:List α->List kB->Prop)(A0:List kB)(hg:ev Γ g=some (.func (.func f) first cap))
 (hit:Iter P (.func (.func f) first cap) enc bq Post Spec) (hs:cz H bq R) (h0:aj R [A0]) (h1:I [] A0) (hlen:∀x,(enc x).length=ps.length)
 (round:∀c x A,OkC Spec (c++[x])->I c A->VC P n G9 (uT ps (enc x) Γ) [A] (fun e aw H'=>e=.normal/\VC P n body aw H' (fun e _ lD=>match e with|.normal=>∃A',I (c++[x]) A'/\aj lD [A']|.ret=>Q .ret Γ (Post++lD)|.exit id=>Q (.exit id) Γ (Post++lD)|_=>False)))
 (done:∀full A,Spec full->I full A->Q .normal Γ (Post++[A])):VC P n (.gp g ps G9 body) Γ H Q:=by
 intro ρ kp od code hl a w F QQ hr ha fC hh;obtain⟨qs,A,B,rfl,rfl,aI,Um,h2⟩:=jV hl;refine wpIn_rangeFunc (fun iu _=>?_);obtain⟨l,db,X,w1,he,nS,tD⟩:=Hl (P:=P) (iu:=iu) (tmps:=a.tmps) (qs:=qs) (A:=A) (B:=B) hr fC;have hyield:=hit (.func (.yield l) #[] #[]) (fun c A'=>∃A1,I c A1/\A'=A1++[.obj l (.loop (wi iu a.tmps qs A B db .ready none))])
  (fun c B'=>∃lD,(Q .ret Γ (Post++lD)/\B'=lD.flatten++[.obj l (.loop (wi iu a.tmps qs A B db .done (some .ret)))])∨(∃id,Q (.exit id) Γ (Post++lD)/\B'=lD.flatten++[.obj l (.loop (wi iu a.tmps qs A B db .done (some (.exit id))))]))
  (fun c x A' hc hA=>by
    obtain⟨A1,hI,rfl⟩:=hA;have hx:=IS (P:=P) (n:=n) (Γ:=Γ) (fn:=iu) (tmps:=a.tmps) (db:=db) (l:=l) (vs:=enc x) (I:=A1) (Qb:=fun e lD=>match e with|.normal=>∃A',I (c++[x]) A'/\aj lD [A']|.ret=>Q .ret Γ (Post++lD)|.exit id=>Q (.exit id) Γ (Post++lD)|_=>False)
     aI (hlen x).symm ⟨ha.size,ha.slots⟩ Um h2 ((round c x A1 hc hI).mono (fun e aw H' ⟨q1,q2⟩=>⟨q1,q2.mono (fun e _ lD q=>by cases e <;> exact q)⟩))
    refine hx.conv (R:=[]) (by simp[cz]) ?_
    rintro v Bk (⟨rfl,lD,⟨A2,hI2,q⟩,rfl⟩|⟨rfl,lD,q⟩)
    ·refine⟨_,.inl ⟨rfl,_,⟨A2,hI2,rfl⟩,rfl⟩,?_⟩;obtain⟨R',hR'⟩:=q;refine⟨R',?_⟩;simp only[cz,V6,V7,vd]at hR'|-;rw[vZ];refine(vV _ hR').trans ?_;rw[vZ];exact zDQ
    ·rcases q with⟨q,rfl⟩|⟨id,q,rfl⟩
     ·exact⟨_,.inr ⟨rfl,_,⟨lD,.inl ⟨q,rfl⟩⟩,rfl⟩,by rw[vd];exact aj.refl _⟩
     ·exact⟨_,.inr ⟨rfl,_,⟨lD,.inr ⟨id,q,rfl⟩⟩,rfl⟩,by rw[vd];exact aj.refl _⟩)
  _ ⟨A0,h1,rfl⟩
 have nT:Sat w1 ((bq++[A0++[kB.obj l (.loop (wi iu a.tmps qs A B db .ready none))]]).flatten++(F++marks X)):=by
  have p1:(kB.obj l (.loop (wi iu a.tmps qs A B db .ready none))::(H.flatten++(F++marks X))).Perm (R.flatten++(bq.flatten++(kB.obj l (.loop (wi iu a.tmps qs A B db .ready none))::(F++marks X)))):=by
   refine QR.symm.trans ?_;refine(vV _ hs).trans ?_;rw[vZ];exact ju _ _ _
  have h3:=(nS.perm p1).imp h0;refine h3.perm ?_;simp only[V5,V6,V7,vd,vZ,QW];exact ju _ _ _
 have aU:=hyield (F++marks X) w1 nT;obtain⟨Lf,ZM⟩:=aU;refine⟨l,X.map oC,w1,{target:=.fn (.func f) cap,args:=first++[Value.func (.yield l) #[] #[]].toArray},w1,f,first++[Value.func (.yield l) #[] #[]].toArray++cap,w1,he,?_,fun _ _=>trivial,?_,?_,?_⟩
 ·have OQ:a.eval g=.func (.func f) first cap:=ha.ev hg
  simp only[resolve,OQ,Deferred.ofValue];simp[Act.eval]
 ·simp only[invoke];rw[zC Lf]
 ·intro h;simp at h
 refine AL (ZM.mono ?_)
 ·rintro e w3 ⟨v,Pst,rfl,⟨rfl,hp⟩,DE,oM⟩
  have Cv:jl n Γ {a with defers:=X.map oC++a.defers}:=⟨ha.size,ha.slots⟩;rcases hp with⟨full,_,hf,⟨A1,hI,rfl⟩,rfl⟩|⟨c,B',_,⟨lD,hj⟩,rfl⟩
  ·obtain⟨w4,e1,e2,e3'⟩:=xf (P:=P) (L:=Post.flatten++A1) (st:=.ready) (pe:=none) Zs (by simpa[vZ]using DE);have e3:=tD.trans (oM.trans e3');exact⟨none,w4,e1,hh _ _ _ _ _ X (done full A1 hf hI) Cv rfl (by simpa using e2) e3⟩
  ·rcases hj with⟨q,rfl⟩|⟨id,q,rfl⟩
   ·obtain⟨w4,e1,e2,e3'⟩:=xf (P:=P) (L:=Post.flatten++lD.flatten) (st:=.done) (pe:=some .ret) Zs (by simpa[vZ]using DE);have e3:=tD.trans (oM.trans e3');exact⟨_,w4,e1,wpIn_ret (hh _ _ _ _ _ X q Cv rfl (by simpa using e2) e3)⟩
   ·obtain⟨w4,e1,e2,e3'⟩:=xf (P:=P) (L:=Post.flatten++lD.flatten) (st:=.done) (pe:=some (.exit id)) Zs (by simpa[vZ]using DE);have e3:=tD.trans (oM.trans e3');exact⟨_,w4,e1,wpIn_exit (hh _ _ _ _ _ X q Cv rfl (by simpa using e2) e3)⟩
end
end Go.V

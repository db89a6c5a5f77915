/-
  The rules as they are used: one for each kind of operation; side conditions are met by themselves where they can be.
-/
import Derived.Test.YtijnokbblmbpkaaGreatDoorS4
set_option linter.all false
namespace Go.V
open Go
inductive Tk:SH->List kC->SH->Prop where
 |here {A:List kC} {L:SH}:Tk (A::L) A L
 |there {A B:List kC} {L R:SH}:Tk L A R->Tk (B::L) A (B::R)
theorem zR(A B X:List kC):(A++(B++X)).Perm (B++(A++X)):=by
 exact zAT
theorem Tk.perm {L R:SH}{A:List kC}(h:Tk L A R):L.flatten.Perm (A++R.flatten):=by
 induction h with
 |here=>simp
 |there _ ih=>
  simp only[V9];refine(vV _ ih).trans ?_;exact zAT
theorem dX.nil {H:SH}:dX H [] H:=by simp[dX]
theorem dX.cons {H R R' bm:SH}{A:List kC}(h:Tk H A R)(k:dX R bm R'):dX H (A::bm) R':=by
 simp only[dX,V9,vf];exact h.perm.trans (vV _ k)
theorem ao.nil {H:SH}:ao H []:=⟨H,by simp[dX]⟩
theorem ao.cons {H R Δ:SH}{A:List kC}(h:Tk H A R)(k:ao R Δ):ao H (A::Δ):=by
 obtain⟨X,hX⟩:=k;refine⟨X,?_⟩;simp only[dX,V9,vf];exact h.perm.trans (vV _ hX)
theorem Sub.nil {Γ:Env}:Sub Γ []:=fun t v h=>by simp[look]at h
theorem Sub.cons {Γ Δ:Env}{t:Nat}{v:Value}(h:look Γ t=some v)(k:Sub Γ Δ):Sub Γ ((t,v)::Δ):=fun s u e=>by
 simp only[look]at e;split at e
 ·rename_i es;subst es;cases e;exact h
 ·exact k s u e
theorem Sub.refl {Γ:Env}:Sub Γ Γ:=fun _ _ h=>h
inductive Has:SH->Nat->Nat->Value->Prop where
 |cells {b o k:Nat} {vs:List Value} {v:Value} {L:SH}:o<=k->vs[k - o]? =some v->Has (kA b o vs::L) b k v
 |there {A:List kC} {L:SH} {b k:Nat} {v:Value}:Has L b k v->Has (A::L) b k v
 |among {A:List kC} {L:SH} {b k:Nat} {v:Value}:kC.cell b k v∈A->Has (A::L) b k v
theorem Has.mem {H:SH}{b k:Nat}{v:Value}(h:Has H b k v):kC.cell b k v∈H.flatten:=by
 induction h with
 |cells h1 h2=>
  simp only[V9,QA];left;exact kI.2 ⟨_,_,h2,by congr 1;omega⟩
 |there _ ih=>simp only[V9,QA];exact .inr ih
 |among h=>simp only[V9,QA];exact .inl h
inductive Hi:SH->Nat->Nat->List Value->Prop where
 |cells {b o k n:Nat} {vs us:List Value} {L:SH}:o<=k->(vs.drop (k - o)).take us.length=us->us.length=n->Hi (kA b o vs::L) b k us
 |there {A:List kC} {L:SH} {b k:Nat} {us:List Value}:Hi L b k us->Hi (A::L) b k us
theorem Hi.mem {H:SH}{b k:Nat}{us:List Value}(h:Hi H b k us):∀x∈kA b k us,x∈H.flatten:=by
 induction h with
 |cells h1 h2 _=>
  intro x hx;obtain⟨i,v,hi,rfl⟩:=kI.1 hx;simp only[V9,QA];left;rw[<- h2]at hi;simp only[List.getElem?_take,Vi]at hi;split at hi
  ·exact kI.2 ⟨_,v,hi,by congr 1;omega⟩
  ·cases hi
 |there _ ih=>intro x hx;simp only[V9,QA];exact .inr (ih x hx)
def DV(Γ:Env)(x:Operand):Value:=(ev Γ x).getD undef
def known(Γ:Env)(x:Operand):Bool:=(ev Γ x).isSome
theorem No {Γ:Env}{x:Operand}{ρ:Operand->Value}(h:known Γ x=true)(aK:∀x u,ev Γ x=some u->ρ x=u):ρ x=DV Γ x:=by
 obtain⟨u,hu⟩:=Qt.1 h;simp[DV,hu,aK _ _ hu]
def ptr(b o:Nat):Value:=.pointer (some ⟨b,o,none⟩)
section
variable {P:Program} {n:Nat} {rs:List RO} {Γ Δ:Env} {H:SH} {Z:List PanicEntry->Env->SH->Prop} {K:Env->SH->Prop} {d:Option Nat} {g:Option (Nat×Bool)}
theorem nI {r:R}{v:Value}(hp:kd r=true)(hk:(iN r).all (known Γ)=true)(hv:kT (DV Γ) r=some v)(h:VO P n rs (ap d v Γ) H Z K):VO P n (⟨d,none,r⟩::rs) Γ H Z K:=
 VO.pure hp (fun ρ aK=>by
  rw[<- hv];exact fT hp (fun x hx=>No (vZ.1 hk x hx) aK)) h
theorem Cl {x:Operand}{v:Value}(hx:ev Γ x=some v)(h:VO P n rs (ap d v Γ) H Z K):VO P n (⟨d,none,.mv x⟩::rs) Γ H Z K:=
 VO.pure rfl (fun ρ aK=>by simp[kT,aK _ _ hx]) h
theorem mJ {off:Nat}{x:Operand}{b o o':Nat}(hx:ev Γ x=some (.pointer (some ⟨b,o,none⟩)))(ho:o+off=o')(h:VO P n rs (ap d (.pointer (some ⟨b,o',none⟩)) Γ) H Z K):VO P n (⟨d,none,.YT off x⟩::rs) Γ H Z K:=
 VO.pure rfl (fun ρ aK=>by simp[kT,aK _ _ hx,ho]) h
theorem DK {x:Operand}{a:Addr}(hx:ev Γ x=some (.pointer (some a)))(h:VO P n rs (ap d (.pointer (some a)) Γ) H Z K):VO P n (⟨d,none,.sZ x⟩::rs) Γ H Z K:=
 VO.pure rfl (fun ρ aK=>by simp[kT,aK _ _ hx]) h
theorem wrap64 {z:Int}(h:-9223372036854775808<=z/\z<=9223372036854775807):IntKind.i64.wrap z=z:=by
 exact zDX
theorem DF {x y:Operand}{a b:Int}(hx:ev Γ x=some (.int .i64 a))(hy:ev Γ y=some (.int .i64 b))(hr:-9223372036854775808<=a+b/\a+b<=9223372036854775807)(h:VO P n rs (ap d (.int .i64 (a+b)) Γ) H Z K):
 VO P n (⟨d,none,.bin .add x y⟩::rs) Γ H Z K:=
 VO.pure rfl (fun ρ aK=>by simp[kT,aK _ _ hx,aK _ _ hy,zi,me,wrap64 hr]) h
theorem DO {x y:Operand}{a b:Int}(hx:ev Γ x=some (.int .i64 a))(hy:ev Γ y=some (.int .i64 b))(hr:-9223372036854775808<=a - b/\a - b<=9223372036854775807)(h:VO P n rs (ap d (.int .i64 (a - b)) Γ) H Z K):
 VO P n (⟨d,none,.bin .sub x y⟩::rs) Γ H Z K:=
 VO.pure rfl (fun ρ aK=>by simp[kT,aK _ _ hx,aK _ _ hy,zi,me,wrap64 hr]) h
theorem DJ {x y:Operand}{a b:Int}(hx:ev Γ x=some (.int .i64 a))(hy:ev Γ y=some (.int .i64 b))(hr:-9223372036854775808<=a*b/\a*b<=9223372036854775807)(h:VO P n rs (ap d (.int .i64 (a*b)) Γ) H Z K):
 VO P n (⟨d,none,.bin .mul x y⟩::rs) Γ H Z K:=
 VO.pure rfl (fun ρ aK=>by simp[kT,aK _ _ hx,aK _ _ hy,zi,me,wrap64 hr]) h
theorem DL {x y:Operand}{k:IntKind}{a b:Int}(hx:ev Γ x=some (.int k a))(hy:ev Γ y=some (.int k b))(hr:b≠0)(h:VO P n rs (ap d (.int k (a.tmod b)) Γ) H Z K):
 VO P n (⟨d,none,.bin .rem x y⟩::rs) Γ H Z K:=
 VO.pure rfl (fun ρ aK=>by simp[kT,aK _ _ hx,aK _ _ hy,zi,me,hr]) h
theorem WQ {k k':IntKind}{x:Operand}{a b:Int}(hx:ev Γ x=some (.int k' a))(hr:k.wrap a=b)(h:VO P n rs (ap d (.int k b) Γ) H Z K):VO P n (⟨d,none,.conv k x⟩::rs) Γ H Z K:=
 VO.pure rfl (fun ρ aK=>by simp[kT,aK _ _ hx,hr]) h
theorem qQ {size:Nat}{x i:Operand}{b o o' len cap:Nat}{k:IntKind}{m:Int}(hx:ev Γ x=some (.slice (some ⟨b,o,none⟩) len cap))(hi:ev Γ i=some (.int k m))(hb:0<=m/\m < len)
 (ho:o+m.toNat*size=o') (h:VO P n rs (ap d (.pointer (some ⟨b,o',none⟩)) Γ) H Z K):VO P n (⟨d,none,.H8 size x i⟩::rs) Γ H Z K:=
 VO.pure rfl (fun ρ aK=>by simp[kT,aK _ _ hx,aK _ _ hi,hb,ho]) h
theorem uA {len size:Nat}{x i:Operand}{b o o':Nat}{k:IntKind}{m:Int}(hx:ev Γ x=some (.pointer (some ⟨b,o,none⟩)))(hi:ev Γ i=some (.int k m))(hb:0<=m/\m < len)
 (ho:o+m.toNat*size=o') (h:VO P n rs (ap d (.pointer (some ⟨b,o',none⟩)) Γ) H Z K):VO P n (⟨d,none,.Lb len size x i⟩::rs) Γ H Z K:=
 VO.pure rfl (fun ρ aK=>by simp[kT,aK _ _ hx,aK _ _ hi,hb,ho]) h
theorem jx {x i:Operand}{s:ByteArray}{k:IntKind}{m:Int}{j:Nat}{c:UInt8}(hx:ev Γ x=some (.string s))(hi:ev Γ i=some (.int k m))(hm:m=(j:Int))(hc:s[j]? =some c)
 (h:VO P n rs (ap d (.int .u8 c.toNat) Γ) H Z K):VO P n (⟨d,none,.tT x i⟩::rs) Γ H Z K:=
 VO.pure rfl (fun ρ aK=>by subst hm;simp[kT,aK _ _ hx,aK _ _ hi,hc]) h
theorem ic {c a b:Operand}{v:Value}(hc:ev Γ c=some (.bool true))(ha:ev Γ a=some v)(h:VO P n rs (ap d v Γ) H Z K):VO P n (⟨d,none,.pick c a b⟩::rs) Γ H Z K:=
 VO.pure rfl (fun ρ aK=>by simp[kT,aK _ _ hc,aK _ _ ha]) h
theorem ib {c a b:Operand}{v:Value}(hc:ev Γ c=some (.bool false))(hb:ev Γ b=some v)(h:VO P n rs (ap d v Γ) H Z K):VO P n (⟨d,none,.pick c a b⟩::rs) Γ H Z K:=
 VO.pure rfl (fun ρ aK=>by simp[kT,aK _ _ hc,aK _ _ hb]) h
theorem J5 {s:Nat}{c:Bool}(hs:look Γ s=some (.bool c))(ht:c=true->VO P n rs ((s,.bool true)::Γ) H Z K)(hf:c=false->VO P n rs ((s,.bool false)::Γ) H Z K):VO P n rs Γ H Z K:=by
 cases c with
 |true=>exact VO.sub (Sub.cons hs Sub.refl) (ht rfl)
 |false=>exact VO.sub (Sub.cons hs Sub.refl) (hf rfl)
theorem qP {r:R}{s:Nat}{b:Bool}(hs:look Γ s=some (.bool b))(h:VO P n (⟨d,none,r⟩::rs) Γ H Z K):VO P n (⟨d,some (s,b),r⟩::rs) Γ H Z K:=by
 intro l hl a w F ZZ Q ha gU hq hz;obtain⟨o,l',rfl,tM,ops,ho⟩:=zI hl;obtain⟨g1,g2,g3,g4⟩:=jI ho;have hw:jC (some (s,b)) a=true:=by simp[jC,ha.slots _ _ hs]
 have:=h ((⟨d,none,r⟩,{o with guard:=none})::l') ⟨by simp[tM.1],fun x hx=>by
  rcases QC.1 hx with rfl|hx
  ·refine⟨ops,?_⟩;have hd:o.dst.all (fun x=>decide (x < n))=true:=by
    rw[<- g2];cases KY:d with
    |none=>rfl
    |some t=>have:=g3 t KY;simpa using this
   simp only at g2 g1;simp[dZ,g1,hd,g2]
  ·exact tM.2 x hx⟩ a w F ZZ Q ha gU hq hz
 have l9:ju P ZZ (⟨d,none,r⟩,{o with guard:=none}) (cp P ZZ Q l') a w:=this;show ju P ZZ (⟨d,some (s,b),r⟩,o) (cp P ZZ Q l') a w;unfold ju at l9|-;rw[if_pos (show jC _ a=true from hw)];rw[if_pos (show jC none a=true from rfl)]at l9;exact l9
theorem Ck {r:R}{s:Nat}{b c:Bool}(hs:look Γ s=some (.bool c))(hc:(c==b)=false)(h:VO P n rs (ap d undef Γ) H Z K):VO P n (⟨d,some (s,b),r⟩::rs) Γ H Z K:=by
 intro l hl a w F ZZ Q ha gU hq hz;obtain⟨o,l',rfl,tM,ops,ho⟩:=zI hl;obtain⟨g1,g2,g3,g4⟩:=jI ho;have hw:jC (some (s,b)) a=false:=by simpa[jC,ha.slots _ _ hs]using hc
 exact zBH
theorem wt {x:Operand}{b o:Nat}{v:Value}(hx:ev Γ x=some (.pointer (some ⟨b,o,none⟩)))(hm:Has H b o v)(h:VO P n rs (ap d v Γ) H Z K):VO P n (⟨d,none,.pS x⟩::rs) Γ H Z K:=
 VO.read rfl rfl (fun ρ aK=>⟨_,rfl,fun F w hs=>by
  have:=(hs.cell (Zw F hm.mem)).1;simp[aK _ _ hx,Instr.sureAddr,this]⟩) h
theorem RA {m:Nat}{x:Operand}{b o:Nat}{us:List Value}(hx:ev Γ x=some (.pointer (some ⟨b,o,none⟩)))(hm:Hi H b o us)(hn:us.length=m)(h:VO P n rs (ap d (.agg us.toArray) Γ) H Z K):VO P n (⟨d,none,.lx m x⟩::rs) Γ H Z K:=
 VO.read rfl rfl (fun ρ aK=>⟨_,rfl,fun F w hs=>by
  simp[aK _ _ hx,Instr.sureAddr,run_loadCells hn hm.mem hs]⟩) h
inductive Mo:SH->Nat->Nat->List Value->SH->Prop where
 |cells {b o k:Nat} {vs us ws:List Value} {L:SH}:o<=k->k - o+us.length<=vs.length->vs.take (k - o)++us++vs.drop (k - o+us.length)=ws->Mo (kA b o vs::L) b k us (kA b o ws::L)
 |there {A:List kC} {L L':SH} {b k:Nat} {us:List Value}:Mo L b k us L'->Mo (A::L) b k us (A::L')
theorem Mo.split {H H':SH}{b k:Nat}{us:List Value}(h:Mo H b k us H'):∃(old:List Value) (R:List kC),old.length=us.length/\H.flatten.Perm (kA b k old++R)/\H'.flatten.Perm (kA b k us++R):=by
 induction h with
 |@cells b o k vs us ws L h1 h2 h3=>
  subst h3;have lJ:vs=vs.take (k - o)++((vs.drop (k - o)).take us.length++vs.drop (k - o+us.length)):=by
   rw[<- List.drop_drop,QY,QY]
  have hl:(vs.take (k - o)).length=k - o:=by simp;omega
  have fE:((vs.drop (k - o)).take us.length).length=us.length:=by simp;omega
  have hk:o+(k - o)=k:=by omega
  refine⟨(vs.drop (k - o)).take us.length,kA b o (vs.take (k - o))++(kA b (k+us.length) (vs.drop (k - o+us.length))++L.flatten),fE,?_,?_⟩
  ·have e:kA b o vs=kA b o (vs.take (k - o))++(kA b k ((vs.drop (k - o)).take us.length)++kA b (k+us.length) (vs.drop (k - o+us.length))):=by
    conv=>lhs;rw[lJ]
    rw[j7,hl,hk,j7,fE]
   simp only[V9,e,vf];exact zR _ _ _
  ·simp only[V9,j7,hl,hk,vf];exact zR _ _ _
 |@there A L L' b k us _ ih=>
  obtain⟨old,R,h1,h2,h3⟩:=ih;refine⟨old,A++R,h1,?_,?_⟩
  ·simp only[V9];refine(vV A h2).trans ?_;exact zAT
  ·simp only[V9];refine(vV A h3).trans ?_;exact zAT
theorem Gt {m:Nat}{x y:Operand}{b o:Nat}{v:Value}{H':SH}(hx:ev Γ x=some (.pointer (some ⟨b,o,none⟩)))(hy:ev Γ y=some v)(hn:v.cells.size=m)(dT:v.cells.toList.all jo=true)
 (hu:Mo H b o v.cells.toList H') (h:VO P n rs (ap d undef Γ) H' Z K):VO P n (⟨d,none,.store m x y⟩::rs) Γ H Z K:=by
 refine VO.act rfl rfl (fun ρ aK=>⟨_,rfl,?_⟩);obtain⟨old,R,h1,h2,h3⟩:=hu.split;refine aG.perm h2 ?_;have ν:ρ y=v:=aK _ _ hy;have:=Ln (P:=P) (ρ:=ρ) (n:=m) (x:=x) (v:=y) (us:=old) (R:=R) (b:=b) (o:=o) (K:=fun nx L=>∃v H',(nx=.value v∨(nx=.skip/\v=undef))/\L.Perm H'.flatten/\VO P n rs (ap d v Γ) H' Z K)
  (aK _ _ hx) (by rw[ν];exact hn) (by rw[h1];simpa using hn) (by rw[ν];exact vZ.1 dT) ⟨undef,H',.inr ⟨rfl,rfl⟩,by rw[ν];exact h3.symm,h⟩
 exact this
theorem ie {m:Nat}{x y:Operand}{b o:Nat}{v:Value}{us:List Value}{H':SH}(hx:ev Γ x=some (.pointer (some ⟨b,o,none⟩)))(hy:ev Γ y=some v)(hv:v.cells.toList=us)(hn:us.length=m)(dT:us.all jo=true)
 (hu:Mo H b o us H') (h:VO P n rs (ap d undef Γ) H' Z K):VO P n (⟨d,none,.store m x y⟩::rs) Γ H Z K:=by
 subst hv;exact Gt hx hy (by simpa using hn) dT hu h
theorem qK {z:List Value}{ps:List (Nat×Nat×Operand)}{out:List Value}(hk:(ps.map (·.2.2)).all (known Γ)=true)(ho:jZ z (jU (DV Γ) ps)=some out)
 (h:VO P n rs (ap d (.agg out.toArray) Γ) H Z K):VO P n (⟨d,none,.build z ps⟩::rs) Γ H Z K:=by
 refine VO.pure rfl (fun ρ aK=>?_) h;have:jU ρ ps=jU (DV Γ) ps:=by
  exact zD1
 simp[kT,this,ho]
theorem kY {t:TypeId}{x:Operand}{v:Value}(hx:ev Γ x=some v)(h:∀b,VO P n rs (ap d (.pointer (some ⟨b,0,none⟩)) Γ) (kA b 0 v.cells.toList::H) Z K):VO P n (⟨d,none,.box t x⟩::rs) Γ H Z K:=by
 refine VO.act rfl rfl (fun ρ aK=>⟨_,rfl,?_⟩);refine Dn (fun b=>⟨_,_,.inl rfl,?_,h b⟩);rw[aK _ _ hx];simp
theorem kN {t:TypeId}{z:List Value}(h:∀b,VO P n rs (ap d (.pointer (some ⟨b,0,none⟩)) Γ) (kA b 0 z::H) Z K):VO P n (⟨d,none,.alloc t z⟩::rs) Γ H Z K:=by
 refine VO.act rfl rfl (fun ρ aK=>⟨_,rfl,?_⟩);exact zEC
theorem ia(h:∀b,VO P n rs (ap d (.map (some b)) Γ) ([.obj b (.map #[] 0)]::H) Z K):VO P n (⟨d,none,.oi⟩::rs) Γ H Z K:=by
 refine VO.act rfl rfl (fun ρ aK=>⟨_,rfl,?_⟩);refine Iv rfl (fun b=>⟨_,_,.inl rfl,?_,h b⟩);simp
theorem st_mkslice {t:TypeId}{size bytes:Nat}{z:List Value}{l c:Operand}{kl kc:IntKind}{li ci:Int}(hl:ev Γ l=some (.int kl li))(hc:ev Γ c=some (.int kc ci))(hb:0<=li/\li<=ci/\ci<=9223372036854775807/\bytes*ci<=2 ^ 48)
 (hz:z.length=size) (h:∀b,VO P n rs (ap d (.slice (some ⟨b,0,none⟩) li.toNat ci.toNat) Γ) (kA b 0 (kq ci.toNat z)::H) Z K):VO P n (⟨d,none,.Dr t size bytes z l c⟩::rs) Γ H Z K:=by
 refine VO.act rfl rfl (fun ρ aK=>⟨_,rfl,?_⟩);rw[aK _ _ hl,aK _ _ hc];simp only[hb,hz,and_self,if_true];exact zEC
theorem jE {t:TypeId}{len:Nat}{z:List Value}{ps:List (Nat×Nat×Operand)}{out:List Value}(hk:(ps.map (·.2.2)).all (known Γ)=true)(ho:jZ (kq len z) (jU (DV Γ) ps)=some out)
 (h:∀b,VO P n rs (ap d (.slice (some ⟨b,0,none⟩) len len) Γ) (kA b 0 out::H) Z K):VO P n (⟨d,none,.lN t len z ps⟩::rs) Γ H Z K:=by
 refine VO.act rfl rfl (fun ρ aK=>⟨_,rfl,?_⟩);have:jU ρ ps=jU (DV Γ) ps:=by
  exact zD1
 rw[this,ho];exact zEC
theorem kJ {f:Nat}{xs:List Operand}{args:List Value}{bm R:SH}{Q:Value->SH->Prop}(hf:aq P f args bm Q)(he:nQ Γ xs=some args)(hs:dX H bm R)
 (h:∀v Post,Q v Post->VO P n rs (ap d v Γ) (Post++R) Z K):VO P n (⟨d,none,.call f xs⟩::rs) Γ H Z K:=VO.call hf he hs h
variable {Q:Exit->Env->SH->Prop} {aU:List Nat}
theorem VC.AU(h:VO P n rs Γ H (fun _ _ _=>False) fun ay H'=>Q .normal (aT aU ay) H'):VC P n (.draw [rs] aU) Γ H Q:=VC.draw (by simpa using h)
theorem VC.uw {y:IC}(h:VO P n rs Γ H (fun ch ay H'=>Q (.panic ch) ay H') fun ay H'=>VC P n y (aT aU ay) H' Q):VC P n (.seq (.ly rs aU) y) Γ H Q:=VC.seq (VC.ly h)
theorem VC.nH {y:IC}(h:VO P n rs Γ H (fun _ _ _=>False) fun ay H'=>VC P n y (aT aU ay) H' Q):VC P n (.seq (.draw [rs] aU) y) Γ H Q:=VC.seq (VC.AU h)
theorem VC.DB {x y z:IC}(h:VC P n (.seq x y) Γ H (bD (fun ay H'=>VC P n z ay H' Q) Q)):VC P n (.seq (.seq x y) z) Γ H Q:=VC.seq h
theorem VC.nG {id:Nat}{x z:IC}(h:VC P n x Γ H (bx id (bD (fun ay H'=>VC P n z ay H' Q) Q))):VC P n (.seq (.block id x) z) Γ H Q:=VC.seq (VC.block h)
theorem VC.qG {y:IC}(h:VC P n y Γ H Q):VC P n (.seq .skip y) Γ H Q:=VC.seq (VC.skip h)
theorem VC.rG {c:Operand}{x y:IC}(hc:ev Γ c=some (.bool true))(h:VC P n x Γ H Q):VC P n (.cond c x y) Γ H Q:=VC.cond hc (fun _=>h) (fun e=>by cases e)
theorem VC.rF {c:Operand}{x y:IC}(hc:ev Γ c=some (.bool false))(h:VC P n y Γ H Q):VC P n (.cond c x y) Γ H Q:=VC.cond hc (fun e=>by cases e) (fun _=>h)
theorem VC.qF {c:Operand}{x y z:IC}{t:Bool}(hc:ev Γ c=some (.bool t))(ht:t=true->VC P n x Γ H (bD (fun ay H'=>VC P n z ay H' Q) Q))(hf:t=false->VC P n y Γ H (bD (fun ay H'=>VC P n z ay H' Q) Q)):
 VC P n (.seq (.cond c x y) z) Γ H Q:=VC.seq (VC.cond hc ht hf)
end
theorem SE:(∀cs:List Value,jZ cs []=some cs)/\
 (∀(cs:List Value) (o s:Nat) (v:Value) (r:List (Nat×Nat×Value)),jZ cs ((o,s,v)::r)=if v.cells.size=s/\o+s<=cs.length then jZ (cs.take o++v.cells.toList++cs.drop (o+s)) r else none)/\
 (∀ρ:Operand->Value,jU ρ []=[])/\(∀(ρ:Operand->Value) (o s:Nat) (x:Operand) (r:List (Nat×Nat×Operand)),jU ρ ((o,s,x)::r)=(o,s,ρ x)::jU ρ r)/\
 (∀(Γ:Env) (x:Operand),DV Γ x=(ev Γ x).getD undef)/\(∀(Γ:Env) (t:Nat),ev Γ (.tmp t)=look Γ t)/\(∀(Γ:Env) (v:Value),ev Γ (.const v)=some v)/\
 (∀(Γ:Env) (g:Nat),ev Γ (.global g)=some (.pointer (some ⟨g,0,none⟩)))/\(∀(Γ:Env) (f:Nat),ev Γ (.func f)=some (.func (.func f) #[] #[]))/\
 (∀(s t:Nat) (v:Value) (r:Env),look ((s,v)::r) t=if s=t then some v else look r t)/\(∀(d:Nat) (v:Value) (Γ:Env),ap (some d) v Γ=(d,v)::Γ)/\(∀(v:Value) (Γ:Env),ap none v Γ=Γ)/\
 (∀v d:Value,(some v).getD d=v)/\(∀l:List Value,l.toArray.size=l.length)/\(∀l:List Value,l.toArray.toList=l)/\(∀(a:Value) (l:List Value),(a::l).length=l.length+1)/\(([]:List Value).length=0)/\
 (∀(a:Value) (l:List Value) (n:Nat),(a::l).take (n+1)=a::l.take n)/\(∀l:List Value,l.take 0=[])/\(∀(a:Value) (l:List Value) (n:Nat),(a::l).drop (n+1)=l.drop n)/\(∀l:List Value,l.drop 0=l)/\
 (∀(a:Value) (l m:List Value),a::l++m=a::(l++m))/\(∀l:List Value,[]++l=l)/\(∀l:List Value,l++[]=l):=
 ⟨fun _=>rfl,fun _ _ _ _ _=>rfl,fun _=>rfl,fun _ _ _ _ _=>rfl,fun _ _=>rfl,fun _ _=>rfl,fun _ _=>rfl,fun _ _=>rfl,fun _ _=>rfl,fun _ _ _ _=>rfl,fun _ _ _=>rfl,fun _ _=>rfl,fun _ _=>rfl,fun _=>List.size_toArray,fun _=>rfl,
   fun _ _=>rfl,rfl,fun _ _ _=>rfl,fun _=>rfl,fun _ _ _=>rfl,fun _=>rfl,fun _ _ _=>rfl,fun _=>rfl,fun _=>vg _⟩
def ky {κ β:Type}[DecidableEq κ](k:κ):List (κ×β)->Option β
 |[]=>none
 |(a,v)::r=>if a=k then some v else ky k r
def jg {κ β:Type}[DecidableEq κ](k:κ)(v:β):List (κ×β)->List (κ×β)
 |[]=>[(k,v)]
 |(a,u)::r=>if a=k then(a,v)::r else(a,u)::jg k v r
def Fl {κ β:Type}[DecidableEq κ](k:κ):List (κ×β)->List (κ×β)
 |[]=>[]
 |(a,u)::r=>if a=k then r else(a,u)::Fl k r
structure Kg (κ:Type)[DecidableEq κ] where
 sk:SK
 enc:κ->Value
 same:∀a b,J3 sk (enc a) (enc b)=some (decide (a=b))
def yC:Kg ByteArray:=⟨.str,.string,fun _ _=>rfl⟩
def mh(ok:Bool)(zero:Value):Option Value->Value
 |some v=>if ok then .tuple #[v,.bool true]else v
 |none=>if ok then .tuple #[zero,.bool false]else zero
section
variable {κ β:Type} [DecidableEq κ] {E:Kg κ} {V:β->Value}
def lg(E:Kg κ)(V:β->Value)(es:List MapEntry)(m:List (κ×β)):Prop:=es.map (fun e=>(e.key,e.val))=m.map fun p=>(E.enc p.1,V p.2)
structure zk (E:Kg κ)(V:β->Value)(es:Array MapEntry)(c:Nat)(m:List (κ×β)):Prop where
 of:lg E V es.toList m
 born:es.toList.Pairwise fun a b=>a.born < b.born
 clock:∀e∈es.toList,e.born < c
theorem zk.nil:zk E V #[] 0 []:=⟨rfl,.nil,Zs⟩
theorem CJ {k:κ}:∀{es:List MapEntry} {m:List (κ×β)} {i:Nat},lg E V es m->
 ∃r,lU E.sk (E.enc k) es i=some r/\r.map (·.2)=(ky k m).map V/\∀j v,r=some (j,v)->i<=j/\j - i < es.length/\∃e,es[j - i]? =some e/\e.key=E.enc k/\
  (∀e' u,e'.val=V u->(lg E V (es.set (j - i) e') (jg k u m)↔e'.key=E.enc k))/\lg E V (es.eraseIdx (j - i)) (Fl k m):=by
 intro es
 induction es with
 |nil=>
  intro m i h;cases m with
  |nil=>exact⟨none,rfl,rfl,fun _ _ h=>by cases h⟩
  |cons p m=>simp[lg]at h
 |cons e es ih=>
  intro m i h;cases m with
  |nil=>simp[lg]at h
  |cons p m=>
   obtain⟨a,u⟩:=p;simp only[lg,Q7,vh,Qz]at h;obtain⟨⟨h1,h2⟩,h3⟩:=h;simp only[lU,h1,E.same,h2];by_cases ek:k=a
   ·subst ek;refine⟨some (i,V u),Zs,by simp[ky],fun j v hj=>?_⟩;cases hj;refine⟨Qh _,Zs,e,Zs,h1,fun e' u' he'=>?_,?_⟩
    ·simp only[Qn,List.set_cons_zero,jg,if_true,lg,Q7,vh,Qz,he',and_true];exact⟨fun h=>h.1,fun h=>⟨h,h3⟩⟩
    ·simpa[Fl,lg]using h3
   ·obtain⟨r,f1,f2,f3⟩:=ih (m:=m) (i:=i+1) h3;have ea:¬a=k:=fun e=>ek e.symm
    refine⟨r,by simp[ek,f1],by simp[ky,ea,f2],fun j v hj=>?_⟩;obtain⟨g1,g2,x,g3,g4,g5,g6⟩:=f3 j v hj;have St:j - i=(j - (i+1))+1:=by omega
    refine⟨Zo,by simp;omega,x,by rw[St];simpa using g3,g4,fun e' u' he'=>?_,?_⟩
    ·rw[St];simp only[List.set_cons_succ,jg,ea,if_false,lg,Q7,vh,h1,h2,true_and];exact g5 e' u' he'
    ·rw[St];simp only[List.eraseIdx_cons_succ,Fl,ea,if_false,lg,Q7,vh,h1,h2,true_and];exact g6
theorem fh {k:κ}{v:β}:∀{m:List (κ×β)},ky k m=none->jg k v m=m++[(k,v)]:=by
 intro m
 induction m with
 |nil=>intro _;rfl
 |cons p m ih=>
  obtain⟨a,u⟩:=p;intro h;simp only[ky]at h;split at h
  ·cases h
  ·rename_i hn;simp[jg,hn,ih h]
theorem zk.modify {es:Array MapEntry}{c:Nat}{m:List (κ×β)}(h:zk E V es c m){k:κ}{j:Nat}{u key:Value}{v:β}(hf:lU E.sk (E.enc k) es.toList 0=some (some (j,u)))(hk:key=E.enc k):
 zk E V (es.modify j fun e=>{e with key,val:=V v}) c (jg k v m):=by
 subst hk;obtain⟨r,f1,f2,f3⟩:=CJ (k:=k) (i:=0) h.of;rw[hf]at f1;cases f1;obtain⟨_,g2,e,g3,g4,g5,_⟩:=f3 j u rfl;simp only[Nat.sub_zero]at g2 g3 g5;have hl:(es.modify j fun e=>{e with key:=E.enc k,val:=V v}).toList=es.toList.set j {e with key:=E.enc k,val:=V v}:=by
  apply vw;intro i;rw[vB,v9,Vp];by_cases hi:j=i
  ·subst hi;have:es[j]? =some e:=by simpa using g3
   have g2':j < es.size:=by simpa using g2
   exact zE9
  ·simp[hi]
 have EU:(es.toList.set j {e with key:=E.enc k,val:=V v}).map (·.born)=es.toList.map (·.born):=by
  apply vw;intro i;simp only[Vn,Vp];by_cases hi:j=i
  ·subst hi;have g2':j < es.size:=by simpa using g2
   have:es[j]? =some e:=by simpa using g3
   exact zE9
  ·simp[hi]
 refine⟨?_,?_,?_⟩
 ·rw[hl];exact(g5 {e with key:=E.enc k,val:=V v} v rfl).2 rfl
 ·rw[hl];have hp:=h.born;have e1:∀l:List MapEntry,l.Pairwise (fun a b=>a.born < b.born)↔(l.map MapEntry.born).Pairwise (·< ·):=fun l=>List.pairwise_map.symm
  rw[e1]at hp|-;have sR:(es.toList.set j {e with key:=E.enc k,val:=V v}).map MapEntry.born=es.toList.map MapEntry.born:=EU;rw[sR];exact hp
 ·rw[hl];intro x hx;have:x.born∈(es.toList.set j {e with key:=E.enc k,val:=V v}).map (·.born):=QH.2 ⟨x,hx,rfl⟩;rw[EU]at this;obtain⟨y,hy,hyb⟩:=QH.1 this;rw[<- hyb];exact h.clock y hy
theorem zk.push {es:Array MapEntry}{c:Nat}{m:List (κ×β)}(h:zk E V es c m){k:κ}{v:β}(hn:ky k m=none):
 zk E V (es.push {key:=E.enc k,val:=V v,born:=c}) (c+1) (jg k v m):=by
 refine⟨?_,?_,?_⟩
 ·rw[fh hn];have:=h.of;simp only[lg]at this|-;simp[this]
 ·exact zDO
 ·exact zD2
variable {P:Program} {n:Nat} {rs:List RO} {Γ:Env} {H:SH} {Z:List PanicEntry->Env->SH->Prop} {K:Env->SH->Prop} {d:Option Nat}
inductive uH:SH->Nat->Obj->Prop where
 |here {b:Nat} {o:Obj} {L:SH}:uH ([.obj b o]::L) b o
 |there {A:List kC} {L:SH} {b:Nat} {o:Obj}:uH L b o->uH (A::L) b o
 |among {A:List kC} {L:SH} {b:Nat} {o:Obj}:kC.obj b o∈A->uH (A::L) b o
theorem uH.mem {b:Nat}{o:Obj}(h:uH H b o):kC.obj b o∈H.flatten:=by
 induction h with
 |here=>simp
 |there _ ih=>simp only[V9,QA];exact .inr ih
 |among h=>simp only[V9,QA];exact .inl h
theorem gH {b:Nat}{o:Obj}{L F:List kC}{w:World}(hm:kC.obj b o∈L)(hs:Sat w (L++F)):(getObj b).run P w=.ok o w:=by
 obtain⟨h1,h2⟩:=hs.obj (Zw F hm);cases o <;> simp_all [Go.getObj,Sem.run,wm]
theorem wx {sk:SK}{zero:Value}{ok:Bool}{m x:Operand}{b c:Nat}{es:Array MapEntry}{k:κ}{l:List (κ×β)}(hm:ev Γ m=some (.map (some b)))(hx:ev Γ x=some (E.enc k))(he:sk=E.sk)
 (ho:uH H b (.map es c)) (hl:zk E V es c l) (h:VO P n rs (ap d (mh ok zero ((ky k l).map V)) Γ) H Z K):VO P n (⟨d,none,.lookup sk zero ok m x⟩::rs) Γ H Z K:=by
 subst he;refine VO.read rfl rfl (fun ρ aK=>⟨_,rfl,fun F w hs=>?_⟩) h;obtain⟨r,f1,f2,_⟩:=CJ (k:=k) (i:=0) hl.of;have hg:=gH (P:=P) ho.mem hs;rw[aK _ _ hm,aK _ _ hx];simp only[wM,Sem.run_bind,hg,Result.andThen_ok,Sem.run_pure,f1];rw[<- f2];cases r with
 |none=>rfl
 |some p=>rfl
theorem ww {sk:SK}{m x y:Operand}{b c:Nat}{es:Array MapEntry}{k:κ}{v:β}{l:List (κ×β)}{R:SH}(hm:ev Γ m=some (.map (some b)))(hx:ev Γ x=some (E.enc k))(hy:ev Γ y=some (V v))(he:sk=E.sk)
 (ht:Tk H [.obj b (.map es c)] R) (hl:zk E V es c l) (h:∀cw c',zk E V cw c' (jg k v l)->VO P n rs (ap d undef Γ) ([.obj b (.map cw c')]::R) Z K):VO P n (⟨d,none,.xV sk m x y⟩::rs) Γ H Z K:=by
 subst he;refine VO.act rfl rfl (fun ρ aK=>⟨_,rfl,?_⟩);rw[aK _ _ hm,aK _ _ hx,aK _ _ hy];refine aG.perm ht.perm ?_;refine Gx (m:=b) (c:=c) (es:=es) Zs ?_;obtain⟨r,f1,f2,f3⟩:=CJ (k:=k) (i:=0) hl.of;simp only[f1];cases r with
 |none=>
  refine aG.bind (aG.setObj rfl (aG.pure ⟨undef,_,.inr ⟨rfl,rfl⟩,?_,h _ _ (hl.push (by simpa using f2.symm))⟩));simp
 |some p=>
  obtain⟨j,u⟩:=p;obtain⟨_,g2,e,g3,g4,_⟩:=f3 j u rfl;simp only[Nat.sub_zero]at g3;have Zy:((es[j]?).map (·.key)).getD (E.enc k)=E.enc k:=by
   have:es[j]? =some e:=by simpa using g3
   simp[this,g4]
  refine aG.bind (J8 _ _ (fun kk mT=>?_));have ZA:kk=E.enc k:=by rcases mT with h|h;rw[h,Zy];exact h
  refine aG.bind (aG.setObj rfl (aG.pure ⟨undef,_,.inr ⟨rfl,rfl⟩,?_,h _ _ (hl.modify f1 ZA)⟩));simp
end
inductive jG (size:Nat):Value->Nat->List Value->List Value->Prop where
 |mk {b o n c:Nat} {xs sp:List Value}:xs.length=n*size->xs.length+sp.length=c*size->n<=c->jG size (.slice (some ⟨b,o,none⟩) n c) n xs sp
 |nil:jG size Nz 0 [] []
def ai:Value->List Value->List Value->List kC
 |.slice (some ⟨b,o,none⟩) _ _,xs,sp=>kA b o (xs++sp)
 |_,_,_=>[]
theorem jG.len {size n:Nat}{v:Value}{xs sp:List Value}(h:jG size v n xs sp):xs.length=n*size:=by
 cases h with
 |mk h1 _ _=>exact h1
 |nil=>simp
theorem jG.some {size n:Nat}{v:Value}{xs sp:List Value}(h:jG size v n xs sp)(hn:0 < n):∃b o c,v=.slice (some ⟨b,o,none⟩) n c/\n<=c/\xs.length+sp.length=c*size:=by
 cases h with
 |mk h1 h2 h3=>exact⟨_,_,_,rfl,h3,h2⟩
 |nil=>omega
theorem jG.form {size n:Nat}{v:Value}{xs sp:List Value}(h:jG size v n xs sp):∃a c,v=.slice a n c:=by
 cases h with
 |mk h1 h2 h3=>exact⟨_,_,rfl⟩
 |nil=>exact⟨_,_,rfl⟩
theorem KO(bg:Nat):∀(r c:Nat),c<=2*bg+192->Builtin.growBy bg r c<=2*bg+192:=by
 intro r
 induction r with
 |zero=>intro c h;exact h
 |succ r ih=>
  intro c h;simp only[Builtin.growBy];split
  ·exact h
  ·exact ih _ Zo
theorem Iy {bg c:Nat}(h:c < bg):Builtin.nextslicecap bg c<=2*bg+192:=by
 unfold Builtin.nextslicecap;split
 ·omega
 ·split
  ·omega
  ·exact KO bg 4 c Zo
theorem Src.mono {H H':List kC}{size n:Nat}{vs:List Value}{v:Value}(hs:∀x∈H,x∈H')(h:Src H size n vs v):Src H' size n vs v:=by
 unfold Src at*;split at h
 ·exact⟨h.1,fun x hx=>hs x (h.2 x hx)⟩
 ·exact h
 ·exact h
 ·exact h.elim
theorem yT(n:Nat)(z:List Value):(kq n z).length=n*z.length:=by simp[kq]
section
variable {P:Program} {n:Nat} {rs:List RO} {Γ:Env} {H:SH} {Z:List PanicEntry->Env->SH->Prop} {K:Env->SH->Prop} {d:Option Nat}
theorem jK {t:TypeId}{size bytes:Nat}{zero:List Value}{s x:Operand}{sv xv:Value}{k m:Nat}{xs sp ys:List Value}{R:SH}(hs:ev Γ s=some sv)(hx:ev Γ x=some xv)(bF:jG size sv k xs sp)
 (ht:Tk H (ai sv xs sp) R) (hm:dW xv=some m) (ZV:Src R.flatten size m ys xv) (hlen:ys.length=m*size) (dT:ys.all jo=true) (hz:zero.length=size) (hb:bytes≠0) (bV:(2*(k+m)+192)*bytes<=2 ^ 48)
 (h:∀eK bE,jG size eK (k+m) (xs++ys) bE->VO P n rs (ap d eK Γ) (ai eK (xs++ys) bE::R) Z K):VO P n (⟨d,none,.append t size bytes zero s x⟩::rs) Γ H Z K:=by
 refine VO.Yn rfl rfl (fun ρ aK=>⟨_,rfl,?_⟩);rw[aK _ _ hs,aK _ _ hx];refine aG.perm ht.perm ?_;have N1:Src (ai sv xs sp++R.flatten) size m ys xv:=ZV.mono (fun x hx=>QB _ hx);have grow:∀(a:Option Addr) (c:Nat),sv=.slice a k c->¬(k+m<=c)->Src (ai sv xs sp++R.flatten) size k xs sv->
  aG P (if Builtin.nextslicecap (k + m) c * bytes > 2 ^ 48 ∨ bytes = 0 then stuck "size" else do
   let cap <- choose (.appendCap (k+m) c t)
   let old <- Builtin.firstCells size k sv
   let new <- Builtin.firstCells size m xv
   let b <- newObj (.cells (old++new++(kq (cap - (k+m)) zero).toArray) t)
   pure (Next.value (.slice (Option.some ⟨b,0,none⟩) (k+m) cap)):Sem Next) (ai sv xs sp++R.flatten) fun nx L=>∃v H' X,(nx=.value v∨(nx=.skip/\v=undef))/\L.Perm (List.flatten H'++X)/\VO P n rs (ap d v Γ) H' Z K:=by
  intro a c gq hle hso;have hnc:Builtin.nextslicecap (k+m) c*bytes<=2 ^ 48:=Qj (Qm _ (Iy Zo)) bV;rw[if_neg Zo];have fin:∀cap,k+m<=cap->aG P (do
   let old <- Builtin.firstCells size k sv
   let new <- Builtin.firstCells size m xv
   let b <- newObj (.cells (old++new++(kq (cap - (k+m)) zero).toArray) t)
   pure (Next.value (.slice (Option.some ⟨b,0,none⟩) (k+m) cap)):Sem Next) (ai sv xs sp++R.flatten) fun nx L=>∃v H' X,(nx=.value v∨(nx=.skip/\v=undef))/\L.Perm (List.flatten H'++X)/\VO P n rs (ap d v Γ) H' Z K:=by
   intro cap EV;refine aG.bind (aG.firstCells hso (aG.bind (aG.firstCells N1 (Dn (fun b=>?_)))));have hI:jG size (.slice (Option.some ⟨b,0,none⟩) (k+m) cap) (k+m) (xs++ys) (kq (cap - (k+m)) zero):=by
    refine .mk ?_ ?_ EV
    ·rw[Vt,bF.len,hlen,Nat.add_mul]
    ·rw[Vt,bF.len,hlen,yT,hz,<- Nat.add_mul,<- Nat.add_mul]
     congr 1;omega
   refine⟨_,_,ai sv xs sp,.inl rfl,?_,h _ _ hI⟩;have:(xs.toArray++ys.toArray++(kq (cap - (k+m)) zero).toArray).toList=xs++ys++kq (cap - (k+m)) zero:=by simp
   rw[this];simp only[V9,vf];refine List.Perm.trans ?_ (vV _ QP);simp only[ai,vf];exact vX _
  refine aG.bind (aG.choose (fun hf=>by simp[Question.forced]at hf) (fun t'=>fin _ ?_));simp only[Question.cut];omega
 cases bF with
 |@mk b o _ c _ _ h1 h2 h3=>
  simp only[hm];by_cases hle:k+m<=c
  ·rw[if_pos hle];refine aG.bind (aG.firstCells N1 ?_);have fE:ys.length<=sp.length:=by
    have e1:(k+m)*size<=c*size:=Qm _ hle;rw[Nat.add_mul]at e1;omega
   have ZT:kA b o (xs++sp)=kA b o xs++(kA b (o+k*size) (sp.take ys.length)++kA b (o+k*size+ys.length) (sp.drop ys.length)):=by
    rw[j7,h1]
    congr 1
    conv=>lhs;rw[<- QY ys.length sp]
    rw[j7]
    congr 2
    simp;omega
   have hI:jG size (.slice (Option.some ⟨b,o,none⟩) (k+m) c) (k+m) (xs++ys) (sp.drop ys.length):=by
    refine .mk ?_ ?_ hle
    ·rw[Vt,h1,hlen,Nat.add_mul]
    ·rw[Vt,Vv];omega
   have hadd:((⟨b,o,none⟩:Addr).add (k*size))=⟨b,o+k*size,none⟩:=fI b o _;simp only[hadd];have eZ:(ai (.slice (Option.some ⟨b,o,none⟩) k c) xs sp++R.flatten).Perm (kA b (o+k*size) (sp.take ys.length)++(kA b o xs++(kA b (o+k*size+ys.length) (sp.drop ys.length)++R.flatten))):=by
    simp only[ai,ZT,vf];exact zR _ _ _
   refine aG.perm eZ (aG.bind (aG.storeCells ru (vZ.1 dT) (aG.pure ?_)));refine⟨_,_,[],.inl rfl,?_,h _ _ hI⟩;simp only[ai,V9,vg,j7,h1,vf];exact zR _ _ _
  ·rw[if_neg hle];refine grow _ c rfl hle ⟨h1,fun x hx=>?_⟩;simp only[ai,j7,QA];exact .inl (.inl hx)
 |nil=>
  simp only[hm];by_cases hle:0+m<=0
  ·rw[if_pos hle];have hm0:m=0:=by omega
   subst hm0;obtain rfl:ys=[]:=by simpa using hlen
   refine aG.bind (aG.firstCells N1 (aG.pure ?_));exact⟨_,_,[],.inl rfl,by simp[ai],h _ _ .nil⟩
  ·rw[if_neg hle];exact grow _ 0 rfl hle rfl
end
theorem ao.left {A B:SH}:ao (A++B) A:=⟨B,by simp[dX]⟩
theorem ao.perm {A B:SH}(h:A.flatten.Perm B.flatten):ao A B:=⟨[],by simpa[dX]using h⟩
theorem VO.imp {P:Program}{n:Nat}{rs:List RO}{Γ:Env}{H H':SH}{Z:List PanicEntry->Env->SH->Prop}{K:Env->SH->Prop}(i:ao H H')(h:VO P n rs Γ H' Z K):VO P n rs Γ H Z K:=
 fun l hl a w F ZZ Q ha hs hq hz=>h l hl a w F ZZ Q ha (hs.imp i) hq hz
theorem kG {bH:List RV}{Q:Value->SH->Prop}{e:Exit}{Γ:Env}{H Post:SH}{vs:List Value}(he:e=.normal∨e=.ret)(hr:Mn Γ H bH vs)(hq:Q (bJ vs) Post)(hi:ao H Post):rM bH Q e Γ H:=⟨he,vs,Post,hr,hi,hq⟩
inductive D9:SH->Nat->Nat->Nat->List Value->Prop where
 |cells {b o k n:Nat} {vs us:List Value} {L:SH}:o<=k->k - o+n<=vs.length->(vs.drop (k - o)).take n=us->us.length=n->D9 (kA b o vs::L) b k n us
 |there {A:List kC} {L:SH} {b k n:Nat} {us:List Value}:D9 L b k n us->D9 (A::L) b k n us
theorem D9.row {H:SH}{b k n:Nat}{us:List Value}(h:D9 H b k n us):Hi H b k us/\us.length=n:=by
 induction h with
 |cells h1 _ h2 h3=>exact⟨.cells h1 (by rw[h3,h2]) h3,h3⟩
 |there _ ih=>exact⟨.there ih.1,ih.2⟩
theorem dO {P:Program}{n:Nat}{rs:List RO}{Γ:Env}{H:SH}{Z:List PanicEntry->Env->SH->Prop}{K:Env->SH->Prop}{d:Option Nat}{m:Nat}{x:Operand}{b o:Nat}{us:List Value}(hx:ev Γ x=some (.pointer (some ⟨b,o,none⟩)))(hm:D9 H b o m us)(h:VO P n rs (ap d (.agg us.toArray) Γ) H Z K):VO P n (⟨d,none,.lx m x⟩::rs) Γ H Z K:=
 RA hx hm.row.1 hm.row.2 h
inductive Hg (Γ:Env)(d:Nat):Option Operand->Nat->Prop where
 |Sh:Hg Γ d none d
 |num {x:Operand} {k:IntKind} {m:Nat}:ev Γ x=some (.int k m)->Hg Γ d (some x) m
theorem Hg.val {Γ:Env}{d y m:Nat}{o:Option Operand}{ρ:Operand->Value}(h:Hg Γ d o m)(hm:m<=y)(aK:∀x u,ev Γ x=some u->ρ x=u):wH y (some d) (o.map ρ)=some m:=by
 cases h with
 |Sh=>rfl
 |num hx=>simp[wH,aK _ _ hx,bound,hm]
section
variable {P:Program} {n:Nat} {rs:List RO} {Γ:Env} {H:SH} {Z:List PanicEntry->Env->SH->Prop} {K:Env->SH->Prop} {d:Option Nat}
theorem dh {l h:Nat}{x:Operand}{lo hi:Option Operand}{s:ByteArray}(hx:ev Γ x=some (.string s))(CW:Hg Γ 0 lo l)(hhi:Hg Γ s.size hi h)(hr:l<=h/\h<=s.size)
 (hh:VO P n rs (ap d (.string (s.extract l h)) Γ) H Z K):VO P n (⟨d,none,.IY x lo hi⟩::rs) Γ H Z K:=
 VO.pure rfl (fun ρ aK=>by
  have h1:=CW.val (y:=h) hr.1 aK;have h2:=hhi.val (y:=s.size) hr.2 aK;have h3:wH s.size (some s.size) none=some s.size:=rfl;simp[kT,aK _ _ hx,za,h1,h2,h3]) hh
end
theorem DH {P:Program}{n:Nat}{rs:List RO}{Γ:Env}{H:SH}{Z:List PanicEntry->Env->SH->Prop}{K:Env->SH->Prop}{d:Option Nat}{i:Nat}{x:Operand}{vs:Array Value}{v:Value}(hx:ev Γ x=some (.tuple vs))(hv:vs[i]? =some v)(h:VO P n rs (ap d v Γ) H Z K):VO P n (⟨d,none,.ext x i⟩::rs) Γ H Z K:=
 VO.pure rfl (fun ρ aK=>by simp[kT,aK _ _ hx,hv]) h
section
variable {P:Program} {n:Nat} {rs:List RO} {Γ:Env} {H R:SH} {Z:List PanicEntry->Env->SH->Prop} {K:Env->SH->Prop} {A B C:List kC} {c:IC} {Q:Exit->Env->SH->Prop}
end
section
variable {κ β:Type} [DecidableEq κ]
theorem xZ {k:κ}{v:β}:∀{m:List (κ×β)},ky k m=some v->(k,v)∈m:=by
 intro m
 induction m with
 |nil=>intro h;simp[ky]at h
 |cons p m ih=>
  obtain⟨a,u⟩:=p;intro h;simp only[ky]at h;split at h
  ·rename_i e;cases h;subst e;simp
  ·simp[ih h]
theorem Lo {k:κ}:∀{m:List (κ×β)},ky k m=none↔k∉m.map (·.1):=by
 intro m
 induction m with
 |nil=>simp[ky]
 |cons p m ih=>
  obtain⟨a,u⟩:=p;simp only[ky,Q7,QC];split
  ·rename_i e;simp[e]
  ·rename_i e;rw[ih];simp only[not_or];exact⟨fun h=>⟨fun x=>e x.symm,h⟩,fun h=>h.2⟩
theorem wC {k j:κ}{v:β}:∀{m:List (κ×β)},ky j (jg k v m)=if k=j then some v else ky j m:=by
 intro m
 induction m with
 |nil=>simp[jg,ky]
 |cons p m ih=>
  obtain⟨a,u⟩:=p;simp only[jg];split
  ·rename_i e;subst e;simp only[ky];split <;> rfl
  ·rename_i e;simp only[ky,ih];by_cases h1:a=j
   ·subst h1;simp[show ¬k=a from fun x=>e x.symm]
   ·simp[h1]
theorem Lq {k:κ}{v:β}:∀{m:List (κ×β)},(jg k v m).map (·.1)=if k∈m.map (·.1)then m.map (·.1)else m.map (·.1)++[k]:=by
 intro m
 induction m with
 |nil=>simp[jg]
 |cons p m ih=>
  obtain⟨a,u⟩:=p;simp only[jg];split
  ·rename_i e;simp[e]
  ·rename_i e;have e':¬k=a:=fun x=>e x.symm
   simp only[Q7,ih,QC,e',false_or];split <;> simp
theorem oR {k:κ}{v:β}{m:List (κ×β)}(h:(m.map (·.1)).Nodup):((jg k v m).map (·.1)).Nodup:=by
 rw[Lq];split
 ·exact h
 ·rename_i hk;rw[QM];refine⟨h,Zs,?_⟩;intro a ha b hb;simp at hb
  rintro rfl
  exact hk (hb ▸ ha)
theorem OL {k:κ}:∀{m:List (κ×β)},(Fl k m).Sublist m:=by
 intro m
 induction m with
 |nil=>exact .slnil
 |cons p m ih=>
  obtain⟨a,u⟩:=p;simp only[Fl];split
  ·exact QW _ _
  ·exact ih.cons_cons _
theorem Lr {k:κ}{x:β}:∀{m:List (κ×β)},(jg k x m).Perm ((k,x)::Fl k m):=by
 intro m
 induction m with
 |nil=>exact .refl _
 |cons p m ih=>
  obtain⟨a,u⟩:=p;simp only[jg,Fl];split
  ·rename_i e;subst e;simp
  ·exact(ih.cons _).trans (List.Perm.swap _ _ _)
theorem Br {k:κ}{x y:β}:∀{m:List (κ×β)},jg k y (jg k x m)=jg k y m:=by
 intro m
 induction m with
 |nil=>simp[jg]
 |cons p m ih=>
  obtain⟨a,u⟩:=p;simp only[jg];split
  ·rename_i e;simp[jg,e]
  ·rename_i e;simp[jg,e,ih]
theorem Fq {k:κ}{v:β}{q:κ×β}:∀{m:List (κ×β)},q∈jg k v m->q=(k,v)∨q∈m:=by
 intro m hq;have:=Lr.mem_iff.1 hq;rcases QC.1 this with h|h
 ·exact .inl h
 ·exact .inr (OL.subset h)
end
theorem Mo.set1 {b o i k:Nat}{vs:List Value}{u:Value}{L:SH}(hk:o+i=k)(h:i < vs.length):Mo (kA b o vs::L) b k [u] (kA b o (vs.set i u)::L):=by
 subst hk;refine .cells Zo ru ?_;rw[Nat.add_sub_cancel_left,List.set_eq_take_append_cons_drop,if_pos h];simp
section
variable {κ β:Type} [DecidableEq κ] {E:Kg κ} {V:β->Value}
end
theorem VC.iQ {P:Program}{n:Nat}{Γ:Env}{H:SH}{Q:Exit->Env->SH->Prop}{c:Operand}{x y z:IC}(hc:ev Γ c=some (.bool true))(h:VC P n x Γ H (bD (fun ay H'=>VC P n z ay H' Q) Q)):VC P n (.seq (.cond c x y) z) Γ H Q:=VC.seq (VC.rG hc h)
theorem VC.iP {P:Program}{n:Nat}{Γ:Env}{H:SH}{Q:Exit->Env->SH->Prop}{c:Operand}{x y z:IC}(hc:ev Γ c=some (.bool false))(h:VC P n y Γ H (bD (fun ay H'=>VC P n z ay H' Q) Q)):VC P n (.seq (.cond c x y) z) Γ H Q:=VC.seq (VC.rF hc h)
abbrev vi (n:Int):Value:=.int .i64 n
abbrev kF (b:Nat):Value:=.pointer (some ⟨b,0,none⟩)
theorem ao.cut {H M Δ:SH}(h:ao H M)(k:ao M Δ):ao H Δ:=by
 obtain⟨X,hX⟩:=h;obtain⟨Y,hY⟩:=k;refine⟨Y++X,?_⟩;simp only[dX,V8]at*;refine hX.trans ?_;rw[<- vf];exact hY.append_right _
theorem kX {P:Program}{n:Nat}{rs:List RO}{Γ:Env}{H:SH}{Z:List PanicEntry->Env->SH->Prop}{K:Env->SH->Prop}{d:Option Nat}{m:Nat}{x:Operand}{b o:Nat}{us:List Value}(hx:ev Γ x=some (.pointer (some ⟨b,o,none⟩)))(hm:∀a∈kA b o us,a∈H.flatten)(hn:us.length=m)(h:VO P n rs (ap d (.agg us.toArray) Γ) H Z K):VO P n (⟨d,none,.lx m x⟩::rs) Γ H Z K:=
 VO.read rfl rfl (fun ρ aK=>⟨_,rfl,fun F w hs=>by
  simp[aK _ _ hx,Instr.sureAddr,run_loadCells hn hm hs]⟩) h
theorem uz {P:Program}{n:Nat}{rs:List RO}{Γ:Env}{H:SH}{Z:List PanicEntry->Env->SH->Prop}{K:Env->SH->Prop}{d:Option Nat}{i:Nat}{x:Operand}{l:List Value}{v:Value}(hx:ev Γ x=some (.tuple l.toArray))(hi:l[i]? =some v)(h:VO P n rs (ap d v Γ) H Z K):VO P n (⟨d,none,.ext x i⟩::rs) Γ H Z K:=
 VO.pure rfl (fun ρ aK=>by simp[kT,aK _ _ hx,hi]) h
theorem Gs {P:Program}{n:Nat}{rs:List RO}{Γ:Env}{H:SH}{Z:List PanicEntry->Env->SH->Prop}{K:Env->SH->Prop}{d:Option Nat}{r:R}{s:Nat}{b:Bool}(hs:look Γ s=some undef)(h:VO P n rs (ap d undef Γ) H Z K):VO P n (⟨d,some (s,b),r⟩::rs) Γ H Z K:=by
 intro l hl a w F ZZ Q ha gU hq hz;obtain⟨o,l',rfl,tM,ops,ho⟩:=zI hl;obtain⟨g1,g2,g3,g4⟩:=jI ho;have hw:jC (some (s,b)) a=false:=by simp[jC,ha.slots _ _ hs,undef]
 exact zBH
structure MO (R:Prop):Prop where
 out:R
def Eb(P:Program)(fv:Value)(args:List Value)(w:World)(R:Ending->World->Prop):Prop:=
 match fv with
 |.func (.func f) first cap=>jw P f=true/\Calls P f (first++args.toArray++cap) w R
 |.func (.yield l) first _=>∃f tmps Hm body,(Instr.yield l (first++args.toArray)).run P w=.ok (.round l f tmps Hm body) w/\RoundIn Fence.wide 0 P l f tmps Hm body w R
 |_=>False
def dk(P:Program)(fv:Value)(args:List Value)(bm:SH)(Q:Value->SH->Prop):Prop:=
 ∀F w,Sat w (bm.flatten++F)->Eb P fv args w fun e w'=>∃v Post,e=.returned v/\Q v Post/\Sat w' (Post.flatten++F)/\ku w w'
theorem Eb.mono {P:Program}{fv:Value}{args:List Value}{w:World}{R R':Ending->World->Prop}(h:Eb P fv args w R)(hr:∀e w',R e w'->R' e w'):Eb P fv args w R':=by
 unfold Eb at*;split at h
 ·exact⟨h.1,Calls.mono h.2 hr⟩
 ·obtain⟨f,tmps,Hm,body,h1,h2⟩:=h;exact⟨f,tmps,Hm,body,h1,RoundIn.mono h2 hr⟩
 ·exact h.elim
theorem dk.conv {P:Program}{fv:Value}{args:List Value}{H bm R:SH}{Q Q':Value->SH->Prop}(h:dk P fv args bm Q)(hs:dX H bm R)(hq:∀v Post,Q v Post->∃aS,Q' v aS/\ao (Post++R) aS):dk P fv args H Q':=by
 intro F w hw;have rX:Sat w (bm.flatten++(R.flatten++F)):=by
  rw[<- vf];exact hw.perm (vW F hs)
 refine(h (R.flatten++F) w rX).mono ?_
 rintro e w' ⟨v,Post,h1,h2,h3,h4⟩
 obtain⟨aS,h5,h6⟩:=hq v Post h2;refine⟨v,aS,h1,h5,Sat.imp h6 ?_,h4⟩;rw[V8,vf];exact h3
theorem dk.bY {P:Program}{f:Nat}{first cap:Array Value}{args:List Value}{bm:SH}{Q:Value->SH->Prop}(h:aq P f (first.toList++args++cap.toList) bm Q):dk P (.func (.func f) first cap) args bm Q:=by
 exact zCV
theorem dN {P:Program}{n:Nat}{rs:List RO}{Γ:Env}{H:SH}{Z:List PanicEntry->Env->SH->Prop}{K:Env->SH->Prop}{d:Option Nat}{x:Operand}{fv:Value}{xs:List Operand}{args:List Value}{bm R:SH}{Q:Value->SH->Prop}
 (hx:ev Γ x=some fv) (hf:dk P fv args bm Q) (he:nQ Γ xs=some args) (hs:dX H bm R)
 (h:∀v Post,Q v Post->VO P n rs (ap d v Γ) (Post++R) Z K):VO P n (⟨d,none,.pD x xs⟩::rs) Γ H Z K:=by
 intro l hl a w F ZZ Q' ha gU hq hz;obtain⟨o,l',rfl,tM,ops,ho⟩:=zI hl;obtain⟨g1,g2,g3,g4⟩:=jI ho;show ju P ZZ (_,o) (cp P ZZ Q' l') a w;unfold ju;have hp:kd (V.R.pD x xs)=false:=rfl;have hr:jF (V.R.pD x xs)=false:=rfl;simp only[jC,hp,hr,if_true,vK,if_false];refine⟨fun e=>(by cases e),?_⟩;obtain⟨c,h1,h2,h3⟩:=Bo g1;have hm:xs.map a.eval=args:=ha.nQ he;have cf:(c.args.map a.eval)=args.toArray:=by
  exact zEQ
 have xG:Sat w (bm.flatten++(R.flatten++F)):=by
  exact zD9
 have hi:=hf (R.flatten++F) w xG;have fin:∀(e:Ending) (w':World),(∃v Post,e=.returned v/\Q v Post/\Sat w' (Post.flatten++(R.flatten++F))/\ku w w')->∃v,e=.returned v/\cp P ZZ Q' l' (a.put o.dst v) w':=by
  rintro e w' ⟨v,Post,rfl,hQ,JJ,hk⟩
  refine⟨v,rfl,?_⟩;exact zBL
 have NJ:a.eval x=fv:=ha.ev hx;unfold Eb at hi;split at hi
 ·rename_i f first cap
  have bB:(execOp a.eval o).run P w=.ok (.enter f (first++args.toArray++cap)) w:=by
   simp[execOp,h1,resolve,h2,NJ,Deferred.ofValue,invoke,cf];rw[zQ hi.1]
  simp only[yW,bB,jl];refine hi.2.mono (fun e w' he=>?_);obtain⟨v,rfl,hv⟩:=fin e w' he;exact hv
 ·rename_i l0 first cap
  obtain⟨f,tmps,Hm,body,hy,tZ⟩:=hi;have bB:(execOp a.eval o).run P w=.ok (.round l0 f tmps Hm body) w:=by
   simp[execOp,h1,resolve,h2,NJ,Deferred.ofValue,invoke,cf];exact hy
  simp only[yW,bB,jl];refine tZ.mono (fun e w' he=>?_);obtain⟨v,rfl,hv⟩:=fin e w' he;exact hv
 ·exact hi.elim
def uR:List Nat->List Value->Env->Env
 |p::ps,v::vs,Γ=>uR ps vs ((p,v)::Γ)
 |_,_,Γ=>Γ
def OkC {α:Type}(Spec:List α->Prop)(c:List α):Prop:=∃t,Spec (c++t)
def Iter(P:Program)(g:Value){α:Type}(enc:α->List Value)(bm Post:SH)(Spec:List α->Prop):Prop:=
 ∀(y:Value) (J SP:List α->List kC->Prop),
  (∀c x A,OkC Spec (c++[x])->J c A->dk P y (enc x) [A] (fun v B=>(v=.bool true/\∃A',J (c++[x]) A'/\B=[A'])∨(v=.bool false/\∃B',SP (c++[x]) B'/\B=[B'])))->
  ∀A,J [] A->dk P g [y] (bm++[A]) (fun v B=>v=.tuple #[]/\((∃full A',Spec full/\J full A'/\B=Post++[A'])∨(∃c B',OkC Spec c/\SP c B'/\B=Post++[B'])))
section
variable {P:Program} {n:Nat} {Γ:Env} {H:SH} {Q:Exit->Env->SH->Prop}
theorem Ho {ps:List Nat}:∀{vs:List Value} {Γ:Env} {tmps:Array Value},(∀t∈ps,t < n)->ps.length=vs.length->wA n Γ {tmps:=tmps,defers:=[]}->
 wA n (uR ps vs Γ) {tmps:=(ps.zip vs).foldl (fun tmps (t,a)=>tmps.setIfInBounds t a) tmps,defers:=[]}:=by
 induction ps with
 |nil=>intro vs Γ tmps _ _ h;cases vs <;> exact h
 |cons p ps ih=>
  intro vs Γ tmps hp hl h;cases vs with
  |nil=>simp at hl
  |cons v vs=>
   simp only[uR,List.zip_cons_cons,Va];refine ih (fun t ht=>hp t (by simp[ht])) (by simpa using hl) ?_;exact h.put (d:=p) (hp p Zs) v
def z4(fn:FuncId)(tmps:Array Value)(qs:Array Tmp)(A B:Code)(db:Nat)(st:LoopState)(pe:Option Code):Loop:={state:=st,pending:=pe,fn,tmps,params:=qs,assign:=A,body:=B,defers:=db}
theorem dL {w:World}{l:Nat}{r:Loop}(h:w.heap[l]? =some (.loop r)):(Instr.getLoop l).run P w=.ok r w:=by
 simp[Instr.getLoop,Go.getObj,Sem.run,h]
theorem IL {kp:Nat->List Nat}{od:Nat->List (List Nat)}{fn:FuncId}{tmps:Array Value}{qs:Array Tmp}{A B:Code}{db l:Nat}{Hm body:IC}{vs:List Value}{I:List kC}{Qb:Exit->SH->Prop}
 (T0:∀t∈qs.toList,t < n) (hlen:qs.toList.length=vs.length) (ha:wA n Γ {tmps:=tmps,defers:=[]}) (h1:z5 P n kp od A=some Hm) (h2:z5 P n kp od B=some body)
 (h:VC P n Hm (uR qs.toList vs Γ) [I] (fun e ay H'=>e=.normal/\VC P n body ay H' (fun e _ lH=>match e with|.normal=>Qb .normal lH|.ret=>Qb .ret lH|.exit id=>Qb (.exit id) lH|_=>False))):
 dk P (.func (.yield l) #[] #[]) vs [I++[.obj l (.loop (z4 fn tmps qs A B db .ready none))]] (fun v Bk=>(v=.bool true/\∃lH,Qb .normal lH/\Bk=[lH.flatten++[.obj l (.loop (z4 fn tmps qs A B db .ready none))]])∨
  (v=.bool false/\∃lH,((Qb .ret lH/\Bk=[lH.flatten++[.obj l (.loop (z4 fn tmps qs A B db .done (some .ret)))]])∨(∃id,Qb (.exit id) lH/\Bk=[lH.flatten++[.obj l (.loop (z4 fn tmps qs A B db .done (some (.exit id))))]])))):=by
 intro F w hs;have ud:Sat w ([I].flatten++(.obj l (.loop (z4 fn tmps qs A B db .ready none))::F)):=by simpa using hs
 have hobj:=(ud.obj (b:=l) (QB _ (QE ..))).1;refine⟨fn,(qs.zip vs.toArray).foldl (fun tmps (t,a)=>tmps.setIfInBounds t a) tmps,A,B,?_,?_⟩
 ·simp only[Instr.yield,Sem.run_bind,dL hobj,Result.andThen_ok];have:(#[]++vs.toArray:Array Value).size=qs.size:=by simpa using hlen.symm
  simp[z4,hlen.symm]
 ·have hz:(qs.zip vs.toArray).foldl (fun tmps (t,a)=>tmps.setIfInBounds t a) tmps=(qs.toList.zip vs).foldl (fun tmps (t,a)=>tmps.setIfInBounds t a) tmps:=by
   rw[<- Array.foldl_toList];simp
  rw[hz];refine roundIn_of_wpIn trivial ?_;refine h (some l) kp od A h1 _ w _ _ (fun l' e=>by cases e;exact⟨_,QE ..⟩) (Ho T0 hlen ha) ud ?_
  rintro e a1 w1 X5 H1 X ⟨rfl,hb⟩ g1 _ g3 g4
  have g3':Sat w1 (.obj l (.loop (z4 fn tmps qs A B db .ready none))::(H1.flatten++(F++marks X))):=by
   refine g3.perm ?_;simp only[vj];exact QT
  have Xw:=(g3'.obj (QE ..)).1;obtain⟨s1,s2⟩:=Sat.setObj (u:=.loop (z4 fn tmps qs A B db .busy none)) g3' rfl;refine⟨{w1 with heap:=w1.heap.setIfInBounds l (.loop (z4 fn tmps qs A B db .busy none))},?_,?_⟩
  ·have hg:=dL (P:=P) Xw;simp only[Instr.beginRound,Sem.run_bind,hg,Result.andThen_ok];simp[z4,Go.setObj,Sem.run,Xw]
  have s3:Sat {w1 with heap:=w1.heap.setIfInBounds l (.loop (z4 fn tmps qs A B db .busy none))} (H1.flatten++(.obj l (.loop (z4 fn tmps qs A B db .busy none))::(F++marks X))):=s1.perm QT.symm;refine hb (some l) kp od B h2 a1 _ _ _ (fun l' e=>by cases e;exact⟨_,QE ..⟩) g1 s3 ?_;intro e a2 w2 cY H2 Y q k1 _ k3 k4;have k3':Sat w2 (.obj l (.loop (z4 fn tmps qs A B db .busy none))::(H2.flatten++F)):=by
   have p:(H2.flatten++(.obj l (.loop (z4 fn tmps qs A B db .busy none))::(F++marks X)++marks Y)).Perm ((.obj l (.loop (z4 fn tmps qs A B db .busy none))::(H2.flatten++F))++(marks X++marks Y)):=by
    simp only[vj,vf];exact QT
   exact(k3.perm p).left
  have Xx:=(k3'.obj (QE ..)).1;have aU:=g4.trans (s2.trans k4);have fin:∀(j:Option Code) (st:LoopState),∀(lF:st=if j.isNone then .ready else .done),(Instr.endRound l j).run P w2=.ok (.bool j.isNone) {w2 with heap:=w2.heap.setIfInBounds l (.loop (z4 fn tmps qs A B db st j))}/\
   Sat {w2 with heap:=w2.heap.setIfInBounds l (.loop (z4 fn tmps qs A B db st j))} ([H2.flatten++[kC.obj l (.loop (z4 fn tmps qs A B db st j))]].flatten++F)/\ku w {w2 with heap:=w2.heap.setIfInBounds l (.loop (z4 fn tmps qs A B db st j))}:=by
   intro j st lF;obtain⟨t1,t2⟩:=Sat.setObj (u:=.loop (z4 fn tmps qs A B db st j)) k3' rfl;refine⟨?_,?_,aU.trans t2⟩
   ·subst lF;simp only[Instr.endRound,Sem.run_bind,dL Xx,Result.andThen_ok,z4,Go.setObj,Sem.run,Xx,Sem.run_pure]
   ·refine t1.perm ?_;simp only[V9,VV,vg,vf,List.singleton_append];exact QT.symm
  cases e with
  |normal=>
   obtain⟨f1,f2,f3⟩:=fin none .ready rfl;exact⟨_,_,f1,_,_,rfl,.inl ⟨rfl,_,q,rfl⟩,f2,f3⟩
  |ret=>
   obtain⟨f1,f2,f3⟩:=fin (some .ret) .done rfl;exact⟨_,_,f1,_,_,rfl,.inr ⟨rfl,_,.inl ⟨q,rfl⟩⟩,f2,f3⟩
  |exit id=>
   obtain⟨f1,f2,f3⟩:=fin (some (.exit id)) .done rfl;exact⟨_,_,f1,_,_,rfl,.inr ⟨rfl,_,.inr ⟨id,q,rfl⟩⟩,f2,f3⟩
  |goto _=>exact q.elim
  |panic _=>exact q.elim
  |outgrown=>exact q.elim
theorem Hy {iA:FuncId}{tmps:Array Value}{qs:Array Tmp}{A B:Code}{ρ:Option Nat}{w:World}{L F:List kC}(hr:Rnd ρ F)(gU:Sat w (L++F)):
 ∃(l db:Nat) (X:List Nat) (w1:World),(Instr.enterLoop iA tmps qs A B ρ).run P w=.ok (l,X.map oD) w1/\
  Sat w1 (.obj l (.loop (z4 iA tmps qs A B db .ready none))::(L++(F++marks X)))/\ku w w1:=by
 cases ρ with
 |none=>
  obtain⟨s1,s2⟩:=gU.newObj (.deferred (some [])) rfl;obtain⟨s3,s4⟩:=s1.newObj (.loop (z4 iA tmps qs A B w.heap.size .ready none)) rfl;refine⟨(w.heap.push (.deferred (some []))).size,w.heap.size,[w.heap.size],_,?_,s3.perm ?_,s2.trans s4⟩
  ·simp[Instr.enterLoop,Go.newObj,Sem.run,z4,oD];rfl
  ·refine List.Perm.cons _ ?_;simp only[marks,Q7,Q9];rw[<- vf];exact(List.perm_append_singleton _ _).symm
 |some l0=>
  obtain⟨r,E3⟩:=hr l0 rfl;have ho:=(gU.obj (QB _ E3)).1;obtain⟨s3,s4⟩:=gU.newObj (.loop (z4 iA tmps qs A B r.defers .ready none)) rfl;refine⟨w.heap.size,r.defers,[],_,?_,?_,s4⟩
  ·simp[Instr.enterLoop,dL ho,Go.newObj,Sem.run,z4]
  ·simpa[marks]using s3
theorem xf {iA:FuncId}{tmps:Array Value}{qs:Array Tmp}{A B:Code}{db l:Nat}{st:LoopState}{pe:Option Code}{w:World}{L F:List kC}(lF:st≠.busy)
 (hs:Sat w (L++[.obj l (.loop (z4 iA tmps qs A B db st pe))]++F)):∃w4,(Instr.endLoop l).run P w=.ok pe w4/\Sat w4 (L++F)/\ku w w4:=by
 have hs5:Sat w (.obj l (.loop (z4 iA tmps qs A B db st pe))::(L++F)):=by
  refine hs.perm ?_;rw[vf];exact QT
 have ho:=(hs5.obj (QE ..)).1;obtain⟨t1,t2⟩:=Sat.setObj (u:=.loop (z4 iA tmps qs A B db .exhausted pe)) hs5 rfl;refine⟨_,?_,t1.sub (QW ..),t2⟩;have hgl:=dL (P:=P) ho;have hb:((z4 iA tmps qs A B db st pe).state==LoopState.busy)=false:=by cases st <;> first|rfl|exact absurd rfl lF
 simp only[Instr.endLoop,Sem.run_bind,hgl,Result.andThen_ok,hb];simp[z4,Go.setObj,Sem.run,ho]
theorem VC.gE {α:Type}{enc:α->List Value}{g:Operand}{f:Nat}{first cap:Array Value}{ps:List Nat}{Hm body:IC}{bm Post R:SH}{Spec:List α->Prop}(I:List α->List kC->Prop)(A0:List kC)(hg:ev Γ g=some (.func (.func f) first cap))
 (hit:Iter P (.func (.func f) first cap) enc bm Post Spec) (hs:dX H bm R) (h0:ao R [A0]) (h1:I [] A0) (hlen:∀x,(enc x).length=ps.length)
 (round:∀c x A,OkC Spec (c++[x])->I c A->VC P n Hm (uR ps (enc x) Γ) [A] (fun e ay H'=>e=.normal/\VC P n body ay H' (fun e _ lH=>match e with|.normal=>∃A',I (c++[x]) A'/\ao lH [A']|.ret=>Q .ret Γ (Post++lH)|.exit id=>Q (.exit id) Γ (Post++lH)|_=>False)))
 (done:∀full A,Spec full->I full A->Q .normal Γ (Post++[A])):VC P n (.gE g ps Hm body) Γ H Q:=by
 intro ρ kp od code hl a w F QQ hr ha gU hh;obtain⟨qs,A,B,rfl,rfl,aO,h1',h2⟩:=je hl;refine wpIn_rangeFunc (fun iA _=>?_);obtain⟨l,db,X,w1,he,ud,tL⟩:=Hy (P:=P) (iA:=iA) (tmps:=a.tmps) (qs:=qs) (A:=A) (B:=B) hr gU;have ε:=hit (.func (.yield l) #[] #[]) (fun c A'=>∃A1,I c A1/\A'=A1++[.obj l (.loop (z4 iA a.tmps qs A B db .ready none))])
  (fun c B'=>∃lH,(Q .ret Γ (Post++lH)/\B'=lH.flatten++[.obj l (.loop (z4 iA a.tmps qs A B db .done (some .ret)))])∨(∃id,Q (.exit id) Γ (Post++lH)/\B'=lH.flatten++[.obj l (.loop (z4 iA a.tmps qs A B db .done (some (.exit id))))]))
  (fun c x A' hc hA=>by
    obtain⟨A1,hI,rfl⟩:=hA;have hx:=IL (P:=P) (n:=n) (Γ:=Γ) (fn:=iA) (tmps:=a.tmps) (db:=db) (l:=l) (vs:=enc x) (I:=A1) (Qb:=fun e lH=>match e with|.normal=>∃A',I (c++[x]) A'/\ao lH [A']|.ret=>Q .ret Γ (Post++lH)|.exit id=>Q (.exit id) Γ (Post++lH)|_=>False)
     aO (hlen x).symm ⟨ha.size,ha.slots⟩ h1' h2 ((round c x A1 hc hI).mono (fun e ay H' ⟨q1,q2⟩=>⟨q1,q2.mono (fun e _ lH q=>by cases e <;> exact q)⟩))
    refine hx.conv (R:=[]) (by simp[dX]) ?_
    rintro v Bk (⟨rfl,lH,⟨A2,hI2,q⟩,rfl⟩|⟨rfl,lH,q⟩)
    ·refine⟨_,.inl ⟨rfl,_,⟨A2,hI2,rfl⟩,rfl⟩,?_⟩;obtain⟨R',hR'⟩:=q;refine⟨R',?_⟩;simp only[dX,V9,VV,vg]at hR'|-;rw[vf];refine(vW _ hR').trans ?_;rw[vf];exact zDR
    ·rcases q with⟨q,rfl⟩|⟨id,q,rfl⟩
     ·exact⟨_,.inr ⟨rfl,_,⟨lH,.inl ⟨q,rfl⟩⟩,rfl⟩,by rw[vg];exact ao.refl _⟩
     ·exact⟨_,.inr ⟨rfl,_,⟨lH,.inr ⟨id,q,rfl⟩⟩,rfl⟩,by rw[vg];exact ao.refl _⟩)
  _ ⟨A0,h1,rfl⟩
 have xF:Sat w1 ((bm++[A0++[kC.obj l (.loop (z4 iA a.tmps qs A B db .ready none))]]).flatten++(F++marks X)):=by
  have p1:(kC.obj l (.loop (z4 iA a.tmps qs A B db .ready none))::(H.flatten++(F++marks X))).Perm (R.flatten++(bm.flatten++(kC.obj l (.loop (z4 iA a.tmps qs A B db .ready none))::(F++marks X)))):=by
   refine QT.symm.trans ?_;refine(vW _ hs).trans ?_;rw[vf];exact zR _ _ _
  have h3:=(ud.perm p1).imp h0;refine h3.perm ?_;simp only[V8,V9,VV,vg,vf,List.singleton_append];exact zR _ _ _
 have aE:=ε (F++marks X) w1 xF;obtain⟨KV,Y4⟩:=aE;refine⟨l,X.map oD,w1,{target:=.fn (.func f) cap,args:=first++[Value.func (.yield l) #[] #[]].toArray},w1,f,first++[Value.func (.yield l) #[] #[]].toArray++cap,w1,he,?_,fun _ _=>trivial,?_,?_,?_⟩
 ·have NJ:a.eval g=.func (.func f) first cap:=ha.ev hg
  simp only[resolve,NJ,Deferred.ofValue];simp[Act.eval]
 ·simp only[invoke];rw[zQ KV]
 ·intro h;simp at h
 refine AR (Y4.mono ?_)
 ·rintro e w3 ⟨v,Pst,rfl,⟨rfl,hp⟩,NY,ri⟩
  have Sl:wA n Γ {a with defers:=X.map oD++a.defers}:=⟨ha.size,ha.slots⟩;rcases hp with⟨full,_,hf,⟨A1,hI,rfl⟩,rfl⟩|⟨c,B',_,⟨lH,hj⟩,rfl⟩
  ·obtain⟨w4,e1,e2,e3'⟩:=xf (P:=P) (L:=Post.flatten++A1) (st:=.ready) (pe:=none) Zs (by simpa[vf]using NY);have e3:=tL.trans (ri.trans e3');exact⟨none,w4,e1,hh _ _ _ _ _ X (done full A1 hf hI) Sl rfl (by simpa using e2) e3⟩
  ·rcases hj with⟨q,rfl⟩|⟨id,q,rfl⟩
   ·obtain⟨w4,e1,e2,e3'⟩:=xf (P:=P) (L:=Post.flatten++lH.flatten) (st:=.done) (pe:=some .ret) Zs (by simpa[vf]using NY);have e3:=tL.trans (ri.trans e3');exact⟨_,w4,e1,wpIn_ret (hh _ _ _ _ _ X q Sl rfl (by simpa using e2) e3)⟩
   ·obtain⟨w4,e1,e2,e3'⟩:=xf (P:=P) (L:=Post.flatten++lH.flatten) (st:=.done) (pe:=some (.exit id)) Zs (by simpa[vf]using NY);have e3:=tL.trans (ri.trans e3');exact⟨_,w4,e1,wpIn_exit (hh _ _ _ _ _ X q Sl rfl (by simpa using e2) e3)⟩
end
end Go.V

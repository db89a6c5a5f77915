/-
  The same, but for places?
-/
import Derived.Test.YtmnmandpdadedaaGreatDoorT6
import Derived.Test.YtmnmandpdadedaaGreatDoorV5
import Derived.Test.YtmnmandpdadedaaGreatDoorV3
import Derived.Test.YtmnmandpdadedaaGreatDoorT1
import Derived.KernelRfl
import Derived.Test.YtmnmandpdadedaaGreatDoorProg
import Derived.Test.YtmnmandpdadedaaGreatDoorV4
import Derived.Test.YtmnmandpdadedaaGreatDoorV6
set_option linter.unusedSimpArgs false
set_option linter.unusedVariables false
namespace Go.Proofs.YtmnmandpdadedaaGreatDoor
open Go Go.V
set_option maxHeartbeats 3200000
set_option maxRecDepth 100000
theorem literals_spec (A : List kE) : ∀ (N : Nat) (x y : Lt), x.size <= N -> ∀ vs ws, zL A x vs -> zL A y ws -> Fun Tryz.prog 76 [.agg vs.toArray, .agg ws.toArray] [A] (fun v Post => v = .bool (wx x y) /\ Post = [A]) := by
  intro N
  induction N with
  | zero => intro x y hx;have := x.size_pos;omega
  | succ N ih =>
    intro x y hx vs ws h h2;cases h with
    | @mk k n b t items a c bk o us wf ha hm hr =>
    cases h2 with
    | @mk k' n' b' t' items' a' c' bk' o' us' wf' ha' hm' hr' =>
    have hkids := equalLits_spec A items items' a a' c c' bk o bk' o' us us' wf.many ha ha' hm hm' hr hr' (.func (.func 76) #[] #[]) (fun i x y e1 e2 => by
      have h1 := Lt.sizes_mem (Zv e1);simp only [Lt.size] at hx;exact zD.of_fun (first := #[]) (cap := #[]) (ih x y Zo _ _ (hr i x e1) (hr' i y e2)))
    refine Fun.intro low76 (by simp [n76]) ?_;obtain ⟨E, hE⟩ : ∃ E, E = wx (.mk k n b t items) (.mk k' n' b' t' items') := ⟨_, rfl⟩;rw [<- hE];simp only [wx] at hE;refine GOH ?_;refine kS Zr (fun q => ?_);refine kS Zr (fun q2 => ?_);simp only [Value.cells];refine GOH ?_;by_cases h1 : k = k';rotate_left
    · have hno : E = false := by simp [hE, h1]
      rw [show decide ((k : Int) = (k' : Int)) = false from Zf Zo];refine GOH ?_;exact kC (Post := [A]) (.inr rfl) (.tmp Zr .nil) ⟨by rw [hno];rfl, rfl⟩ ZI
    rw [show decide ((k : Int) = (k' : Int)) = true from Zt Zo];refine GOH ?_;by_cases h2 : n = n';rotate_left
    · have hno : E = false := by simp [hE, h2]
      rw [Zf h2];refine GOH ?_;exact kC (Post := [A]) (.inr rfl) (.tmp Zr .nil) ⟨by rw [hno];rfl, rfl⟩ ZI
    rw [Zt h2];refine GOH ?_;by_cases h3 : b = b';rotate_left
    · have hno : E = false := by simp [hE, h3]
      rw [show decide ((b : Int) = (b' : Int)) = false from Zf Zo];refine GOH ?_;exact kC (Post := [A]) (.inr rfl) (.tmp Zr .nil) ⟨by rw [hno];rfl, rfl⟩ ZI
    rw [show decide ((b : Int) = (b' : Int)) = true from Zt Zo];refine GOH ?_;by_cases h4 : t = t';rotate_left
    · have hno : E = false := by simp [hE, h4]
      rw [Zf h4];refine GOH ?_;exact kC (Post := [A]) (.inr rfl) (.tmp Zr .nil) ⟨by rw [hno];rfl, rfl⟩ ZI
    rw [Zt h4];refine GOH ?_;refine kD hkids Zr ZP (fun v Post hv => ?_);obtain ⟨rfl, rfl⟩ := hv;simp only [CNx];have hyes : E = zk items items' := by simp [hE, h1, h2, h3, h4]
    refine GOH ?_;exact kC (Post := [A]) (.inr rfl) (.tmp Zr .nil) ⟨by rw [hyes];rfl, rfl⟩ ZI
theorem sameNode_spec (A : List kE) : ∀ (N : Nat) (x y : Nd), x.w <= N -> ∀ vs ws, kf A x vs -> kf A y ws -> Fun Tryz.prog 28 [.agg vs.toArray, .agg ws.toArray] [A] (fun v Post => v = .bool (zH x y) /\ Post = [A]) := by
  intro N
  induction N with
  | zero => intro x y hx;have := x.w_pos;omega
  | succ N ih =>
    intro x y hx vs ws h h2;cases h with
    | @mk k s lit args temps kids p lv av tv a c bk o us wf hl hav htv ha hm hr hcp =>
    cases h2 with
    | @mk k' s' lit' args' temps' kids' p' lv' av' tv' a' c' bk' o' us' wf' hl' hav' htv' ha' hm' hr' hcp' =>
    have hkids := equalNodes_spec A kids kids' a a' c c' bk o bk' o' us us' wf.many ha ha' hm hm' hr hr' (.func (.func 28) #[] #[]) (fun i x y e1 e2 => by
      have h1 := Nd.ws_mem (Zv e1);simp only [Nd.w] at hx;exact zD.of_fun (first := #[]) (cap := #[]) (ih x y Zo _ _ (hr i x e1) (hr' i y e2)))
    have hlits := literals_spec A _ lit lit' (Nat.le_refl _) _ _ hl hl';have hargs := zR A _ _ args args' hav hav';have htemps := zR A _ _ temps temps' htv htv';obtain ⟨aa, ac, rfl, _, _⟩ := hav;obtain ⟨ta, tc, rfl, _, _⟩ := htv;obtain ⟨aa', ac', rfl, _, _⟩ := hav';obtain ⟨ta', tc', rfl, _, _⟩ := htv';obtain ⟨la, lc, rfl⟩ := jx hl;obtain ⟨la', lc', rfl⟩ := jx hl';refine Fun.intro low28 (by simp [n28]) ?_;obtain ⟨E, hE⟩ : ∃ E, E = zH (.mk k s lit args temps kids p) (.mk k' s' lit' args' temps' kids' p') := ⟨_, rfl⟩;rw [<- hE];simp only [zH] at hE;simp only [CNx] at *;refine GOH ?_;refine kS Zr (fun q => ?_);refine kS Zr (fun q2 => ?_);simp only [Value.cells];refine GOH ?_;by_cases h1 : k = k';rotate_left
    · have hno : E = false := by simp [hE, h1]
      rw [show decide ((k : Int) = (k' : Int)) = false from Zf Zo];refine GOH ?_;exact kC (Post := [A]) (.inr rfl) (.tmp Zr .nil) ⟨by rw [hno];rfl, rfl⟩ ZI
    rw [show decide ((k : Int) = (k' : Int)) = true from Zt Zo];refine GOH ?_;by_cases h2 : s = s';rotate_left
    · have hno : E = false := by simp [hE, h2]
      rw [Zf h2];refine GOH ?_;exact kC (Post := [A]) (.inr rfl) (.tmp Zr .nil) ⟨by rw [hno];rfl, rfl⟩ ZI
    rw [Zt h2];refine GOH ?_;refine kD hargs Zr ZP (fun v Post hv => ?_);obtain ⟨rfl, rfl⟩ := hv;simp only [CNx];by_cases h3 : args = args';rotate_left
    · have hno : E = false := by simp [hE, h3]
      rw [Zf h3];refine GOH ?_;exact kC (Post := [A]) (.inr rfl) (.tmp Zr .nil) ⟨by rw [hno];rfl, rfl⟩ ZI
    rw [Zt h3];refine GOH ?_;refine kD htemps Zr ZP (fun v Post hv => ?_);obtain ⟨rfl, rfl⟩ := hv;simp only [CNx];by_cases h4 : temps = temps';rotate_left
    · have hno : E = false := by simp [hE, h4]
      rw [Zf h4];refine GOH ?_;exact kC (Post := [A]) (.inr rfl) (.tmp Zr .nil) ⟨by rw [hno];rfl, rfl⟩ ZI
    rw [Zt h4];refine GOH ?_;refine kD hlits Zr ZP (fun v Post hv => ?_);obtain ⟨rfl, rfl⟩ := hv;simp only [CNx];cases h5 : wx lit lit' with
    | false =>
      have hno : E = false := by simp [hE, h5]
      refine GOH ?_;exact kC (Post := [A]) (.inr rfl) (.tmp Zr .nil) ⟨by rw [hno];rfl, rfl⟩ ZI
    | true =>
      refine GOH ?_;refine kD hkids Zr ZP (fun v Post hv => ?_);obtain ⟨rfl, rfl⟩ := hv;simp only [CNx];have hyes : E = zG kids kids' := by simp [hE, h1, h2, h3, h4, h5]
      refine GOH ?_;exact kC (Post := [A]) (.inr rfl) (.tmp Zr .nil) ⟨by rw [hyes];rfl, rfl⟩ ZI
theorem SameNode_spec (A : List kE) (x y : Nd) (vs ws : List Value) (h : kf A x vs) (h2 : kf A y ws) : Fun Tryz.prog 28 [.agg vs.toArray, .agg ws.toArray] [A] (fun v Post => v = .bool (zH x y) /\ Post = [A]) :=
  sameNode_spec A _ x y (Nat.le_refl _) vs ws h h2
def mdEq (x y : Md) : Bool := decide (x.sel = y.sel) && decide (x.prim = y.prim) && decide (x.args = y.args) && decide (x.temps = y.temps) && zG x.body y.body
theorem Same_spec (A : List kE) (x y : Md) (vs ws : List Value) (h : MdRd A x vs) (h2 : MdRd A y ws) : Fun Tryz.prog 14 [.agg vs.toArray, .agg ws.toArray] [A] (fun v Post => v = .bool (mdEq x y) /\ Post = [A]) := by
  obtain ⟨⟨aa, ac, ta, tc, a, c, bk, o, us, rfl, hav, htv, hk⟩, hsel, hprim⟩ := h;obtain ⟨⟨aa', ac', ta', tc', a', c', bk', o', us', rfl, hav', htv', hk'⟩, hsel', hprim'⟩ := h2;have hkids := equalNodes_spec A x.body y.body a a' c c' bk o bk' o' us us' hk.many hk.at_ hk'.at_ hk.mem hk'.mem hk.rd hk'.rd (.func (.func 28) #[] #[]) (fun i x y e1 e2 =>
    zD.of_fun (first := #[]) (cap := #[]) (SameNode_spec A x y _ _ (hk.rd i x e1) (hk'.rd i y e2)))
  have hargs := zR A _ _ x.args y.args hav hav';have htemps := zR A _ _ x.temps y.temps htv htv';obtain ⟨s, args, temps, p, kids⟩ := x;obtain ⟨s', args', temps', p', kids'⟩ := y;simp only at *;refine Fun.intro low14 (by simp [n14]) ?_;obtain ⟨E, hE⟩ : ∃ E, E = mdEq ⟨s, args, temps, p, kids⟩ ⟨s', args', temps', p', kids'⟩ := ⟨_, rfl⟩;rw [<- hE];simp only [mdEq] at hE;refine GOH ?_;refine kS Zr (fun q => ?_);refine kS Zr (fun q2 => ?_);simp only [Value.cells];refine GOH ?_;by_cases h1 : s = s';rotate_left
  · have hno : E = false := by simp [hE, h1]
    rw [Zf h1];refine GOH ?_;exact kC (Post := [A]) (.inr rfl) (.tmp Zr .nil) ⟨by rw [hno];rfl, rfl⟩ ZI
  rw [Zt h1];refine GOH ?_;by_cases h2 : p = p';rotate_left
  · have hno : E = false := by simp [hE, h2]
    rw [Zf h2];refine GOH ?_;exact kC (Post := [A]) (.inr rfl) (.tmp Zr .nil) ⟨by rw [hno];rfl, rfl⟩ ZI
  rw [Zt h2];refine GOH ?_;refine kD hargs Zr ZP (fun v Post hv => ?_);obtain ⟨rfl, rfl⟩ := hv;simp only [CNx];by_cases h3 : args = args';rotate_left
  · have hno : E = false := by simp [hE, h3]
    rw [Zf h3];refine GOH ?_;exact kC (Post := [A]) (.inr rfl) (.tmp Zr .nil) ⟨by rw [hno];rfl, rfl⟩ ZI
  rw [Zt h3];refine GOH ?_;refine kD htemps Zr ZP (fun v Post hv => ?_);obtain ⟨rfl, rfl⟩ := hv;simp only [CNx];by_cases h4 : temps = temps';rotate_left
  · have hno : E = false := by simp [hE, h4]
    rw [Zf h4];refine GOH ?_;exact kC (Post := [A]) (.inr rfl) (.tmp Zr .nil) ⟨by rw [hno];rfl, rfl⟩ ZI
  rw [Zt h4];refine GOH ?_;refine kD hkids Zr ZP (fun v Post hv => ?_);obtain ⟨rfl, rfl⟩ := hv;simp only [CNx];have hyes : E = zG kids kids' := by simp [hE, h1, h2, h3, h4]
  refine GOH ?_;exact kC (Post := [A]) (.inr rfl) (.tmp Zr .nil) ⟨by rw [hyes];rfl, rfl⟩ ZI
end Go.Proofs.YtmnmandpdadedaaGreatDoor
namespace Go.Proofs.YtmnmandpdadedaaGreatDoor
open Go Go.V
set_option maxHeartbeats 3200000
set_option maxRecDepth 100000
def StS (A : List kE) (p3 p4 mb : Nat) (ns : List ByteArray) (B : List kE) : Prop := ∃ sv sp es c m, ku 1 sv (kY ns).length ((kY ns).map Value.string) sp /\ MapIs kStr vi es c m /\ (∀ s, (mget s m).getD 0 = (cntS ns s : Int)) /\
  B = [kA p3 0 [sv], kA p4 0 [.map (some mb)], [.obj mb (.map es c)], slA sv ((kY ns).map Value.string) sp, A].flatten
theorem StS.acc {A : List kE} {p3 p4 mb : Nat} {ns : List ByteArray} {B : List kE} (h : StS A p3 p4 mb ns B) : AccT A B := by
  obtain ⟨sv, sp, es, c, m, h1, h2, h3, rfl⟩ := h;refine ⟨[kA p3 0 [sv], kA p4 0 [.map (some mb)], [.obj mb (.map es c)], slA sv ((kY ns).map Value.string) sp].flatten, ?_⟩;simp only [List.flatten_cons, List.flatten_nil, List.append_nil];rw [<- List.append_assoc, <- List.append_assoc, <- List.append_assoc];refine List.Perm.trans List.perm_append_comm ?_;simp only [List.append_assoc];exact .refl _
def sendsM (x : Md) : List ByteArray := kY (jg (jo x.body))
theorem Sends_spec (A : List kE) (x : Md) (vs : List Value) (h : MdRd A x vs) (hw : Nd.ws x.body <= 274877906944) :
    Fun Tryz.prog 35 [.agg vs.toArray] [A] (fun v Post => ∃ sp, ku 1 v (sendsM x).length ((sendsM x).map .string) sp /\ Post = [A, slA v ((sendsM x).map .string) sp]) := by
  obtain ⟨⟨aa, ac, ta, tc, a, c, bk, o, us, rfl, hav, htv, hk⟩, hsel, hprim⟩ := h;have hmany := hk.many;have hlen : (jg (jo x.body)).length <= 274877906944 := by
    have h1 := sendsOf_le (jo x.body);have h2 : ∀ l : List Nd, (jo l).length <= Nd.ws l := by
      intro l
      induction l with
      | nil => exact Nat.zero_le _
      | cons y r ih =>
        have := allN_len _ y (Nat.le_refl _);simp only [jo, List.length_append, Nd.ws];omega
    have := h2 x.body;omega
  refine Fun.intro low35 (by simp [n35]) ?_;refine GOH ?_;refine kS Zr (fun q => ?_);simp only [Value.cells];refine GOH ?_;refine kP (fun p3 => ?_);refine GOH ?_;refine st_mkmap (fun mb => ?_);refine kP (fun p4 => ?_);refine GOH ?_;refine VC.loop (α := Nat × List kE) (Γf := fun s => [(3, kN p3), (4, kN p4), (10, .slice a x.body.length c), (11, vi x.body.length), (12, vi s.1)]) (Hf := fun s => [s.2])
    (I := fun s => s.1 <= x.body.length /\ StS A p3 p4 mb (jg (jo (x.body.take s.1))) s.2) (μ := fun s => x.body.length - s.1) (0, [kA p3 0 [.slice none 0 0], kA p4 0 [.map (some mb)], [kE.obj mb (.map #[] 0)], [], A].flatten) ⟨Nat.zero_le _, ⟨.slice none 0 0, [], #[], 0, [], .nil, .nil, fun s => rfl, rfl⟩⟩ ZU ?_ ?_
  · refine Imp.cut (M := [kA p3 0 [.slice none 0 0], kA p4 0 [.map (some mb)], [.obj mb (.map #[] 0)], A]) ZI (Imp.perm (by simp [slA]))
  rintro ⟨j, B⟩ ⟨i1, i2⟩
  simp only at i1 i2;dsimp only;refine GOH ?_;by_cases hj : j < x.body.length;rotate_left
  · rw [show decide ((j : Int) < (x.body.length : Int)) = false from Zf Zo];rw [List.take_of_length_le Zo] at i2;obtain ⟨sv, sp, es, cc, m, h1, h2, h3, rfl⟩ := i2;refine VC.imp (H' := [kA p3 0 [sv], A, slA sv ((sendsM x).map Value.string) sp]) (Imp.cut (M := [kA p3 0 [sv], kA p4 0 [.map (some mb)], [.obj mb (.map es cc)], slA sv ((sendsM x).map Value.string) sp, A]) (Imp.perm (by simp [sendsM])) ZI) ?_;refine GOH ?_;exact kC (Post := [A, slA sv ((sendsM x).map Value.string) sp]) (.inr rfl) (.tmp Zr .nil) ⟨sp, h1, rfl⟩ ZI
  obtain rfl := hk.at_ Zo;rw [show decide ((j : Int) < (x.body.length : Int)) = true from Zt Zo];obtain ⟨y, hy⟩ : ∃ y, x.body[j]? = some y := ⟨_, Zg hj⟩;have hyr := hk.rd j y hy;have hym := hk.mem j hj;have hit := all_iter A y _ hyr;have hall := All_spec (us j);have hacc := i2.acc.mem;generalize us j = uj at *;obtain ⟨g1, g2, g3, g4, g5, g6, g7, g8, g9, g10, g11, g12, g13, g14, g15, g16, g17, rfl, hsz, hkk⟩ := km hyr;have htk : x.body.take (j + 1) = x.body.take j ++ [y] := by rw [List.take_add_one, hy];rfl
  have hsum : jo (x.body.take (j + 1)) = jo (x.body.take j) ++ allN y := by rw [htk, allsN_append];simp [jo]
  have hpart : (jg (jo (x.body.take (j + 1)))).length <= 274877906944 := by
    have e : jo x.body = jo (x.body.take (j + 1)) ++ jo (x.body.drop (j + 1)) := by rw [<- allsN_append, List.take_append_drop]
    rw [e, wn, List.length_append] at hlen;omega
  refine GOH ?_;refine kL Zr (fun z hz => Zw _ (hacc _ (hym z hz))) rfl ?_;refine GOH ?_;refine kP (fun p6 => ?_);refine GOH ?_;refine kD hall Zr ZP (fun v Post hv => ?_);obtain ⟨q2, rfl, rfl⟩ := hv;simp only [CNx];refine GOH ?_;refine VC.rangefA (fun c B => StS A p3 p4 mb (jg (jo (x.body.take j)) ++ jg (c.map Prod.fst)) B) B Zr (hit q2) (fun A B h => h.more) (fun c B h => h.acc) (R := [kA p6 0 _, B]) ZP ZI ?_ (fun _ => rfl) ?_ ?_
  · rw [show jg (([] : List NV).map Prod.fst) = [] from rfl, List.append_nil];exact i2
  · rintro c ⟨u, us2⟩ B2 hok ⟨sv, sp, es, cc, m, h1, h2, h3, rfl⟩
    obtain ⟨t, ht⟩ := hok;have hur : kf A u us2 := ht.2 (u, us2) Zs;have hcn : (jg (jo (x.body.take j)) ++ jg ((c ++ [(u, us2)]).map Prod.fst)).length <= 274877906944 := by
      have e := ht.1;rw [List.map_append] at e;rw [hsum, <- e, wn, wn, List.length_append, List.length_append] at hpart;rw [List.length_append];omega
    rw [List.map_append, wn] at hcn |-;rw [show [(u, us2)].map Prod.fst = [u] from rfl, sendsOf_one] at hcn |-;rw [<- List.append_assoc] at hcn |-;generalize jg (jo (x.body.take j)) ++ jg (c.map Prod.fst) = ns at *;have hfl := firsts_le ns;simp only [encN, bindE];obtain ⟨e1, e2, e3, e4, e5, e6, e7, e8, e9, e10, e11, e12, e13, e14, e15, e16, e17, rfl, hus, huk⟩ := km hur;refine VC.imp (H' := [kA p3 0 [sv], kA p4 0 [.map (some mb)], [.obj mb (.map es cc)], slA sv ((kY ns).map Value.string) sp, A]) (Imp.perm Zs) ?_;obtain ⟨sa, sc, rfl⟩ := h1.form;refine GOH ?_;refine kP (fun p7 => ?_);refine GOH ?_;refine ⟨trivial, ?_⟩;refine GOH ?_;by_cases k4 : u.kind = 4
    · rw [show decide ((u.kind : Int) = 4) = true from Zt Zo];have hkind : u.kind = 4 ∨ u.kind = 6 := .inl k4;refine GOH ?_;have hcle := cntS_le ns u.name;have hsn : sendsN u = true := by simp [sendsN, hkind]
      rw [hsn, if_pos rfl] at hcn |-;rw [List.length_append, List.length_singleton] at hcn;refine st_lookup (E := kStr) (V := vi) (k := u.name) Zr Zr rfl Zay h2 ?_;rw [look_get, h3];refine GOH ?_;refine st_mapupd (E := kStr) (V := vi) (k := u.name) (v := (cntS ns u.name : Int) + 1) Zr Zr Zr rfl ZK h2 (fun es' c' hm' => ?_);have hcount : ∀ s, (mget s (mset u.name ((cntS ns u.name : Int) + 1) m)).getD 0 = (cntS (ns ++ [u.name]) s : Int) := fun s => by
        rw [mget_mset, cntS_snoc];by_cases he : u.name = s
        · rw [if_pos he, if_pos he, Option.getD_some, he];omega
        · rw [if_neg he, if_neg he, h3];omega
      refine GOH ?_;refine st_lookup (E := kStr) (V := vi) (k := u.name) Zr Zr rfl Zay hm' ?_;rw [look_get, mget_mset, if_pos rfl, Option.getD_some];refine GOH ?_;by_cases h0 : cntS ns u.name = 0
      · rw [show decide ((cntS ns u.name : Int) + 1 = 1) = true from Zt Zo];have hf : kY (ns ++ [u.name]) = kY ns ++ [u.name] := by rw [zd, firsts_cnt, if_neg (by simp [h0])]
        refine GOH ?_;refine ki (out := [.string u.name]) Zr Zr (fun r => ?_);refine j8 (k := (kY ns).length) (m := 1) (xs := (kY ns).map Value.string) (sp := sp) (ys := [.string u.name]) Zr Zr h1 ZK Zr ?_ rfl Zr Zr Zd Zo (fun sv' sp' hsl' => ?_)
        · exact Zal
        have hsl2 : ku 1 sv' (kY (ns ++ [u.name])).length ((kY (ns ++ [u.name])).map Value.string) sp' := by rw [hf];simpa using hsl'
        obtain ⟨a', c', rfl⟩ := hsl'.form;refine GOH ?_;refine ⟨[kA p3 0 [.slice a' ((kY ns).length + 1) c'], kA p4 0 [.map (some mb)], [kE.obj mb (.map es' _)], slA (.slice a' ((kY ns).length + 1) c') ((kY (ns ++ [u.name])).map Value.string) sp', A].flatten, ⟨_, sp', es', _, _, hsl2, hm', hcount, rfl⟩, ?_⟩;rw [hf, List.map_append];refine Imp.cut (M := [kA p3 0 [.slice a' ((kY ns).length + 1) c'], kA p4 0 [.map (some mb)], [kE.obj mb (.map es' _)], slA (.slice a' ((kY ns).length + 1) c') ((kY ns).map Value.string ++ [.string u.name]) sp', A]) ZI (Imp.perm Zs)
      · rw [show decide ((cntS ns u.name : Int) + 1 = 1) = false from Zf Zo];have hf : kY (ns ++ [u.name]) = kY ns := by rw [zd, firsts_cnt, if_pos (by simp [h0])]
        refine GOH ?_;refine ⟨[kA p3 0 [.slice sa (kY ns).length sc], kA p4 0 [.map (some mb)], [kE.obj mb (.map es' _)], slA (.slice sa (kY ns).length sc) ((kY ns).map Value.string) sp, A].flatten, ⟨_, sp, es', _, _, by rw [hf];exact h1, hm', hcount, by rw [hf]⟩, ?_⟩;refine Imp.cut (M := [kA p3 0 [.slice sa (kY ns).length sc], kA p4 0 [.map (some mb)], [kE.obj mb (.map es' _)], slA (.slice sa (kY ns).length sc) ((kY ns).map Value.string) sp, A]) ZI (Imp.perm Zs)
    rw [show decide ((u.kind : Int) = 4) = false from Zf Zo];refine GOH ?_;by_cases k6 : u.kind = 6
    · rw [show decide ((u.kind : Int) = 6) = true from Zt Zo];have hkind : u.kind = 4 ∨ u.kind = 6 := .inr k6;refine GOH ?_;have hcle := cntS_le ns u.name;have hsn : sendsN u = true := by simp [sendsN, hkind]
      rw [hsn, if_pos rfl] at hcn |-;rw [List.length_append, List.length_singleton] at hcn;refine st_lookup (E := kStr) (V := vi) (k := u.name) Zr Zr rfl Zay h2 ?_;rw [look_get, h3];refine GOH ?_;refine st_mapupd (E := kStr) (V := vi) (k := u.name) (v := (cntS ns u.name : Int) + 1) Zr Zr Zr rfl ZK h2 (fun es' c' hm' => ?_);have hcount : ∀ s, (mget s (mset u.name ((cntS ns u.name : Int) + 1) m)).getD 0 = (cntS (ns ++ [u.name]) s : Int) := fun s => by
        rw [mget_mset, cntS_snoc];by_cases he : u.name = s
        · rw [if_pos he, if_pos he, Option.getD_some, he];omega
        · rw [if_neg he, if_neg he, h3];omega
      refine GOH ?_;refine st_lookup (E := kStr) (V := vi) (k := u.name) Zr Zr rfl Zay hm' ?_;rw [look_get, mget_mset, if_pos rfl, Option.getD_some];refine GOH ?_;by_cases h0 : cntS ns u.name = 0
      · rw [show decide ((cntS ns u.name : Int) + 1 = 1) = true from Zt Zo];have hf : kY (ns ++ [u.name]) = kY ns ++ [u.name] := by rw [zd, firsts_cnt, if_neg (by simp [h0])]
        refine GOH ?_;refine ki (out := [.string u.name]) Zr Zr (fun r => ?_);refine j8 (k := (kY ns).length) (m := 1) (xs := (kY ns).map Value.string) (sp := sp) (ys := [.string u.name]) Zr Zr h1 ZK Zr ?_ rfl Zr Zr Zd Zo (fun sv' sp' hsl' => ?_)
        · exact Zal
        have hsl2 : ku 1 sv' (kY (ns ++ [u.name])).length ((kY (ns ++ [u.name])).map Value.string) sp' := by rw [hf];simpa using hsl'
        obtain ⟨a', c', rfl⟩ := hsl'.form;refine GOH ?_;refine ⟨[kA p3 0 [.slice a' ((kY ns).length + 1) c'], kA p4 0 [.map (some mb)], [kE.obj mb (.map es' _)], slA (.slice a' ((kY ns).length + 1) c') ((kY (ns ++ [u.name])).map Value.string) sp', A].flatten, ⟨_, sp', es', _, _, hsl2, hm', hcount, rfl⟩, ?_⟩;rw [hf, List.map_append];refine Imp.cut (M := [kA p3 0 [.slice a' ((kY ns).length + 1) c'], kA p4 0 [.map (some mb)], [kE.obj mb (.map es' _)], slA (.slice a' ((kY ns).length + 1) c') ((kY ns).map Value.string ++ [.string u.name]) sp', A]) ZI (Imp.perm Zs)
      · rw [show decide ((cntS ns u.name : Int) + 1 = 1) = false from Zf Zo];have hf : kY (ns ++ [u.name]) = kY ns := by rw [zd, firsts_cnt, if_pos (by simp [h0])]
        refine GOH ?_;refine ⟨[kA p3 0 [.slice sa (kY ns).length sc], kA p4 0 [.map (some mb)], [kE.obj mb (.map es' _)], slA (.slice sa (kY ns).length sc) ((kY ns).map Value.string) sp, A].flatten, ⟨_, sp, es', _, _, by rw [hf];exact h1, hm', hcount, by rw [hf]⟩, ?_⟩;refine Imp.cut (M := [kA p3 0 [.slice sa (kY ns).length sc], kA p4 0 [.map (some mb)], [kE.obj mb (.map es' _)], slA (.slice sa (kY ns).length sc) ((kY ns).map Value.string) sp, A]) ZI (Imp.perm Zs)
    rw [show decide ((u.kind : Int) = 6) = false from Zf Zo];have hsn : sendsN u = false := by simp [sendsN, k4, k6]
    rw [hsn];simp only [Bool.false_eq_true, if_false, List.append_nil];refine GOH ?_;refine ⟨[kA p3 0 [.slice sa (kY ns).length sc], kA p4 0 [.map (some mb)], [kE.obj mb (.map es cc)], slA (.slice sa (kY ns).length sc) ((kY ns).map Value.string) sp, A].flatten, ⟨_, sp, es, _, _, h1, h2, h3, rfl⟩, ?_⟩;refine Imp.cut (M := [kA p3 0 [.slice sa (kY ns).length sc], kA p4 0 [.map (some mb)], [kE.obj mb (.map es cc)], slA (.slice sa (kY ns).length sc) ((kY ns).map Value.string) sp, A]) ZI (Imp.perm Zs)
  · rintro full B2 hfull hB2
    rw [hfull.1, <- wn, <- hsum] at hB2;refine GOH ?_;exact ⟨(j + 1, B2), ⟨by simp only;omega, hB2⟩, by simp only;omega, ZU, ZI⟩
end Go.Proofs.YtmnmandpdadedaaGreatDoor
namespace Go.Proofs.YtmnmandpdadedaaGreatDoor
open Go Go.V
set_option maxRecDepth 100000
def F54 : FIR := laid (X := ⟨22, [.tmp 4], (qS [qo 4 (.mv (.const (.slice none 0 0)))] [0,1] (qS [qo 5 (.mv (.const (.slice none 0 0)))] [0,1,5] (.seq (qS [qm 8 0,qL 9 8,qk 10 0] [1,5,8,9,10] (.block 0 (.loop (qS [qb 11 .lss 10 9] [1,5,8,9,10,11] (.seq (qC 11 .skip (.exit 0)) (.seq (.block 1 (qS [qi 12 11 8 10,qN 13 11 12,
  qo 7 (.alloc 48 [(.int .u8 0), (.string ⟨#[]⟩), (.int .u8 0), (.int .i64 0), (.int .u64 0), (.string ⟨#[]⟩), (.slice none 0 0), (.slice none 0 0), (.slice none 0 0), (.slice none 0 0), (.int .i64 0)]),
  qs 11 7 13] [1,5,7,8,9,10] (.reg [qm 14 5,qm 15 1,qN 16 11 7,qo 17 (.callv (.tmp 15) [(.tmp 16)]),
  qo 18 (.bslice 48 1 [(.int .u8 0), (.string ⟨#[]⟩), (.int .u8 0), (.int .i64 0), (.int .u64 0), (.string ⟨#[]⟩), (.slice none 0 0), (.slice none 0 0), (.slice none 0 0), (.slice none 0 0), (.int .i64 0)] [(0, 11, (.tmp 17))]),
  qo 19 (.append 48 11 168 [(.int .u8 0), (.string ⟨#[]⟩), (.int .u8 0), (.int .i64 0), (.int .u64 0), (.string ⟨#[]⟩), (.slice none 0 0), (.slice none 0 0), (.slice none 0 0), (.slice none 0 0), (.int .i64 0)] (.tmp 14) (.tmp 18)),
  qm 5 19] [1,5,8,9,10]))) (.reg [qc 20 .add 10 1,qm 10 20] [1,5,8,9,10]))))))) (qS [qm 21 5,qm 4 21] [4] .ret))))⟩)
theorem n54 : F54.n = 22 := rfl
theorem low54 : kV Tryz.prog (kpO F54) (kM []) 54 = some F54 := by kernel_rfl
def F134 : FIR := laid (X := ⟨22, [.tmp 4], (qS [qo 4 (.mv (.const (.slice none 0 0)))] [0,1] (qS [qo 5 (.mv (.const (.slice none 0 0)))] [0,1,5] (.seq (qS [qm 8 0,qL 9 8,qk 10 0] [1,5,8,9,10] (.block 0 (.loop (qS [qb 11 .lss 10 9] [1,5,8,9,10,11] (.seq (qC 11 .skip (.exit 0)) (.seq (.block 1 (qS [qi 12 5 8 10,qN 13 5 12,
  qo 7 (.alloc 46 [(.int .u8 0), (.int .i64 0), (.int .u64 0), (.string ⟨#[]⟩), (.slice none 0 0)]),
  qs 5 7 13] [1,5,7,8,9,10] (.reg [qm 14 5,qm 15 1,qN 16 5 7,qo 17 (.callv (.tmp 15) [(.tmp 16)]),
  qo 18 (.bslice 46 1 [(.int .u8 0), (.int .i64 0), (.int .u64 0), (.string ⟨#[]⟩), (.slice none 0 0)] [(0, 5, (.tmp 17))]),
  qo 19 (.append 46 5 64 [(.int .u8 0), (.int .i64 0), (.int .u64 0), (.string ⟨#[]⟩), (.slice none 0 0)] (.tmp 14) (.tmp 18)),
  qm 5 19] [1,5,8,9,10]))) (.reg [qc 20 .add 10 1,qm 10 20] [1,5,8,9,10]))))))) (qS [qm 21 5,qm 4 21] [4] .ret))))⟩)
theorem n134 : F134.n = 22 := rfl
theorem low134 : kV Tryz.prog (kpO F134) (kM []) 134 = some F134 := by kernel_rfl
def F97 : FIR := laid (X := ⟨8, [.cellN 2 5], (qS [qB 1 46 0,
  qo 2 (.alloc 46 [(.int .u8 0), (.int .i64 0), (.int .u64 0), (.string ⟨#[]⟩), (.slice none 0 0)])] [1,2] (qS [qf 3 4 1,ql 4 3,qo 5 (.call 134 [(.tmp 4), (.func 97)]),qf 6 4 1,qs 1 6 5] [1,2] (qS [qN 7 5 1,qs 5 2 7] [2] .ret)))⟩)
theorem n97 : F97.n = 8 := rfl
theorem low97 : kV Tryz.prog (kpO F97) (kM []) 97 = some F97 := by kernel_rfl
def F55 : FIR := laid (X := ⟨20, [.cellN 2 11], (qS [qB 1 48 0,
  qo 2 (.alloc 48 [(.int .u8 0), (.string ⟨#[]⟩), (.int .u8 0), (.int .i64 0), (.int .u64 0), (.string ⟨#[]⟩), (.slice none 0 0), (.slice none 0 0), (.slice none 0 0), (.slice none 0 0), (.int .i64 0)])] [1,2] (.seq (.free [qf 3 0 1,ql 4 3,qf 5 1 1,ql 6 5,qf 7 2 1,qN 8 5 7,qx 9 97 [8],qf 10 7 1,ql 11 10,qx 12 53 [11],qf 13 8 1,ql 14 13,qx 15 53 [14],
  qf 16 9 1,ql 17 16,qo 18 (.call 54 [(.tmp 17), (.func 55)]),
  qo 19 (.build [(.int .u8 0), (.string ⟨#[]⟩), (.int .u8 0), (.int .i64 0), (.int .u64 0), (.string ⟨#[]⟩), (.slice none 0 0), (.slice none 0 0), (.slice none 0 0), (.slice none 0 0), (.int .i64 0)] [(0, 1, (.tmp 4)), (1, 1, (.tmp 6)), (2, 5, (.tmp 9)), (7, 1, (.tmp 12)), (8, 1, (.tmp 15)), (9, 1, (.tmp 18))]),
  qs 11 2 19] [[], [0], [], [2], [], [4], [4,5], [], [7], [5,4,6,7,8], [], [10], [8,7,6,4,5,9,10,11], [], [13], [11,10,9,5,4,6,7,8,12,13,14], [14,13,15,11,10,12,8,7,9,5,4,6,2,3,0,1], [1,0,3,2,6,4,5,9,7,8,12,10,11,15,13,14,16]] [2]) .ret))⟩)
theorem n55 : F55.n = 20 := rfl
theorem low55 : kV Tryz.prog (kpO F55) (kM [(1,[])]) 55 = some F55 := by kernel_rfl
def F15 : FIR := laid (X := ⟨16, [.cellN 2 5], (qS [qB 1 25 0,
  qo 2 (.alloc 25 [(.string ⟨#[]⟩), (.slice none 0 0), (.slice none 0 0), (.int .i64 0), (.slice none 0 0)])] [1,2] (.seq (qD [qf 3 1 1,ql 4 3,qx 5 53 [4],qf 6 2 1,ql 7 6,qx 8 53 [7],qf 9 1 1,qs 1 9 5,qf 10 2 1,qs 1 10 8] [[0,1,2,3,4,5,6,7,8,9], [0,1,3,4,2,5,6,7,8,9]] [1,2]) (qS [qf 11 4 1,ql 12 11,qo 13 (.call 54 [(.tmp 12), (.func 55)]),qf 14 4 1,qs 1 14 13] [1,2] (qS [qN 15 5 1,qs 5 2 15] [2] .ret))))⟩)
theorem n15 : F15.n = 16 := rfl
theorem low15 : kV Tryz.prog (kpO F15) (kM [(1,[[0,1,2,3,4,5,6,7,8,9], [0,1,3,4,2,5,6,7,8,9]])]) 15 = some F15 := by kernel_rfl
def F42 : FIR := laid (X := ⟨10, [.cellN 0 11], (qS [qo 0 (.alloc 48 [(.int .u8 0), (.string ⟨#[]⟩), (.int .u8 0), (.int .i64 0), (.int .u64 0), (.string ⟨#[]⟩), (.slice none 0 0), (.slice none 0 0), (.slice none 0 0), (.slice none 0 0), (.int .i64 0)])] [0] (qS [qo 2 (.build [(.int .u8 0), (.string ⟨#[]⟩), (.int .u8 0), (.int .i64 0), (.int .u64 0), (.string ⟨#[]⟩), (.slice none 0 0), (.slice none 0 0), (.slice none 0 0), (.slice none 0 0), (.int .i64 0)] [(0, 1, (.const (.int .u8 2))), (1, 1, (.const (.string ⟨#[98]⟩)))]),
  qo 3 (.build [(.int .u8 0), (.string ⟨#[]⟩), (.int .u8 0), (.int .i64 0), (.int .u64 0), (.string ⟨#[]⟩), (.slice none 0 0), (.slice none 0 0), (.slice none 0 0), (.slice none 0 0), (.int .i64 0)] [(0, 1, (.const (.int .u8 2))), (1, 1, (.const (.string ⟨#[99]⟩)))]),
  qo 4 (.bslice 48 2 [(.int .u8 0), (.string ⟨#[]⟩), (.int .u8 0), (.int .i64 0), (.int .u64 0), (.string ⟨#[]⟩), (.slice none 0 0), (.slice none 0 0), (.slice none 0 0), (.slice none 0 0), (.int .i64 0)] [(0, 11, (.tmp 2)), (11, 11, (.tmp 3))]),
  qo 5 (.build [(.int .u8 0), (.string ⟨#[]⟩), (.int .u8 0), (.int .i64 0), (.int .u64 0), (.string ⟨#[]⟩), (.slice none 0 0), (.slice none 0 0), (.slice none 0 0), (.slice none 0 0), (.int .i64 0)] [(0, 1, (.const (.int .u8 4))), (1, 1, (.const (.string ⟨#[42]⟩))), (9, 1, (.tmp 4)), (10, 1, (.const (.int .i64 5)))]),
  qo 1 (.alloc 48 [(.int .u8 0), (.string ⟨#[]⟩), (.int .u8 0), (.int .i64 0), (.int .u64 0), (.string ⟨#[]⟩), (.slice none 0 0), (.slice none 0 0), (.slice none 0 0), (.slice none 0 0), (.int .i64 0)]),
  qs 11 1 5] [0,1] (qS [qo 6 (.build [(.int .u8 0), (.string ⟨#[]⟩), (.int .u8 0), (.int .i64 0), (.int .u64 0), (.string ⟨#[]⟩), (.slice none 0 0), (.slice none 0 0), (.slice none 0 0), (.slice none 0 0), (.int .i64 0)] [(0, 1, (.const (.int .u8 2))), (1, 1, (.const (.string ⟨#[97]⟩)))]),
  qN 7 11 1,
  qo 8 (.bslice 48 2 [(.int .u8 0), (.string ⟨#[]⟩), (.int .u8 0), (.int .i64 0), (.int .u64 0), (.string ⟨#[]⟩), (.slice none 0 0), (.slice none 0 0), (.slice none 0 0), (.slice none 0 0), (.int .i64 0)] [(0, 11, (.tmp 6)), (11, 11, (.tmp 7))]),
  qo 9 (.build [(.int .u8 0), (.string ⟨#[]⟩), (.int .u8 0), (.int .i64 0), (.int .u64 0), (.string ⟨#[]⟩), (.slice none 0 0), (.slice none 0 0), (.slice none 0 0), (.slice none 0 0), (.int .i64 0)] [(0, 1, (.const (.int .u8 4))), (1, 1, (.const (.string ⟨#[43]⟩))), (9, 1, (.tmp 8))]),
  qs 11 0 9] [0] .ret)))⟩)
theorem n42 : F42.n = 10 := rfl
theorem low42 : kV Tryz.prog (kpO F42) (kM []) 42 = some F42 := by kernel_rfl
end Go.Proofs.YtmnmandpdadedaaGreatDoor
namespace Go.Proofs.YtmnmandpdadedaaGreatDoor
open Go Go.V
set_option maxHeartbeats 3200000
set_option maxRecDepth 100000
theorem zS (A : List kE) (av : Value) (l : List ByteArray) (h : RdT A av l) : Fun Tryz.prog 53 [av] [A] (fun v Post => ∃ B, wC v l B /\ Post = [A, B]) := by
  obtain ⟨a, c, rfl, hl, hr⟩ := h;refine Fun.intro low53 (by simp [n53]) ?_;have hsz : ∀ t ∈ l, t.size <= 140737488355328 := fun t ht => by
    obtain ⟨i, hi⟩ := List.getElem?_of_mem ht;obtain ⟨_, _, _, _, h⟩ := hr i t hi;exact h
  cases a with
  | none =>
    have hl0 : l = [] := by
      cases l with
      | nil => rfl
      | cons t l => obtain ⟨_, _, h, _⟩ := hr 0 t rfl;cases h
    subst hl0;refine GOH ?_;exact kC (Post := [A, []]) (.inr rfl) (.tmp Zr .nil) ⟨[], ⟨[], .nil, rfl, Zs, Zs⟩, rfl⟩ ⟨[], by simp [V.Spl]⟩
  | some ad =>
    refine GOH ?_;refine ki (out := []) Zr Zr (fun q => ?_);refine GOH ?_;cases hl0 : l with
    | nil =>
      subst hl0;refine st_append0 Zr Zr (Nat.le_refl _) ?_;refine GOH ?_;exact kC (Post := [A, []]) (.inr rfl) (.tmp Zr .nil) ⟨[], ⟨[], .mk rfl rfl (Nat.le_refl _), rfl, Zs, Zs⟩, rfl⟩ ⟨[], by simp [V.Spl, kA]⟩
    | cons t l' =>
      rw [<- hl0];obtain ⟨b, o, had, _⟩ := hr 0 t (by rw [hl0];rfl);cases had;have hsrc : Src [A].flatten 1 l.length (l.map Value.string) (.slice (some ⟨b, o, none⟩) l.length c) := by
        refine ⟨Zs, fun x hx => ?_⟩;obtain ⟨i, v, hi, rfl⟩ := kb.1 hx;rw [List.getElem?_map] at hi;obtain ⟨u, hu, rfl⟩ := Option.map_eq_some_iff.1 hi;obtain ⟨b2, o2, h1, h2, _⟩ := hr i u hu;cases h1;simpa using h2
      refine j8 (k := 0) (m := l.length) (xs := []) (sp := []) (ys := l.map Value.string) Zr Zr (.mk rfl rfl (Nat.le_refl _)) (show Tk [kA q 0 [], A] (kA q 0 []) [A] from .here) Zr hsrc Zs (by simp [List.all_eq_true, zj]) Zr Zd Zo (fun sv' sp' hsl' => ?_);rw [List.nil_append, Nat.zero_add] at *;obtain ⟨a', c', rfl⟩ := hsl'.form;refine GOH ?_;exact kC (Post := [A, slA (.slice a' l.length c') (l.map Value.string) sp']) (.inr rfl) (.tmp Zr .nil) ⟨_, ⟨_, hsl', rfl, hl, hsz⟩, rfl⟩ ZI
theorem eachLits_spec (A : List kE) (l : List Lt) (a : Option Addr) (c bk o : Nat) (us : Nat -> List Value) (hla : l.length <= 274877906944) (ha : 0 < l.length -> a = some ⟨bk, o, none⟩) (hm : ∀ i, i < l.length -> ∀ y ∈ kA bk (o + i * 5) (us i), y ∈ A) (hr : ∀ i x, l[i]? = some x -> zL A x (us i))
    (fv : Value) (hfv : ∀ i x, l[i]? = some x -> zD Tryz.prog fv [.agg (us i).toArray] [A] (fun v Post => ∃ ws B, v = .agg ws.toArray /\ wS x ws B /\ Post = [A, B])) :
    Fun Tryz.prog 134 [.slice a l.length c, fv] [A] (fun v Post => ∃ (rows : List (List Value)) (sp : List Value) (B : List kE), ku 5 v l.length rows.flatten sp /\ zZ l rows B /\ Post = [A, slA v rows.flatten sp, B]) := by
  refine Fun.intro low134 (by simp [n134]) ?_;refine GOH ?_;refine VC.loop (α := Nat × Value × List (List Value) × List Value × List kE) (Γf := fun s => [(1, fv), (5, s.2.1), (8, .slice a l.length c), (9, vi l.length), (10, vi s.1)]) (Hf := fun s => [A, slA s.2.1 s.2.2.1.flatten s.2.2.2.1, s.2.2.2.2])
    (I := fun s => s.1 <= l.length /\ ku 5 s.2.1 s.1 s.2.2.1.flatten s.2.2.2.1 /\ zZ (l.take s.1) s.2.2.1 s.2.2.2.2) (μ := fun s => l.length - s.1) (0, .slice none 0 0, [], [], []) ⟨Nat.zero_le _, .nil, zZ.nil⟩ ZU ⟨[], by simp [V.Spl, slA]⟩ ?_
  rintro ⟨j, sv, rows, sp, B⟩ ⟨i1, i2, i3⟩
  simp only at i1 i2 i3;dsimp only;refine GOH ?_;by_cases hj : j < l.length;rotate_left
  · rw [show decide ((j : Int) < (l.length : Int)) = false from Zf Zo];have hjl : j = l.length := by omega
    subst hjl;rw [List.take_length] at i3;refine GOH ?_;exact kC (Post := [A, slA sv rows.flatten sp, B]) (.inr rfl) (.tmp Zr .nil) ⟨rows, sp, B, i2, i3, rfl⟩ ZI
  obtain rfl := ha Zo;rw [show decide ((j : Int) < (l.length : Int)) = true from Zt Zo];obtain ⟨y, hy⟩ : ∃ y, l[j]? = some y := ⟨_, Zg hj⟩;have hym := hm j hj;have hyr := hr j y hy;have hcall := hfv j y hy;generalize us j = uj at *;obtain ⟨e1, c1, rfl⟩ := jx hyr;refine GOH ?_;refine kL Zr Zah rfl ?_;refine GOH ?_;refine kP (fun q => ?_);refine GOH ?_;refine wm Zr hcall Zr ZP (fun v Post hv => ?_);obtain ⟨ws, B2, rfl, hw, rfl⟩ := hv;simp only [CNx];have hwr := hw.rd;obtain ⟨e2, c2, rfl⟩ := jx hwr;have hsn := i3.snoc hw;rw [show l.take j ++ [y] = l.take (j + 1) by rw [List.take_add_one, hy];rfl] at hsn;refine ki (out := [cv y.kind, vi y.n, uv y.bits, .string y.text, .slice e2 y.items.length c2]) Zr Zr (fun r => ?_);refine j8 (k := j) (m := 1) (xs := rows.flatten) (sp := sp) (ys := [cv y.kind, vi y.n, uv y.bits, .string y.text, .slice e2 y.items.length c2]) Zr Zr i2 ZK Zr ?_ rfl Zr Zr Zd Zo (fun sv' sp' hsl' => ?_)
  · exact Zal
  have hfl : rows.flatten ++ [cv y.kind, vi y.n, uv y.bits, .string y.text, .slice e2 y.items.length c2] = (rows ++ [[cv y.kind, vi y.n, uv y.bits, .string y.text, .slice e2 y.items.length c2]]).flatten := by simp
  rw [hfl] at hsl' |-;refine GOH ?_;refine ⟨(j + 1, sv', rows ++ [[cv y.kind, vi y.n, uv y.bits, .string y.text, .slice e2 y.items.length c2]], sp', B ++ B2), ⟨by simp only;omega, hsl', hsn⟩, by simp only;omega, ZU, ?_⟩;simp only;refine Imp.cut (M := [A, slA sv' (rows ++ [[cv y.kind, vi y.n, uv y.bits, .string y.text, .slice e2 y.items.length c2]]).flatten sp', B, B2]) ZI (Imp.perm Zs)
theorem own_spec (A : List kE) : ∀ (N : Nat) (x : Lt), x.size <= N -> x.size <= 274877906944 -> ∀ vs, zL A x vs -> Fun Tryz.prog 97 [.agg vs.toArray] [A] (fun v Post => ∃ ws B, v = .agg ws.toArray /\ wS x ws B /\ Post = [A, B]) := by
  intro N
  induction N with
  | zero => intro x hx;have := x.size_pos;omega
  | succ N ih =>
    intro x hx hb vs h;cases h with
    | @mk k n b t items a c bk o us wf ha hm hr =>
    simp only [Lt.size] at hx hb;have hge := sizes_ge items;have hkids := eachLits_spec A items a c bk o us Zo ha hm hr (.func (.func 97) #[] #[]) (fun i x e1 => by
      have h1 := Lt.sizes_mem (Zv e1);exact zD.of_fun (first := #[]) (cap := #[]) (ih x Zo Zo _ (hr i x e1)))
    refine Fun.intro low97 (by simp [n97]) ?_;refine GOH ?_;refine kS Zr (fun q => ?_);refine kP (fun q2 => ?_);simp only [Value.cells];refine GOH ?_;refine kD hkids Zr ZP (fun v Post hv => ?_);obtain ⟨rows, sp, B, h1, h2, rfl⟩ := hv;simp only [CNx];have hmade := wS.of h1 h2 wf;obtain ⟨a', c', rfl⟩ := h1.form;refine GOH ?_;exact ⟨.inr rfl, [.agg #[cv k, vi n, uv b, .string t, .slice a' items.length c']], [A, slA (.slice a' items.length c') rows.flatten sp ++ B], .cellN (us := [cv k, vi n, uv b, .string t, .slice a' items.length c']) Zr Zr (fun y hy => by simp only [List.flatten_cons, List.mem_append];first | exact .inl hy | exact .inr (.inl hy) | exact .inr (.inr (.inl hy)) | exact .inr (.inr (.inr (.inl hy))) | exact .inr (.inr (.inr (.inr (.inl hy))))) .nil, Imp.cut (M := [A, slA (.slice a' items.length c') rows.flatten sp, B]) ZI (Imp.perm Zs), ⟨_, _, rfl, hmade, rfl⟩⟩
end Go.Proofs.YtmnmandpdadedaaGreatDoor
namespace Go.Proofs.YtmnmandpdadedaaGreatDoor
open Go Go.V
set_option maxHeartbeats 3200000
set_option maxRecDepth 100000
theorem CopyLit_spec (A : List kE) : ∀ (N : Nat) (x : Lt), x.size <= N -> x.size <= 274877906944 -> ∀ vs, zL A x vs -> Fun Tryz.prog 84 [.agg vs.toArray] [A] (fun v Post => ∃ ws B, v = .agg ws.toArray /\ wS x ws B /\ Post = [A, B]) := by
  intro N
  induction N with
  | zero => intro x hx;have := x.size_pos;omega
  | succ N ih =>
    intro x hx hb vs h;cases h with
    | @mk k n b t items a c bk o us wf ha hm hr =>
    simp only [Lt.size] at hx hb;have hge := sizes_ge items;refine Fun.intro low84 (by simp [n84]) ?_;refine GOH ?_;refine kS Zr (fun q => ?_);refine kP (fun q2 => ?_);simp only [Value.cells];refine GOH ?_;refine VC.loop (α := Nat × Value × List (List Value) × List Value × List kE) (Γf := fun s => [(1, kN q), (2, kN q2), (3, s.2.1), (4, vi s.1)]) (Hf := fun s => [A, kA q 0 [cv k, vi n, uv b, .string t, .slice a items.length c], kA q2 0 [.int .u8 0, .int .i64 0, .int .u64 0, .string ⟨#[]⟩, .slice none 0 0], slA s.2.1 s.2.2.1.flatten s.2.2.2.1, s.2.2.2.2])
      (I := fun s => s.1 <= items.length /\ ku 5 s.2.1 s.1 s.2.2.1.flatten s.2.2.2.1 /\ zZ (items.take s.1) s.2.2.1 s.2.2.2.2) (μ := fun s => items.length - s.1) (0, .slice none 0 0, [], [], []) ⟨Nat.zero_le _, .nil, zZ.nil⟩ ZU (Imp.cut (M := [A, kA q 0 [cv k, vi n, uv b, .string t, .slice a items.length c], kA q2 0 [.int .u8 0, .int .i64 0, .int .u64 0, .string ⟨#[]⟩, .slice none 0 0]]) ZI (Imp.perm (by simp [slA]))) ?_
    rintro ⟨j, sv, rows, sp, K⟩ ⟨i1, i2, i3⟩
    simp only at i1 i2 i3;dsimp only;refine GOH ?_;by_cases hj : j < items.length;rotate_left
    · rw [show decide ((j : Int) < (items.length : Int)) = false from Zf Zo];have hjl : j = items.length := by omega
      subst hjl;rw [List.take_length] at i3;have hmade := wS.of i2 i3 wf;obtain ⟨a', c', rfl⟩ := i2.form;refine GOH ?_;exact ⟨.inr rfl, [.agg #[cv k, vi n, uv b, .string t, .slice a' items.length c']], [A, slA (.slice a' items.length c') rows.flatten sp ++ K], .cellN (us := [cv k, vi n, uv b, .string t, .slice a' items.length c']) Zr Zr (fun y hy => by simp only [List.flatten_cons, List.mem_append];first | exact .inl hy | exact .inr (.inl hy) | exact .inr (.inr (.inl hy)) | exact .inr (.inr (.inr (.inl hy))) | exact .inr (.inr (.inr (.inr (.inl hy))))) .nil, Imp.cut (M := [A, slA (.slice a' items.length c') rows.flatten sp, K]) ZI (Imp.perm Zs), ⟨_, _, rfl, hmade, rfl⟩⟩
    obtain rfl := ha Zo;rw [show decide ((j : Int) < (items.length : Int)) = true from Zt Zo];obtain ⟨y, hy⟩ : ∃ y, items[j]? = some y := ⟨_, Zg hj⟩;have hym := hm j hj;have hyr := hr j y hy;have h1 := Lt.sizes_mem (Zv hy);have hcall := ih y Zo Zo _ hyr;generalize us j = uj at *;obtain ⟨e1, c1, rfl⟩ := jx hyr;refine GOH ?_;refine kL Zr Zah rfl ?_;refine GOH ?_;refine kD hcall Zr ZP (fun v Post hv => ?_);obtain ⟨ws, B2, rfl, hw, rfl⟩ := hv;simp only [CNx];have hwl := hw.rd.len;have hws := hw.rd;obtain ⟨e2, c2, rfl⟩ := jx hws;refine ki (out := [cv y.kind, vi y.n, uv y.bits, .string y.text, .slice e2 y.items.length c2]) Zr Zr (fun r => ?_);refine j8 (k := j) (m := 1) (xs := rows.flatten) (sp := sp) (ys := [cv y.kind, vi y.n, uv y.bits, .string y.text, .slice e2 y.items.length c2]) Zr Zr i2 ZK Zr ?_ rfl Zr Zr Zd Zo (fun sv' sp' hsl' => ?_)
    · exact Zal
    have hfl : rows.flatten ++ [cv y.kind, vi y.n, uv y.bits, .string y.text, .slice e2 y.items.length c2] = (rows ++ [[cv y.kind, vi y.n, uv y.bits, .string y.text, .slice e2 y.items.length c2]]).flatten := by simp
    rw [hfl] at hsl' |-;have hsn := i3.snoc hw;rw [show items.take j ++ [y] = items.take (j + 1) by rw [List.take_add_one, hy];rfl] at hsn;refine GOH ?_;refine ⟨(j + 1, sv', rows ++ [[cv y.kind, vi y.n, uv y.bits, .string y.text, .slice e2 y.items.length c2]], sp', K ++ B2), ⟨by simp only;omega, hsl', hsn⟩, by simp only;omega, ZU, ?_⟩;simp only;refine Imp.cut (M := [A, kA q 0 [cv k, vi n, uv b, .string t, .slice (some ⟨bk, o, none⟩) items.length c], kA q2 0 [.int .u8 0, .int .i64 0, .int .u64 0, .string ⟨#[]⟩, .slice none 0 0], slA sv' (rows ++ [[cv y.kind, vi y.n, uv y.bits, .string y.text, .slice e2 y.items.length c2]]).flatten sp', K, B2]) ZI (Imp.perm Zs)
theorem wR (A : List kE) (av : Value) (l : List ByteArray) (h : RdT A av l) : Fun Tryz.prog 85 [av] [A] (fun v Post => ∃ B, wC v l B /\ Post = [A, B]) := by
  obtain ⟨a, c, rfl, hl, hr⟩ := h;refine Fun.intro low85 (by simp [n85]) ?_;have hsz : ∀ t ∈ l, t.size <= 140737488355328 := fun t ht => by
    obtain ⟨i, hi⟩ := List.getElem?_of_mem ht;obtain ⟨_, _, _, _, h⟩ := hr i t hi;exact h
  refine GOH ?_;cases hl0 : l with
  | nil =>
    subst hl0;refine st_appendN Zr Zr ?_;refine GOH ?_;exact kC (Post := [A, []]) (.inr rfl) (.tmp Zr .nil) ⟨[], ⟨[], .nil, rfl, Zs, Zs⟩, rfl⟩ (Imp.cut (M := [A]) ZI (Imp.perm Zs))
  | cons t l' =>
    rw [<- hl0];obtain ⟨b, o, had, _⟩ := hr 0 t (by rw [hl0];rfl);cases had;have hsrc : Src ([A] : SH).flatten 1 l.length (l.map Value.string) (.slice (some ⟨b, o, none⟩) l.length c) := by
      refine ⟨Zs, fun x hx => ?_⟩;obtain ⟨i, v, hi, rfl⟩ := kb.1 hx;rw [List.getElem?_map] at hi;obtain ⟨u, hu, rfl⟩ := Option.map_eq_some_iff.1 hi;obtain ⟨b2, o2, h1, h2, _⟩ := hr i u hu;cases h1;simpa using h2
    refine VO.imp (H' := [slA (.slice none 0 0) [] [], A]) (Imp.perm (by simp [slA])) ?_;refine j8 (k := 0) (m := l.length) (xs := []) (sp := []) (ys := l.map Value.string) Zr Zr .nil ZK Zr hsrc Zs (by simp [List.all_eq_true, zj]) Zr Zd Zo (fun sv' sp' hsl' => ?_);rw [List.nil_append, Nat.zero_add] at *;obtain ⟨a', c', rfl⟩ := hsl'.form;refine GOH ?_;exact kC (Post := [A, slA (.slice a' l.length c') (l.map Value.string) sp']) (.inr rfl) (.tmp Zr .nil) ⟨_, ⟨_, hsl', rfl, hl, hsz⟩, rfl⟩ ZI
end Go.Proofs.YtmnmandpdadedaaGreatDoor

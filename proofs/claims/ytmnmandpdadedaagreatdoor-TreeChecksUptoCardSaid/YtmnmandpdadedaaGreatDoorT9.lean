/-
  Weights: of texts, literals, nodes.
-/
import Derived.Test.YtmnmandpdadedaaGreatDoorT7
import Derived.Test.YtmnmandpdadedaaGreatDoorV4
import Derived.Test.YtmnmandpdadedaaGreatDoorV5
import Derived.Test.YtmnmandpdadedaaGreatDoorT8
import Derived.Test.YtmnmandpdadedaaGreatDoorT1
import Derived.Test.YtmnmandpdadedaaGreatDoorV6
set_option linter.unusedSimpArgs false
set_option linter.unusedVariables false
namespace Go.Proofs.YtmnmandpdadedaaGreatDoor
open Go Go.V
set_option maxHeartbeats 3200000
set_option maxRecDepth 100000
def wB (s : Int) : Int := max s 262144 + 140737488355329
theorem zN (A : List kE) (av : Value) (l : List ByteArray) (h : RdT A av l) (s : Int) (hs : 0 <= s /\ s <= 2305843009213693952) : Fun Tryz.prog 86 [av, vi s] [A] (fun v Post => ∃ r, v = vi r /\ 0 <= r /\ r <= wB s /\ Post = [A]) := by
  obtain ⟨a, c, rfl, hl, hr⟩ := h;refine Fun.intro low86 (by simp [n86]) ?_;refine GOH ?_;refine VC.loop (α := Nat × Int) (Γf := fun z => [(0, .slice a l.length c), (1, vi z.2), (5, vi z.1)]) (Hf := fun _ => [A])
    (I := fun z => z.1 <= l.length /\ 0 <= z.2 /\ z.2 <= wB s) (μ := fun z => l.length - z.1) (0, s) ⟨Nat.zero_le _, hs.1, by unfold wB;omega⟩ ZU ZI ?_
  rintro ⟨j, r⟩ ⟨i1, i2, i3⟩
  simp only at i1 i2 i3;dsimp only;unfold wB at i3;refine GOH ?_;by_cases hj : j < l.length;rotate_left
  · rw [show decide ((j : Int) < (l.length : Int)) = false from Zf Zo];refine GOH ?_;exact kC (Post := [A]) (.inr rfl) (.tmp Zr .nil) ⟨r, rfl, i2, by unfold wB;omega, rfl⟩ ZI
  rw [show decide ((j : Int) < (l.length : Int)) = true from Zt Zo];refine GOH ?_;by_cases hr2 : r <= 262144;rotate_left
  · rw [Zf hr2];refine GOH ?_;exact kC (Post := [A]) (.inr rfl) (.tmp Zr .nil) ⟨r, rfl, i2, by unfold wB;omega, rfl⟩ ZI
  rw [Zt hr2];obtain ⟨x, hx⟩ : ∃ x, l[j]? = some x := ⟨_, Zg hj⟩;obtain ⟨b1, o1, rfl, hc1, hs1⟩ := hr j x hx;refine GOH ?_;refine ⟨(j + 1, r + 1 + x.size), ⟨by simp only;omega, by simp only;omega, by simp only;unfold wB;omega⟩, by simp only;omega, ZU, ZI⟩
theorem weighLit_spec (A : List kE) : ∀ (N : Nat) (x : Lt), x.size <= N -> ∀ vs, zL A x vs -> ∀ (s d : Int), 0 <= s -> s <= 2305843009213693952 -> 0 <= d -> d <= 60001 -> Fun Tryz.prog 111 [.agg vs.toArray, vi s, vi d] [A] (fun v Post => ∃ r, v = vi r /\ 0 <= r /\ r <= wB s /\ Post = [A]) := by
  intro N
  induction N with
  | zero => intro x hx;have := x.size_pos;omega
  | succ N ih =>
    intro x hx vs h s d hs1 hs2 hd1 hd2;cases h with
    | @mk k n b t items a c bk o us wf ha hm hr =>
    have hmany := wf.many;have htx := wf.text;refine Fun.intro low111 (by simp [n111]) ?_;refine GOH ?_;refine kS Zr (fun q => ?_);simp only [Value.cells];refine GOH ?_;by_cases hd : d > 60000
    · rw [Zt hd];refine GOH ?_;exact kC (Post := [A]) (.inr rfl) (.tmp Zr .nil) ⟨262145, rfl, Zo, by unfold wB;omega, rfl⟩ ZI
    rw [Zf hd];refine GOH ?_;refine VC.loop (α := Nat × Int) (Γf := fun z => [(1, vi z.2), (2, vi d), (3, kN q), (7, vi z.1)]) (Hf := fun _ => [A, kA q 0 [cv k, vi n, uv b, .string t, .slice a items.length c]])
      (I := fun z => z.1 <= items.length /\ 0 <= z.2 /\ z.2 <= wB s) (μ := fun z => items.length - z.1) (0, s + 1 + t.size) ⟨Nat.zero_le _, by simp only;omega, by simp only;unfold wB;omega⟩ ZU ZI ?_
    rintro ⟨j, r⟩ ⟨i1, i2, i3⟩
    simp only at i1 i2 i3;dsimp only;unfold wB at i3;refine GOH ?_;by_cases hj : j < items.length;rotate_left
    · rw [show decide ((j : Int) < (items.length : Int)) = false from Zf Zo];refine GOH ?_;exact kC (Post := [A]) (.inr rfl) (.tmp Zr .nil) ⟨r, rfl, i2, by unfold wB;omega, rfl⟩ ZI
    rw [show decide ((j : Int) < (items.length : Int)) = true from Zt Zo];refine GOH ?_;by_cases hr2 : r <= 262144;rotate_left
    · rw [Zf hr2];refine GOH ?_;exact kC (Post := [A]) (.inr rfl) (.tmp Zr .nil) ⟨r, rfl, i2, by unfold wB;omega, rfl⟩ ZI
    rw [Zt hr2];obtain rfl := ha Zo;obtain ⟨y, hy⟩ : ∃ y, items[j]? = some y := ⟨_, Zg hj⟩;have hym := hm j hj;have hyr := hr j y hy;have hyl := hyr.len;have h1 := Lt.sizes_mem (Zv hy);simp only [Lt.size] at hx;have hcall := ih y Zo _ hyr r (d + 1) i2 Zo Zo Zo;refine GOH ?_;refine kL Zr Zah hyl ?_;refine GOH ?_;refine kD hcall Zr ZP (fun v Post hv => ?_);obtain ⟨r', rfl, h2, h3, rfl⟩ := hv;unfold wB at h3;simp only [CNx];refine GOH ?_;refine ⟨(j + 1, r'), ⟨by simp only;omega, by simp only;omega, by simp only;unfold wB;omega⟩, by simp only;omega, ZU, ZI⟩
def wN (s : Int) : Int := max s 262144 + 562949953421316
theorem weighNode_spec (A : List kE) : ∀ (N : Nat) (x : Nd), x.w <= N -> ∀ vs, kf A x vs -> ∀ (s d : Int), 0 <= s -> s <= 1152921504606846976 -> 0 <= d -> d <= 60001 -> Fun Tryz.prog 70 [.agg vs.toArray, vi s, vi d] [A] (fun v Post => ∃ r, v = vi r /\ 0 <= r /\ r <= wN s /\ Post = [A]) := by
  intro N
  induction N with
  | zero => intro x hx;have := x.w_pos;omega
  | succ N ih =>
    intro x hx vs h s d hs1 hs2 hd1 hd2;cases h with
    | @mk k nm lit args temps kids p lv av tv a c bk o us wf hl hav htv ha hm hr hcp =>
    have hmany := wf.many;have hnm := wf.name;have hlit := fun s hs1 hs2 => weighLit_spec A _ lit (Nat.le_refl _) lv hl s 0 hs1 hs2 Zo Zo
    have hat := fun s hs => zN A av args hav s hs
    have htt := fun s hs => zN A tv temps htv s hs
    obtain ⟨aa, ac, rfl, _, _⟩ := hav;obtain ⟨ta, tc, rfl, _, _⟩ := htv;obtain ⟨la, lc, rfl⟩ := jx hl;refine Fun.intro low70 (by simp [n70]) ?_;simp only [CNx];refine GOH ?_;refine kS Zr (fun q => ?_);simp only [Value.cells];refine GOH ?_;refine kD (hlit (s + 1 + nm.size) Zo Zo) Zr ZP (fun v Post hv => ?_);obtain ⟨r1, rfl, h1, h2, rfl⟩ := hv;unfold wB at h2;simp only [CNx];refine GOH ?_;refine kD (hat r1 Zo) Zr ZP (fun v Post hv => ?_);obtain ⟨r2, rfl, h3, h4, rfl⟩ := hv;unfold wB at h4;simp only [CNx];refine GOH ?_;refine kD (htt r2 Zo) Zr ZP (fun v Post hv => ?_);obtain ⟨r3, rfl, h5, h6, rfl⟩ := hv;unfold wB at h6;simp only [CNx];have h7 : r3 <= wN s := by unfold wN;omega
    clear h2 h4 h6;refine GOH ?_;by_cases hd : d > 60000
    · rw [Zt hd];refine GOH ?_;exact kC (Post := [A]) (.inr rfl) (.tmp Zr .nil) ⟨262145, rfl, Zo, by unfold wN;omega, rfl⟩ ZI
    rw [Zf hd];refine GOH ?_;refine VC.loop (α := Nat × Int) (Γf := fun z => [(1, vi z.2), (2, vi d), (3, kN q), (7, vi z.1)]) (Hf := fun _ => [A, kA q 0 [cv k, .string nm, cv lit.kind, vi lit.n, uv lit.bits, .string lit.text, .slice la lit.items.length lc, .slice aa args.length ac, .slice ta temps.length tc, .slice a kids.length c, vi p]])
      (I := fun z => z.1 <= kids.length /\ 0 <= z.2 /\ z.2 <= wN s) (μ := fun z => kids.length - z.1) (0, r3) ⟨Nat.zero_le _, h5, h7⟩ ZU ZI ?_
    rintro ⟨j, r⟩ ⟨i1, i2, i3⟩
    simp only at i1 i2 i3;dsimp only;unfold wN at i3;refine GOH ?_;by_cases hj : j < kids.length;rotate_left
    · rw [show decide ((j : Int) < (kids.length : Int)) = false from Zf Zo];refine GOH ?_;exact kC (Post := [A]) (.inr rfl) (.tmp Zr .nil) ⟨r, rfl, i2, by unfold wN;omega, rfl⟩ ZI
    rw [show decide ((j : Int) < (kids.length : Int)) = true from Zt Zo];refine GOH ?_;by_cases hr2 : r <= 262144;rotate_left
    · rw [Zf hr2];refine GOH ?_;exact kC (Post := [A]) (.inr rfl) (.tmp Zr .nil) ⟨r, rfl, i2, by unfold wN;omega, rfl⟩ ZI
    rw [Zt hr2];obtain rfl := ha Zo;obtain ⟨y, hy⟩ : ∃ y, kids[j]? = some y := ⟨_, Zg hj⟩;have hym := hm j hj;have hyr := hr j y hy;have hyl := hyr.len;have h1 := Nd.ws_mem (Zv hy);simp only [Nd.w] at hx;have hcall := ih y Zo _ hyr r (d + 1) i2 Zo Zo Zo;refine GOH ?_;refine kL Zr Zah hyl ?_;refine GOH ?_;refine kD hcall Zr ZP (fun v Post hv => ?_);obtain ⟨r', rfl, h2, h3, rfl⟩ := hv;unfold wN at h3;simp only [CNx];refine GOH ?_;refine ⟨(j + 1, r'), ⟨by simp only;omega, by simp only;omega, by simp only;unfold wN;omega⟩, by simp only;omega, ZU, ZI⟩
end Go.Proofs.YtmnmandpdadedaaGreatDoor
namespace Go.Proofs.YtmnmandpdadedaaGreatDoor
open Go Go.V
set_option maxHeartbeats 3200000
set_option maxRecDepth 100000
structure KidsRd (A : List kE) (l : List Nd) (a : Option Addr) (bk o : Nat) (us : Nat -> List Value) : Prop where
  at_ : 0 < l.length -> a = some ⟨bk, o, none⟩
  many : l.length <= 140737488355328
  mem : ∀ i, i < l.length -> ∀ y ∈ kA bk (o + i * 11) (us i), y ∈ A
  rd : ∀ i x, l[i]? = some x -> kf A x (us i)
theorem KidsRd.ok {A : List kE} {l : List Nd} {a : Option Addr} {bk o : Nat} {us : Nat -> List Value} (h : KidsRd A l a bk o us) (hE : ErA A) (hw : Nd.ws l <= 274877906944) : za A l a bk o us :=
  ⟨h.at_, h.many, h.mem, h.rd, fun i x e => node_spec A hE x (by have := Nd.ws_mem (Zv e);omega) _ (h.rd i x e)⟩
structure MdW (A : List kE) (x : Md) (vs : List Value) : Prop where
  form : ∃ aa ac ta tc a c bk o us, vs = [.string x.sel, .slice aa x.args.length ac, .slice ta x.temps.length tc, vi x.prim, .slice a x.body.length c] /\ RdT A (.slice aa x.args.length ac) x.args /\ RdT A (.slice ta x.temps.length tc) x.temps /\ KidsRd A x.body a bk o us
  sel : x.sel.size <= 140737488355328
  prim : -9223372036854775808 <= x.prim /\ x.prim <= 9223372036854775807
theorem MdW.ok {A : List kE} {x : Md} {vs : List Value} (h : MdW A x vs) (hE : ErA A) (hw : Nd.ws x.body <= 274877906944) : MdRd A x vs := by
  obtain ⟨⟨aa, ac, ta, tc, a, c, bk, o, us, h1, h2, h3, h4⟩, h5, h6⟩ := h;exact ⟨⟨aa, ac, ta, tc, a, c, bk, o, us, h1, h2, h3, h4.ok hE hw⟩, h5, h6⟩
theorem MdW.more {A B : List kE} {x : Md} {vs : List Value} (h : MdW A x vs) (hs : ∀ z ∈ A, z ∈ B) : MdW B x vs := by
  obtain ⟨⟨aa, ac, ta, tc, a, c, bk, o, us, h1, h2, h3, h4⟩, h5, h6⟩ := h;exact ⟨⟨aa, ac, ta, tc, a, c, bk, o, us, h1, h2.more hs, h3.more hs, ⟨h4.at_, h4.many, fun i hi y hy => hs _ (h4.mem i hi y hy), fun i x e => (h4.rd i x e).more hs⟩⟩, h5, h6⟩
def Md.bare (x : Md) : Md := { x with body := x.body.map Nd.bare }
theorem md_made {x : Md} {v v2 sv : Value} {B B1 B2 : List kE} {rows : List (List Value)} {sp : List Value} {a1 a2 a3 : Option Addr} {c1 c2 c3 : Nat} (hsel : x.sel.size <= 140737488355328) (hprim : -9223372036854775808 <= x.prim /\ x.prim <= 9223372036854775807) (hml : x.body.length <= 140737488355328)
    (h1 : RdT B1 v x.args) (h2 : RdT B2 v2 x.temps) (g1 : ku 11 sv x.body.length rows.flatten sp) (g2 : rows.length = x.body.length) (g3 : ∀ r ∈ rows, r.length = 11) (g4 : ∀ (i : Nat) y r, x.body[i]? = some y -> rows[i]? = some r -> kf B y.bare r)
    (e1 : v = .slice a1 x.args.length c1) (e2 : v2 = .slice a2 x.temps.length c2) (e3 : sv = .slice a3 x.body.length c3) :
    MdW (slA sv rows.flatten sp ++ (B ++ (B1 ++ B2))) x.bare [.string x.sel, v, v2, vi x.prim, sv] := by
  have hget : ∀ i, i < x.body.length -> rows[i]? = some (rows.getD i []) := fun i hi => by
    rw [List.getD_eq_getElem?_getD, Zg Zo];rfl
  have hbl : x.bare.body.length = x.body.length := by simp [Md.bare]
  have key : ∃ bk o us, KidsRd (slA sv rows.flatten sp ++ (B ++ (B1 ++ B2))) x.bare.body a3 bk o us := by
    have hrd : ∀ i y, x.bare.body[i]? = some y -> kf (slA sv rows.flatten sp ++ (B ++ (B1 ++ B2))) y (rows.getD i []) := fun i y hy => by
      have hy' : (x.body.map Nd.bare)[i]? = some y := hy;rw [List.getElem?_map] at hy';obtain ⟨u, hu, rfl⟩ := Option.map_eq_some_iff.1 hy';have hi := (List.getElem?_eq_some_iff.1 hu).1;exact (g4 i u _ hu (hget i hi)).more fun z hz => by simp [hz]
    generalize hxs : rows.flatten = xs at g1 |- hrd;generalize hm : x.body.length = m at g1;cases g1 with
    | @mk bk o _ c _ _ h1 h2 h3 =>
      cases e3;refine ⟨bk, o, fun i => rows.getD i [], fun _ => rfl, ?_, fun i hi y hy => ?_, hrd⟩
      · omega
      · refine Zw _ ?_;simp only [slA, kW];rw [<- hxs];exact Zw _ (ze g3 (hget i Zo) y hy)
    | nil =>
      refine ⟨0, 0, fun i => rows.getD i [], fun h => by omega, Zo, fun i hi => by omega, hrd⟩
  obtain ⟨bk, o, us, hk⟩ := key;refine ⟨⟨a1, c1, a2, c2, a3, c3, bk, o, us, ?_, ?_, ?_, hk⟩, hsel, hprim⟩
  · rw [e1, e2, hbl, <- e3];rfl
  · rw [e1] at h1;exact h1.more fun z hz => by simp [hz]
  · rw [e2] at h2;exact h2.more fun z hz => by simp [hz]
def MdOwn (x : Md) (vs : List Value) (L : List kE) : Prop := ∃ (av tv sv : Value) (rows : List (List Value)) (sp : List Value) (LA LT K : List kE), vs = [.string x.sel, av, tv, vi x.prim, sv] /\ ku 11 sv x.body.length rows.flatten sp /\ jl x.body rows K /\ wC av x.args LA /\ wC tv x.temps LT /\ L.Perm (slA sv rows.flatten sp ++ (K ++ (LA ++ LT)))
theorem bare_rows {l : List Nd} {rows : List (List Value)} {K : List kE} (h : jl (l.map Nd.bare) rows K) : ∀ (i : Nat) y r, l[i]? = some y -> rows[i]? = some r -> kf K y.bare r := by
  obtain ⟨g1, g2, Ls, rfl, g3⟩ := h;intro i y r hy hr;have hi := (List.getElem?_eq_some_iff.1 hy).1;exact (g3 i _ r (by rw [List.getElem?_map, hy];rfl) hr).rd.more fun z hz => List.mem_flatMap.2 ⟨i, List.mem_range.2 (by rw [List.length_map];exact hi), hz⟩
theorem Bare_spec (A : List kE) (x : Md) (vs : List Value) (h : MdW A x vs) (hw : Nd.ws x.body <= 274877906944) : Fun Tryz.prog 15 [.agg vs.toArray] [A] (fun v Post => ∃ ws B, v = .agg ws.toArray /\ (MdW B x.bare ws /\ MdOwn x.bare ws B) /\ Post = [A, B]) := by
  obtain ⟨⟨aa, ac, ta, tc, a, c, bk, o, us, rfl, hav, htv, hk⟩, hsel, hprim⟩ := h;have hge := ws_ge x.body;have hkids := eachNodes_spec A x.body a c bk o us Zo hk.at_ hk.mem hk.rd (.func (.func 55) #[] #[]) (fun i y e1 => by
    have h1 := Nd.ws_mem (Zv e1);exact zD.of_fun (first := #[]) (cap := #[]) (bare_spec A _ y (Nat.le_refl _) Zo _ (hk.rd i y e1)))
  have hca := zS A _ x.args hav;have hct := zS A _ x.temps htv;refine Fun.intro low15 (by simp [n15]) ?_;refine j7 ?_;refine kS Zr (fun q => ?_);refine kP (fun q2 => ?_);simp only [Value.cells];refine j7 ?_;refine VC.seq (VC.draws ⟨?_, ?_, trivial⟩)
  · skip
    refine GOH ?_;refine kD hca Zr ZP (fun v Post hv => ?_);obtain ⟨B1, h1, rfl⟩ := hv;simp only [CNx];refine GOH ?_;refine kD hct Zr ZP (fun v2 Post hv => ?_);obtain ⟨B2, h2, rfl⟩ := hv;simp only [CNx];have h1' := h1;have h2' := h2;obtain ⟨a1, c1, rfl, _, _⟩ := h1'.rd;obtain ⟨a2, c2, rfl, _, _⟩ := h2'.rd;refine GOH ?_;refine kD hkids Zr ZP (fun v Post hv => ?_);obtain ⟨rows, sp, B, g1, g2, rfl⟩ := hv;simp only [CNx];have g1' := g1;obtain ⟨a3, c3, rfl⟩ := g1'.form;refine GOH ?_;exact ⟨.inr rfl, [.agg #[.string x.sel, .slice a1 x.args.length c1, .slice a2 x.temps.length c2, vi x.prim, .slice a3 x.body.length c3]], [A, slA (.slice a3 x.body.length c3) rows.flatten sp ++ (B ++ (B1 ++ B2))], .cellN (us := [.string x.sel, .slice a1 x.args.length c1, .slice a2 x.temps.length c2, vi x.prim, .slice a3 x.body.length c3]) Zr Zr (fun y hy => by simp only [List.flatten_cons, List.mem_append];first | exact .inl hy | exact .inr (.inl hy) | exact .inr (.inr (.inl hy)) | exact .inr (.inr (.inr (.inl hy))) | exact .inr (.inr (.inr (.inr (.inl hy)))) | exact .inr (.inr (.inr (.inr (.inr (.inl hy))))) | exact .inr (.inr (.inr (.inr (.inr (.inr (.inl hy))))))) .nil,
      Imp.cut (M := [A, slA (.slice a3 x.body.length c3) rows.flatten sp, B, B1, B2]) ZI (Imp.perm Zs), ⟨_, _, rfl, ⟨md_made (sp := sp) (sv := .slice a3 x.body.length c3) hsel hprim hk.many h1.rd h2.rd g1 (by rw [g2.1, List.length_map]) g2.2.1 (bare_rows g2) rfl rfl rfl, _, _, _, rows, sp, B1, B2, B, rfl, by rw [show x.bare.body.length = x.body.length by simp [Md.bare]];exact g1, g2, h1, h2, List.Perm.refl _⟩, rfl⟩⟩
  · skip
    refine GOH ?_;refine kD hca Zr ZP (fun v Post hv => ?_);obtain ⟨B1, h1, rfl⟩ := hv;simp only [CNx];refine GOH ?_;refine kD hct Zr ZP (fun v2 Post hv => ?_);obtain ⟨B2, h2, rfl⟩ := hv;simp only [CNx];have h1' := h1;have h2' := h2;obtain ⟨a1, c1, rfl, _, _⟩ := h1'.rd;obtain ⟨a2, c2, rfl, _, _⟩ := h2'.rd;refine GOH ?_;refine kD hkids Zr ZP (fun v Post hv => ?_);obtain ⟨rows, sp, B, g1, g2, rfl⟩ := hv;simp only [CNx];have g1' := g1;obtain ⟨a3, c3, rfl⟩ := g1'.form;refine GOH ?_;exact ⟨.inr rfl, [.agg #[.string x.sel, .slice a1 x.args.length c1, .slice a2 x.temps.length c2, vi x.prim, .slice a3 x.body.length c3]], [A, slA (.slice a3 x.body.length c3) rows.flatten sp ++ (B ++ (B1 ++ B2))], .cellN (us := [.string x.sel, .slice a1 x.args.length c1, .slice a2 x.temps.length c2, vi x.prim, .slice a3 x.body.length c3]) Zr Zr (fun y hy => by simp only [List.flatten_cons, List.mem_append];first | exact .inl hy | exact .inr (.inl hy) | exact .inr (.inr (.inl hy)) | exact .inr (.inr (.inr (.inl hy))) | exact .inr (.inr (.inr (.inr (.inl hy)))) | exact .inr (.inr (.inr (.inr (.inr (.inl hy))))) | exact .inr (.inr (.inr (.inr (.inr (.inr (.inl hy))))))) .nil,
      Imp.cut (M := [A, slA (.slice a3 x.body.length c3) rows.flatten sp, B, B1, B2]) ZI (Imp.perm Zs), ⟨_, _, rfl, ⟨md_made (sp := sp) (sv := .slice a3 x.body.length c3) hsel hprim hk.many h1.rd h2.rd g1 (by rw [g2.1, List.length_map]) g2.2.1 (bare_rows g2) rfl rfl rfl, _, _, _, rows, sp, B1, B2, B, rfl, by rw [show x.bare.body.length = x.body.length by simp [Md.bare]];exact g1, g2, h1, h2, List.Perm.refl _⟩, rfl⟩⟩
end Go.Proofs.YtmnmandpdadedaaGreatDoor
namespace Go.Proofs.YtmnmandpdadedaaGreatDoor
open Go Go.V
set_option maxHeartbeats 3200000
set_option maxRecDepth 100000
def zeroL : Lt := .mk 0 0 0 ⟨#[]⟩ []
def leafN (s : ByteArray) : Nd := .mk 2 s zeroL [] [] [] 0
def mulN : Nd := .mk 4 ⟨#[42]⟩ zeroL [] [] [leafN ⟨#[98]⟩, leafN ⟨#[99]⟩] 5
def sumN : Nd := .mk 4 ⟨#[43]⟩ zeroL [] [] [leafN ⟨#[97]⟩, mulN] 0
abbrev wZ (s : ByteArray) : List Value := [.int .u8 2, .string s, .int .u8 0, .int .i64 0, .int .u64 0, .string ⟨#[]⟩, .slice none 0 0, .slice none 0 0, .slice none 0 0, .slice none 0 0, .int .i64 0]
abbrev wY (s : ByteArray) (q : Nat) (p : Int) : List Value := [.int .u8 4, .string s, .int .u8 0, .int .i64 0, .int .u64 0, .string ⟨#[]⟩, .slice none 0 0, .slice none 0 0, .slice none 0 0, .slice (some ⟨q, 0, none⟩) 2 2, .int .i64 p]
theorem zeroL_rd : zL [] zeroL [.int .u8 0, .int .i64 0, .int .u64 0, .string ⟨#[]⟩, .slice none 0 0] :=
  lt_made (B := []) (k := 0) (n := 0) (b := 0) (t := ⟨#[]⟩) (items := []) (rows := []) (sp := []) .nil rfl (fun r h => by cases h) (fun i x r h => by simp at h) ⟨Zo, Zo, Zo, Zd, Zs⟩
theorem none_rd : RdT [] (.slice none 0 0) [] := ⟨none, 0, rfl, Zs, fun i t e => by simp at e⟩
theorem leaf_rd (s : ByteArray) (hs : s.size <= 140737488355328) : kf [] (leafN s) (wZ s) :=
  nd_made (B := []) (k := 2) (s := s) (lit := zeroL) (kids := []) (p := 0) (rows := []) (sp := []) .nil rfl (fun r h => by cases h) (fun i x r h => by simp at h) ⟨Zo, hs, Zs, Zo⟩ zeroL_rd none_rd none_rd
theorem mul_rd (q : Nat) : kf (kA q 0 (wZ ⟨#[98]⟩ ++ wZ ⟨#[99]⟩)) mulN (wY ⟨#[42]⟩ q 5) := by
  have := nd_made (B := []) (k := 4) (s := ⟨#[42]⟩) (lit := zeroL) (kids := [leafN ⟨#[98]⟩, leafN ⟨#[99]⟩]) (p := 5) (sv := .slice (some ⟨q, 0, none⟩) 2 2) (rows := [wZ ⟨#[98]⟩, wZ ⟨#[99]⟩]) (sp := []) (.mk rfl rfl (Nat.le_refl _)) rfl (fun r h => by
    rcases List.mem_cons.1 h with rfl | h
    · rfl
    · rw [List.mem_singleton.1 h];rfl) (fun i x r h1 h2 => by
    match i, h1, h2 with
    | 0, h1, h2 => cases h1;cases h2;exact leaf_rd _ Zd
    | 1, h1, h2 => cases h1;cases h2;exact leaf_rd _ Zd
    | i + 2, h1, h2 => simp at h1) ⟨Zo, Zd, Zs, Zo⟩ zeroL_rd none_rd none_rd
  exact this.more fun z hz => by simpa [slA] using hz
theorem sum_rd (q q2 : Nat) : kf (kA q2 0 (wZ ⟨#[97]⟩ ++ wY ⟨#[42]⟩ q 5) ++ kA q 0 (wZ ⟨#[98]⟩ ++ wZ ⟨#[99]⟩)) sumN (wY ⟨#[43]⟩ q2 0) := by
  have hsub : ∀ z ∈ ([] : List kE), z ∈ kA q 0 (wZ ⟨#[98]⟩ ++ wZ ⟨#[99]⟩) := fun z h => by cases h
  have := nd_made (B := kA q 0 (wZ ⟨#[98]⟩ ++ wZ ⟨#[99]⟩)) (k := 4) (s := ⟨#[43]⟩) (lit := zeroL) (kids := [leafN ⟨#[97]⟩, mulN]) (p := 0) (sv := .slice (some ⟨q2, 0, none⟩) 2 2) (rows := [wZ ⟨#[97]⟩, wY ⟨#[42]⟩ q 5]) (sp := []) (.mk rfl rfl (Nat.le_refl _)) rfl (fun r h => by
    rcases List.mem_cons.1 h with rfl | h
    · rfl
    · rw [List.mem_singleton.1 h];rfl) (fun i x r h1 h2 => by
    match i, h1, h2 with
    | 0, h1, h2 => cases h1;cases h2;exact (leaf_rd _ Zd).more hsub
    | 1, h1, h2 => cases h1;cases h2;exact mul_rd q
    | i + 2, h1, h2 => simp at h1) ⟨Zo, Zd, Zs, Zo⟩ (zeroL_rd.more hsub) (none_rd.more hsub) (none_rd.more hsub)
  exact this.more fun z hz => by simpa [slA] using hz
theorem sum_spec : Fun Tryz.prog 42 [] [] (fun v Post => ∃ q q2, v = .agg (wY ⟨#[43]⟩ q2 0).toArray /\ Post = [kA q2 0 (wZ ⟨#[97]⟩ ++ wY ⟨#[42]⟩ q 5), kA q 0 (wZ ⟨#[98]⟩ ++ wZ ⟨#[99]⟩)]) := by
  refine Fun.intro low42 (by simp [n42]) ?_;refine GOH ?_;refine kP (fun r => ?_);refine GOH ?_;refine ki (out := wZ ⟨#[98]⟩ ++ wZ ⟨#[99]⟩) Zr Zr (fun q => ?_);refine GOH ?_;refine kP (fun r2 => ?_);refine GOH ?_;refine ki (out := wZ ⟨#[97]⟩ ++ wY ⟨#[42]⟩ q 5) Zr Zr (fun q2 => ?_);refine GOH ?_;exact ⟨.inr rfl, [.agg (wY ⟨#[43]⟩ q2 0).toArray], [kA q2 0 (wZ ⟨#[97]⟩ ++ wY ⟨#[42]⟩ q 5), kA q 0 (wZ ⟨#[98]⟩ ++ wZ ⟨#[99]⟩)], .cellN (us := wY ⟨#[43]⟩ q2 0) Zr Zr (fun y hy => by simp only [List.flatten_cons, List.mem_append];first | exact .inl hy | exact .inr (.inl hy) | exact .inr (.inr (.inl hy)) | exact .inr (.inr (.inr (.inl hy)))) .nil, ZI, ⟨q, q2, rfl, rfl⟩⟩
def sumM : Md := ⟨⟨#[120]⟩, [], [], 0, [sumN]⟩
def badM : Md := ⟨⟨#[120, 58]⟩, [], [], 0, []⟩
theorem e_level : levelT sumN = 4 := by decide
theorem e_depth : depthT sumN = 1 := by decide
theorem e_size : (allN sumN).length = 5 := by decide
theorem e_check : checkN sumN = 0 := by decide
theorem e_super : checkN (leafN ⟨#[115, 117, 112, 101, 114]⟩) = 150 := by decide
theorem e_m : checkM sumM = 0 := by decide
theorem e_bad : checkM badM = 150 := by decide
theorem e_sends : sendsM sumM = [⟨#[43]⟩, ⟨#[42]⟩] := by decide
theorem e_same : mdEq sumM sumM.bare = true := by decide
theorem e_one : zH sumN sumN = true := by decide
end Go.Proofs.YtmnmandpdadedaaGreatDoor
namespace Go.Proofs.YtmnmandpdadedaaGreatDoor
open Go Go.V
set_option maxHeartbeats 3200000
set_option maxRecDepth 100000
theorem ErA.more {A B : List kE} (h : ErA A) (hs : ∀ z ∈ A, z ∈ B) : ErA B := by
  obtain ⟨ev, h1, h2⟩ := h;exact ⟨ev, hs _ h1, h2⟩
theorem badM_rd (A : List kE) : MdW A badM [.string ⟨#[120, 58]⟩, .slice none 0 0, .slice none 0 0, .int .i64 0, .slice none 0 0] :=
  ⟨⟨none, 0, none, 0, none, 0, 0, 0, fun _ => [], rfl, ⟨none, 0, rfl, Zd, fun i t e => by simp [badM] at e⟩, ⟨none, 0, rfl, Zd, fun i t e => by simp [badM] at e⟩, ⟨fun h => absurd h Zd, Zd, fun i hi => absurd hi (by simp [badM]), fun i x e => by simp [badM] at e⟩⟩, Zd, Zd⟩
theorem sumM_rd {A : List kE} {q2 : Nat} (h : kf A sumN (wY ⟨#[43]⟩ q2 0)) (q3 : Nat) : MdW (A ++ kA q3 0 (wY ⟨#[43]⟩ q2 0)) sumM [.string ⟨#[120]⟩, .slice none 0 0, .slice none 0 0, .int .i64 0, .slice (some ⟨q3, 0, none⟩) 1 1] :=
  ⟨⟨none, 0, none, 0, some ⟨q3, 0, none⟩, 1, q3, 0, fun _ => wY ⟨#[43]⟩ q2 0, rfl, ⟨none, 0, rfl, Zd, fun i t e => by simp [sumM] at e⟩, ⟨none, 0, rfl, Zd, fun i t e => by simp [sumM] at e⟩,
    ⟨fun _ => rfl, Zd, fun i hi y hy => by
      have : i = 0 := by simp [sumM] at hi;omega
      subst this;exact List.mem_append_right _ (by simpa using hy), fun i x e => by
      match i, e with
      | 0, e => cases e;exact h.more fun z hz => Zw _ hz
      | i + 1, e => simp [sumM] at e⟩⟩, Zd, Zd⟩
theorem bare_at {B : List kE} {ws : List Value} (h : MdW B sumM.bare ws) : ∃ aa ac ta tc c bk o bk2 o2 c2, ws = [.string ⟨#[120]⟩, .slice aa 0 ac, .slice ta 0 tc, vi 0, .slice (some ⟨bk, o, none⟩) 1 c] /\ kE.cell bk (o + 9) (.slice (some ⟨bk2, o2, none⟩) 2 c2) ∈ B /\ kE.cell bk2 (o2 + 21) (vi 0) ∈ B := by
  obtain ⟨⟨aa, ac, ta, tc, a, c, bk, o, us, rfl, _, _, hk⟩, _, _⟩ := h;have ha := hk.at_ Zd;have hm := hk.mem 0 Zd;have hr := hk.rd 0 sumN.bare rfl;obtain ⟨e1, e2, e3, e4, e5, e6, e7, e8, e9, e10, e11, e12, e13, a2, c2, bk2, o2, us2, hvs, hmany, ha2, hm2, hr2⟩ := nd_at hr;rw [hvs] at hm;have ha3 := ha2 Zd;have hk2 := hm2 1 Zd;have hr3 := hr2 1 mulN.bare rfl;obtain ⟨f1, f2, f3, f4, f5, f6, f7, f8, f9, f10, f11, f12, f13, f14, f15, f16, hws⟩ := nd_open3 hr3;rw [hws] at hk2;subst ha ha3;refine ⟨aa, ac, ta, tc, c, bk, o, bk2, o2, c2, rfl, ?_, ?_⟩
  · exact hm _ (kb.2 ⟨9, _, rfl, by rw [Nat.zero_mul, Nat.add_zero];rfl⟩)
  · exact hk2 _ (kb.2 ⟨10, _, rfl, by rw [show o2 + 1 * 11 + 10 = o2 + 21 by omega];rfl⟩)
theorem awake_spec (A : List kE) (hE : ErA A) : Fun Tryz.prog 10 [] [A] (fun v Post => v = .bool true /\ Post = [A]) := by
  refine Fun.intro low10 (by simp [n10]) ?_;refine GOH ?_;refine kD sum_spec Zr ZP (fun v Post hv => ?_);obtain ⟨q, q2, rfl, rfl⟩ := hv;simp only [CNx];obtain ⟨A1, hA1⟩ : ∃ A1, A1 = A ++ (kA q2 0 (wZ ⟨#[97]⟩ ++ wY ⟨#[42]⟩ q 5) ++ kA q 0 (wZ ⟨#[98]⟩ ++ wZ ⟨#[99]⟩)) := ⟨_, rfl⟩;have hE1 : ErA A1 := hE.more fun z hz => by rw [hA1];exact Zw _ hz
  have hn : kf A1 sumN (wY ⟨#[43]⟩ q2 0) := (sum_rd q q2).more fun z hz => by rw [hA1];exact List.mem_append_right _ hz
  have hnok := node_spec A1 hE1 sumN Zd _ hn;refine VO.imp (H' := [A1]) (Imp.perm (by rw [hA1];simp only [List.flatten_cons, List.flatten_nil, List.append_nil];rw [<- List.append_assoc];exact List.perm_append_comm)) ?_;have hsub1 : ∀ z ∈ A, z ∈ A1 := fun z hz => by rw [hA1];exact Zw _ hz
  have hA1p : ∃ X, A1.Perm (A ++ X) := ⟨_, by rw [hA1]⟩;clear hA1;refine kP (fun p1 => ?_);refine GOH ?_;refine kD (Level_spec A1 sumN _ hn hnok) Zr ZP (fun v Post hv => ?_);obtain ⟨rfl, rfl⟩ := hv;rw [e_level];simp only [CNx];refine GOH ?_;refine kD (Depth_spec A1 sumN _ hn hnok) Zr ZP (fun v Post hv => ?_);obtain ⟨rfl, rfl⟩ := hv;rw [e_depth];simp only [CNx];refine GOH ?_;refine kD (Size_spec A1 sumN _ hn Zd) Zr ZP (fun v Post hv => ?_);obtain ⟨rfl, rfl⟩ := hv;rw [e_size];simp only [CNx];refine GOH ?_;refine kD (checkNode_spec A1 sumN _ hn hnok) Zr ZP (fun v Post hv => ?_);obtain ⟨rfl, rfl⟩ := hv;rw [e_check];simp only [CNx];refine GOH ?_;have hl := (leaf_rd ⟨#[115, 117, 112, 101, 114]⟩ Zd).more (B := A1) (fun z hz => by cases hz);refine kD (checkNode_spec A1 (leafN ⟨#[115, 117, 112, 101, 114]⟩) _ hl (node_spec A1 hE1 _ Zd _ hl)) Zr ZP (fun v Post hv => ?_);obtain ⟨rfl, rfl⟩ := hv;rw [e_super];simp only [CNx];refine GOH ?_;refine ki (out := wY ⟨#[43]⟩ q2 0) Zr Zr (fun q3 => ?_);refine GOH ?_;refine kP (fun p7 => ?_);refine GOH ?_;obtain ⟨A2, hA2⟩ : ∃ A2, A2 = A1 ++ kA q3 0 (wY ⟨#[43]⟩ q2 0) := ⟨_, rfl⟩;have hE2 : ErA A2 := hE1.more fun z hz => by rw [hA2];exact Zw _ hz
  have hmw : MdW A2 sumM [.string ⟨#[120]⟩, .slice none 0 0, .slice none 0 0, .int .i64 0, .slice (some ⟨q3, 0, none⟩) 1 1] := by rw [hA2];exact sumM_rd hn q3
  have hm := hmw.ok hE2 Zd;have hn2 : kf A2 sumN (wY ⟨#[43]⟩ q2 0) := hn.more fun z hz => by rw [hA2];exact Zw _ hz
  have hA2p : ∃ X, A2.Perm (A ++ X) := by
    obtain ⟨X, hX⟩ := hA1p;exact ⟨X ++ kA q3 0 (wY ⟨#[43]⟩ q2 0), by rw [hA2, <- List.append_assoc];exact hX.append_right _⟩
  refine VO.imp (H' := [A2, kA p7 0 [.string ⟨#[120]⟩, .slice none 0 0, .slice none 0 0, .int .i64 0, .slice (some ⟨q3, 0, none⟩) 1 1], kA p1 0 (wY ⟨#[43]⟩ q2 0)]) (Imp.cut (M := [A1, kA q3 0 (wY ⟨#[43]⟩ q2 0), kA p7 0 [.string ⟨#[120]⟩, .slice none 0 0, .slice none 0 0, .int .i64 0, .slice (some ⟨q3, 0, none⟩) 1 1], kA p1 0 (wY ⟨#[43]⟩ q2 0)]) ZI (Imp.perm (by rw [hA2];simp))) ?_;clear hA2;refine kD (Check_spec A2 sumM _ hm) Zr ZP (fun v Post hv => ?_);obtain ⟨rfl, rfl⟩ := hv;rw [e_m];simp only [CNx];refine GOH ?_;refine kD (Check_spec A2 badM _ ((badM_rd A2).ok hE2 Zd)) Zr ZP (fun v Post hv => ?_);obtain ⟨rfl, rfl⟩ := hv;rw [e_bad];simp only [CNx];refine GOH ?_;refine kD (Sends_spec A2 sumM _ hm Zd) Zr ZP (fun v Post hv => ?_);obtain ⟨ssp, hsl, rfl⟩ := hv;rw [e_sends] at *;rw [show ([⟨#[43]⟩, ⟨#[42]⟩] : List ByteArray).length = 2 from rfl, show List.map Value.string [⟨#[43]⟩, ⟨#[42]⟩] = [.string ⟨#[43]⟩, .string ⟨#[42]⟩] from rfl] at *;obtain ⟨sb, so, sc, rfl, hsc, hsl2⟩ := hsl.some Zd;simp only [CNx];have hs0 : kE.cell sb (so + 0) (.string ⟨#[43]⟩) ∈ slA (.slice (some ⟨sb, so, none⟩) 2 sc) [.string ⟨#[43]⟩, .string ⟨#[42]⟩] ssp := by
    simp [slA, kA]
  refine GOH ?_;refine kD (Bare_spec A2 sumM _ hmw Zd) Zr ZP (fun v Post hv => ?_);obtain ⟨ws, B2, rfl, ⟨hb, _⟩, rfl⟩ := hv;simp only [CNx];obtain ⟨aa, ac, ta, tc, c, bk, o, bk2, o2, c2, rfl, hb1, hb2⟩ := bare_at hb;refine GOH ?_;refine kP (fun p11 => ?_);refine GOH ?_;obtain ⟨A3, hA3⟩ : ∃ A3, A3 = A2 ++ B2 := ⟨_, rfl⟩;have hE3 : ErA A3 := hE2.more fun z hz => by rw [hA3];exact Zw _ hz
  have hm3 := (hmw.more (B := A3) fun z hz => by rw [hA3];exact Zw _ hz).ok hE3 Zd;have hbb := (hb.more (B := A3) fun z hz => by rw [hA3];exact List.mem_append_right _ hz).ok hE3 Zd;have hn3 : kf A3 sumN (wY ⟨#[43]⟩ q2 0) := hn2.more fun z hz => by rw [hA3];exact Zw _ hz
  have hc1 : kE.cell bk (o + 9) (.slice (some ⟨bk2, o2, none⟩) 2 c2) ∈ A3 := by rw [hA3];exact List.mem_append_right _ hb1
  have hc2 : kE.cell bk2 (o2 + 21) (vi 0) ∈ A3 := by rw [hA3];exact List.mem_append_right _ hb2
  have hA3p : ∃ X, A3.Perm (A ++ X) := by
    obtain ⟨X, hX⟩ := hA2p;exact ⟨X ++ B2, by rw [hA3, <- List.append_assoc];exact hX.append_right _⟩
  have hS : ∃ S, S = slA (.slice (some ⟨sb, so, none⟩) 2 sc) [.string ⟨#[43]⟩, .string ⟨#[42]⟩] ssp := ⟨_, rfl⟩;obtain ⟨S, hS⟩ := hS;rw [<- hS] at hs0 |-;clear hS;refine VO.imp (H' := [A3, S, kA p11 0 [.string ⟨#[120]⟩, .slice aa 0 ac, .slice ta 0 tc, vi 0, .slice (some ⟨bk, o, none⟩) 1 c], kA p1 0 (wY ⟨#[43]⟩ q2 0)]) (Imp.cut (M := [A2, B2, S, kA p11 0 [.string ⟨#[120]⟩, .slice aa 0 ac, .slice ta 0 tc, vi 0, .slice (some ⟨bk, o, none⟩) 1 c], kA p1 0 (wY ⟨#[43]⟩ q2 0)]) ZI (Imp.perm (by rw [hA3];simp))) ?_;clear hA3;refine kD (Same_spec A3 sumM sumM.bare _ _ hm3 hbb) Zr ZP (fun v Post hv => ?_);obtain ⟨rfl, rfl⟩ := hv;rw [e_same];simp only [CNx];refine GOH ?_;refine kD (SameNode_spec A3 sumN sumN _ _ hn3 hn3) Zr ZP (fun v Post hv => ?_);obtain ⟨rfl, rfl⟩ := hv;rw [e_one];simp only [CNx];refine GOH ?_;obtain ⟨X, hX⟩ := hA3p;exact kC (Post := [A]) (.inr rfl) (.tmp Zr .nil) ⟨rfl, rfl⟩ (Imp.cut (M := [A3]) ZI ⟨[X], by simpa [V.Spl] using hX⟩)
end Go.Proofs.YtmnmandpdadedaaGreatDoor
namespace Go.Proofs.YtmnmandpdadedaaGreatDoor
open Go Go.V
set_option maxHeartbeats 3200000
set_option maxRecDepth 100000
end Go.Proofs.YtmnmandpdadedaaGreatDoor
namespace Go.Proofs.YtmnmandpdadedaaGreatDoor
open Go Go.V
set_option maxHeartbeats 1600000
set_option maxRecDepth 100000
theorem txLen_of {l : List ByteArray} {tl : List Value} {b : Nat} (ht : tl.length = 2) (hl : l.length <= 1099511627776) (hsz : ∀ t ∈ l, t.size <= 140737488355328) : TxLen (kA b 0 (((l.map Value.string ++ tl).set l.length (.string roomT)).set (l.length + 1) (.string moreT))) (.slice (some ⟨b, 0, none⟩) l.length (l.length + 2)) l := by
  refine ⟨b, _, rfl, Nat.le_refl _, hl, fun i t hi => ⟨?_, hsz t (Zv hi)⟩, ?_, ?_⟩
  · have hil := (List.getElem?_eq_some_iff.1 hi).1;refine kb.2 ⟨i, _, ?_, by rw [Nat.zero_add]⟩;rw [List.getElem?_set_ne Zo, List.getElem?_set_ne Zo, List.getElem?_append_left (by simpa using hil), List.getElem?_map, hi];rfl
  · refine kb.2 ⟨l.length, _, ?_, by rw [Nat.zero_add]⟩;rw [List.getElem?_set_ne Zo, List.getElem?_set_self (by simp [ht])]
  · refine kb.2 ⟨l.length + 1, _, ?_, by rw [Nat.zero_add]⟩;rw [List.getElem?_set_self (by simp [ht])]
theorem txOwn_of {l : List ByteArray} {tl : List Value} {b : Nat} (ht : tl.length = 2) (hl : l.length <= 1099511627776) (hsz : ∀ t ∈ l, t.size <= 140737488355328) : wC (.slice (some ⟨b, 0, none⟩) l.length (l.length + 2)) l (kA b 0 (((l.map Value.string ++ tl).set l.length (.string roomT)).set (l.length + 1) (.string moreT))) := by
  obtain ⟨u, w, rfl⟩ : ∃ u w, tl = [u, w] := by
    rcases tl with _ | ⟨u, _ | ⟨w, _ | ⟨z, r⟩⟩⟩
    · simp at ht
    · simp at ht
    · exact ⟨u, w, rfl⟩
    · simp at ht
  have e : ((l.map Value.string ++ [u, w]).set l.length (.string roomT)).set (l.length + 1) (.string moreT) = l.map Value.string ++ [.string roomT, .string moreT] := by
    rw [List.set_append_right _ _ Zs, List.length_map, Nat.sub_self, List.set_append_right _ _ Zs, List.length_map, Nat.add_sub_cancel_left];rfl
  refine ⟨[.string roomT, .string moreT], .mk Zs Zs Zo, ?_, hl, hsz⟩;rw [e];rfl
theorem zm (A : List kE) (av : Value) (l : List ByteArray) (h : RdT A av l) (hll : l.length <= 1099511627776) : Fun Tryz.prog 44 [av] [A] (fun v Post => ∃ B, (TxLen B v l /\ wC v l B) /\ Post = [A, B]) := by
  obtain ⟨a, c, rfl, hl, hr⟩ := h;have hsz : ∀ t ∈ l, t.size <= 140737488355328 := fun t ht => by
    obtain ⟨i, hi⟩ := List.getElem?_of_mem ht;obtain ⟨_, _, _, _, h⟩ := hr i t hi;exact h
  refine Fun.intro low44 (by simp [n44]) ?_;refine GOH ?_;refine st_mkslice (li := (l.length : Int) + 2) (ci := (l.length : Int) + 2) Zr Zr Zo Zr (fun db => ?_);rw [show ((l.length : Int) + 2).toNat = l.length + 2 by omega];have hz := wK (l.length + 2) [Value.string ⟨#[]⟩];generalize kd (l.length + 2) [Value.string ⟨#[]⟩] = tl0 at hz |-;simp only [List.length_singleton, Nat.mul_one] at hz;refine GOH ?_;refine VC.loop (α := Nat × List Value) (Γf := fun z => [(0, .slice a l.length c), (3, .slice (some ⟨db, 0, none⟩) (l.length + 2) (l.length + 2)), (4, vi z.1)]) (Hf := fun z => [A, kA db 0 ((l.take z.1).map Value.string ++ z.2)]) (I := fun z => z.1 <= l.length /\ z.2.length = l.length + 2 - z.1) (μ := fun z => l.length - z.1) (0, tl0) ⟨Nat.zero_le _, hz⟩ ZU (by simp only [List.take_zero, List.map_nil, List.nil_append];exact IMx) ?_
  rintro ⟨j, tl⟩ ⟨i1, i2⟩
  simp only at i1 i2;dsimp only;refine GOH ?_;by_cases hj : j < l.length;rotate_left
  · rw [List.take_of_length_le Zo];rw [show decide ((j : Int) < (l.length : Int)) = false from Zf Zo];refine GOH ?_;have hlen : (l.map Value.string ++ tl).length = l.length + 2 := by rw [List.length_append, List.length_map];omega
    generalize hL : l.map Value.string ++ tl = L at hlen |-;refine jD Zr Zr Zr Zr Zr (Upd.there (Upd.set1 (i := l.length) (Nat.zero_add _) Zo)) ?_;have hlen2 : (L.set l.length (.string roomT)).length = l.length + 2 := by rw [List.length_set];exact hlen
    have hmade := And.intro (txLen_of (l := l) (tl := tl) (b := db) Zo hl hsz) (txOwn_of (l := l) (tl := tl) (b := db) Zo hl hsz);rw [hL] at hmade;change VO _ _ _ _ [A, kA db 0 (L.set l.length (.string roomT))] _ _;generalize L.set l.length (.string roomT) = L2 at hlen2 hmade |-;refine GOH ?_;refine jD Zr Zr Zr Zr Zr (Upd.there (Upd.set1 (i := l.length + 1) (Nat.zero_add _) Zo)) ?_;change VO _ _ _ _ [A, kA db 0 (L2.set (l.length + 1) (.string moreT))] _ _;generalize L2.set (l.length + 1) (.string moreT) = L3 at hmade |-;refine GOH ?_;refine st_slcL (l := 0) (h := l.length) (o' := 0) Zr .dft (.num Zr) ⟨Zo, Zo⟩ (by split <;> omega) ?_;refine GOH ?_;exact kC (Post := [A, kA db 0 L3]) (.inr rfl) (.tmp Zr .nil) ⟨_, hmade, rfl⟩ ZI
  rw [show decide ((j : Int) < (l.length : Int)) = true from Zt Zo];obtain ⟨t, ht⟩ : ∃ t, l[j]? = some t := ⟨_, Zg hj⟩;obtain ⟨b, o, rfl, hm, hts⟩ := hr j t ht;have htk : l.take (j + 1) = l.take j ++ [t] := by rw [List.take_add_one, ht];rfl
  have hlj : ((l.take j).map Value.string).length = j := by simp;omega
  have hset : (((l.take j).map Value.string) ++ tl).set j (.string t) = (l.take (j + 1)).map Value.string ++ tl.drop 1 := by
    rw [List.set_append_right _ _ Zo, hlj, Nat.sub_self, htk, List.map_append, List.append_assoc];cases tl with
    | nil => simp at i2;omega
    | cons u tl => simp
  refine GOH ?_;refine jD Zr Zr Zr Zr Zr (Upd.there (Upd.set1 (i := j) (Nat.zero_add _) (by rw [List.length_append, hlj];omega))) ?_;rw [hset];refine GOH ?_;exact ⟨(j + 1, tl.drop 1), ⟨by simp only;omega, by simp only [List.length_drop];omega⟩, by simp only;omega, ZU, ZI⟩
theorem zM (A : List kE) (av : Value) (l : List ByteArray) (h : TxLen A av l) : Fun Tryz.prog 56 [av] [A] (fun v Post => v = .bool true /\ Post = [A]) := by
  obtain ⟨b, c, rfl, h1, h2, h3, h4, h5⟩ := h;refine Fun.intro low56 (by simp [n56]) ?_;refine GOH ?_;refine st_slcL (l := 0) (h := l.length + 2) (o' := 0) Zr .dft (.num Zr) ⟨Zo, Zo⟩ (by split <;> omega) ?_;refine GOH ?_;exact kC (Post := [A]) (.inr rfl) (.tmp Zr .nil) ⟨rfl, rfl⟩ ZI
theorem ltOwn_lent {k : Nat} {n : Int} {b : Nat} {t : ByteArray} {items : List Lt} {rows : List (List Value)} {tl : List Value} {K : List kE} {db : Nat} (h : zZ items rows K) (wf : LtWf k n b t items.length) (ht : tl.length = 5) :
    wS (.mk k n b t items) [cv k, vi n, uv b, .string t, .slice (some ⟨db, 0, none⟩) items.length (items.length + 1)] (kA db 0 ((rows.flatten ++ tl).set (items.length * 5 + 1) (vi (-771))) ++ K) := by
  have hl := jJ h.2.1;rw [h.1] at hl;have hsl : ku 5 (.slice (some ⟨db, 0, none⟩) items.length (items.length + 1)) items.length rows.flatten (tl.set 1 (vi (-771))) := .mk hl (by rw [List.length_set];omega) Zo;have hmade := wS.of hsl h wf;have e : (rows.flatten ++ tl).set (items.length * 5 + 1) (vi (-771)) = rows.flatten ++ tl.set 1 (vi (-771)) := by
    rw [List.set_append_right _ _ Zo, hl, Nat.add_sub_cancel_left]
  rw [e];exact hmade
theorem LendLit_spec (A : List kE) : ∀ (N : Nat) (x : Lt), x.size <= N -> x.size <= 274877906944 -> ∀ vs, zL A x vs -> Fun Tryz.prog 71 [.agg vs.toArray] [A] (fun v Post => ∃ ws B, v = .agg ws.toArray /\ (zo B x ws /\ wS x ws B) /\ Post = [A, B]) := by
  intro N
  induction N with
  | zero => intro x hx;have := x.size_pos;omega
  | succ N ih =>
    intro x hx hb vs h;cases h with
    | @mk k n b t items a c bk o us wf ha hm hr =>
    simp only [Lt.size] at hx hb;have hge := sizes_ge items;refine Fun.intro low71 (by simp [n71]) ?_;refine GOH ?_;refine kS Zr (fun q => ?_);refine kP (fun q2 => ?_);simp only [Value.cells];refine GOH ?_;refine st_mkslice (li := (items.length : Int) + 1) (ci := (items.length : Int) + 1) Zr Zr Zo Zr (fun db => ?_);rw [show ((items.length : Int) + 1).toNat = items.length + 1 by omega];have hz := wK (items.length + 1) [Value.int .u8 0, .int .i64 0, .int .u64 0, .string ⟨#[]⟩, .slice none 0 0];generalize kd (items.length + 1) [Value.int .u8 0, .int .i64 0, .int .u64 0, .string ⟨#[]⟩, .slice none 0 0] = tl0 at hz |-;simp only [List.length_cons, List.length_nil, Nat.zero_add, Nat.reduceAdd] at hz;refine GOH ?_;refine VC.loop (α := Nat × List (List Value) × List Value × List kE) (Γf := fun z => [(1, kN q), (2, kN q2), (3, .slice (some ⟨db, 0, none⟩) (items.length + 1) (items.length + 1)), (4, vi z.1)]) (Hf := fun z => [A, kA q 0 [cv k, vi n, uv b, .string t, .slice a items.length c], kA q2 0 [.int .u8 0, .int .i64 0, .int .u64 0, .string ⟨#[]⟩, .slice none 0 0], kA db 0 (z.2.1.flatten ++ z.2.2.1), z.2.2.2])
      (I := fun z => z.1 <= items.length /\ LtRowsL (items.take z.1) z.2.1 z.2.2.2 /\ z.2.2.1.length = (items.length + 1 - z.1) * 5 /\ zZ (items.take z.1) z.2.1 z.2.2.2) (μ := fun z => items.length - z.1) (0, [], tl0, []) ⟨Nat.zero_le _, LtRowsL.nil, by simpa using hz, zZ.nil⟩ ZU (Imp.cut (M := [A, kA q 0 [cv k, vi n, uv b, .string t, .slice a items.length c], kA q2 0 [.int .u8 0, .int .i64 0, .int .u64 0, .string ⟨#[]⟩, .slice none 0 0], kA db 0 tl0]) ZI (Imp.perm Zs)) ?_
    rintro ⟨j, rows, tl, K⟩ ⟨i1, i2, i3, i4⟩
    simp only at i1 i2 i3 i4;dsimp only;have hrl : rows.length = j := by rw [i2.1, List.length_take];omega
    have hfl := jJ i2.2.1;rw [hrl] at hfl;refine GOH ?_;by_cases hj : j < items.length;rotate_left
    · obtain rfl : j = items.length := by omega
      rw [List.take_length] at i2 i4;have hmade := And.intro (zo.of (tl := tl) (bk := db) (c := items.length + 1) i2 wf Zo (Nat.le_refl _)) (ltOwn_lent (tl := tl) (db := db) i4 wf Zo);have hlen : (rows.flatten ++ tl).length = items.length * 5 + 5 := by rw [List.length_append];omega
      generalize rows.flatten ++ tl = L at hmade hlen |-;rw [show decide ((items.length : Int) < (items.length : Int)) = false from Zf Zo];refine GOH ?_;refine jD Zr Zr Zr Zr Zr (Upd.there (Upd.there (Upd.there (Upd.set1 (i := items.length * 5 + 1) (Nat.zero_add _) Zo)))) ?_;change VO _ _ _ _ [A, _, _, kA db 0 (L.set (items.length * 5 + 1) (vi (-771))), K] _ _;generalize L.set (items.length * 5 + 1) (vi (-771)) = L2 at hmade |-;refine GOH ?_;refine st_slcL (l := 0) (h := items.length) (o' := 0) Zr .dft (.num Zr) ⟨Zo, Zo⟩ (by split <;> omega) ?_;refine GOH ?_;exact ⟨.inr rfl, [.agg #[cv k, vi n, uv b, .string t, .slice (some ⟨db, 0, none⟩) items.length (items.length + 1)]], [A, kA db 0 L2 ++ K], .cellN (us := [cv k, vi n, uv b, .string t, .slice (some ⟨db, 0, none⟩) items.length (items.length + 1)]) Zr Zr (fun y hy => by simp only [List.flatten_cons, List.mem_append];first | exact .inl hy | exact .inr (.inl hy) | exact .inr (.inr (.inl hy)) | exact .inr (.inr (.inr (.inl hy))) | exact .inr (.inr (.inr (.inr (.inl hy))))) .nil, Imp.cut (M := [A, kA db 0 L2, K]) ZI (Imp.perm Zs), ⟨_, _, rfl, hmade, rfl⟩⟩
    obtain rfl := ha Zo;rw [show decide ((j : Int) < (items.length : Int)) = true from Zt Zo];obtain ⟨y, hy⟩ : ∃ y, items[j]? = some y := ⟨_, Zg hj⟩;have hym := hm j hj;have hyr := hr j y hy;have h1 := Lt.sizes_mem (Zv hy);have hcall := ih y Zo Zo _ hyr;have hyl := hyr.len;generalize us j = uj at *;refine GOH ?_;refine kL Zr Zah hyl ?_;refine GOH ?_;refine kD hcall Zr ZP (fun v Post hv => ?_);obtain ⟨ws, B2, rfl, hw, rfl⟩ := hv;simp only [CNx];have hwl := hw.1.len;have hsn := i2.snoc hw.1;have hsn2 := i4.snoc hw.2;rw [show items.take j ++ [y] = items.take (j + 1) by rw [List.take_add_one, hy];rfl] at hsn hsn2;obtain ⟨e2, c2, hwe⟩ := jx hw.1.rd;have hupd := row_upd (tl := tl) hfl hwl;refine GOH ?_;refine jD (us := ws) Zr Zr Zr hwl (by rw [hwe];rfl) (Upd.there (Upd.there (Upd.there (Upd.there (Upd.cells (k := j * 5) (o := 0) (vs := rows.flatten ++ tl) (us := ws) (Nat.zero_le _) (by rw [List.length_append];omega) hupd))))) ?_;refine GOH ?_;refine ⟨(j + 1, rows ++ [ws], tl.drop 5, K ++ B2), ⟨by simp only;omega, hsn, by simp only [List.length_drop];omega, hsn2⟩, by simp only;omega, ZU, ?_⟩;simp only;refine Imp.cut (M := [A, kA q 0 [cv k, vi n, uv b, .string t, .slice (some ⟨bk, o, none⟩) items.length c], kA q2 0 [.int .u8 0, .int .i64 0, .int .u64 0, .string ⟨#[]⟩, .slice none 0 0], kA db 0 ((rows ++ [ws]).flatten ++ tl.drop 5), K, B2]) ZI (Imp.perm Zs)
theorem roomLit_spec (A : List kE) : ∀ (N : Nat) (x : Lt), x.size <= N -> ∀ vs, zo A x vs -> Fun Tryz.prog 98 [.agg vs.toArray] [A] (fun v Post => v = .bool true /\ Post = [A]) := by
  intro N
  induction N with
  | zero => intro x hx;have := x.size_pos;omega
  | succ N ih =>
    intro x hx vs h;cases h with
    | @mk k n b t items c bk us wf hm hr hroom hc =>
    simp only [Lt.size] at hx;have hmany := wf.many;refine Fun.intro low98 (by simp [n98]) ?_;refine GOH ?_;refine kS Zr (fun q => ?_);simp only [Value.cells];refine GOH ?_;refine st_slcL (l := 0) (h := items.length + 1) (o' := 0) Zr .dft (.num Zr) ⟨Zo, Zo⟩ (by split <;> omega) ?_;refine GOH ?_;refine VC.loop (α := Nat) (Γf := fun j => [(1, kN q), (4, .bool true), (5, vi j)]) (Hf := fun _ => [A, kA q 0 [cv k, vi n, uv b, .string t, .slice (some ⟨bk, 0, none⟩) items.length c]]) (I := fun j => j <= items.length) (μ := fun j => items.length - j) 0 (Nat.zero_le _) ZU ZI ?_
    rintro j i1
    refine GOH ?_;by_cases hj : j < items.length;rotate_left
    · skip
      rw [show decide ((j : Int) < (items.length : Int)) = false from Zf Zo];refine GOH ?_;exact kC (Post := [A]) (.inr rfl) (.tmp Zr .nil) ⟨rfl, rfl⟩ ZI
    rw [show decide ((j : Int) < (items.length : Int)) = true from Zt Zo];obtain ⟨y, hy⟩ : ∃ y, items[j]? = some y := ⟨_, Zg hj⟩;have hym := hm j hj;have hyr := hr j y hy;have h1 := Lt.sizes_mem (Zv hy);have hcall := ih y Zo _ hyr;have hyl := hyr.len;generalize us j = uj at *;refine GOH ?_;refine kL Zr Zah hyl ?_;refine GOH ?_;refine kD hcall Zr ZP (fun v Post hv => ?_);obtain ⟨rfl, rfl⟩ := hv;simp only [CNx];refine GOH ?_;exact ⟨j + 1, Zo, Zo, ZU, ZI⟩
end Go.Proofs.YtmnmandpdadedaaGreatDoor

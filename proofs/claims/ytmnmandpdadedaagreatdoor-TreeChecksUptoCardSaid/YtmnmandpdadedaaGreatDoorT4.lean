/-
  Looks: a node, but for what its kind asks for.
-/
import Derived.Test.YtmnmandpdadedaaGreatDoorT3
import Derived.Test.YtmnmandpdadedaaGreatDoorV5
import Derived.Test.YtmnmandpdadedaaGreatDoorV4
set_option linter.unusedSimpArgs false
set_option linter.unusedVariables false
namespace Go.Proofs.YtmnmandpdadedaaGreatDoor
open Go Go.V
set_option maxHeartbeats 3200000
set_option maxRecDepth 100000
theorem nd_open3 {A : List kE} {y : Nd} {vs : List Value} (h : kf A y vs) : ∃ (e1 : Nat) (e2 : Int) (e3 : Nat) (e4 : ByteArray) (e5 : Option Addr) (e6 e7 : Nat) (e8 : Option Addr) (e9 e10 : Nat) (e11 : Option Addr) (e12 e13 : Nat) (e14 : Option Addr) (e15 e16 : Nat),
    vs = [cv y.kind, .string y.name, cv e1, vi e2, uv e3, .string e4, .slice e5 e6 e7, .slice e8 e9 e10, .slice e11 e12 e13, .slice e14 e15 e16, vi y.at_] := by
  cases h with
  | mk wf hl hav htv ha hm hr =>
    obtain ⟨_, _, rfl, _⟩ := hav;obtain ⟨_, _, rfl, _⟩ := htv;cases hl with
    | mk wf2 ha2 hm2 hr2 => exact ⟨_, _, _, _, _, _, _, _, _, _, _, _, _, _, _, _, rfl⟩
structure je where
  d : Nat
  mm : Bool
  name : ByteArray
  lk : Nat
  ln : Int
  lb : Nat
  lt : ByteArray
  la : Option Addr
  li : Nat
  lc : Nat
  aa : Option Addr
  an : Nat
  ac : Nat
  ta : Option Addr
  tn : Nat
  tc : Nat
def je.ok (s : je) : Prop := s.name.size = 0 /\ s.an = 0 /\ s.tn = 0 /\ s.lk = 0 /\ s.ln = 0 /\ s.lb = 0 /\ s.lt.size = 0 /\ s.li = 0
instance nodeSDec (s : je) : Decidable s.ok := by unfold je.ok;infer_instance
abbrev je.cells (s : je) (k : Nat) (p : Int) : List Value := [cv k, .string s.name, cv s.lk, vi s.ln, uv s.lb, .string s.lt, .slice s.la s.li s.lc, .slice s.aa s.an s.ac, .slice s.ta s.tn s.tc, .slice none 0 0, vi p]
def nodeSw : IC := match F96.body with
  | .seq _ (.seq _ (.seq _ (.seq _ (.seq x _)))) => x
  | _ => .skip
def NodeSw (A : List kE) (x : Nd) (vs : List Value) : Prop := ∀ (lb q r : Nat) (m0 deep : Bool),
  VC Tryz.prog F96.n nodeSw [(0, kN lb), (3, kN q), (5, kN r), (6, vi 0)] [kA r 0 (vs.set 9 (.slice none 0 0)), kA q 0 vs, A, lkA lb m0 deep]
    (thenQ (fun Γ' H' => ∃ s : je, (kO x = if s.ok then some (s.d, s.mm) else none) /\ V.Sub Γ' [(5, kN r), (6, vi s.d)] /\ Imp H' [A, lkA lb (m0 || s.mm) deep, kA r 0 (s.cells x.kind x.at_)])
      (endP F96.res (LkQ A lb m0 deep (kO x)) (LkZ A lb deep (kO x))))
theorem node_of (A : List kE) (x : Nd) (vs : List Value) (h : kf A x vs) (hs : NodeSw A x vs) (lb : Nat) (m0 deep : Bool) : Look 96 [kN lb, .agg vs.toArray] A lb m0 deep (kO x) := by
  have hsw := hs lb;obtain ⟨e1, e2, e3, e4, e5, e6, e7, e8, e9, e10, e11, e12, e13, e14, e15, e16, rfl⟩ := nd_open3 h;refine wE.intro low96 (by simp [n96]) ?_;refine j7 ?_;refine kS Zr (fun q => ?_);simp only [Value.cells];refine j7 ?_;refine kP (fun r => ?_);refine j7 ?_;refine VC.join (α := je) (fun s => [(5, kN r), (6, vi s.d)]) (fun s => [A, lkA lb (m0 || s.mm) deep, kA r 0 (s.cells x.kind x.at_)])
    (fun s => kO x = if s.ok then some (s.d, s.mm) else none) ?_ ?_
  · exact hsw q r m0 deep
  · rintro ⟨d, mm, name, lk, ln, lbt, lt, la, li, lc, aa, an, ac, ta, tn, tc⟩ hR
    simp only at hR;rw [hR];unfold je.ok;simp only;refine j7 ?_;refine kP (fun q2 => ?_);refine j7 ?_;by_cases h1 : name = ⟨#[]⟩;rotate_left
    · have hno : ¬ (name.size = 0 /\ an = 0 /\ tn = 0 /\ lk = 0 /\ ln = 0 /\ lbt = 0 /\ lt.size = 0 /\ li = 0) := fun h => h1 (ByteArray.ext (Array.eq_empty_of_size_eq_zero h.1))
      rw [Zf h1];refine j7 ?_;refine kG (kJ false) Zr ZP Zai (fun ch Post hz => ?_);obtain ⟨_, rfl, rfl⟩ := hz;exact ⟨[A, lkA lb (m0 || mm) deep], ZI, if_neg hno, rfl, _, rfl⟩
    rw [Zt h1];refine j7 ?_;by_cases h2 : an = 0;rotate_left
    · have hno : ¬ (name.size = 0 /\ an = 0 /\ tn = 0 /\ lk = 0 /\ ln = 0 /\ lbt = 0 /\ lt.size = 0 /\ li = 0) := fun h => h2 h.2.1
      rw [show decide ((an : Int) = 0) = false from Zf Zo];refine j7 ?_;refine kG (kJ false) Zr ZP Zai (fun ch Post hz => ?_);obtain ⟨_, rfl, rfl⟩ := hz;exact ⟨[A, lkA lb (m0 || mm) deep], ZI, if_neg hno, rfl, _, rfl⟩
    rw [show decide ((an : Int) = 0) = true from Zt Zo];refine j7 ?_;by_cases h3 : tn = 0;rotate_left
    · have hno : ¬ (name.size = 0 /\ an = 0 /\ tn = 0 /\ lk = 0 /\ ln = 0 /\ lbt = 0 /\ lt.size = 0 /\ li = 0) := fun h => h3 h.2.2.1
      rw [show decide ((tn : Int) = 0) = false from Zf Zo];refine j7 ?_;refine kG (kJ false) Zr ZP Zai (fun ch Post hz => ?_);obtain ⟨_, rfl, rfl⟩ := hz;exact ⟨[A, lkA lb (m0 || mm) deep], ZI, if_neg hno, rfl, _, rfl⟩
    rw [show decide ((tn : Int) = 0) = true from Zt Zo];refine j7 ?_;by_cases h4 : lk = 0;rotate_left
    · have hno : ¬ (name.size = 0 /\ an = 0 /\ tn = 0 /\ lk = 0 /\ ln = 0 /\ lbt = 0 /\ lt.size = 0 /\ li = 0) := fun h => h4 h.2.2.2.1
      rw [show decide ((lk : Int) = 0) = false from Zf Zo];refine j7 ?_;refine kG (kJ false) Zr ZP Zai (fun ch Post hz => ?_);obtain ⟨_, rfl, rfl⟩ := hz;exact ⟨[A, lkA lb (m0 || mm) deep], ZI, if_neg hno, rfl, _, rfl⟩
    rw [show decide ((lk : Int) = 0) = true from Zt Zo];refine j7 ?_;by_cases h5 : ln = 0;rotate_left
    · have hno : ¬ (name.size = 0 /\ an = 0 /\ tn = 0 /\ lk = 0 /\ ln = 0 /\ lbt = 0 /\ lt.size = 0 /\ li = 0) := fun h => h5 h.2.2.2.2.1
      rw [Zf h5];refine j7 ?_;refine kG (kJ false) Zr ZP Zai (fun ch Post hz => ?_);obtain ⟨_, rfl, rfl⟩ := hz;exact ⟨[A, lkA lb (m0 || mm) deep], ZI, if_neg hno, rfl, _, rfl⟩
    rw [Zt h5];refine j7 ?_;by_cases h6 : lbt = 0;rotate_left
    · have hno : ¬ (name.size = 0 /\ an = 0 /\ tn = 0 /\ lk = 0 /\ ln = 0 /\ lbt = 0 /\ lt.size = 0 /\ li = 0) := fun h => h6 h.2.2.2.2.2.1
      rw [show decide ((lbt : Int) = 0) = false from Zf Zo];refine j7 ?_;refine kG (kJ false) Zr ZP Zai (fun ch Post hz => ?_);obtain ⟨_, rfl, rfl⟩ := hz;exact ⟨[A, lkA lb (m0 || mm) deep], ZI, if_neg hno, rfl, _, rfl⟩
    rw [show decide ((lbt : Int) = 0) = true from Zt Zo];refine j7 ?_;by_cases h7 : lt = ⟨#[]⟩;rotate_left
    · have hno : ¬ (name.size = 0 /\ an = 0 /\ tn = 0 /\ lk = 0 /\ ln = 0 /\ lbt = 0 /\ lt.size = 0 /\ li = 0) := fun h => h7 (ByteArray.ext (Array.eq_empty_of_size_eq_zero h.2.2.2.2.2.2.1))
      rw [Zf h7];refine j7 ?_;refine kG (kJ false) Zr ZP Zai (fun ch Post hz => ?_);obtain ⟨_, rfl, rfl⟩ := hz;exact ⟨[A, lkA lb (m0 || mm) deep], ZI, if_neg hno, rfl, _, rfl⟩
    rw [Zt h7];refine j7 ?_;by_cases h8 : li = 0;rotate_left
    · have hno : ¬ (name.size = 0 /\ an = 0 /\ tn = 0 /\ lk = 0 /\ ln = 0 /\ lbt = 0 /\ lt.size = 0 /\ li = 0) := fun h => h8 h.2.2.2.2.2.2.2
      rw [show decide ((li : Int) = 0) = false from Zf Zo];refine j7 ?_;refine kG (kJ false) Zr ZP Zai (fun ch Post hz => ?_);obtain ⟨_, rfl, rfl⟩ := hz;exact ⟨[A, lkA lb (m0 || mm) deep], ZI, if_neg hno, rfl, _, rfl⟩
    rw [show decide ((li : Int) = 0) = true from Zt Zo];refine j7 ?_;refine kG (kJ true) Zr ZP (fun v Post hv => ?_) Zaj;obtain ⟨_, rfl, rfl⟩ := hv;simp only [List.nil_append];refine j7 ?_;exact jk (kC (Post := [A, lkA lb (m0 || mm) deep]) (.inr rfl) (.tmp Zr .nil) ⟨d, mm, if_pos ⟨by rw [h1];rfl, h2, h3, h4, h5, h6, by rw [h7];rfl, h8⟩, rfl, rfl⟩ ZI)
end Go.Proofs.YtmnmandpdadedaaGreatDoor
namespace Go.Proofs.YtmnmandpdadedaaGreatDoor
open Go Go.V
set_option maxHeartbeats 3200000
set_option maxRecDepth 100000
structure LitS where
  d : Nat
  mm : Bool
  n : Int
  b : Nat
  t : ByteArray
  sv : Value
  l : Nat
def LitS.ok (s : LitS) : Prop := s.n = 0 /\ s.b = 0 /\ s.t.size = 0 /\ s.l = 0
instance (s : LitS) : Decidable s.ok := by unfold LitS.ok;infer_instance
theorem lit_spec (A : List kE) (hE : ErA A) : ∀ (N : Nat) (x : Lt), x.size <= N -> x.size <= 1099511627776 -> ∀ vs, zL A x vs -> ∀ (lb : Nat) (m0 deep inside : Bool), Look 131 [kN lb, .agg vs.toArray, .bool inside] A lb m0 deep (kn x inside) := by
  intro N
  induction N with
  | zero => intro x hx;have := x.size_pos;omega
  | succ N ih =>
    intro x hx hbd vs hvs lb m0 deep inside;have hvs2 := hvs;cases hvs with
    | @mk k n b t items a c bk o us wf ha hm hr =>
    refine wE.intro low131 (by simp [n131]) ?_;refine j7 ?_;refine kS Zr (fun q => ?_);simp only [Value.cells];refine j7 ?_;refine kP (fun r => ?_);refine j7 ?_;refine VC.join (α := LitS) (fun s => [(7, vi s.d), (8, kN r)]) (fun s => [A, lkA lb (m0 || s.mm) deep, kA r 0 [cv k, vi s.n, uv s.b, .string s.t, s.sv]])
      (fun s => (∃ a c, s.sv = .slice a s.l c) /\ kn (.mk k n b t items) inside = if s.ok then some (s.d, s.mm) else none) ?_ ?_
    · have hk256 := wf.kind;obtain ⟨hn1, hn2⟩ := wf.n;by_cases k1 : k = 1
      · subst k1;refine GOH ?_;refine kG (kJ _) Zr ZP (fun v Post hv => ?_) (fun ch Post hz => ?_);rotate_left
        · obtain ⟨hb, rfl, rfl⟩ := hz;exact ⟨[A, lkA lb m0 deep], ZI, by first | (simp [kn, kK, hb];done) | (simp at hb;simp [kn, kK, hb];done) | (simp at hb;simp [kn, kK];omega), rfl, m0, rfl⟩
        obtain ⟨hb, rfl, rfl⟩ := hv;simp only [List.nil_append];refine GOH ?_;refine ⟨⟨0, false, n, b, t, _, _⟩, ⟨⟨_, _, rfl⟩, ?_⟩, ZU, by rw [Bool.or_false];exact IMx⟩;simp [kn, kK, LitS.ok, hb]
      by_cases k2 : k = 2
      · subst k2;refine GOH ?_;refine kG (kJ _) Zr ZP (fun v Post hv => ?_) (fun ch Post hz => ?_);rotate_left
        · obtain ⟨hb, rfl, rfl⟩ := hz;exact ⟨[A, lkA lb m0 deep], ZI, by first | (simp [kn, kK, hb];done) | (simp at hb;simp [kn, kK, hb];done) | (simp at hb;simp [kn, kK];omega), rfl, m0, rfl⟩
        obtain ⟨hb, rfl, rfl⟩ := hv;simp only [List.nil_append];refine GOH ?_;refine ⟨⟨0, false, n, b, t, _, _⟩, ⟨⟨_, _, rfl⟩, ?_⟩, ZU, by rw [Bool.or_false];exact IMx⟩;simp [kn, kK, LitS.ok, hb]
      by_cases k3 : k = 3
      · subst k3;refine GOH ?_;refine kG (kJ _) Zr ZP (fun v Post hv => ?_) (fun ch Post hz => ?_);rotate_left
        · obtain ⟨hb, rfl, rfl⟩ := hz;exact ⟨[A, lkA lb m0 deep], ZI, by first | (simp [kn, kK, hb];done) | (simp at hb;simp [kn, kK, hb];done) | (simp at hb;simp [kn, kK];omega), rfl, m0, rfl⟩
        obtain ⟨hb, rfl, rfl⟩ := hv;simp only [List.nil_append];refine GOH ?_;refine ⟨⟨0, false, n, b, t, _, _⟩, ⟨⟨_, _, rfl⟩, ?_⟩, ZU, by rw [Bool.or_false];exact IMx⟩;simp [kn, kK, LitS.ok, hb]
      by_cases k4 : k = 4
      · subst k4;refine GOH ?_;by_cases h1 : -1152921504606846976 <= n;rotate_left
        · have hnone : kn (.mk 4 n b t items) inside = none := by simp [kn, kK, h1]
          rw [Zf h1];refine GOH ?_;refine kG (kJ false) Zr ZP Zai (fun ch Post hz => ?_);obtain ⟨_, rfl, rfl⟩ := hz;exact ⟨[A, lkA lb m0 deep], ZI, hnone, rfl, m0, rfl⟩
        rw [Zt h1];refine GOH ?_;by_cases h2 : n <= 1152921504606846975;rotate_left
        · have hnone : kn (.mk 4 n b t items) inside = none := by simp [kn, kK, h2]
          rw [Zf h2];refine GOH ?_;refine kG (kJ false) Zr ZP Zai (fun ch Post hz => ?_);obtain ⟨_, rfl, rfl⟩ := hz;exact ⟨[A, lkA lb m0 deep], ZI, hnone, rfl, m0, rfl⟩
        rw [Zt h2];refine GOH ?_;refine kG (kJ true) Zr ZP (fun v Post hv => ?_) Zaj;obtain ⟨_, rfl, rfl⟩ := hv;simp only [List.nil_append];refine GOH ?_;refine ⟨⟨0, false, 0, b, t, _, _⟩, ⟨⟨_, _, rfl⟩, ?_⟩, ZU, by rw [Bool.or_false];exact IMx⟩;simp [kn, kK, LitS.ok, h1, h2]
      by_cases k5 : k = 5
      · subst k5;refine GOH ?_;refine kD (integer_spec A hE t wf.text) Zr ZP (fun v Post hv => ?_);obtain ⟨hq, rfl⟩ := hv;obtain ⟨kk, nn, tt, ee, rfl, hlg⟩ := hq.large;simp only [CNx];refine GOH ?_;refine kP (fun q2 => ?_);refine GOH ?_;by_cases h1 : ee = 0;rotate_left
        · have hnone : kn (.mk 5 n b t items) inside = none := by
            have : largeL (kB t) = false := Bool.eq_false_iff.2 fun h => h1 (hlg.2 h).1
            simp [kn, kK, this]
          rw [show decide ((ee : Int) = 0) = false from Zf Zo];refine GOH ?_;refine kG (kJ false) Zr ZP Zai (fun ch Post hz => ?_);obtain ⟨_, rfl, rfl⟩ := hz;exact ⟨[A, lkA lb m0 deep], ZI, hnone, rfl, m0, rfl⟩
        rw [show decide ((ee : Int) = 0) = true from Zt Zo];refine GOH ?_;by_cases h2 : kk = 5;rotate_left
        · have hnone : kn (.mk 5 n b t items) inside = none := by
            have : largeL (kB t) = false := Bool.eq_false_iff.2 fun h => h2 (hlg.2 h).2.1
            simp [kn, kK, this]
          rw [show decide ((kk : Int) = 5) = false from Zf Zo];refine GOH ?_;refine kG (kJ false) Zr ZP Zai (fun ch Post hz => ?_);obtain ⟨_, rfl, rfl⟩ := hz;exact ⟨[A, lkA lb m0 deep], ZI, hnone, rfl, m0, rfl⟩
        rw [show decide ((kk : Int) = 5) = true from Zt Zo];refine GOH ?_;by_cases h3 : tt = t;rotate_left
        · have hnone : kn (.mk 5 n b t items) inside = none := by
            have : largeL (kB t) = false := Bool.eq_false_iff.2 fun h => h3 (hlg.2 h).2.2
            simp [kn, kK, this]
          rw [Zf h3];refine GOH ?_;refine kG (kJ false) Zr ZP Zai (fun ch Post hz => ?_);obtain ⟨_, rfl, rfl⟩ := hz;exact ⟨[A, lkA lb m0 deep], ZI, hnone, rfl, m0, rfl⟩
        rw [Zt h3];refine GOH ?_;refine kG (kJ true) Zr ZP (fun v Post hv => ?_) Zaj;obtain ⟨_, rfl, rfl⟩ := hv;simp only [List.nil_append];refine GOH ?_;have hl5 := hlg.1 ⟨h1, h2, h3⟩;refine ⟨⟨0, false, n, b, ⟨#[]⟩, _, _⟩, ⟨⟨_, _, rfl⟩, ?_⟩, ZU, by rw [Bool.or_false];exact IMx⟩;simp [kn, kK, LitS.ok, hl5, show (⟨#[]⟩ : ByteArray).size = 0 from rfl]
      by_cases k6 : k = 6
      · subst k6;have hbits := wf.bits;refine GOH ?_;by_cases h1 : b * 2 % 18446744073709551616 / 9007199254740992 = 2047
        · have hnone : kn (.mk 6 n b t items) inside = none := by simp [kn, kK, h1]
          rw [show decide (((b * 2 % 18446744073709551616 / 9007199254740992 : Nat) : Int) = 2047) = true from Zt Zo, Bool.not_true];refine GOH ?_;refine kG (kJ false) Zr ZP Zai (fun ch Post hz => ?_);obtain ⟨_, rfl, rfl⟩ := hz;exact ⟨[A, lkA lb m0 deep], ZI, hnone, rfl, m0, rfl⟩
        rw [show decide (((b * 2 % 18446744073709551616 / 9007199254740992 : Nat) : Int) = 2047) = false from Zf Zo, Bool.not_false];refine GOH ?_;refine kG (kJ true) Zr ZP (fun v Post hv => ?_) Zaj;obtain ⟨_, rfl, rfl⟩ := hv;simp only [List.nil_append];refine GOH ?_;refine ⟨⟨0, false, n, 0, t, .slice a items.length c, items.length⟩, ⟨⟨_, _, rfl⟩, ?_⟩, ZU, by rw [Bool.or_false];show Imp _ [A, lkA lb m0 deep, kA r 0 [cv 6, vi n, .int .u64 0, .string t, .slice a items.length c]];exact IMx⟩;simp [kn, kK, LitS.ok, h1]
      by_cases k7 : k = 7
      · subst k7;refine GOH ?_;by_cases h1 : 0 <= n;rotate_left
        · have hnone : kn (.mk 7 n b t items) inside = none := by simp [kn, kK, h1]
          rw [Zf h1];refine GOH ?_;refine kG (kJ false) Zr ZP Zai (fun ch Post hz => ?_);obtain ⟨_, rfl, rfl⟩ := hz;exact ⟨[A, lkA lb m0 deep], ZI, hnone, rfl, m0, rfl⟩
        rw [Zt h1];refine GOH ?_;by_cases h2 : n <= 255;rotate_left
        · have hnone : kn (.mk 7 n b t items) inside = none := by simp [kn, kK, h2]
          rw [Zf h2];refine GOH ?_;refine kG (kJ false) Zr ZP Zai (fun ch Post hz => ?_);obtain ⟨_, rfl, rfl⟩ := hz;exact ⟨[A, lkA lb m0 deep], ZI, hnone, rfl, m0, rfl⟩
        rw [Zt h2];refine GOH ?_;refine kG (kJ true) Zr ZP (fun v Post hv => ?_) Zaj;obtain ⟨_, rfl, rfl⟩ := hv;simp only [List.nil_append];refine GOH ?_;refine ⟨⟨0, false, 0, b, t, _, _⟩, ⟨⟨_, _, rfl⟩, ?_⟩, ZU, by rw [Bool.or_false];exact IMx⟩;simp [kn, kK, LitS.ok, h1, h2]
      by_cases k8 : k = 8
      · subst k8;refine GOH ?_;refine ⟨⟨0, false, n, b, ⟨#[]⟩, _, _⟩, ⟨⟨_, _, rfl⟩, ?_⟩, ZU, by rw [Bool.or_false];exact IMx⟩;simp [kn, kK, LitS.ok, show (⟨#[]⟩ : ByteArray).size = 0 from rfl]
      by_cases k9 : k = 9
      · subst k9;refine GOH ?_;refine ⟨⟨0, false, n, b, ⟨#[]⟩, _, _⟩, ⟨⟨_, _, rfl⟩, ?_⟩, ZU, by rw [Bool.or_false];exact IMx⟩;simp [kn, kK, LitS.ok, show (⟨#[]⟩ : ByteArray).size = 0 from rfl]
      by_cases k11 : k = 11
      · subst k11;have h0 : (⟨#[]⟩ : ByteArray).size = 0 := rfl;cases m0 with
        | true =>
          refine GOH ?_;refine ⟨⟨0, decide (255 < t.size), n, b, ⟨#[]⟩, _, _⟩, ⟨⟨_, _, rfl⟩, ?_⟩, ZU, by rw [Bool.true_or];exact IMx⟩;simp [kn, kK, LitS.ok, h0]
        | false =>
          refine GOH ?_;by_cases h1 : 255 < t.size
          · rw [show decide ((t.size : Int) > 255) = true from Zt Zo];refine GOH ?_;refine ⟨⟨0, true, n, b, ⟨#[]⟩, _, _⟩, ⟨⟨_, _, rfl⟩, ?_⟩, ZU, by rw [Bool.or_true];exact IMx⟩;simp [kn, kK, LitS.ok, h0, h1]
          · rw [show decide ((t.size : Int) > 255) = false from Zf Zo];refine GOH ?_;refine ⟨⟨0, false, n, b, ⟨#[]⟩, _, _⟩, ⟨⟨_, _, rfl⟩, ?_⟩, ZU, by rw [Bool.or_false];exact IMx⟩;simp [kn, kK, LitS.ok, h0, h1]
      by_cases k10 : k = 10
      · subst k10;cases m0 with
        | true =>
          have hmm1 : ∀ mm, (true || (decide (255 < items.length) || mm)) = (true || mm) := fun _ => by simp
          refine GOH ?_;refine VC.loop (α := Nat × Nat × Bool) (Γf := fun s => [(0, kN lb), (7, vi s.2.1), (8, kN r), (114, .slice a items.length c), (115, vi items.length), (116, vi s.1)]) (Hf := fun s => [A, lkA lb (true || s.2.2) deep, kA r 0 [cv 10, vi n, uv b, .string t, .slice a items.length c]])
            (I := fun s => s.1 <= items.length /\ jF ((items.take s.1).map fun x => kn x true) = some (s.2.1, s.2.2)) (μ := fun s => items.length - s.1) (0, 0, false) ⟨Nat.zero_le _, rfl⟩ ZU (by rw [Bool.or_false];exact IMx) ?_
          rintro ⟨j, d, mm⟩ ⟨i1, i2⟩
          simp only at i1 i2;dsimp only;have hmany := wf.many;simp only [Lt.size] at hbd;have hdb : d <= Lt.sizes items := maxR_le (fun r hr d m e => by
            obtain ⟨y, hy, rfl⟩ := List.mem_map.1 hr;have h1 := Lt.sizes_mem (List.mem_of_mem_take hy);have h2 := litD_le _ y (Nat.le_refl _) true d m e;omega) i2
          refine GOH ?_;by_cases hj : j < items.length;rotate_left
          · rw [show decide ((j : Int) < (items.length : Int)) = false from Zf Zo];have htk : items.take j = items := List.take_of_length_le Zo;rw [htk, <- z8] at i2;refine GOH ?_;refine ⟨⟨d + 1, decide (255 < items.length) || mm, n, b, t, .slice none 0 0, 0⟩, ⟨⟨_, _, rfl⟩, ?_⟩, ZU, ?_⟩
            · simp [kn, i2, jm, w5, kK, LitS.ok]
            · rw [hmm1];exact IMx
          obtain rfl := ha Zo;rw [show decide ((j : Int) < (items.length : Int)) = true from Zt Zo];obtain ⟨y, hy⟩ : ∃ y, items[j]? = some y := ⟨_, Zg hj⟩;have hyr := hr j y hy;have hym := hm j hj;have hysz : y.size <= N := by
            have h1 := Lt.sizes_mem (Zv hy);simp only [Lt.size] at hx;omega
          have hy1 := Lt.sizes_mem (Zv hy);have hcall := ih y hysz Zo _ hyr lb (true || mm) deep true;generalize us j = uj at hyr hym hcall;have hyr2 := hyr;cases hyr2 with
          | @mk k2 n2 b2 t2 items2 a2 c2 bk2 o2 us2 wf2 ha2 hm2 hr2 =>
          refine GOH ?_;refine kL Zr Zah rfl ?_;refine GOH ?_;refine kP (fun q2 => ?_);refine GOH ?_;refine kG hcall Zr ZP (fun v Post hv => ?_) (fun ch Post hz => ?_);rotate_left
          · obtain ⟨hb, rfl, m2, rfl⟩ := hz;have hnone : kn (.mk 10 n b t items) inside = none := by
              have h1 : jF (litsD items) = none := by
                rw [z8];exact ja (List.mem_map.2 ⟨_, Zv hy, hb⟩)
              simp [kn, h1, jm, w5, kK]
            exact ⟨[A, lkA lb m2 deep], ZI, hnone, rfl, m2, rfl⟩
          obtain ⟨e, m2, he, rfl, rfl⟩ := hv;simp only [CNx];have htk : items.take (j + 1) = items.take j ++ [.mk k2 n2 b2 t2 items2] := by rw [List.take_add_one, hy];rfl
          refine GOH ?_;rw [show (if (e : Int) > (d : Int) then (e : Int) else (d : Int)) = ((max d e : Nat) : Int) by split <;> omega];refine ⟨(j + 1, max d e, mm || m2), ⟨by simp only;omega, ?_⟩, by simp only;omega, ZU, ?_⟩
          · simp only [htk, List.map_append, List.map_cons, List.map_nil, he];exact jZ i2
          · simp only [Bool.or_assoc];exact IMx
        | false =>
          refine GOH ?_;by_cases h255 : 255 < items.length
          · have hmm1 : ∀ mm, (false || (decide (255 < items.length) || mm)) = (true || mm) := fun _ => by simp [h255]
            rw [show decide ((items.length : Int) > 255) = true from Zt Zo];refine GOH ?_;refine VC.loop (α := Nat × Nat × Bool) (Γf := fun s => [(0, kN lb), (7, vi s.2.1), (8, kN r), (114, .slice a items.length c), (115, vi items.length), (116, vi s.1)]) (Hf := fun s => [A, lkA lb (true || s.2.2) deep, kA r 0 [cv 10, vi n, uv b, .string t, .slice a items.length c]])
              (I := fun s => s.1 <= items.length /\ jF ((items.take s.1).map fun x => kn x true) = some (s.2.1, s.2.2)) (μ := fun s => items.length - s.1) (0, 0, false) ⟨Nat.zero_le _, rfl⟩ ZU (by rw [Bool.or_false];exact IMx) ?_
            rintro ⟨j, d, mm⟩ ⟨i1, i2⟩
            simp only at i1 i2;dsimp only;have hmany := wf.many;simp only [Lt.size] at hbd;have hdb : d <= Lt.sizes items := maxR_le (fun r hr d m e => by
              obtain ⟨y, hy, rfl⟩ := List.mem_map.1 hr;have h1 := Lt.sizes_mem (List.mem_of_mem_take hy);have h2 := litD_le _ y (Nat.le_refl _) true d m e;omega) i2
            refine GOH ?_;by_cases hj : j < items.length;rotate_left
            · rw [show decide ((j : Int) < (items.length : Int)) = false from Zf Zo];have htk : items.take j = items := List.take_of_length_le Zo;rw [htk, <- z8] at i2;refine GOH ?_;refine ⟨⟨d + 1, decide (255 < items.length) || mm, n, b, t, .slice none 0 0, 0⟩, ⟨⟨_, _, rfl⟩, ?_⟩, ZU, ?_⟩
              · simp [kn, i2, jm, w5, kK, LitS.ok]
              · rw [hmm1];exact IMx
            obtain rfl := ha Zo;rw [show decide ((j : Int) < (items.length : Int)) = true from Zt Zo];obtain ⟨y, hy⟩ : ∃ y, items[j]? = some y := ⟨_, Zg hj⟩;have hyr := hr j y hy;have hym := hm j hj;have hysz : y.size <= N := by
              have h1 := Lt.sizes_mem (Zv hy);simp only [Lt.size] at hx;omega
            have hy1 := Lt.sizes_mem (Zv hy);have hcall := ih y hysz Zo _ hyr lb (true || mm) deep true;generalize us j = uj at hyr hym hcall;have hyr2 := hyr;cases hyr2 with
            | @mk k2 n2 b2 t2 items2 a2 c2 bk2 o2 us2 wf2 ha2 hm2 hr2 =>
            refine GOH ?_;refine kL Zr Zah rfl ?_;refine GOH ?_;refine kP (fun q2 => ?_);refine GOH ?_;refine kG hcall Zr ZP (fun v Post hv => ?_) (fun ch Post hz => ?_);rotate_left
            · obtain ⟨hb, rfl, m2, rfl⟩ := hz;have hnone : kn (.mk 10 n b t items) inside = none := by
                have h1 : jF (litsD items) = none := by
                  rw [z8];exact ja (List.mem_map.2 ⟨_, Zv hy, hb⟩)
                simp [kn, h1, jm, w5, kK]
              exact ⟨[A, lkA lb m2 deep], ZI, hnone, rfl, m2, rfl⟩
            obtain ⟨e, m2, he, rfl, rfl⟩ := hv;simp only [CNx];have htk : items.take (j + 1) = items.take j ++ [.mk k2 n2 b2 t2 items2] := by rw [List.take_add_one, hy];rfl
            refine GOH ?_;rw [show (if (e : Int) > (d : Int) then (e : Int) else (d : Int)) = ((max d e : Nat) : Int) by split <;> omega];refine ⟨(j + 1, max d e, mm || m2), ⟨by simp only;omega, ?_⟩, by simp only;omega, ZU, ?_⟩
            · simp only [htk, List.map_append, List.map_cons, List.map_nil, he];exact jZ i2
            · simp only [Bool.or_assoc];exact IMx
          · have hmm1 : ∀ mm, (false || (decide (255 < items.length) || mm)) = (false || mm) := fun _ => by simp [h255]
            rw [show decide ((items.length : Int) > 255) = false from Zf Zo];refine GOH ?_;refine VC.loop (α := Nat × Nat × Bool) (Γf := fun s => [(0, kN lb), (7, vi s.2.1), (8, kN r), (114, .slice a items.length c), (115, vi items.length), (116, vi s.1)]) (Hf := fun s => [A, lkA lb (false || s.2.2) deep, kA r 0 [cv 10, vi n, uv b, .string t, .slice a items.length c]])
              (I := fun s => s.1 <= items.length /\ jF ((items.take s.1).map fun x => kn x true) = some (s.2.1, s.2.2)) (μ := fun s => items.length - s.1) (0, 0, false) ⟨Nat.zero_le _, rfl⟩ ZU (by rw [Bool.or_false];exact IMx) ?_
            rintro ⟨j, d, mm⟩ ⟨i1, i2⟩
            simp only at i1 i2;dsimp only;have hmany := wf.many;simp only [Lt.size] at hbd;have hdb : d <= Lt.sizes items := maxR_le (fun r hr d m e => by
              obtain ⟨y, hy, rfl⟩ := List.mem_map.1 hr;have h1 := Lt.sizes_mem (List.mem_of_mem_take hy);have h2 := litD_le _ y (Nat.le_refl _) true d m e;omega) i2
            refine GOH ?_;by_cases hj : j < items.length;rotate_left
            · rw [show decide ((j : Int) < (items.length : Int)) = false from Zf Zo];have htk : items.take j = items := List.take_of_length_le Zo;rw [htk, <- z8] at i2;refine GOH ?_;refine ⟨⟨d + 1, decide (255 < items.length) || mm, n, b, t, .slice none 0 0, 0⟩, ⟨⟨_, _, rfl⟩, ?_⟩, ZU, ?_⟩
              · simp [kn, i2, jm, w5, kK, LitS.ok]
              · rw [hmm1];exact IMx
            obtain rfl := ha Zo;rw [show decide ((j : Int) < (items.length : Int)) = true from Zt Zo];obtain ⟨y, hy⟩ : ∃ y, items[j]? = some y := ⟨_, Zg hj⟩;have hyr := hr j y hy;have hym := hm j hj;have hysz : y.size <= N := by
              have h1 := Lt.sizes_mem (Zv hy);simp only [Lt.size] at hx;omega
            have hy1 := Lt.sizes_mem (Zv hy);have hcall := ih y hysz Zo _ hyr lb (false || mm) deep true;generalize us j = uj at hyr hym hcall;have hyr2 := hyr;cases hyr2 with
            | @mk k2 n2 b2 t2 items2 a2 c2 bk2 o2 us2 wf2 ha2 hm2 hr2 =>
            refine GOH ?_;refine kL Zr Zah rfl ?_;refine GOH ?_;refine kP (fun q2 => ?_);refine GOH ?_;refine kG hcall Zr ZP (fun v Post hv => ?_) (fun ch Post hz => ?_);rotate_left
            · obtain ⟨hb, rfl, m2, rfl⟩ := hz;have hnone : kn (.mk 10 n b t items) inside = none := by
                have h1 : jF (litsD items) = none := by
                  rw [z8];exact ja (List.mem_map.2 ⟨_, Zv hy, hb⟩)
                simp [kn, h1, jm, w5, kK]
              exact ⟨[A, lkA lb m2 deep], ZI, hnone, rfl, m2, rfl⟩
            obtain ⟨e, m2, he, rfl, rfl⟩ := hv;simp only [CNx];have htk : items.take (j + 1) = items.take j ++ [.mk k2 n2 b2 t2 items2] := by rw [List.take_add_one, hy];rfl
            refine GOH ?_;rw [show (if (e : Int) > (d : Int) then (e : Int) else (d : Int)) = ((max d e : Nat) : Int) by split <;> omega];refine ⟨(j + 1, max d e, mm || m2), ⟨by simp only;omega, ?_⟩, by simp only;omega, ZU, ?_⟩
            · simp only [htk, List.map_append, List.map_cons, List.map_nil, he];exact jZ i2
            · simp only [Bool.or_assoc];exact IMx
      refine GOH ?_;rw [show decide ((k : Int) = 1) = false from Zf Zo];refine GOH ?_;rw [show decide ((k : Int) = 2) = false from Zf Zo];refine GOH ?_;rw [show decide ((k : Int) = 3) = false from Zf Zo];refine GOH ?_;rw [show decide ((k : Int) = 4) = false from Zf Zo];refine GOH ?_;rw [show decide ((k : Int) = 5) = false from Zf Zo];refine GOH ?_;rw [show decide ((k : Int) = 6) = false from Zf Zo];refine GOH ?_;rw [show decide ((k : Int) = 7) = false from Zf Zo];refine GOH ?_;rw [show decide ((k : Int) = 11) = false from Zf Zo];refine GOH ?_;rw [show decide ((k : Int) = 8) = false from Zf Zo];refine GOH ?_;rw [show decide ((k : Int) = 9) = false from Zf Zo];refine GOH ?_;rw [show decide ((k : Int) = 10) = false from Zf Zo];refine GOH ?_;have hnone : kn (.mk k n b t items) inside = none := by simp [kn, k1, k2, k3, k4, k5, k6, k7, k8, k9, k10, k11]
      refine kG (kJ false) Zr ZP Zai (fun ch Post hz => ?_);obtain ⟨_, rfl, rfl⟩ := hz;exact ⟨[A, lkA lb m0 deep], ZI, hnone, rfl, m0, rfl⟩
    · rintro ⟨d, mm, n', b', t', sv, l⟩ ⟨⟨a', c', hsv⟩, hl⟩
      simp only at hsv hl;subst hsv;rw [hl];unfold LitS.ok;simp only;refine j7 ?_;by_cases h1 : n' = 0;rotate_left
      · have hno : ¬ (n' = 0 /\ b' = 0 /\ t'.size = 0 /\ l = 0) := fun h => h1 h.1
        rw [Zf h1];refine j7 ?_;refine kG (kJ false) Zr ZP Zai (fun ch Post hz => ?_);obtain ⟨_, rfl, rfl⟩ := hz;exact ⟨[A, lkA lb (m0 || mm) deep], ZI, if_neg hno, rfl, _, rfl⟩
      rw [Zt h1];refine j7 ?_;by_cases h2 : b' = 0;rotate_left
      · have hno : ¬ (n' = 0 /\ b' = 0 /\ t'.size = 0 /\ l = 0) := fun h => h2 h.2.1
        rw [show decide ((b' : Int) = 0) = false from Zf Zo];refine j7 ?_;refine kG (kJ false) Zr ZP Zai (fun ch Post hz => ?_);obtain ⟨_, rfl, rfl⟩ := hz;exact ⟨[A, lkA lb (m0 || mm) deep], ZI, if_neg hno, rfl, _, rfl⟩
      rw [show decide ((b' : Int) = 0) = true from Zt Zo];refine j7 ?_;by_cases h3 : t' = ⟨#[]⟩;rotate_left
      · have hno : ¬ (n' = 0 /\ b' = 0 /\ t'.size = 0 /\ l = 0) := fun h => h3 (ByteArray.ext (Array.eq_empty_of_size_eq_zero h.2.2.1))
        rw [Zf h3];refine j7 ?_;refine kG (kJ false) Zr ZP Zai (fun ch Post hz => ?_);obtain ⟨_, rfl, rfl⟩ := hz;exact ⟨[A, lkA lb (m0 || mm) deep], ZI, if_neg hno, rfl, _, rfl⟩
      rw [Zt h3];refine j7 ?_;by_cases h4 : l = 0;rotate_left
      · have hno : ¬ (n' = 0 /\ b' = 0 /\ t'.size = 0 /\ l = 0) := fun h => h4 h.2.2.2
        rw [show decide ((l : Int) = 0) = false from Zf Zo];refine j7 ?_;refine kG (kJ false) Zr ZP Zai (fun ch Post hz => ?_);obtain ⟨_, rfl, rfl⟩ := hz;exact ⟨[A, lkA lb (m0 || mm) deep], ZI, if_neg hno, rfl, _, rfl⟩
      rw [show decide ((l : Int) = 0) = true from Zt Zo];refine j7 ?_;refine kG (kJ true) Zr ZP (fun v Post hv => ?_) Zaj;obtain ⟨_, rfl, rfl⟩ := hv;simp only [List.nil_append];refine j7 ?_;exact jk (kC (Post := [A, lkA lb (m0 || mm) deep]) (.inr rfl) (.tmp Zr .nil) ⟨d, mm, if_pos ⟨h1, h2, by rw [h3];rfl, h4⟩, rfl, rfl⟩ ZI)
end Go.Proofs.YtmnmandpdadedaaGreatDoor
namespace Go.Proofs.YtmnmandpdadedaaGreatDoor
open Go Go.V
set_option maxHeartbeats 3200000
set_option maxRecDepth 100000
theorem node_k1 (A : List kE) (hE : ErA A) (x : Nd) (vs : List Value) (h : kf A x vs) (hw : x.w <= 274877906944) (hok : ∀ y us, y ∈ x.kids -> kf A y us -> jw A y us) (hk : x.kind = 1) : NodeSw A x vs := by
  intro lb q r m0 deep;cases h with
  | @mk k s lit args temps kids p lv av tv a c bk o us wf hl hav htv ha hm hr hcp =>
  simp only [Nd.kind] at hk;have hl2 := hl;cases hl2 with
  | @mk lk ln lbt lt items la lc lbk lo lus lwf lha lhm lhr =>
  have hav2 := hav;have htv2 := htv;obtain ⟨aa, ac, rfl, hal, har⟩ := hav2;obtain ⟨ta, tc, rfl, htl, htr⟩ := htv2;have hkids : za A kids a bk o us := ⟨ha, wf.many, hm, hr, fun i y e => hok y (us i) (Zv e) (hr i y e)⟩;have hns := wf.name;have hmany := wf.many;simp only [Nd.w] at hw;obtain ⟨RR, hRR⟩ : ∃ RR, RR = kO (.mk k s (.mk lk ln lbt lt items) args temps kids p) := ⟨_, rfl⟩;rw [<- hRR];rw [show kO (.mk k s (.mk lk ln lbt lt items) args temps kids p) = jE k s (.mk lk ln lbt lt items) args temps kids (kids.map kO) by simp [kO, jK]] at hRR;show VC _ _ _ _ [kA r 0 [cv k, .string s, cv lk, vi ln, uv lbt, .string lt, .slice la items.length lc, .slice aa args.length ac, .slice ta temps.length tc, .slice none 0 0, vi p], kA q 0 [cv k, .string s, cv lk, vi ln, uv lbt, .string lt, .slice la items.length lc, .slice aa args.length ac, .slice ta temps.length tc, .slice a kids.length c, vi p], A, lkA lb m0 deep] _;subst hk;refine GOH ?_;by_cases hk0 : kids.length = 0;rotate_left
  · have hnone : RR = none := by simp [hRR, je.ok, jE, kK, ji, Lt.kind, Lt.n, Lt.bits, Lt.text, Lt.items, hk0]
    rw [show decide ((kids.length : Int) = 0) = false from Zf Zo];refine GOH ?_;refine kG (kJ false) Zr ZP Zai (fun ch Post hz => ?_);obtain ⟨_, rfl, rfl⟩ := hz;exact ⟨[A, lkA lb m0 deep], ZI, hnone, rfl, m0, rfl⟩
  rw [show decide ((kids.length : Int) = 0) = true from Zt Zo];refine GOH ?_;refine kG (kJ true) Zr ZP (fun v Post hv => ?_) Zaj;obtain ⟨_, rfl, rfl⟩ := hv;simp only [List.nil_append];refine GOH ?_;refine kG (lit_spec A hE _ _ (Nat.le_refl _) Zo _ hl lb m0 deep false) Zr ZP (fun v Post hv => ?_) (fun ch Post hz => ?_);rotate_left
  · obtain ⟨hb, rfl, m2, rfl⟩ := hz;exact ⟨[A, lkA lb m2 deep], ZI, by simp [hRR, je.ok, jE, kK, ji, Lt.kind, Lt.n, Lt.bits, Lt.text, Lt.items, hb], rfl, m2, rfl⟩
  obtain ⟨d, m2, he, rfl, rfl⟩ := hv;simp only [CNx];refine GOH ?_;refine ⟨⟨d, m2, s, 0, 0, 0, ⟨#[]⟩, none, 0, 0, aa, args.length, ac, ta, temps.length, tc⟩, ?_, ZU, ?_⟩
  · simp [hRR, je.ok, jE, kK, ji, Lt.kind, Lt.n, Lt.bits, Lt.text, Lt.items, he, hk0, show (⟨#[]⟩ : ByteArray).size = 0 from rfl]
  · show Imp _ [A, lkA lb (m0 || m2) deep, kA r 0 [cv 1, .string s, .int .u8 0, .int .i64 0, .int .u64 0, .string ⟨#[]⟩, .slice none 0 0, .slice aa args.length ac, .slice ta temps.length tc, .slice none 0 0, vi p]];exact IMx
theorem node_k2 (A : List kE) (hE : ErA A) (x : Nd) (vs : List Value) (h : kf A x vs) (hw : x.w <= 274877906944) (hok : ∀ y us, y ∈ x.kids -> kf A y us -> jw A y us) (hk : x.kind = 2) : NodeSw A x vs := by
  intro lb q r m0 deep;cases h with
  | @mk k s lit args temps kids p lv av tv a c bk o us wf hl hav htv ha hm hr hcp =>
  simp only [Nd.kind] at hk;have hl2 := hl;cases hl2 with
  | @mk lk ln lbt lt items la lc lbk lo lus lwf lha lhm lhr =>
  have hav2 := hav;have htv2 := htv;obtain ⟨aa, ac, rfl, hal, har⟩ := hav2;obtain ⟨ta, tc, rfl, htl, htr⟩ := htv2;have hkids : za A kids a bk o us := ⟨ha, wf.many, hm, hr, fun i y e => hok y (us i) (Zv e) (hr i y e)⟩;have hns := wf.name;have hmany := wf.many;simp only [Nd.w] at hw;obtain ⟨RR, hRR⟩ : ∃ RR, RR = kO (.mk k s (.mk lk ln lbt lt items) args temps kids p) := ⟨_, rfl⟩;rw [<- hRR];rw [show kO (.mk k s (.mk lk ln lbt lt items) args temps kids p) = jE k s (.mk lk ln lbt lt items) args temps kids (kids.map kO) by simp [kO, jK]] at hRR;show VC _ _ _ _ [kA r 0 [cv k, .string s, cv lk, vi ln, uv lbt, .string lt, .slice la items.length lc, .slice aa args.length ac, .slice ta temps.length tc, .slice none 0 0, vi p], kA q 0 [cv k, .string s, cv lk, vi ln, uv lbt, .string lt, .slice la items.length lc, .slice aa args.length ac, .slice ta temps.length tc, .slice a kids.length c, vi p], A, lkA lb m0 deep] _;subst hk;refine GOH ?_;by_cases hk0 : kids.length = 0;rotate_left
  · have hnone : RR = none := by simp [hRR, je.ok, jE, kK, ji, Lt.kind, Lt.n, Lt.bits, Lt.text, Lt.items, hk0]
    rw [show decide ((kids.length : Int) = 0) = false from Zf Zo];refine GOH ?_;refine kG (kJ false) Zr ZP Zai (fun ch Post hz => ?_);obtain ⟨_, rfl, rfl⟩ := hz;exact ⟨[A, lkA lb m0 deep], ZI, hnone, rfl, m0, rfl⟩
  rw [show decide ((kids.length : Int) = 0) = true from Zt Zo];refine GOH ?_;refine kH (name_spec s hns) Zr ?_;cases hn : nameS s with
  | false =>
    have hnone : RR = none := by simp [hRR, je.ok, jE, kK, ji, Lt.kind, Lt.n, Lt.bits, Lt.text, Lt.items, hn]
    refine GOH ?_;refine kG (kJ false) Zr ZP Zai (fun ch Post hz => ?_);obtain ⟨_, rfl, rfl⟩ := hz;exact ⟨[A, lkA lb m0 deep], ZI, hnone, rfl, m0, rfl⟩
  | true =>
    refine GOH ?_;refine kG (kJ true) Zr ZP (fun v Post hv => ?_) Zaj;obtain ⟨_, rfl, rfl⟩ := hv;simp only [List.nil_append];refine GOH ?_;refine ⟨⟨0, false, ⟨#[]⟩, lk, ln, lbt, lt, la, items.length, lc, aa, args.length, ac, ta, temps.length, tc⟩, ?_, ZU, ?_⟩
    · simp [hRR, je.ok, jE, kK, ji, Lt.kind, Lt.n, Lt.bits, Lt.text, Lt.items, hn, hk0, show (⟨#[]⟩ : ByteArray).size = 0 from rfl];simp only [and_assoc]
    · rw [Bool.or_false];show Imp _ [A, lkA lb m0 deep, kA r 0 [cv 2, .string ⟨#[]⟩, cv lk, vi ln, uv lbt, .string lt, .slice la items.length lc, .slice aa args.length ac, .slice ta temps.length tc, .slice none 0 0, vi p]];exact IMx
end Go.Proofs.YtmnmandpdadedaaGreatDoor
namespace Go.Proofs.YtmnmandpdadedaaGreatDoor
open Go Go.V
set_option maxHeartbeats 3200000
set_option maxRecDepth 100000
theorem node_k9 (A : List kE) (hE : ErA A) (x : Nd) (vs : List Value) (h : kf A x vs) (hw : x.w <= 274877906944) (hok : ∀ y us, y ∈ x.kids -> kf A y us -> jw A y us) (hk : x.kind = 9) : NodeSw A x vs := by
  intro lb q r m0 deep;cases h with
  | @mk k s lit args temps kids p lv av tv a c bk o us wf hl hav htv ha hm hr hcp =>
  simp only [Nd.kind] at hk;have hl2 := hl;cases hl2 with
  | @mk lk ln lbt lt items la lc lbk lo lus lwf lha lhm lhr =>
  have hav2 := hav;have htv2 := htv;obtain ⟨aa, ac, rfl, hal, har⟩ := hav2;obtain ⟨ta, tc, rfl, htl, htr⟩ := htv2;have hkids : za A kids a bk o us := ⟨ha, wf.many, hm, hr, fun i y e => hok y (us i) (Zv e) (hr i y e)⟩;have hns := wf.name;have hmany := wf.many;simp only [Nd.w] at hw;obtain ⟨RR, hRR⟩ : ∃ RR, RR = kO (.mk k s (.mk lk ln lbt lt items) args temps kids p) := ⟨_, rfl⟩;rw [<- hRR];rw [show kO (.mk k s (.mk lk ln lbt lt items) args temps kids p) = jE k s (.mk lk ln lbt lt items) args temps kids (kids.map kO) by simp [kO, jK]] at hRR;show VC _ _ _ _ [kA r 0 [cv k, .string s, cv lk, vi ln, uv lbt, .string lt, .slice la items.length lc, .slice aa args.length ac, .slice ta temps.length tc, .slice none 0 0, vi p], kA q 0 [cv k, .string s, cv lk, vi ln, uv lbt, .string lt, .slice la items.length lc, .slice aa args.length ac, .slice ta temps.length tc, .slice a kids.length c, vi p], A, lkA lb m0 deep] _;subst hk;refine GOH ?_;by_cases hk1 : kids.length = 1;rotate_left
  · have hnone : RR = none := by
      rw [hRR];unfold jE;rw [if_neg Zd, if_neg Zd, if_neg Zd, if_neg Zd, if_neg Zd, if_neg Zd, if_neg Zd, if_neg Zd, if_pos rfl];unfold kK;split
      · match kids, hk1 with
        | [], _ => rfl
        | _ :: _ :: _, _ => rfl
      · rfl
    rw [show decide ((kids.length : Int) = 1) = false from Zf Zo];refine GOH ?_;refine kG (kJ false) Zr ZP Zai (fun ch Post hz => ?_);obtain ⟨_, rfl, rfl⟩ := hz;exact ⟨[A, lkA lb m0 deep], ZI, hnone, rfl, m0, rfl⟩
  rw [show decide ((kids.length : Int) = 1) = true from Zt Zo];obtain ⟨y, hky⟩ : ∃ y, kids = [y] := List.length_eq_one_iff.1 hk1;have hy0 : kids[0]? = some y := by rw [hky];rfl
  have hym := hm 0 Zo;rw [Nat.zero_mul, Nat.add_zero] at hym;have hyl := (hr 0 y hy0).len;obtain rfl := ha Zo;have hok0 := hkids.ok 0 y hy0;have hval := fun m => wF A y _ (hr 0 y hy0) hok0 1 lb m deep
  refine GOH ?_;refine kG (kJ true) Zr ZP (fun v Post hv => ?_) Zaj;obtain ⟨_, rfl, rfl⟩ := hv;simp only [List.nil_append];refine GOH ?_;refine kL Zr (fun z hz => List.mem_append_right _ (List.mem_append_right _ (Zw _ (hym z hz)))) hyl ?_;refine GOH ?_;refine kG (hval m0) Zr ZP (fun v Post hv => ?_) (fun ch Post hz => ?_);rotate_left
  · obtain ⟨hb, rfl, m2, rfl⟩ := hz;exact ⟨[A, lkA lb m2 deep], ZI, by simp [hRR, je.ok, jE, kK, ji, Lt.kind, Lt.n, Lt.bits, Lt.text, Lt.items, hky, hb], rfl, m2, rfl⟩
  obtain ⟨d, m2, he, rfl, rfl⟩ := hv;simp only [CNx];refine GOH ?_;refine ⟨⟨d, m2, s, lk, ln, lbt, lt, la, items.length, lc, aa, args.length, ac, ta, temps.length, tc⟩, ?_, ZU, ?_⟩
  · simp [hRR, je.ok, jE, kK, ji, Lt.kind, Lt.n, Lt.bits, Lt.text, Lt.items, he, hky];simp only [and_assoc]
  · show Imp _ [A, lkA lb (m0 || m2) deep, kA r 0 [cv 9, .string s, cv lk, vi ln, uv lbt, .string lt, .slice la items.length lc, .slice aa args.length ac, .slice ta temps.length tc, .slice none 0 0, vi p]];exact IMx
theorem node_k3 (A : List kE) (hE : ErA A) (x : Nd) (vs : List Value) (h : kf A x vs) (hw : x.w <= 274877906944) (hok : ∀ y us, y ∈ x.kids -> kf A y us -> jw A y us) (hk : x.kind = 3) : NodeSw A x vs := by
  intro lb q r m0 deep;cases h with
  | @mk k s lit args temps kids p lv av tv a c bk o us wf hl hav htv ha hm hr hcp =>
  simp only [Nd.kind] at hk;have hl2 := hl;cases hl2 with
  | @mk lk ln lbt lt items la lc lbk lo lus lwf lha lhm lhr =>
  have hav2 := hav;have htv2 := htv;obtain ⟨aa, ac, rfl, hal, har⟩ := hav2;obtain ⟨ta, tc, rfl, htl, htr⟩ := htv2;have hkids : za A kids a bk o us := ⟨ha, wf.many, hm, hr, fun i y e => hok y (us i) (Zv e) (hr i y e)⟩;have hns := wf.name;have hmany := wf.many;simp only [Nd.w] at hw;obtain ⟨RR, hRR⟩ : ∃ RR, RR = kO (.mk k s (.mk lk ln lbt lt items) args temps kids p) := ⟨_, rfl⟩;rw [<- hRR];rw [show kO (.mk k s (.mk lk ln lbt lt items) args temps kids p) = jE k s (.mk lk ln lbt lt items) args temps kids (kids.map kO) by simp [kO, jK]] at hRR;show VC _ _ _ _ [kA r 0 [cv k, .string s, cv lk, vi ln, uv lbt, .string lt, .slice la items.length lc, .slice aa args.length ac, .slice ta temps.length tc, .slice none 0 0, vi p], kA q 0 [cv k, .string s, cv lk, vi ln, uv lbt, .string lt, .slice la items.length lc, .slice aa args.length ac, .slice ta temps.length tc, .slice a kids.length c, vi p], A, lkA lb m0 deep] _;subst hk;refine GOH ?_;refine ki (out := [.string s]) Zr Zr (fun q3 => ?_);refine GOH ?_;have hrd : RdT (kA q3 0 [.string s]) (.slice (some ⟨q3, 0, none⟩) 1 1) [s] := ⟨_, _, rfl, Zs, fun i t e => by
    cases i with
    | zero => cases e;exact ⟨q3, 0, rfl, by simp [kA], hns⟩
    | succ i => simp at e⟩
  refine kG (zV (kA q3 0 [.string s]) _ [s] hrd lb 1 m0 deep) Zr ZP (fun v Post hv => ?_) (fun ch Post hz => ?_);rotate_left
  · obtain ⟨hb, rfl, m2, rfl⟩ := hz;have hfr : jH s = false := by simpa using hb
    exact ⟨[A, lkA lb m2 deep], ZI, by simp [hRR, je.ok, jE, kK, ji, Lt.kind, Lt.n, Lt.bits, Lt.text, Lt.items, hfr], rfl, m2, rfl⟩
  obtain ⟨hb, rfl, rfl⟩ := hv;have hfr : jH s = true := by simpa using hb
  rw [show (m0 || decide (1 < [s].length)) = m0 by simp];simp only [CNx];refine GOH ?_;by_cases hk1 : kids.length = 1;rotate_left
  · have hnone : RR = none := by
      rw [hRR];unfold jE;rw [if_neg Zd, if_neg Zd, if_pos rfl];unfold kK;split
      · match kids, hk1 with
        | [], _ => rfl
        | _ :: _ :: _, _ => rfl
      · rfl
    rw [show decide ((kids.length : Int) = 1) = false from Zf Zo];refine GOH ?_;refine kG (kJ false) Zr ZP Zai (fun ch Post hz => ?_);obtain ⟨_, rfl, rfl⟩ := hz;exact ⟨[A, lkA lb m0 deep], ZI, hnone, rfl, m0, rfl⟩
  rw [show decide ((kids.length : Int) = 1) = true from Zt Zo];obtain ⟨y, hky⟩ : ∃ y, kids = [y] := List.length_eq_one_iff.1 hk1;have hy0 : kids[0]? = some y := by rw [hky];rfl
  have hym := hm 0 Zo;rw [Nat.zero_mul, Nat.add_zero] at hym;have hyl := (hr 0 y hy0).len;obtain rfl := ha Zo;have hok0 := hkids.ok 0 y hy0;have hval := fun m => wF A y _ (hr 0 y hy0) hok0 1 lb m deep
  refine GOH ?_;refine kG (kJ true) Zr ZP (fun v Post hv => ?_) Zaj;obtain ⟨_, rfl, rfl⟩ := hv;simp only [List.nil_append];refine GOH ?_;refine kL Zr (fun z hz => by simp only [List.flatten_cons, List.mem_append];simp [hym z hz]) hyl ?_;refine GOH ?_;refine kG (hval m0) Zr ZP (fun v Post hv => ?_) (fun ch Post hz => ?_);rotate_left
  · obtain ⟨hb, rfl, m2, rfl⟩ := hz;exact ⟨[A, lkA lb m2 deep], ZI, by simp [hRR, je.ok, jE, kK, ji, Lt.kind, Lt.n, Lt.bits, Lt.text, Lt.items, hky, hb], rfl, m2, rfl⟩
  obtain ⟨d, m2, he, rfl, rfl⟩ := hv;simp only [CNx];refine GOH ?_;refine ⟨⟨d, m2, ⟨#[]⟩, lk, ln, lbt, lt, la, items.length, lc, aa, args.length, ac, ta, temps.length, tc⟩, ?_, ZU, ?_⟩
  · simp [hRR, je.ok, jE, kK, ji, Lt.kind, Lt.n, Lt.bits, Lt.text, Lt.items, he, hky, hfr, show (⟨#[]⟩ : ByteArray).size = 0 from rfl];simp only [and_assoc]
  · show Imp _ [A, lkA lb (m0 || m2) deep, kA r 0 [cv 3, .string ⟨#[]⟩, cv lk, vi ln, uv lbt, .string lt, .slice la items.length lc, .slice aa args.length ac, .slice ta temps.length tc, .slice none 0 0, vi p]];exact IMx
theorem node_k6 (A : List kE) (hE : ErA A) (x : Nd) (vs : List Value) (h : kf A x vs) (hw : x.w <= 274877906944) (hok : ∀ y us, y ∈ x.kids -> kf A y us -> jw A y us) (hk : x.kind = 6) : NodeSw A x vs := by
  intro lb q r m0 deep;cases h with
  | @mk k s lit args temps kids p lv av tv a c bk o us wf hl hav htv ha hm hr hcp =>
  simp only [Nd.kind] at hk;have hl2 := hl;cases hl2 with
  | @mk lk ln lbt lt items la lc lbk lo lus lwf lha lhm lhr =>
  have hav2 := hav;have htv2 := htv;obtain ⟨aa, ac, rfl, hal, har⟩ := hav2;obtain ⟨ta, tc, rfl, htl, htr⟩ := htv2;have hkids : za A kids a bk o us := ⟨ha, wf.many, hm, hr, fun i y e => hok y (us i) (Zv e) (hr i y e)⟩;have hns := wf.name;have hmany := wf.many;simp only [Nd.w] at hw;obtain ⟨RR, hRR⟩ : ∃ RR, RR = kO (.mk k s (.mk lk ln lbt lt items) args temps kids p) := ⟨_, rfl⟩;rw [<- hRR];rw [show kO (.mk k s (.mk lk ln lbt lt items) args temps kids p) = jE k s (.mk lk ln lbt lt items) args temps kids (kids.map kO) by simp [kO, jK]] at hRR;show VC _ _ _ _ [kA r 0 [cv k, .string s, cv lk, vi ln, uv lbt, .string lt, .slice la items.length lc, .slice aa args.length ac, .slice ta temps.length tc, .slice none 0 0, vi p], kA q 0 [cv k, .string s, cv lk, vi ln, uv lbt, .string lt, .slice la items.length lc, .slice aa args.length ac, .slice ta temps.length tc, .slice a kids.length c, vi p], A, lkA lb m0 deep] _;subst hk;refine GOH ?_;refine kG (arguments_spec A kids a c bk o us hkids s hns lb m0 deep) Zr ZP (fun v Post hv => ?_) (fun ch Post hz => ?_);rotate_left
  · obtain ⟨hb, rfl, m2, rfl⟩ := hz;exact ⟨[A, lkA lb m2 deep], ZI, by simp [hRR, je.ok, jE, kK, ji, Lt.kind, Lt.n, Lt.bits, Lt.text, Lt.items, hb], rfl, m2, rfl⟩
  obtain ⟨d, m2, he, rfl, rfl⟩ := hv;simp only [CNx];refine GOH ?_;refine ⟨⟨d, m2, ⟨#[]⟩, lk, ln, lbt, lt, la, items.length, lc, aa, args.length, ac, ta, temps.length, tc⟩, ?_, ZU, ?_⟩
  · simp [hRR, je.ok, jE, kK, ji, Lt.kind, Lt.n, Lt.bits, Lt.text, Lt.items, he, show (⟨#[]⟩ : ByteArray).size = 0 from rfl];simp only [and_assoc]
  · show Imp _ [A, lkA lb (m0 || m2) deep, kA r 0 [cv 6, .string ⟨#[]⟩, cv lk, vi ln, uv lbt, .string lt, .slice la items.length lc, .slice aa args.length ac, .slice ta temps.length tc, .slice none 0 0, vi p]];exact IMx
theorem node_k0 (A : List kE) (hE : ErA A) (x : Nd) (vs : List Value) (h : kf A x vs) (hw : x.w <= 274877906944) (hok : ∀ y us, y ∈ x.kids -> kf A y us -> jw A y us) (hk : x.kind ≠ 1 /\ x.kind ≠ 2 /\ x.kind ≠ 3 /\ x.kind ≠ 4 /\ x.kind ≠ 5 /\ x.kind ≠ 6 /\ x.kind ≠ 7 /\ x.kind ≠ 8 /\ x.kind ≠ 9) : NodeSw A x vs := by
  intro lb q r m0 deep;cases h with
  | @mk k s lit args temps kids p lv av tv a c bk o us wf hl hav htv ha hm hr hcp =>
  simp only [Nd.kind] at hk;have hl2 := hl;cases hl2 with
  | @mk lk ln lbt lt items la lc lbk lo lus lwf lha lhm lhr =>
  have hav2 := hav;have htv2 := htv;obtain ⟨aa, ac, rfl, hal, har⟩ := hav2;obtain ⟨ta, tc, rfl, htl, htr⟩ := htv2;have hkids : za A kids a bk o us := ⟨ha, wf.many, hm, hr, fun i y e => hok y (us i) (Zv e) (hr i y e)⟩;have hns := wf.name;have hmany := wf.many;simp only [Nd.w] at hw;obtain ⟨RR, hRR⟩ : ∃ RR, RR = kO (.mk k s (.mk lk ln lbt lt items) args temps kids p) := ⟨_, rfl⟩;rw [<- hRR];rw [show kO (.mk k s (.mk lk ln lbt lt items) args temps kids p) = jE k s (.mk lk ln lbt lt items) args temps kids (kids.map kO) by simp [kO, jK]] at hRR;show VC _ _ _ _ [kA r 0 [cv k, .string s, cv lk, vi ln, uv lbt, .string lt, .slice la items.length lc, .slice aa args.length ac, .slice ta temps.length tc, .slice none 0 0, vi p], kA q 0 [cv k, .string s, cv lk, vi ln, uv lbt, .string lt, .slice la items.length lc, .slice aa args.length ac, .slice ta temps.length tc, .slice a kids.length c, vi p], A, lkA lb m0 deep] _;obtain ⟨k1, k2, k3, k4, k5, k6, k7, k8, k9⟩ := hk;have hnone : RR = none := by simp [hRR, jE, k1, k2, k3, k4, k5, k6, k7, k8, k9]
  refine GOH ?_;rw [show decide ((k : Int) = 1) = false from Zf Zo];refine GOH ?_;rw [show decide ((k : Int) = 2) = false from Zf Zo];refine GOH ?_;rw [show decide ((k : Int) = 3) = false from Zf Zo];refine GOH ?_;rw [show decide ((k : Int) = 4) = false from Zf Zo];refine GOH ?_;rw [show decide ((k : Int) = 6) = false from Zf Zo];refine GOH ?_;rw [show decide ((k : Int) = 5) = false from Zf Zo];refine GOH ?_;rw [show decide ((k : Int) = 7) = false from Zf Zo];refine GOH ?_;rw [show decide ((k : Int) = 8) = false from Zf Zo];refine GOH ?_;rw [show decide ((k : Int) = 9) = false from Zf Zo];refine GOH ?_;refine kG (kJ false) Zr ZP Zai (fun ch Post hz => ?_);obtain ⟨_, rfl, rfl⟩ := hz;exact ⟨[A, lkA lb m0 deep], ZI, hnone, rfl, m0, rfl⟩
end Go.Proofs.YtmnmandpdadedaaGreatDoor
namespace Go.Proofs.YtmnmandpdadedaaGreatDoor
open Go Go.V
set_option maxHeartbeats 3200000
set_option maxRecDepth 100000
theorem node_k7 (A : List kE) (hE : ErA A) (x : Nd) (vs : List Value) (h : kf A x vs) (hw : x.w <= 274877906944) (hok : ∀ y us, y ∈ x.kids -> kf A y us -> jw A y us) (hk : x.kind = 7) : NodeSw A x vs := by
  intro lb q r m0 deep;cases h with
  | @mk k s lit args temps kids p lv av tv a c bk o us wf hl hav htv ha hm hr hcp =>
  simp only [Nd.kind] at hk;have hl2 := hl;cases hl2 with
  | @mk lk ln lbt lt items la lc lbk lo lus lwf lha lhm lhr =>
  have hav2 := hav;have htv2 := htv;obtain ⟨aa, ac, rfl, hal, har⟩ := hav2;obtain ⟨ta, tc, rfl, htl, htr⟩ := htv2;have hkids : za A kids a bk o us := ⟨ha, wf.many, hm, hr, fun i y e => hok y (us i) (Zv e) (hr i y e)⟩;have hns := wf.name;have hmany := wf.many;simp only [Nd.w] at hw;obtain ⟨RR, hRR⟩ : ∃ RR, RR = kO (.mk k s (.mk lk ln lbt lt items) args temps kids p) := ⟨_, rfl⟩;rw [<- hRR];rw [show kO (.mk k s (.mk lk ln lbt lt items) args temps kids p) = jE k s (.mk lk ln lbt lt items) args temps kids (kids.map kO) by simp [kO, jK]] at hRR;show VC _ _ _ _ [kA r 0 [cv k, .string s, cv lk, vi ln, uv lbt, .string lt, .slice la items.length lc, .slice aa args.length ac, .slice ta temps.length tc, .slice none 0 0, vi p], kA q 0 [cv k, .string s, cv lk, vi ln, uv lbt, .string lt, .slice la items.length lc, .slice aa args.length ac, .slice ta temps.length tc, .slice a kids.length c, vi p], A, lkA lb m0 deep] _;subst hk;refine GOH ?_;refine kG (zV A _ args hav lb 15 m0 deep) Zr ZP (fun v Post hv => ?_) (fun ch Post hz => ?_);rotate_left
  · obtain ⟨hb, rfl, m2, rfl⟩ := hz;exact ⟨[A, lkA lb m2 deep], ZI, by simp [hRR, jE, kK, wG, hb], rfl, m2, rfl⟩
  obtain ⟨hf1, rfl, rfl⟩ := hv;obtain ⟨m1, hm1⟩ : ∃ m1, m1 = (m0 || decide (15 < args.length)) := ⟨_, rfl⟩;rw [<- hm1];simp only [CNx];refine GOH ?_;refine kG (zV A _ temps htv lb 63 m1 deep) Zr ZP (fun v Post hv => ?_) (fun ch Post hz => ?_);rotate_left
  · obtain ⟨hb, rfl, m2, rfl⟩ := hz;have hnone : RR = none := by
      simp only [hRR, jE, wG, hb];simp [kK, jm]
    exact ⟨[A, lkA lb m2 deep], ZI, hnone, rfl, m2, rfl⟩
  obtain ⟨hf2, rfl, rfl⟩ := hv;obtain ⟨m2, hm2⟩ : ∃ m2, m2 = (m1 || decide (63 < temps.length)) := ⟨_, rfl⟩;rw [<- hm2];simp only [CNx];refine GOH ?_;refine kG (statements_spec A kids a c bk o us hkids lb m2 deep) Zr ZP (fun v Post hv => ?_) (fun ch Post hz => ?_);rotate_left
  · obtain ⟨hb, rfl, m3, rfl⟩ := hz;have hnone : RR = none := by
      simp only [hRR, jE, wG, hb, w5, jm];simp [kK]
    exact ⟨[A, lkA lb m3 deep], ZI, hnone, rfl, m3, rfl⟩
  obtain ⟨d, m3, he, rfl, rfl⟩ := hv;have hdb : d <= 1099511627777 := maxR_le (fun r hr d m e => by
    obtain ⟨j, hj⟩ := List.getElem?_of_mem hr;have hjl := (List.getElem?_eq_some_iff.1 hj).1;rw [stmtsR_len] at hjl;have hy := Zg hjl;have hget := stmtsR_get kids j kids[j] hy;rw [hget] at hj;have hb := (hkids.ok j _ hy).2;split at hj
    · cases hj;have := hb d m e;omega
    · cases hj;exact valueR_le hb e) he
  simp only [CNx];refine GOH ?_;refine ⟨⟨d + 1, decide (15 < args.length) || (decide (63 < temps.length) || m3), s, lk, ln, lbt, lt, la, items.length, lc, none, 0, 0, none, 0, 0⟩, ?_, ZU, ?_⟩
  · simp only [hRR, jE, wG, hf1, hf2, he, w5, jm];simp [je.ok, kK, ji, Lt.kind, Lt.n, Lt.bits, Lt.text, Lt.items]
  · rw [show (m0 || (decide (15 < args.length) || (decide (63 < temps.length) || m3))) = (m2 || m3) by rw [hm2, hm1];simp only [Bool.or_assoc]];show Imp _ [A, lkA lb (m2 || m3) deep, kA r 0 [cv 7, .string s, cv lk, vi ln, uv lbt, .string lt, .slice la items.length lc, .slice none 0 0, .slice none 0 0, .slice none 0 0, vi p]];exact IMx
theorem node_k8 (A : List kE) (hE : ErA A) (x : Nd) (vs : List Value) (h : kf A x vs) (hw : x.w <= 274877906944) (hok : ∀ y us, y ∈ x.kids -> kf A y us -> jw A y us) (hk : x.kind = 8) : NodeSw A x vs := by
  intro lb q r m0 deep;cases h with
  | @mk k s lit args temps kids p lv av tv a c bk o us wf hl hav htv ha hm hr hcp =>
  simp only [Nd.kind] at hk;have hl2 := hl;cases hl2 with
  | @mk lk ln lbt lt items la lc lbk lo lus lwf lha lhm lhr =>
  have hav2 := hav;have htv2 := htv;obtain ⟨aa, ac, rfl, hal, har⟩ := hav2;obtain ⟨ta, tc, rfl, htl, htr⟩ := htv2;have hkids : za A kids a bk o us := ⟨ha, wf.many, hm, hr, fun i y e => hok y (us i) (Zv e) (hr i y e)⟩;have hns := wf.name;have hmany := wf.many;simp only [Nd.w] at hw;obtain ⟨RR, hRR⟩ : ∃ RR, RR = kO (.mk k s (.mk lk ln lbt lt items) args temps kids p) := ⟨_, rfl⟩;rw [<- hRR];rw [show kO (.mk k s (.mk lk ln lbt lt items) args temps kids p) = jE k s (.mk lk ln lbt lt items) args temps kids (kids.map kO) by simp [kO, jK]] at hRR;show VC _ _ _ _ [kA r 0 [cv k, .string s, cv lk, vi ln, uv lbt, .string lt, .slice la items.length lc, .slice aa args.length ac, .slice ta temps.length tc, .slice none 0 0, vi p], kA q 0 [cv k, .string s, cv lk, vi ln, uv lbt, .string lt, .slice la items.length lc, .slice aa args.length ac, .slice ta temps.length tc, .slice a kids.length c, vi p], A, lkA lb m0 deep] _;subst hk;have hR8 : RR = kK (decide (s.size = 0 /\ args.length = 0 /\ temps.length = 0) && ji (.mk lk ln lbt lt items)) (w5 (jm (decide (255 < kids.length)) (jF (kids.map fun y => j5 y 1 (kO y))))) := by
    rw [hRR, <- valuesR_map];rfl
  obtain ⟨m0', hm0'⟩ : ∃ m0', m0' = m0 := ⟨_, rfl⟩;cases m0 with
  | true =>
    obtain ⟨mB, hmB⟩ : ∃ b, b = (true || decide (255 < kids.length)) := ⟨_, rfl⟩;have hmB0 : mB = true := by rw [hmB, Bool.true_or]
    refine GOH ?_;refine VC.loop (α := Nat × Nat × Bool) (Γf := fun s => [(0, kN lb), (5, kN r), (6, vi s.2.1), (185, .slice a kids.length c), (186, vi kids.length), (187, vi s.1)]) (Hf := fun z => [A, lkA lb (mB || z.2.2) deep, kA r 0 [cv 8, .string s, cv lk, vi ln, uv lbt, .string lt, .slice la items.length lc, .slice aa args.length ac, .slice ta temps.length tc, .slice none 0 0, vi p]])
      (I := fun s => s.1 <= kids.length /\ jF ((kids.take s.1).map fun x => j5 x 1 (kO x)) = some (s.2.1, s.2.2)) (μ := fun s => kids.length - s.1) (0, 0, false) ⟨Nat.zero_le _, rfl⟩ ZU (by show Imp _ [A, lkA lb (mB || false) deep, kA r 0 [cv 8, .string s, cv lk, vi ln, uv lbt, .string lt, .slice la items.length lc, .slice aa args.length ac, .slice ta temps.length tc, .slice none 0 0, vi p]];rw [Bool.or_false, hmB0];exact IMx) ?_
    rintro ⟨j, d, mm⟩ ⟨i1, i2⟩
    simp only at i1 i2;dsimp only;have hdb : d <= 1099511627777 := maxR_le (fun r hr d m e => by
      obtain ⟨y, hy, rfl⟩ := List.mem_map.1 hr;obtain ⟨i, hi⟩ := List.getElem?_of_mem (List.mem_of_mem_take hy);exact valueR_le (hkids.ok i _ hi).2 e) i2
    refine GOH ?_;by_cases hj : j < kids.length;rotate_left
    · rw [show decide ((j : Int) < (kids.length : Int)) = false from Zf Zo];rw [List.take_of_length_le Zo] at i2;refine GOH ?_;refine ⟨⟨d + 1, decide (255 < kids.length) || mm, s, lk, ln, lbt, lt, la, items.length, lc, aa, args.length, ac, ta, temps.length, tc⟩, ?_, ZU, ?_⟩
      · simp only [hR8, i2, w5, jm];simp [je.ok, kK, ji, Lt.kind, Lt.n, Lt.bits, Lt.text, Lt.items];simp only [and_assoc]
      · simp only;rw [<- Bool.or_assoc, <- hmB];show Imp _ [A, lkA lb (mB || mm) deep, kA r 0 [cv 8, .string s, cv lk, vi ln, uv lbt, .string lt, .slice la items.length lc, .slice aa args.length ac, .slice ta temps.length tc, .slice none 0 0, vi p]];exact IMx
    obtain rfl := ha Zo;rw [show decide ((j : Int) < (kids.length : Int)) = true from Zt Zo];obtain ⟨y, hy⟩ : ∃ y, kids[j]? = some y := ⟨_, Zg hj⟩;have hyr := hr j y hy;have hym := hm j hj;have hv := wF A y _ hyr (hkids.ok j y hy) 1 lb (mB || mm) deep;generalize us j = uj at hyr hym hv;obtain ⟨e1, e2, e3, e4, e5, e6, e7, e8, e9, e10, e11, e12, e13, e14, e15, e16, e17, rfl, hsz, hkk⟩ := km hyr;have htk : kids.take (j + 1) = kids.take j ++ [y] := by rw [List.take_add_one, hy];rfl
    refine GOH ?_;refine kL Zr Zah rfl ?_;refine GOH ?_;refine kP (fun q9 => ?_);refine GOH ?_;refine kG hv Zr ZP (fun v Post hv => ?_) (fun ch Post hz => ?_);rotate_left
    · obtain ⟨hb, rfl, m2, rfl⟩ := hz;have hnone : RR = none := by
        rw [hR8, ja (List.mem_map.2 ⟨y, Zv hy, hb⟩)];unfold kK;split <;> rfl
      exact ⟨[A, lkA lb m2 deep], ZI, hnone, rfl, m2, rfl⟩
    obtain ⟨e, m2, he, rfl, rfl⟩ := hv;simp only [CNx];refine GOH ?_;rw [show (if (e : Int) > (d : Int) then (e : Int) else (d : Int)) = ((max d e : Nat) : Int) by split <;> omega];refine ⟨(j + 1, max d e, mm || m2), ⟨by simp only;omega, ?_⟩, by simp only;omega, ZU, ?_⟩
    · simp only [htk, List.map_append, List.map_cons, List.map_nil, he];exact jZ i2
    · simp only [Bool.or_assoc];exact IMx
  | false =>
    obtain ⟨mB, hmB⟩ : ∃ b, b = (false || decide (255 < kids.length)) := ⟨_, rfl⟩;have hmB0 : mB = decide ((kids.length : Int) > 255) := by
      rw [hmB, Bool.false_or];exact decide_eq_decide.2 Zo
    refine GOH ?_;refine VC.loop (α := Nat × Nat × Bool) (Γf := fun s => [(0, kN lb), (5, kN r), (6, vi s.2.1), (185, .slice a kids.length c), (186, vi kids.length), (187, vi s.1)]) (Hf := fun z => [A, lkA lb (mB || z.2.2) deep, kA r 0 [cv 8, .string s, cv lk, vi ln, uv lbt, .string lt, .slice la items.length lc, .slice aa args.length ac, .slice ta temps.length tc, .slice none 0 0, vi p]])
      (I := fun s => s.1 <= kids.length /\ jF ((kids.take s.1).map fun x => j5 x 1 (kO x)) = some (s.2.1, s.2.2)) (μ := fun s => kids.length - s.1) (0, 0, false) ⟨Nat.zero_le _, rfl⟩ ZU (by show Imp _ [A, lkA lb (mB || false) deep, kA r 0 [cv 8, .string s, cv lk, vi ln, uv lbt, .string lt, .slice la items.length lc, .slice aa args.length ac, .slice ta temps.length tc, .slice none 0 0, vi p]];rw [Bool.or_false, hmB0];exact IMx) ?_
    rintro ⟨j, d, mm⟩ ⟨i1, i2⟩
    simp only at i1 i2;dsimp only;have hdb : d <= 1099511627777 := maxR_le (fun r hr d m e => by
      obtain ⟨y, hy, rfl⟩ := List.mem_map.1 hr;obtain ⟨i, hi⟩ := List.getElem?_of_mem (List.mem_of_mem_take hy);exact valueR_le (hkids.ok i _ hi).2 e) i2
    refine GOH ?_;by_cases hj : j < kids.length;rotate_left
    · rw [show decide ((j : Int) < (kids.length : Int)) = false from Zf Zo];rw [List.take_of_length_le Zo] at i2;refine GOH ?_;refine ⟨⟨d + 1, decide (255 < kids.length) || mm, s, lk, ln, lbt, lt, la, items.length, lc, aa, args.length, ac, ta, temps.length, tc⟩, ?_, ZU, ?_⟩
      · simp only [hR8, i2, w5, jm];simp [je.ok, kK, ji, Lt.kind, Lt.n, Lt.bits, Lt.text, Lt.items];simp only [and_assoc]
      · simp only;rw [<- Bool.or_assoc, <- hmB];show Imp _ [A, lkA lb (mB || mm) deep, kA r 0 [cv 8, .string s, cv lk, vi ln, uv lbt, .string lt, .slice la items.length lc, .slice aa args.length ac, .slice ta temps.length tc, .slice none 0 0, vi p]];exact IMx
    obtain rfl := ha Zo;rw [show decide ((j : Int) < (kids.length : Int)) = true from Zt Zo];obtain ⟨y, hy⟩ : ∃ y, kids[j]? = some y := ⟨_, Zg hj⟩;have hyr := hr j y hy;have hym := hm j hj;have hv := wF A y _ hyr (hkids.ok j y hy) 1 lb (mB || mm) deep;generalize us j = uj at hyr hym hv;obtain ⟨e1, e2, e3, e4, e5, e6, e7, e8, e9, e10, e11, e12, e13, e14, e15, e16, e17, rfl, hsz, hkk⟩ := km hyr;have htk : kids.take (j + 1) = kids.take j ++ [y] := by rw [List.take_add_one, hy];rfl
    refine GOH ?_;refine kL Zr Zah rfl ?_;refine GOH ?_;refine kP (fun q9 => ?_);refine GOH ?_;refine kG hv Zr ZP (fun v Post hv => ?_) (fun ch Post hz => ?_);rotate_left
    · obtain ⟨hb, rfl, m2, rfl⟩ := hz;have hnone : RR = none := by
        rw [hR8, ja (List.mem_map.2 ⟨y, Zv hy, hb⟩)];unfold kK;split <;> rfl
      exact ⟨[A, lkA lb m2 deep], ZI, hnone, rfl, m2, rfl⟩
    obtain ⟨e, m2, he, rfl, rfl⟩ := hv;simp only [CNx];refine GOH ?_;rw [show (if (e : Int) > (d : Int) then (e : Int) else (d : Int)) = ((max d e : Nat) : Int) by split <;> omega];refine ⟨(j + 1, max d e, mm || m2), ⟨by simp only;omega, ?_⟩, by simp only;omega, ZU, ?_⟩
    · simp only [htk, List.map_append, List.map_cons, List.map_nil, he];exact jZ i2
    · simp only [Bool.or_assoc];exact IMx
end Go.Proofs.YtmnmandpdadedaaGreatDoor
namespace Go.Proofs.YtmnmandpdadedaaGreatDoor
open Go Go.V
theorem look_some {f : Nat} {args : List Value} {A : List kE} {lb : Nat} {m0 deep : Bool} {r : Rs} {d : Nat} {m : Bool} (h : Look f args A lb m0 deep r) (hr : r = some (d, m)) :
    Fun Tryz.prog f args [A, lkA lb m0 deep] (fun v Post => v = vi d /\ Post = [A, lkA lb (m0 || m) deep]) := by
  refine wE.fun (wE.mono h (fun v Post ⟨d', m', e, h1, h2⟩ => ?_) (fun ch Post hz => ?_))
  · rw [hr] at e;cases e;exact ⟨h1, h2⟩
  · rw [hr] at hz;cases hz.1
theorem look_any {f : Nat} {args : List Value} {A : List kE} {lb : Nat} {deep : Bool} {r : Rs} (h : ∀ m, Look f args A lb m deep r) :
    ∃ (d : Nat) (φ : Prop), (φ -> r ≠ none) /\ ∀ m, wE Tryz.prog f args [A, lkA lb m deep] (fun v Post => v = vi d /\ φ /\ ∃ m', Post = [A, lkA lb m' deep]) (fun ch Post => ch = jR /\ ∃ m', Post = [A, lkA lb m' deep]) := by
  cases r with
  | none => exact ⟨0, False, fun h => h.elim, fun m => wE.mono (h m) (fun v Post ⟨d', m', e, _⟩ => by cases e) (fun ch Post hz => hz.2)⟩
  | some p =>
    obtain ⟨d, m1⟩ := p;exact ⟨d, True, fun _ => by simp, fun m => wE.mono (h m) (fun v Post ⟨d', m', e, h1, h2⟩ => by cases e;exact ⟨h1, trivial, _, h2⟩) (fun ch Post hz => hz.2)⟩
theorem zX {p q : Rs} (h : p = none ∨ q = none) : wU p q = none := by
  rcases h with rfl | rfl
  · rfl
  · cases p <;> rfl
end Go.Proofs.YtmnmandpdadedaaGreatDoor
namespace Go.Proofs.YtmnmandpdadedaaGreatDoor
open Go Go.V
set_option maxHeartbeats 3200000
set_option maxRecDepth 100000
theorem node_k4 (A : List kE) (hE : ErA A) (x : Nd) (vs : List Value) (h : kf A x vs) (hw : x.w <= 274877906944) (hok : ∀ y us, y ∈ x.kids -> kf A y us -> jw A y us) (hk : x.kind = 4) : NodeSw A x vs := by
  intro lb q r m0 deep;cases h with
  | @mk k s lit args temps kids p lv av tv a c bk o us wf hl hav htv ha hm hr hcp =>
  simp only [Nd.kind] at hk;have hl2 := hl;cases hl2 with
  | @mk lk ln lbt lt items la lc lbk lo lus lwf lha lhm lhr =>
  have hav2 := hav;have htv2 := htv;obtain ⟨aa, ac, rfl, hal, har⟩ := hav2;obtain ⟨ta, tc, rfl, htl, htr⟩ := htv2;have hkids : za A kids a bk o us := ⟨ha, wf.many, hm, hr, fun i y e => hok y (us i) (Zv e) (hr i y e)⟩;have hns := wf.name;have hmany := wf.many;simp only [Nd.w] at hw;obtain ⟨RR, hRR⟩ : ∃ RR, RR = kO (.mk k s (.mk lk ln lbt lt items) args temps kids p) := ⟨_, rfl⟩;rw [<- hRR];rw [show kO (.mk k s (.mk lk ln lbt lt items) args temps kids p) = jE k s (.mk lk ln lbt lt items) args temps kids (kids.map kO) by simp [kO, jK]] at hRR;show VC _ _ _ _ [kA r 0 [cv k, .string s, cv lk, vi ln, uv lbt, .string lt, .slice la items.length lc, .slice aa args.length ac, .slice ta temps.length tc, .slice none 0 0, vi p], kA q 0 [cv k, .string s, cv lk, vi ln, uv lbt, .string lt, .slice la items.length lc, .slice aa args.length ac, .slice ta temps.length tc, .slice a kids.length c, vi p], A, lkA lb m0 deep] _;subst hk;refine GOH ?_;by_cases hk0 : 0 < kids.length;rotate_left
  · have hnone : RR = none := by
      obtain rfl : kids = [] := List.eq_nil_of_length_eq_zero Zo;rw [hRR];unfold jE;rw [if_neg Zd, if_neg Zd, if_neg Zd, if_pos rfl];unfold kK;split <;> rfl
    rw [show decide ((kids.length : Int) > 0) = false from Zf Zo];refine GOH ?_;refine kG (kJ false) Zr ZP Zai (fun ch Post hz => ?_);obtain ⟨_, rfl, rfl⟩ := hz;exact ⟨[A, lkA lb m0 deep], ZI, hnone, rfl, m0, rfl⟩
  rw [show decide ((kids.length : Int) > 0) = true from Zt Zo];refine GOH ?_;refine kH (jv s hns) Zr ?_;refine GOH ?_;by_cases har : 0 <= kR s;rotate_left
  · have hnone : RR = none := by
      rw [hRR];unfold jE;rw [if_neg Zd, if_neg Zd, if_neg Zd, if_pos rfl];rw [Zf har, Bool.and_false];rfl
    rw [show decide (kR s ≥ 0) = false from Zf har];refine GOH ?_;refine kG (kJ false) Zr ZP Zai (fun ch Post hz => ?_);obtain ⟨_, rfl, rfl⟩ := hz;exact ⟨[A, lkA lb m0 deep], ZI, hnone, rfl, m0, rfl⟩
  rw [show decide (kR s ≥ 0) = true from Zt har];refine GOH ?_;refine kG (kJ true) Zr ZP (fun v Post hv => ?_) Zaj;obtain ⟨_, rfl, rfl⟩ := hv;simp only [List.nil_append];refine GOH ?_;obtain ⟨y, l, hky⟩ : ∃ y l, kids = y :: l := by
    cases kids with
    | nil => simp at hk0
    | cons y l => exact ⟨y, l, rfl⟩
  have hy0 : kids[0]? = some y := by rw [hky];rfl
  have hym := hm 0 Zo;rw [Nat.zero_mul, Nat.add_zero] at hym;have hyl := (hr 0 y hy0).len;obtain rfl := ha Zo;have hls : l.length = kids.length - 1 := by rw [hky];rfl
  have hkl : za A l (some ⟨bk, if c = 1 then o else o + 1 * 11, none⟩) bk (if c = 1 then o else o + 1 * 11) (fun i => us (i + 1)) := by
    refine ⟨fun _ => rfl, Zo, fun i hi z hz => ?_, fun i z e => hr (i + 1) z (by rw [hky];exact e), fun i z e => hkids.ok (i + 1) z (by rw [hky];exact e)⟩;refine hm (i + 1) Zo z ?_;rw [if_neg Zo] at hz
    rwa [show o + 1 * 11 + i * 11 = o + (i + 1) * 11 by omega] at hz
  have hF := fun m => first_spec A y _ (hr 0 y hy0) (hkids.ok 0 y hy0) s hns lb m deep
  have hA := fun m => arguments_spec A l _ (c - 1) bk _ _ hkl s hns lb m deep
  rw [hls] at hA;have hR4 : RR = kK (decide (args.length = 0 /\ temps.length = 0) && ji (.mk lk ln lbt lt items) && decide (0 <= kR s)) (wU (we y s (kO y)) (argsR s l (l.map kO))) := by
    rw [hRR, hky];rfl
  by_cases hno : we y s (kO y) = none ∨ argsR s l (l.map kO) = none
  · skip
    have hnone : RR = none := by
      rw [hR4, zX hno];unfold kK;split <;> rfl
    obtain ⟨dF, φF, hFφ, hFz⟩ := look_any hF;obtain ⟨dA, φA, hAφ, hAz⟩ := look_any hA;refine VC.drawZ (fun ch H' => ch = jR /\ ∃ m, Imp H' [A, lkA lb m deep]) (fun H' => ∃ m, Imp H' [A, lkA lb m deep, kA q 0 [cv 4, .string s, cv lk, vi ln, uv lbt, .string lt, .slice la items.length lc, .slice aa args.length ac, .slice ta temps.length tc, .slice (some ⟨bk, o, none⟩) kids.length c, vi p]]) ⟨m0, ZI⟩ ?_ (fun ch H' hp => ?_)
    · skip
      intro rs hrs;rcases List.mem_cons.1 hrs with rfl | hrs
      · skip
        refine ⟨rfl, kN lb, True, fun Γ H hΓ hH => ?_, ?_⟩
        · obtain ⟨mz, hz⟩ := hH;refine VO.imp hz ?_;exact ka (hΓ 0 Zd _ rfl) Zae
        refine ⟨rfl, .pointer (some ⟨q, 9, none⟩), True, fun Γ H hΓ hH => ?_, ?_⟩
        · obtain ⟨mz, hz⟩ := hH;refine VO.imp hz ?_;exact kQ (hΓ 3 Zd _ rfl) rfl Zae
        refine ⟨rfl, .slice (some ⟨bk, o, none⟩) kids.length c, True, fun Γ H hΓ hH => ?_, ?_⟩
        · obtain ⟨mz, hz⟩ := hH;refine VO.imp hz ?_;exact kI (hΓ 77 Zd _ rfl) Zaq Zae
        refine ⟨rfl, .pointer (some ⟨bk, o, none⟩), True, fun Γ H hΓ hH => ?_, ?_⟩
        · obtain ⟨mz, hz⟩ := hH;refine VO.imp hz ?_;exact jf (hΓ 78 Zd _ rfl) rfl Zo Zz (VO.nil ⟨rfl, ⟨mz, Imp.refl _⟩, trivial⟩)
        refine ⟨rfl, .agg (us 0).toArray, True, fun Γ H hΓ hH => ?_, ?_⟩
        · obtain ⟨mz, hz⟩ := hH;refine VO.imp hz ?_;exact kL (hΓ 79 Zd _ rfl) Zah hyl Zae
        refine ⟨rfl, .pointer (some ⟨q, 1, none⟩), True, fun Γ H hΓ hH => ?_, ?_⟩
        · obtain ⟨mz, hz⟩ := hH;refine VO.imp hz ?_;exact kQ (hΓ 3 Zd _ rfl) rfl Zae
        refine ⟨rfl, .string s, True, fun Γ H hΓ hH => ?_, ?_⟩
        · obtain ⟨mz, hz⟩ := hH;refine VO.imp hz ?_;exact kI (hΓ 81 Zd _ rfl) Zaq Zae
        refine ⟨rfl, vi dF, φF, fun Γ H hΓ hH => ?_, ?_⟩
        · obtain ⟨mz, hz⟩ := hH;refine VO.imp hz ?_;refine kG (hFz mz) Zar ZP (fun v Post hv => ?_) (fun ch Post hz => ?_)
          · obtain ⟨rfl, hφ, m', rfl⟩ := hv;exact VO.nil ⟨rfl, ⟨m', Imp.refl _⟩, hφ⟩
          · obtain ⟨rfl, m', rfl⟩ := hz;exact ⟨rfl, m', ZI⟩
        refine ⟨rfl, kN lb, True, fun Γ H hΓ hH => ?_, ?_⟩
        · obtain ⟨mz, hz⟩ := hH;refine VO.imp hz ?_;exact ka (hΓ 0 Zd _ rfl) Zae
        refine ⟨rfl, .pointer (some ⟨q, 1, none⟩), True, fun Γ H hΓ hH => ?_, ?_⟩
        · obtain ⟨mz, hz⟩ := hH;refine VO.imp hz ?_;exact kQ (hΓ 3 Zd _ rfl) rfl Zae
        refine ⟨rfl, .string s, True, fun Γ H hΓ hH => ?_, ?_⟩
        · obtain ⟨mz, hz⟩ := hH;refine VO.imp hz ?_;exact kI (hΓ 85 Zd _ rfl) Zaq Zae
        refine ⟨rfl, .pointer (some ⟨q, 9, none⟩), True, fun Γ H hΓ hH => ?_, ?_⟩
        · obtain ⟨mz, hz⟩ := hH;refine VO.imp hz ?_;exact kQ (hΓ 3 Zd _ rfl) rfl Zae
        refine ⟨rfl, .slice (some ⟨bk, o, none⟩) kids.length c, True, fun Γ H hΓ hH => ?_, ?_⟩
        · obtain ⟨mz, hz⟩ := hH;refine VO.imp hz ?_;exact kI (hΓ 87 Zd _ rfl) Zaq Zae
        refine ⟨rfl, .slice (some ⟨bk, if c = 1 then o else o + 1 * 11, none⟩) (kids.length - 1) (c - 1), True, fun Γ H hΓ hH => ?_, ?_⟩
        · obtain ⟨mz, hz⟩ := hH;refine VO.imp hz ?_;exact w9 (hΓ 88 Zd _ rfl) rfl (l := 1) rfl Zo (VO.nil ⟨rfl, ⟨mz, Imp.refl _⟩, trivial⟩)
        refine ⟨rfl, vi dA, φA, fun Γ H hΓ hH => ?_, ?_⟩
        · obtain ⟨mz, hz⟩ := hH;refine VO.imp hz ?_;refine kG (hAz mz) Zas ZP (fun v Post hv => ?_) (fun ch Post hz => ?_)
          · obtain ⟨rfl, hφ, m', rfl⟩ := hv;exact VO.nil ⟨rfl, ⟨m', Imp.refl _⟩, hφ⟩
          · obtain ⟨rfl, m', rfl⟩ := hz;exact ⟨rfl, m', ZI⟩
        refine ⟨rfl, vi (max dF dA : Nat), True, fun Γ H hΓ hH => ?_, ?_⟩
        · obtain ⟨mz, hz⟩ := hH;refine VO.imp hz ?_;exact st_max Zat Zau (VO.nil ⟨rfl, ⟨mz, Imp.refl _⟩, trivial⟩)
        refine ⟨rfl, vi (max dF dA : Nat), True, fun Γ H hΓ hH => ?_, ?_⟩
        · obtain ⟨mz, hz⟩ := hH;refine VO.imp hz ?_;exact ka (hΓ 91 Zd _ rfl) Zae
        exact fun hh => by
          simp only [true_and, and_true] at hh;rcases hno with h1 | h1
          · exact hFφ hh.1 h1
          · exact hAφ hh.2 h1
      rcases List.mem_cons.1 hrs with rfl | hrs
      · skip
        refine ⟨rfl, kN lb, True, fun Γ H hΓ hH => ?_, ?_⟩
        · obtain ⟨mz, hz⟩ := hH;refine VO.imp hz ?_;exact ka (hΓ 0 Zd _ rfl) Zae
        refine ⟨rfl, .pointer (some ⟨q, 9, none⟩), True, fun Γ H hΓ hH => ?_, ?_⟩
        · obtain ⟨mz, hz⟩ := hH;refine VO.imp hz ?_;exact kQ (hΓ 3 Zd _ rfl) rfl Zae
        refine ⟨rfl, .slice (some ⟨bk, o, none⟩) kids.length c, True, fun Γ H hΓ hH => ?_, ?_⟩
        · obtain ⟨mz, hz⟩ := hH;refine VO.imp hz ?_;exact kI (hΓ 77 Zd _ rfl) Zaq Zae
        refine ⟨rfl, .pointer (some ⟨bk, o, none⟩), True, fun Γ H hΓ hH => ?_, ?_⟩
        · obtain ⟨mz, hz⟩ := hH;refine VO.imp hz ?_;exact jf (hΓ 78 Zd _ rfl) rfl Zo Zz (VO.nil ⟨rfl, ⟨mz, Imp.refl _⟩, trivial⟩)
        refine ⟨rfl, .agg (us 0).toArray, True, fun Γ H hΓ hH => ?_, ?_⟩
        · obtain ⟨mz, hz⟩ := hH;refine VO.imp hz ?_;exact kL (hΓ 79 Zd _ rfl) Zah hyl Zae
        refine ⟨rfl, .pointer (some ⟨q, 1, none⟩), True, fun Γ H hΓ hH => ?_, ?_⟩
        · obtain ⟨mz, hz⟩ := hH;refine VO.imp hz ?_;exact kQ (hΓ 3 Zd _ rfl) rfl Zae
        refine ⟨rfl, .string s, True, fun Γ H hΓ hH => ?_, ?_⟩
        · obtain ⟨mz, hz⟩ := hH;refine VO.imp hz ?_;exact kI (hΓ 81 Zd _ rfl) Zaq Zae
        refine ⟨rfl, kN lb, True, fun Γ H hΓ hH => ?_, ?_⟩
        · obtain ⟨mz, hz⟩ := hH;refine VO.imp hz ?_;exact ka (hΓ 0 Zd _ rfl) Zae
        refine ⟨rfl, .pointer (some ⟨q, 1, none⟩), True, fun Γ H hΓ hH => ?_, ?_⟩
        · obtain ⟨mz, hz⟩ := hH;refine VO.imp hz ?_;exact kQ (hΓ 3 Zd _ rfl) rfl Zae
        refine ⟨rfl, .string s, True, fun Γ H hΓ hH => ?_, ?_⟩
        · obtain ⟨mz, hz⟩ := hH;refine VO.imp hz ?_;exact kI (hΓ 85 Zd _ rfl) Zaq Zae
        refine ⟨rfl, vi dF, φF, fun Γ H hΓ hH => ?_, ?_⟩
        · obtain ⟨mz, hz⟩ := hH;refine VO.imp hz ?_;refine kG (hFz mz) Zar ZP (fun v Post hv => ?_) (fun ch Post hz => ?_)
          · obtain ⟨rfl, hφ, m', rfl⟩ := hv;exact VO.nil ⟨rfl, ⟨m', Imp.refl _⟩, hφ⟩
          · obtain ⟨rfl, m', rfl⟩ := hz;exact ⟨rfl, m', ZI⟩
        refine ⟨rfl, .pointer (some ⟨q, 9, none⟩), True, fun Γ H hΓ hH => ?_, ?_⟩
        · obtain ⟨mz, hz⟩ := hH;refine VO.imp hz ?_;exact kQ (hΓ 3 Zd _ rfl) rfl Zae
        refine ⟨rfl, .slice (some ⟨bk, o, none⟩) kids.length c, True, fun Γ H hΓ hH => ?_, ?_⟩
        · obtain ⟨mz, hz⟩ := hH;refine VO.imp hz ?_;exact kI (hΓ 87 Zd _ rfl) Zaq Zae
        refine ⟨rfl, .slice (some ⟨bk, if c = 1 then o else o + 1 * 11, none⟩) (kids.length - 1) (c - 1), True, fun Γ H hΓ hH => ?_, ?_⟩
        · obtain ⟨mz, hz⟩ := hH;refine VO.imp hz ?_;exact w9 (hΓ 88 Zd _ rfl) rfl (l := 1) rfl Zo (VO.nil ⟨rfl, ⟨mz, Imp.refl _⟩, trivial⟩)
        refine ⟨rfl, vi dA, φA, fun Γ H hΓ hH => ?_, ?_⟩
        · obtain ⟨mz, hz⟩ := hH;refine VO.imp hz ?_;refine kG (hAz mz) Zas ZP (fun v Post hv => ?_) (fun ch Post hz => ?_)
          · obtain ⟨rfl, hφ, m', rfl⟩ := hv;exact VO.nil ⟨rfl, ⟨m', Imp.refl _⟩, hφ⟩
          · obtain ⟨rfl, m', rfl⟩ := hz;exact ⟨rfl, m', ZI⟩
        refine ⟨rfl, vi (max dF dA : Nat), True, fun Γ H hΓ hH => ?_, ?_⟩
        · obtain ⟨mz, hz⟩ := hH;refine VO.imp hz ?_;exact st_max Zat Zau (VO.nil ⟨rfl, ⟨mz, Imp.refl _⟩, trivial⟩)
        refine ⟨rfl, vi (max dF dA : Nat), True, fun Γ H hΓ hH => ?_, ?_⟩
        · obtain ⟨mz, hz⟩ := hH;refine VO.imp hz ?_;exact ka (hΓ 91 Zd _ rfl) Zae
        exact fun hh => by
          simp only [true_and, and_true] at hh;rcases hno with h1 | h1
          · exact hFφ hh.1 h1
          · exact hAφ hh.2 h1
      rcases List.mem_cons.1 hrs with rfl | hrs
      · skip
        refine ⟨rfl, kN lb, True, fun Γ H hΓ hH => ?_, ?_⟩
        · obtain ⟨mz, hz⟩ := hH;refine VO.imp hz ?_;exact ka (hΓ 0 Zd _ rfl) Zae
        refine ⟨rfl, .pointer (some ⟨q, 9, none⟩), True, fun Γ H hΓ hH => ?_, ?_⟩
        · obtain ⟨mz, hz⟩ := hH;refine VO.imp hz ?_;exact kQ (hΓ 3 Zd _ rfl) rfl Zae
        refine ⟨rfl, .slice (some ⟨bk, o, none⟩) kids.length c, True, fun Γ H hΓ hH => ?_, ?_⟩
        · obtain ⟨mz, hz⟩ := hH;refine VO.imp hz ?_;exact kI (hΓ 77 Zd _ rfl) Zaq Zae
        refine ⟨rfl, .pointer (some ⟨bk, o, none⟩), True, fun Γ H hΓ hH => ?_, ?_⟩
        · obtain ⟨mz, hz⟩ := hH;refine VO.imp hz ?_;exact jf (hΓ 78 Zd _ rfl) rfl Zo Zz (VO.nil ⟨rfl, ⟨mz, Imp.refl _⟩, trivial⟩)
        refine ⟨rfl, .agg (us 0).toArray, True, fun Γ H hΓ hH => ?_, ?_⟩
        · obtain ⟨mz, hz⟩ := hH;refine VO.imp hz ?_;exact kL (hΓ 79 Zd _ rfl) Zah hyl Zae
        refine ⟨rfl, .pointer (some ⟨q, 1, none⟩), True, fun Γ H hΓ hH => ?_, ?_⟩
        · obtain ⟨mz, hz⟩ := hH;refine VO.imp hz ?_;exact kQ (hΓ 3 Zd _ rfl) rfl Zae
        refine ⟨rfl, .string s, True, fun Γ H hΓ hH => ?_, ?_⟩
        · obtain ⟨mz, hz⟩ := hH;refine VO.imp hz ?_;exact kI (hΓ 81 Zd _ rfl) Zaq Zae
        refine ⟨rfl, kN lb, True, fun Γ H hΓ hH => ?_, ?_⟩
        · obtain ⟨mz, hz⟩ := hH;refine VO.imp hz ?_;exact ka (hΓ 0 Zd _ rfl) Zae
        refine ⟨rfl, .pointer (some ⟨q, 1, none⟩), True, fun Γ H hΓ hH => ?_, ?_⟩
        · obtain ⟨mz, hz⟩ := hH;refine VO.imp hz ?_;exact kQ (hΓ 3 Zd _ rfl) rfl Zae
        refine ⟨rfl, .string s, True, fun Γ H hΓ hH => ?_, ?_⟩
        · obtain ⟨mz, hz⟩ := hH;refine VO.imp hz ?_;exact kI (hΓ 85 Zd _ rfl) Zaq Zae
        refine ⟨rfl, .pointer (some ⟨q, 9, none⟩), True, fun Γ H hΓ hH => ?_, ?_⟩
        · obtain ⟨mz, hz⟩ := hH;refine VO.imp hz ?_;exact kQ (hΓ 3 Zd _ rfl) rfl Zae
        refine ⟨rfl, .slice (some ⟨bk, o, none⟩) kids.length c, True, fun Γ H hΓ hH => ?_, ?_⟩
        · obtain ⟨mz, hz⟩ := hH;refine VO.imp hz ?_;exact kI (hΓ 87 Zd _ rfl) Zaq Zae
        refine ⟨rfl, vi dF, φF, fun Γ H hΓ hH => ?_, ?_⟩
        · obtain ⟨mz, hz⟩ := hH;refine VO.imp hz ?_;refine kG (hFz mz) Zar ZP (fun v Post hv => ?_) (fun ch Post hz => ?_)
          · obtain ⟨rfl, hφ, m', rfl⟩ := hv;exact VO.nil ⟨rfl, ⟨m', Imp.refl _⟩, hφ⟩
          · obtain ⟨rfl, m', rfl⟩ := hz;exact ⟨rfl, m', ZI⟩
        refine ⟨rfl, .slice (some ⟨bk, if c = 1 then o else o + 1 * 11, none⟩) (kids.length - 1) (c - 1), True, fun Γ H hΓ hH => ?_, ?_⟩
        · obtain ⟨mz, hz⟩ := hH;refine VO.imp hz ?_;exact w9 (hΓ 88 Zd _ rfl) rfl (l := 1) rfl Zo (VO.nil ⟨rfl, ⟨mz, Imp.refl _⟩, trivial⟩)
        refine ⟨rfl, vi dA, φA, fun Γ H hΓ hH => ?_, ?_⟩
        · obtain ⟨mz, hz⟩ := hH;refine VO.imp hz ?_;refine kG (hAz mz) Zas ZP (fun v Post hv => ?_) (fun ch Post hz => ?_)
          · obtain ⟨rfl, hφ, m', rfl⟩ := hv;exact VO.nil ⟨rfl, ⟨m', Imp.refl _⟩, hφ⟩
          · obtain ⟨rfl, m', rfl⟩ := hz;exact ⟨rfl, m', ZI⟩
        refine ⟨rfl, vi (max dF dA : Nat), True, fun Γ H hΓ hH => ?_, ?_⟩
        · obtain ⟨mz, hz⟩ := hH;refine VO.imp hz ?_;exact st_max Zat Zau (VO.nil ⟨rfl, ⟨mz, Imp.refl _⟩, trivial⟩)
        refine ⟨rfl, vi (max dF dA : Nat), True, fun Γ H hΓ hH => ?_, ?_⟩
        · obtain ⟨mz, hz⟩ := hH;refine VO.imp hz ?_;exact ka (hΓ 91 Zd _ rfl) Zae
        exact fun hh => by
          simp only [true_and, and_true] at hh;rcases hno with h1 | h1
          · exact hFφ hh.1 h1
          · exact hAφ hh.2 h1
      rcases List.mem_cons.1 hrs with rfl | hrs
      · skip
        refine ⟨rfl, kN lb, True, fun Γ H hΓ hH => ?_, ?_⟩
        · obtain ⟨mz, hz⟩ := hH;refine VO.imp hz ?_;exact ka (hΓ 0 Zd _ rfl) Zae
        refine ⟨rfl, .pointer (some ⟨q, 9, none⟩), True, fun Γ H hΓ hH => ?_, ?_⟩
        · obtain ⟨mz, hz⟩ := hH;refine VO.imp hz ?_;exact kQ (hΓ 3 Zd _ rfl) rfl Zae
        refine ⟨rfl, .slice (some ⟨bk, o, none⟩) kids.length c, True, fun Γ H hΓ hH => ?_, ?_⟩
        · obtain ⟨mz, hz⟩ := hH;refine VO.imp hz ?_;exact kI (hΓ 77 Zd _ rfl) Zaq Zae
        refine ⟨rfl, .pointer (some ⟨bk, o, none⟩), True, fun Γ H hΓ hH => ?_, ?_⟩
        · obtain ⟨mz, hz⟩ := hH;refine VO.imp hz ?_;exact jf (hΓ 78 Zd _ rfl) rfl Zo Zz (VO.nil ⟨rfl, ⟨mz, Imp.refl _⟩, trivial⟩)
        refine ⟨rfl, .agg (us 0).toArray, True, fun Γ H hΓ hH => ?_, ?_⟩
        · obtain ⟨mz, hz⟩ := hH;refine VO.imp hz ?_;exact kL (hΓ 79 Zd _ rfl) Zah hyl Zae
        refine ⟨rfl, .pointer (some ⟨q, 1, none⟩), True, fun Γ H hΓ hH => ?_, ?_⟩
        · obtain ⟨mz, hz⟩ := hH;refine VO.imp hz ?_;exact kQ (hΓ 3 Zd _ rfl) rfl Zae
        refine ⟨rfl, .string s, True, fun Γ H hΓ hH => ?_, ?_⟩
        · obtain ⟨mz, hz⟩ := hH;refine VO.imp hz ?_;exact kI (hΓ 81 Zd _ rfl) Zaq Zae
        refine ⟨rfl, vi dF, φF, fun Γ H hΓ hH => ?_, ?_⟩
        · obtain ⟨mz, hz⟩ := hH;refine VO.imp hz ?_;refine kG (hFz mz) Zar ZP (fun v Post hv => ?_) (fun ch Post hz => ?_)
          · obtain ⟨rfl, hφ, m', rfl⟩ := hv;exact VO.nil ⟨rfl, ⟨m', Imp.refl _⟩, hφ⟩
          · obtain ⟨rfl, m', rfl⟩ := hz;exact ⟨rfl, m', ZI⟩
        refine ⟨rfl, kN lb, True, fun Γ H hΓ hH => ?_, ?_⟩
        · obtain ⟨mz, hz⟩ := hH;refine VO.imp hz ?_;exact ka (hΓ 0 Zd _ rfl) Zae
        refine ⟨rfl, .pointer (some ⟨q, 1, none⟩), True, fun Γ H hΓ hH => ?_, ?_⟩
        · obtain ⟨mz, hz⟩ := hH;refine VO.imp hz ?_;exact kQ (hΓ 3 Zd _ rfl) rfl Zae
        refine ⟨rfl, .pointer (some ⟨q, 9, none⟩), True, fun Γ H hΓ hH => ?_, ?_⟩
        · obtain ⟨mz, hz⟩ := hH;refine VO.imp hz ?_;exact kQ (hΓ 3 Zd _ rfl) rfl Zae
        refine ⟨rfl, .slice (some ⟨bk, o, none⟩) kids.length c, True, fun Γ H hΓ hH => ?_, ?_⟩
        · obtain ⟨mz, hz⟩ := hH;refine VO.imp hz ?_;exact kI (hΓ 87 Zd _ rfl) Zaq Zae
        refine ⟨rfl, .string s, True, fun Γ H hΓ hH => ?_, ?_⟩
        · obtain ⟨mz, hz⟩ := hH;refine VO.imp hz ?_;exact kI (hΓ 85 Zd _ rfl) Zaq Zae
        refine ⟨rfl, .slice (some ⟨bk, if c = 1 then o else o + 1 * 11, none⟩) (kids.length - 1) (c - 1), True, fun Γ H hΓ hH => ?_, ?_⟩
        · obtain ⟨mz, hz⟩ := hH;refine VO.imp hz ?_;exact w9 (hΓ 88 Zd _ rfl) rfl (l := 1) rfl Zo (VO.nil ⟨rfl, ⟨mz, Imp.refl _⟩, trivial⟩)
        refine ⟨rfl, vi dA, φA, fun Γ H hΓ hH => ?_, ?_⟩
        · obtain ⟨mz, hz⟩ := hH;refine VO.imp hz ?_;refine kG (hAz mz) Zas ZP (fun v Post hv => ?_) (fun ch Post hz => ?_)
          · obtain ⟨rfl, hφ, m', rfl⟩ := hv;exact VO.nil ⟨rfl, ⟨m', Imp.refl _⟩, hφ⟩
          · obtain ⟨rfl, m', rfl⟩ := hz;exact ⟨rfl, m', ZI⟩
        refine ⟨rfl, vi (max dF dA : Nat), True, fun Γ H hΓ hH => ?_, ?_⟩
        · obtain ⟨mz, hz⟩ := hH;refine VO.imp hz ?_;exact st_max Zat Zau (VO.nil ⟨rfl, ⟨mz, Imp.refl _⟩, trivial⟩)
        refine ⟨rfl, vi (max dF dA : Nat), True, fun Γ H hΓ hH => ?_, ?_⟩
        · obtain ⟨mz, hz⟩ := hH;refine VO.imp hz ?_;exact ka (hΓ 91 Zd _ rfl) Zae
        exact fun hh => by
          simp only [true_and, and_true] at hh;rcases hno with h1 | h1
          · exact hFφ hh.1 h1
          · exact hAφ hh.2 h1
      rcases List.mem_cons.1 hrs with rfl | hrs
      · skip
        refine ⟨rfl, kN lb, True, fun Γ H hΓ hH => ?_, ?_⟩
        · obtain ⟨mz, hz⟩ := hH;refine VO.imp hz ?_;exact ka (hΓ 0 Zd _ rfl) Zae
        refine ⟨rfl, .pointer (some ⟨q, 9, none⟩), True, fun Γ H hΓ hH => ?_, ?_⟩
        · obtain ⟨mz, hz⟩ := hH;refine VO.imp hz ?_;exact kQ (hΓ 3 Zd _ rfl) rfl Zae
        refine ⟨rfl, .slice (some ⟨bk, o, none⟩) kids.length c, True, fun Γ H hΓ hH => ?_, ?_⟩
        · obtain ⟨mz, hz⟩ := hH;refine VO.imp hz ?_;exact kI (hΓ 77 Zd _ rfl) Zaq Zae
        refine ⟨rfl, .pointer (some ⟨bk, o, none⟩), True, fun Γ H hΓ hH => ?_, ?_⟩
        · obtain ⟨mz, hz⟩ := hH;refine VO.imp hz ?_;exact jf (hΓ 78 Zd _ rfl) rfl Zo Zz (VO.nil ⟨rfl, ⟨mz, Imp.refl _⟩, trivial⟩)
        refine ⟨rfl, .agg (us 0).toArray, True, fun Γ H hΓ hH => ?_, ?_⟩
        · obtain ⟨mz, hz⟩ := hH;refine VO.imp hz ?_;exact kL (hΓ 79 Zd _ rfl) Zah hyl Zae
        refine ⟨rfl, .pointer (some ⟨q, 1, none⟩), True, fun Γ H hΓ hH => ?_, ?_⟩
        · obtain ⟨mz, hz⟩ := hH;refine VO.imp hz ?_;exact kQ (hΓ 3 Zd _ rfl) rfl Zae
        refine ⟨rfl, .string s, True, fun Γ H hΓ hH => ?_, ?_⟩
        · obtain ⟨mz, hz⟩ := hH;refine VO.imp hz ?_;exact kI (hΓ 81 Zd _ rfl) Zaq Zae
        refine ⟨rfl, kN lb, True, fun Γ H hΓ hH => ?_, ?_⟩
        · obtain ⟨mz, hz⟩ := hH;refine VO.imp hz ?_;exact ka (hΓ 0 Zd _ rfl) Zae
        refine ⟨rfl, .pointer (some ⟨q, 1, none⟩), True, fun Γ H hΓ hH => ?_, ?_⟩
        · obtain ⟨mz, hz⟩ := hH;refine VO.imp hz ?_;exact kQ (hΓ 3 Zd _ rfl) rfl Zae
        refine ⟨rfl, .pointer (some ⟨q, 9, none⟩), True, fun Γ H hΓ hH => ?_, ?_⟩
        · obtain ⟨mz, hz⟩ := hH;refine VO.imp hz ?_;exact kQ (hΓ 3 Zd _ rfl) rfl Zae
        refine ⟨rfl, .slice (some ⟨bk, o, none⟩) kids.length c, True, fun Γ H hΓ hH => ?_, ?_⟩
        · obtain ⟨mz, hz⟩ := hH;refine VO.imp hz ?_;exact kI (hΓ 87 Zd _ rfl) Zaq Zae
        refine ⟨rfl, vi dF, φF, fun Γ H hΓ hH => ?_, ?_⟩
        · obtain ⟨mz, hz⟩ := hH;refine VO.imp hz ?_;refine kG (hFz mz) Zar ZP (fun v Post hv => ?_) (fun ch Post hz => ?_)
          · obtain ⟨rfl, hφ, m', rfl⟩ := hv;exact VO.nil ⟨rfl, ⟨m', Imp.refl _⟩, hφ⟩
          · obtain ⟨rfl, m', rfl⟩ := hz;exact ⟨rfl, m', ZI⟩
        refine ⟨rfl, .string s, True, fun Γ H hΓ hH => ?_, ?_⟩
        · obtain ⟨mz, hz⟩ := hH;refine VO.imp hz ?_;exact kI (hΓ 85 Zd _ rfl) Zaq Zae
        refine ⟨rfl, .slice (some ⟨bk, if c = 1 then o else o + 1 * 11, none⟩) (kids.length - 1) (c - 1), True, fun Γ H hΓ hH => ?_, ?_⟩
        · obtain ⟨mz, hz⟩ := hH;refine VO.imp hz ?_;exact w9 (hΓ 88 Zd _ rfl) rfl (l := 1) rfl Zo (VO.nil ⟨rfl, ⟨mz, Imp.refl _⟩, trivial⟩)
        refine ⟨rfl, vi dA, φA, fun Γ H hΓ hH => ?_, ?_⟩
        · obtain ⟨mz, hz⟩ := hH;refine VO.imp hz ?_;refine kG (hAz mz) Zas ZP (fun v Post hv => ?_) (fun ch Post hz => ?_)
          · obtain ⟨rfl, hφ, m', rfl⟩ := hv;exact VO.nil ⟨rfl, ⟨m', Imp.refl _⟩, hφ⟩
          · obtain ⟨rfl, m', rfl⟩ := hz;exact ⟨rfl, m', ZI⟩
        refine ⟨rfl, vi (max dF dA : Nat), True, fun Γ H hΓ hH => ?_, ?_⟩
        · obtain ⟨mz, hz⟩ := hH;refine VO.imp hz ?_;exact st_max Zat Zau (VO.nil ⟨rfl, ⟨mz, Imp.refl _⟩, trivial⟩)
        refine ⟨rfl, vi (max dF dA : Nat), True, fun Γ H hΓ hH => ?_, ?_⟩
        · obtain ⟨mz, hz⟩ := hH;refine VO.imp hz ?_;exact ka (hΓ 91 Zd _ rfl) Zae
        exact fun hh => by
          simp only [true_and, and_true] at hh;rcases hno with h1 | h1
          · exact hFφ hh.1 h1
          · exact hAφ hh.2 h1
      rcases List.mem_cons.1 hrs with rfl | hrs
      · skip
        refine ⟨rfl, kN lb, True, fun Γ H hΓ hH => ?_, ?_⟩
        · obtain ⟨mz, hz⟩ := hH;refine VO.imp hz ?_;exact ka (hΓ 0 Zd _ rfl) Zae
        refine ⟨rfl, .pointer (some ⟨q, 9, none⟩), True, fun Γ H hΓ hH => ?_, ?_⟩
        · obtain ⟨mz, hz⟩ := hH;refine VO.imp hz ?_;exact kQ (hΓ 3 Zd _ rfl) rfl Zae
        refine ⟨rfl, .slice (some ⟨bk, o, none⟩) kids.length c, True, fun Γ H hΓ hH => ?_, ?_⟩
        · obtain ⟨mz, hz⟩ := hH;refine VO.imp hz ?_;exact kI (hΓ 77 Zd _ rfl) Zaq Zae
        refine ⟨rfl, .pointer (some ⟨bk, o, none⟩), True, fun Γ H hΓ hH => ?_, ?_⟩
        · obtain ⟨mz, hz⟩ := hH;refine VO.imp hz ?_;exact jf (hΓ 78 Zd _ rfl) rfl Zo Zz (VO.nil ⟨rfl, ⟨mz, Imp.refl _⟩, trivial⟩)
        refine ⟨rfl, .agg (us 0).toArray, True, fun Γ H hΓ hH => ?_, ?_⟩
        · obtain ⟨mz, hz⟩ := hH;refine VO.imp hz ?_;exact kL (hΓ 79 Zd _ rfl) Zah hyl Zae
        refine ⟨rfl, .pointer (some ⟨q, 1, none⟩), True, fun Γ H hΓ hH => ?_, ?_⟩
        · obtain ⟨mz, hz⟩ := hH;refine VO.imp hz ?_;exact kQ (hΓ 3 Zd _ rfl) rfl Zae
        refine ⟨rfl, .string s, True, fun Γ H hΓ hH => ?_, ?_⟩
        · obtain ⟨mz, hz⟩ := hH;refine VO.imp hz ?_;exact kI (hΓ 81 Zd _ rfl) Zaq Zae
        refine ⟨rfl, kN lb, True, fun Γ H hΓ hH => ?_, ?_⟩
        · obtain ⟨mz, hz⟩ := hH;refine VO.imp hz ?_;exact ka (hΓ 0 Zd _ rfl) Zae
        refine ⟨rfl, .pointer (some ⟨q, 1, none⟩), True, fun Γ H hΓ hH => ?_, ?_⟩
        · obtain ⟨mz, hz⟩ := hH;refine VO.imp hz ?_;exact kQ (hΓ 3 Zd _ rfl) rfl Zae
        refine ⟨rfl, .pointer (some ⟨q, 9, none⟩), True, fun Γ H hΓ hH => ?_, ?_⟩
        · obtain ⟨mz, hz⟩ := hH;refine VO.imp hz ?_;exact kQ (hΓ 3 Zd _ rfl) rfl Zae
        refine ⟨rfl, .slice (some ⟨bk, o, none⟩) kids.length c, True, fun Γ H hΓ hH => ?_, ?_⟩
        · obtain ⟨mz, hz⟩ := hH;refine VO.imp hz ?_;exact kI (hΓ 87 Zd _ rfl) Zaq Zae
        refine ⟨rfl, .string s, True, fun Γ H hΓ hH => ?_, ?_⟩
        · obtain ⟨mz, hz⟩ := hH;refine VO.imp hz ?_;exact kI (hΓ 85 Zd _ rfl) Zaq Zae
        refine ⟨rfl, vi dF, φF, fun Γ H hΓ hH => ?_, ?_⟩
        · obtain ⟨mz, hz⟩ := hH;refine VO.imp hz ?_;refine kG (hFz mz) Zar ZP (fun v Post hv => ?_) (fun ch Post hz => ?_)
          · obtain ⟨rfl, hφ, m', rfl⟩ := hv;exact VO.nil ⟨rfl, ⟨m', Imp.refl _⟩, hφ⟩
          · obtain ⟨rfl, m', rfl⟩ := hz;exact ⟨rfl, m', ZI⟩
        refine ⟨rfl, .slice (some ⟨bk, if c = 1 then o else o + 1 * 11, none⟩) (kids.length - 1) (c - 1), True, fun Γ H hΓ hH => ?_, ?_⟩
        · obtain ⟨mz, hz⟩ := hH;refine VO.imp hz ?_;exact w9 (hΓ 88 Zd _ rfl) rfl (l := 1) rfl Zo (VO.nil ⟨rfl, ⟨mz, Imp.refl _⟩, trivial⟩)
        refine ⟨rfl, vi dA, φA, fun Γ H hΓ hH => ?_, ?_⟩
        · obtain ⟨mz, hz⟩ := hH;refine VO.imp hz ?_;refine kG (hAz mz) Zas ZP (fun v Post hv => ?_) (fun ch Post hz => ?_)
          · obtain ⟨rfl, hφ, m', rfl⟩ := hv;exact VO.nil ⟨rfl, ⟨m', Imp.refl _⟩, hφ⟩
          · obtain ⟨rfl, m', rfl⟩ := hz;exact ⟨rfl, m', ZI⟩
        refine ⟨rfl, vi (max dF dA : Nat), True, fun Γ H hΓ hH => ?_, ?_⟩
        · obtain ⟨mz, hz⟩ := hH;refine VO.imp hz ?_;exact st_max Zat Zau (VO.nil ⟨rfl, ⟨mz, Imp.refl _⟩, trivial⟩)
        refine ⟨rfl, vi (max dF dA : Nat), True, fun Γ H hΓ hH => ?_, ?_⟩
        · obtain ⟨mz, hz⟩ := hH;refine VO.imp hz ?_;exact ka (hΓ 91 Zd _ rfl) Zae
        exact fun hh => by
          simp only [true_and, and_true] at hh;rcases hno with h1 | h1
          · exact hFφ hh.1 h1
          · exact hAφ hh.2 h1
      · cases hrs
    · obtain ⟨rfl, m, hi⟩ := hp;exact ⟨_, hi, hnone, rfl, m, rfl⟩
  obtain ⟨⟨dF, mF⟩, hf⟩ : ∃ p, we y s (kO y) = some p := Option.ne_none_iff_exists'.1 fun h => hno (.inl h)
  obtain ⟨⟨dA, mA⟩, hal2⟩ : ∃ p, argsR s l (l.map kO) = some p := Option.ne_none_iff_exists'.1 fun h => hno (.inr h)
  have hFf := look_some (hF m0) hf;have hAf := look_some (hA (m0 || mF)) hal2;refine VC.draws ⟨?_, ?_, ?_, ?_, ?_, ?_, trivial⟩
  · refine GOH ?_;refine kL Zr (fun z hz => by simp only [List.flatten_cons, List.mem_append];simp [hym z hz]) hyl ?_;refine GOH ?_;refine kD hFf Zr ZP (fun v Post hv => ?_);obtain ⟨rfl, rfl⟩ := hv;simp only [CNx];refine GOH ?_;refine w9 Zr Zr (l := 1) rfl Zo ?_;refine GOH ?_;refine kD hAf Zr ZP (fun v Post hv => ?_);obtain ⟨rfl, rfl⟩ := hv;simp only [CNx];refine GOH ?_;rw [show (if (dA : Int) > (dF : Int) then (dA : Int) else (dF : Int)) = ((max dF dA : Nat) : Int) by split <;> omega];refine ⟨⟨max dF dA, mF || mA, ⟨#[]⟩, lk, ln, lbt, lt, la, items.length, lc, aa, args.length, ac, ta, temps.length, tc⟩, ?_, ZU, ?_⟩
    · rw [hR4, hf, hal2];simp [je.ok, kK, wU, har, ji, Lt.kind, Lt.n, Lt.bits, Lt.text, Lt.items, show (⟨#[]⟩ : ByteArray).size = 0 from rfl];simp only [and_assoc]
    · simp only;rw [<- Bool.or_assoc];show Imp _ [A, lkA lb (m0 || mF || mA) deep, kA r 0 [cv 4, .string ⟨#[]⟩, cv lk, vi ln, uv lbt, .string lt, .slice la items.length lc, .slice aa args.length ac, .slice ta temps.length tc, .slice none 0 0, vi p]];exact IMx
  · refine GOH ?_;refine kL Zr (fun z hz => by simp only [List.flatten_cons, List.mem_append];simp [hym z hz]) hyl ?_;refine GOH ?_;refine kD hFf Zr ZP (fun v Post hv => ?_);obtain ⟨rfl, rfl⟩ := hv;simp only [CNx];refine GOH ?_;refine w9 Zr Zr (l := 1) rfl Zo ?_;refine GOH ?_;refine kD hAf Zr ZP (fun v Post hv => ?_);obtain ⟨rfl, rfl⟩ := hv;simp only [CNx];refine GOH ?_;rw [show (if (dA : Int) > (dF : Int) then (dA : Int) else (dF : Int)) = ((max dF dA : Nat) : Int) by split <;> omega];refine ⟨⟨max dF dA, mF || mA, ⟨#[]⟩, lk, ln, lbt, lt, la, items.length, lc, aa, args.length, ac, ta, temps.length, tc⟩, ?_, ZU, ?_⟩
    · rw [hR4, hf, hal2];simp [je.ok, kK, wU, har, ji, Lt.kind, Lt.n, Lt.bits, Lt.text, Lt.items, show (⟨#[]⟩ : ByteArray).size = 0 from rfl];simp only [and_assoc]
    · simp only;rw [<- Bool.or_assoc];show Imp _ [A, lkA lb (m0 || mF || mA) deep, kA r 0 [cv 4, .string ⟨#[]⟩, cv lk, vi ln, uv lbt, .string lt, .slice la items.length lc, .slice aa args.length ac, .slice ta temps.length tc, .slice none 0 0, vi p]];exact IMx
  · refine GOH ?_;refine kL Zr (fun z hz => by simp only [List.flatten_cons, List.mem_append];simp [hym z hz]) hyl ?_;refine GOH ?_;refine kD hFf Zr ZP (fun v Post hv => ?_);obtain ⟨rfl, rfl⟩ := hv;simp only [CNx];refine GOH ?_;refine w9 Zr Zr (l := 1) rfl Zo ?_;refine GOH ?_;refine kD hAf Zr ZP (fun v Post hv => ?_);obtain ⟨rfl, rfl⟩ := hv;simp only [CNx];refine GOH ?_;rw [show (if (dA : Int) > (dF : Int) then (dA : Int) else (dF : Int)) = ((max dF dA : Nat) : Int) by split <;> omega];refine ⟨⟨max dF dA, mF || mA, ⟨#[]⟩, lk, ln, lbt, lt, la, items.length, lc, aa, args.length, ac, ta, temps.length, tc⟩, ?_, ZU, ?_⟩
    · rw [hR4, hf, hal2];simp [je.ok, kK, wU, har, ji, Lt.kind, Lt.n, Lt.bits, Lt.text, Lt.items, show (⟨#[]⟩ : ByteArray).size = 0 from rfl];simp only [and_assoc]
    · simp only;rw [<- Bool.or_assoc];show Imp _ [A, lkA lb (m0 || mF || mA) deep, kA r 0 [cv 4, .string ⟨#[]⟩, cv lk, vi ln, uv lbt, .string lt, .slice la items.length lc, .slice aa args.length ac, .slice ta temps.length tc, .slice none 0 0, vi p]];exact IMx
  · refine GOH ?_;refine kL Zr (fun z hz => by simp only [List.flatten_cons, List.mem_append];simp [hym z hz]) hyl ?_;refine GOH ?_;refine kD hFf Zr ZP (fun v Post hv => ?_);obtain ⟨rfl, rfl⟩ := hv;simp only [CNx];refine GOH ?_;refine w9 Zr Zr (l := 1) rfl Zo ?_;refine GOH ?_;refine kD hAf Zr ZP (fun v Post hv => ?_);obtain ⟨rfl, rfl⟩ := hv;simp only [CNx];refine GOH ?_;rw [show (if (dA : Int) > (dF : Int) then (dA : Int) else (dF : Int)) = ((max dF dA : Nat) : Int) by split <;> omega];refine ⟨⟨max dF dA, mF || mA, ⟨#[]⟩, lk, ln, lbt, lt, la, items.length, lc, aa, args.length, ac, ta, temps.length, tc⟩, ?_, ZU, ?_⟩
    · rw [hR4, hf, hal2];simp [je.ok, kK, wU, har, ji, Lt.kind, Lt.n, Lt.bits, Lt.text, Lt.items, show (⟨#[]⟩ : ByteArray).size = 0 from rfl];simp only [and_assoc]
    · simp only;rw [<- Bool.or_assoc];show Imp _ [A, lkA lb (m0 || mF || mA) deep, kA r 0 [cv 4, .string ⟨#[]⟩, cv lk, vi ln, uv lbt, .string lt, .slice la items.length lc, .slice aa args.length ac, .slice ta temps.length tc, .slice none 0 0, vi p]];exact IMx
  · refine GOH ?_;refine kL Zr (fun z hz => by simp only [List.flatten_cons, List.mem_append];simp [hym z hz]) hyl ?_;refine GOH ?_;refine kD hFf Zr ZP (fun v Post hv => ?_);obtain ⟨rfl, rfl⟩ := hv;simp only [CNx];refine GOH ?_;refine w9 Zr Zr (l := 1) rfl Zo ?_;refine GOH ?_;refine kD hAf Zr ZP (fun v Post hv => ?_);obtain ⟨rfl, rfl⟩ := hv;simp only [CNx];refine GOH ?_;rw [show (if (dA : Int) > (dF : Int) then (dA : Int) else (dF : Int)) = ((max dF dA : Nat) : Int) by split <;> omega];refine ⟨⟨max dF dA, mF || mA, ⟨#[]⟩, lk, ln, lbt, lt, la, items.length, lc, aa, args.length, ac, ta, temps.length, tc⟩, ?_, ZU, ?_⟩
    · rw [hR4, hf, hal2];simp [je.ok, kK, wU, har, ji, Lt.kind, Lt.n, Lt.bits, Lt.text, Lt.items, show (⟨#[]⟩ : ByteArray).size = 0 from rfl];simp only [and_assoc]
    · simp only;rw [<- Bool.or_assoc];show Imp _ [A, lkA lb (m0 || mF || mA) deep, kA r 0 [cv 4, .string ⟨#[]⟩, cv lk, vi ln, uv lbt, .string lt, .slice la items.length lc, .slice aa args.length ac, .slice ta temps.length tc, .slice none 0 0, vi p]];exact IMx
  · refine GOH ?_;refine kL Zr (fun z hz => by simp only [List.flatten_cons, List.mem_append];simp [hym z hz]) hyl ?_;refine GOH ?_;refine kD hFf Zr ZP (fun v Post hv => ?_);obtain ⟨rfl, rfl⟩ := hv;simp only [CNx];refine GOH ?_;refine w9 Zr Zr (l := 1) rfl Zo ?_;refine GOH ?_;refine kD hAf Zr ZP (fun v Post hv => ?_);obtain ⟨rfl, rfl⟩ := hv;simp only [CNx];refine GOH ?_;rw [show (if (dA : Int) > (dF : Int) then (dA : Int) else (dF : Int)) = ((max dF dA : Nat) : Int) by split <;> omega];refine ⟨⟨max dF dA, mF || mA, ⟨#[]⟩, lk, ln, lbt, lt, la, items.length, lc, aa, args.length, ac, ta, temps.length, tc⟩, ?_, ZU, ?_⟩
    · rw [hR4, hf, hal2];simp [je.ok, kK, wU, har, ji, Lt.kind, Lt.n, Lt.bits, Lt.text, Lt.items, show (⟨#[]⟩ : ByteArray).size = 0 from rfl];simp only [and_assoc]
    · simp only;rw [<- Bool.or_assoc];show Imp _ [A, lkA lb (m0 || mF || mA) deep, kA r 0 [cv 4, .string ⟨#[]⟩, cv lk, vi ln, uv lbt, .string lt, .slice la items.length lc, .slice aa args.length ac, .slice ta temps.length tc, .slice none 0 0, vi p]];exact IMx
end Go.Proofs.YtmnmandpdadedaaGreatDoor

/-
  What is too much in a node, how deep it is, by the document.
-/
import Derived.Test.YtmnmandpdadedaaGreatDoorT12
import Derived.Test.YtmnmandpdadedaaGreatDoorV3
import Derived.Test.YtmnmandpdadedaaGreatDoorT6
import Derived.Test.YtmnmandpdadedaaGreatDoorT10
import Derived.Test.YtmnmandpdadedaaGreatDoorV4
import Derived.Test.YtmnmandpdadedaaGreatDoorT1
import Derived.Test.YtmnmandpdadedaaGreatDoorT9
set_option linter.unusedSimpArgs false
set_option linter.unusedVariables false
namespace Go.Proofs.YtmnmandpdadedaaGreatDoor
open Go Go.V
set_option maxHeartbeats 1600000
set_option maxRecDepth 100000
theorem Many_spec (A : List kE) : ∀ (N : Nat) (x : Nd), x.w <= N -> ∀ vs, kf A x vs -> Fun Tryz.prog 68 [.agg vs.toArray] [A] (fun v Post => v = .bool (jL x) /\ Post = [A]) := by
  intro N
  induction N with
  | zero => intro x hx;have := x.w_pos;omega
  | succ N ih =>
    intro x hx vs h;cases h with
    | @mk k s lit args temps kids p lv av tv a c bk o us wf hl hav htv ha hm hr hcp =>
    simp only [Nd.w] at hx;have hlit := litMany_spec A _ lit (Nat.le_refl _) lv hl;have hmany := wf.many;have hk256 := wf.kind;cases hl with
    | @mk lk ln lb lt items la lc lbk lo lus lwf lha lhm lhr =>
    obtain ⟨aa, ac, rfl, hal, har⟩ := hav;obtain ⟨ta, tc, rfl, htl, htr⟩ := htv;have hall : jL (.mk k s (.mk lk ln lb lt items) args temps kids p) = (((litM (.mk lk ln lb lt items) || decide (15 < args.length)) || decide (63 < temps.length)) || (((decide (k = 4) && decide (16 < kids.length)) || (decide (k = 6) && decide (15 < kids.length))) || (decide (k = 5) && decide (256 < kids.length))) || (decide (k = 8) && decide (255 < kids.length)) || kids.any jL) := by
      simp only [jL, manysN_eq, Bool.or_assoc]
    rw [hall];generalize litM (.mk lk ln lb lt items) = lm at hlit |-;refine Fun.intro low68 (by simp [n68]) ?_;simp only [CNx];refine j7 ?_;refine kS Zr (fun q => ?_);simp only [Value.cells];refine j7 ?_;refine kD hlit Zr ZP (fun v Post hv => ?_);obtain ⟨rfl, rfl⟩ := hv;simp only [CNx];refine j7 ?_;refine VC.join (α := Unit) (fun _ => [(1, kN q)]) (fun _ => [A, kA q 0 [cv k, .string s, cv lk, vi ln, uv lb, .string lt, .slice la items.length lc, .slice aa args.length ac, .slice ta temps.length tc, .slice a kids.length c, vi p]]) (fun _ => ((lm || decide (15 < args.length)) || decide (63 < temps.length)) = false) ?_ ?_
    · refine GOH ?_;cases lm with
      | true =>
        refine GOH ?_;exact kC (Post := [A]) (.inr rfl) (.tmp Zr .nil) ⟨by simp [tup], rfl⟩ ZI
      | false =>
        refine GOH ?_;by_cases h1 : 15 < args.length
        · skip
          rw [show decide ((args.length : Int) > 15) = true from Zt Zo];refine GOH ?_;exact kC (Post := [A]) (.inr rfl) (.tmp Zr .nil) ⟨by simp [tup, h1], rfl⟩ ZI
        rw [show decide ((args.length : Int) > 15) = false from Zf Zo];refine GOH ?_;by_cases h2 : 63 < temps.length
        · skip
          rw [show decide ((temps.length : Int) > 63) = true from Zt Zo];refine GOH ?_;exact kC (Post := [A]) (.inr rfl) (.tmp Zr .nil) ⟨by simp [tup, h2], rfl⟩ ZI
        rw [show decide ((temps.length : Int) > 63) = false from Zf Zo];refine GOH ?_;exact ⟨(), by simp [h1, h2], ZU, ZI⟩
    rintro ⟨⟩ hb1
    rw [hb1, Bool.false_or];refine GOH ?_;refine VO.bool 42 ((decide (k = 4) && decide (16 < kids.length)) || (decide (k = 6) && decide (15 < kids.length))) Zr ?_ ?_
    · by_cases k4 : k = 4
      · skip
        rw [show decide ((k : Int) = 4) = true from Zt Zo];refine GOH ?_;by_cases h1 : 16 < kids.length
        · skip
          rw [show decide ((kids.length : Int) > 16) = true from Zt Zo];refine GOH ?_;exact ⟨by simp [k4, h1], ZU, ZI⟩
        rw [show decide ((kids.length : Int) > 16) = false from Zf Zo];refine GOH ?_;rw [show decide ((k : Int) = 6) = false from Zf Zo];refine GOH ?_;exact ⟨by simp [k4, h1], ZU, ZI⟩
      rw [show decide ((k : Int) = 4) = false from Zf Zo];refine GOH ?_;by_cases k6 : k = 6
      · skip
        rw [show decide ((k : Int) = 6) = true from Zt Zo];refine GOH ?_;by_cases h1 : 15 < kids.length
        · skip
          rw [show decide ((kids.length : Int) > 15) = true from Zt Zo];refine GOH ?_;exact ⟨by simp [k6, h1], ZU, ZI⟩
        rw [show decide ((kids.length : Int) > 15) = false from Zf Zo];refine GOH ?_;exact ⟨by simp [k6, h1], ZU, ZI⟩
      rw [show decide ((k : Int) = 6) = false from Zf Zo];refine GOH ?_;exact ⟨by simp [k4, k6], ZU, ZI⟩
    generalize ((decide (k = 4) && decide (16 < kids.length)) || (decide (k = 6) && decide (15 < kids.length))) = b1;refine j7 ?_;refine VC.join (α := Unit) (fun _ => [(1, kN q)]) (fun _ => [A, kA q 0 [cv k, .string s, cv lk, vi ln, uv lb, .string lt, .slice la items.length lc, .slice aa args.length ac, .slice ta temps.length tc, .slice a kids.length c, vi p]]) (fun _ => ((b1 || (decide (k = 5) && decide (256 < kids.length))) || (decide (k = 8) && decide (255 < kids.length))) = false) ?_ ?_
    · refine GOH ?_;cases b1 with
      | true =>
        refine GOH ?_;exact kC (Post := [A]) (.inr rfl) (.tmp Zr .nil) ⟨by simp [tup], rfl⟩ ZI
      | false =>
        refine GOH ?_;refine VO.bool 54 (decide (k = 5) && decide (256 < kids.length)) Zr ?_ ?_
        · by_cases k5 : k = 5
          · skip
            rw [show decide ((k : Int) = 5) = true from Zt Zo];refine GOH ?_;by_cases h1 : 256 < kids.length
            · skip
              rw [show decide ((kids.length : Int) > 256) = true from Zt Zo];refine GOH ?_;exact ⟨by simp [k5, h1], ZU, ZI⟩
            rw [show decide ((kids.length : Int) > 256) = false from Zf Zo];refine GOH ?_;exact ⟨by simp [k5, h1], ZU, ZI⟩
          rw [show decide ((k : Int) = 5) = false from Zf Zo];refine GOH ?_;exact ⟨by simp [k5], ZU, ZI⟩
        generalize (decide (k = 5) && decide (256 < kids.length)) = b2;cases b2 with
        | true =>
          refine GOH ?_;exact kC (Post := [A]) (.inr rfl) (.tmp Zr .nil) ⟨by simp [tup], rfl⟩ ZI
        | false =>
          refine GOH ?_;by_cases k8 : k = 8
          · skip
            rw [show decide ((k : Int) = 8) = true from Zt Zo];refine GOH ?_;by_cases h1 : 255 < kids.length
            · skip
              rw [show decide ((kids.length : Int) > 255) = true from Zt Zo];refine GOH ?_;exact kC (Post := [A]) (.inr rfl) (.tmp Zr .nil) ⟨by simp [tup, k8, h1], rfl⟩ ZI
            rw [show decide ((kids.length : Int) > 255) = false from Zf Zo];refine GOH ?_;exact ⟨(), by simp [h1], ZU, ZI⟩
          rw [show decide ((k : Int) = 8) = false from Zf Zo];refine GOH ?_;exact ⟨(), by simp [k8], ZU, ZI⟩
    rintro ⟨⟩ hb2
    rw [hb2, Bool.false_or];refine GOH ?_;refine VC.loop (α := Nat) (Γf := fun j => [(1, kN q), (5, vi j)]) (Hf := fun _ => [A, kA q 0 [cv k, .string s, cv lk, vi ln, uv lb, .string lt, .slice la items.length lc, .slice aa args.length ac, .slice ta temps.length tc, .slice a kids.length c, vi p]])
      (I := fun j => j <= kids.length /\ (kids.take j).any jL = false) (μ := fun j => kids.length - j) 0 ⟨Nat.zero_le _, rfl⟩ ZU ZI ?_
    rintro j ⟨i1, i2⟩
    refine GOH ?_;by_cases hj : j < kids.length;rotate_left
    · rw [List.take_of_length_le Zo] at i2;rw [show decide ((j : Int) < (kids.length : Int)) = false from Zf Zo];refine GOH ?_;exact kC (Post := [A]) (.inr rfl) (.tmp Zr .nil) ⟨by rw [i2];rfl, rfl⟩ ZI
    rw [show decide ((j : Int) < (kids.length : Int)) = true from Zt Zo];obtain rfl := ha Zo;obtain ⟨y, hy⟩ : ∃ y, kids[j]? = some y := ⟨_, Zg hj⟩;have hyr := hr j y hy;have hym := hm j hj;have hyl := hyr.len;have hzw : y.w <= Nd.ws kids := Nd.ws_mem (Zv hy);have hcall := ih y Zo _ hyr;have htk : kids.take (j + 1) = kids.take j ++ [y] := by rw [List.take_add_one, hy];rfl
    generalize us j = uj at hyr hym hcall hyl;refine GOH ?_;refine kL Zr Zah hyl ?_;refine GOH ?_;refine kD hcall Zr ZP (fun v Post hv => ?_);obtain ⟨rfl, rfl⟩ := hv;simp only [CNx];cases hmy : jL y with
    | true =>
      have : kids.any jL = true := List.any_eq_true.2 ⟨y, Zv hy, hmy⟩;refine GOH ?_;exact kC (Post := [A]) (.inr rfl) (.tmp Zr .nil) ⟨by rw [this];rfl, rfl⟩ ZI
    | false =>
      refine GOH ?_;exact ⟨j + 1, ⟨Zo, by rw [htk];simp [i2, hmy]⟩, Zo, ZU, ZI⟩
end Go.Proofs.YtmnmandpdadedaaGreatDoor
namespace Go.Proofs.YtmnmandpdadedaaGreatDoor
open Go Go.V
set_option maxHeartbeats 1600000
set_option maxRecDepth 100000
theorem formsN_at {k m : Nat} : ∀ {l : List Nd} {i : Nat}, kh k m i l = true -> ∀ j y, l[j]? = some y -> jB y = true /\ kidB k m (i + j) y = true := by
  intro l
  induction l with
  | nil => intro i _ j y h;simp at h
  | cons z r ih =>
    intro i h j y hy;simp only [kh, Bool.and_eq_true] at h;cases j with
    | zero => cases hy;exact h.1
    | succ j =>
      have := ih h.2 j y (by simpa using hy)
      rwa [show i + 1 + j = i + (j + 1) by omega] at this
theorem form_kids {x : Nd} (h : jB x = true) : ∀ j y, x.kids[j]? = some y -> jB y = true /\ kidB x.kind x.kids.length j y = true := by
  cases x with
  | mk k s lit args temps kids p =>
  simp only [jB, Bool.and_eq_true] at h;intro j y hy;have := formsN_at h.2 j y hy
  rwa [Nat.zero_add] at this
theorem form_arity {x : Nd} (h : jB x = true) (hk : x.kind = 4 ∨ x.kind = 6) : 0 <= kR x.name := by
  cases x with
  | mk k s lit args temps kids p =>
  simp only [jB, Bool.and_eq_true] at h;have h1 := h.1.1;simp only [Nd.kind, Nd.name] at hk |-;rcases hk with rfl | rfl
  · simp [wO] at h1;exact h1.1.1
  · simp [wO] at h1;exact h1.1.1
theorem form_casc {x : Nd} (h : jB x = true) (hk : x.kind = 5) : ∃ y, x.kids[1]? = some y /\ y.kind = 6 /\ 0 <= kR y.name /\ askS x.kind x.name x.kids = y.name := by
  have hkids := form_kids h;cases x with
  | mk k s lit args temps kids p =>
  simp only [jB, Bool.and_eq_true] at h;have h1 := h.1.1;simp only [Nd.kind, Nd.name, Nd.kids] at hk hkids |-;subst hk;simp [wO] at h1;rcases kids with _ | ⟨y, _ | ⟨z, r⟩⟩
  · simp at h1
  · simp at h1
  · obtain ⟨g1, g2⟩ := hkids 1 z rfl;have g3 : z.kind = 6 := by simp [kidB] at g2;exact g2.2
    exact ⟨z, rfl, g3, form_arity g1 (.inr g3), rfl⟩
theorem asks_spec (A : List kE) (x : Nd) (vs : List Value) (h : kf A x vs) (hf : jB x = true) (i : Nat) : Fun Tryz.prog 140 [.agg vs.toArray, vi i] [A] (fun v Post => v = vi (asksN x.kind (askS x.kind x.name x.kids) i) /\ Post = [A]) := by
  obtain ⟨e1, e2, e3, e4, e5, e6, e7, e8, e9, e10, e11, e12, e13, a, cc, bk, o, us, hvs, hmany, ha, hm, hr⟩ := nd_at h;have hsz : x.name.size <= 140737488355328 := by cases h with | mk wf => exact wf.name
  have hk256 : x.kind < 256 := by cases h with | mk wf => exact wf.kind
  have har := @form_arity x hf;have hca := @form_casc x hf;have hask : ¬ x.kind = 5 -> askS x.kind x.name x.kids = x.name := fun e => if_neg e
  rw [hvs];generalize hS : askS x.kind x.name x.kids = S at hca hask |-;generalize x.kind = k at *;generalize x.name = s at *;refine Fun.intro low140 (by simp [n140]) ?_;refine j7 ?_;refine kS Zr (fun q => ?_);simp only [Value.cells];refine j7 ?_;refine VO.bool 16 (decide (i = 0) && decide (k = 4)) Zr ?_ ?_
  · by_cases i0 : i = 0
    · skip
      rw [show decide ((i : Int) = 0) = true from Zt Zo];refine GOH ?_;exact ⟨by simp only [Option.some.injEq, Value.bool.injEq, i0, decide_true, Bool.true_and];exact decide_eq_decide.2 ⟨fun h => by omega, fun h => by omega⟩, ZU, ZI⟩
    · skip
      rw [show decide ((i : Int) = 0) = false from Zf Zo];refine GOH ?_;exact ⟨by simp [i0], ZU, ZI⟩
  refine j7 ?_;refine VC.join (α := Unit) (fun _ => [(1, vi i), (2, kN q), (5, .string S), (6, .bool (decide (i = 0) && (decide (k = 4) || decide (k = 5))))]) (fun _ => [A, kA q 0 [cv k, .string s, cv e1, vi e2, uv e3, .string e4, .slice e5 e6 e7, .slice e8 e9 e10, .slice e11 e12 e13, .slice a x.kids.length cc, vi x.at_]]) (fun _ => S.size <= 140737488355328) ?_ ?_
  · refine GOH ?_;by_cases k5 : k = 5
    · obtain ⟨z, hz, hz6, hza, hSz⟩ := hca k5;have hl := (List.getElem?_eq_some_iff.1 hz).1;obtain rfl := ha Zo;have hzr := hr 1 z hz;have hzm := hm 1 hl;generalize us 1 = uj at hzr hzm;obtain ⟨f1, f2, f3, f4, f5, f6, f7, f8, f9, f10, f11, f12, f13, f14, f15, f16, f17, rfl, hys, hyk⟩ := km hzr;have hcell : kE.cell bk (o + 1 * 11 + 1) (.string z.name) ∈ A := hzm _ (kb.2 ⟨1, _, rfl, rfl⟩);rw [Nat.one_mul] at hcell;subst k5;refine GOH ?_;rw [hSz];refine ⟨(), hys, ?_, ZI⟩;rw [show decide ((i : Int) = 0) = (decide (i = 0) && (decide ((5 : Nat) = 4) || decide ((5 : Nat) = 5))) by simp];exact SUx
    · skip
      rw [show decide ((k : Int) = 5) = false from Zf Zo];refine GOH ?_;rw [hask k5] at *;refine ⟨(), hsz, ?_, ZI⟩;rw [Zf k5, Bool.or_false];exact SUx
  rintro ⟨⟩ hSs
  have hbind := fun h => bindR_spec S hSs h
  refine GOH ?_;refine VO.bool 38 ((decide (k = 4) && decide (0 < i)) || decide (k = 6)) Zr ?_ ?_
  · by_cases k4 : k = 4
    · skip
      rw [show decide ((k : Int) = 4) = true from Zt Zo];refine GOH ?_;by_cases i0 : 0 < i
      · skip
        rw [show decide ((i : Int) > 0) = true from Zt Zo];refine GOH ?_;exact ⟨by simp [k4, i0], ZU, ZI⟩
      rw [show decide ((i : Int) > 0) = false from Zf Zo];refine GOH ?_;rw [show decide ((k : Int) = 6) = false from Zf Zo];refine GOH ?_;exact ⟨by simp [k4, i0], ZU, ZI⟩
    rw [show decide ((k : Int) = 4) = false from Zf Zo];refine GOH ?_;exact ⟨by simp only [Option.some.injEq, Value.bool.injEq, k4, decide_false, Bool.false_and, Bool.false_or];exact decide_eq_decide.2 ⟨fun h => by omega, fun h => by omega⟩, ZU, ZI⟩
  have hSa : k = 4 ∨ k = 5 ∨ k = 6 -> 0 <= kR S := fun h => by
    by_cases k5 : k = 5
    · obtain ⟨z, _, _, hza, hSz⟩ := hca k5;rw [hSz];exact hza
    · rw [hask k5];exact har Zo
  have hd : asksN k S i = if (decide (i = 0) && (decide (k = 4) || decide (k = 5))) = true then (if zf S = 5 then 5 else 4) else if ((decide (k = 4) && decide (0 < i)) || decide (k = 6)) = true then (if zf S = 4 then 5 else 4) else 1 := by
    unfold asksN;simp
  have hr1 : (decide (i = 0) && (decide (k = 4) || decide (k = 5))) = true -> 0 <= kR S := fun h => by
    simp only [Bool.and_eq_true, Bool.or_eq_true, decide_eq_true_eq] at h;exact hSa Zo
  have hr2 : ((decide (k = 4) && decide (0 < i)) || decide (k = 6)) = true -> 0 <= kR S := fun h => by
    simp only [Bool.and_eq_true, Bool.or_eq_true, decide_eq_true_eq] at h;exact hSa Zo
  rw [hd];generalize (decide (i = 0) && (decide (k = 4) || decide (k = 5))) = b1 at hr1 |-;generalize ((decide (k = 4) && decide (0 < i)) || decide (k = 6)) = b2 at hr2 |-;cases b1 with
  | true =>
    have hbind := hbind (hr1 rfl);generalize zf S = bs at hbind |-;refine GOH ?_;refine kH hbind Zr ?_;by_cases h5 : bs = 5
    · subst h5;refine GOH ?_;exact kC (Post := [A]) (.inr rfl) (.tmp Zr .nil) ⟨by simp [tup], rfl⟩ ZI
    · refine GOH ?_;rw [show decide ((bs : Int) = 5) = false from Zf Zo];refine GOH ?_;exact kC (Post := [A]) (.inr rfl) (.tmp Zr .nil) ⟨by simp [tup, h5], rfl⟩ ZI
  | false =>
    cases b2 with
    | true =>
      have hbind := hbind (hr2 rfl);generalize zf S = bs at hbind |-;refine GOH ?_;refine kH hbind Zr ?_;by_cases h5 : bs = 4
      · subst h5;refine GOH ?_;exact kC (Post := [A]) (.inr rfl) (.tmp Zr .nil) ⟨by simp [tup], rfl⟩ ZI
      · refine GOH ?_;rw [show decide ((bs : Int) = 4) = false from Zf Zo];refine GOH ?_;exact kC (Post := [A]) (.inr rfl) (.tmp Zr .nil) ⟨by simp [tup, h5], rfl⟩ ZI
    | false =>
      refine GOH ?_;exact kC (Post := [A]) (.inr rfl) (.tmp Zr .nil) ⟨by simp [tup], rfl⟩ ZI
end Go.Proofs.YtmnmandpdadedaaGreatDoor
namespace Go.Proofs.YtmnmandpdadedaaGreatDoor
open Go Go.V
set_option maxHeartbeats 1600000
set_option maxRecDepth 100000
theorem bracketed_spec (A : List kE) (x : Nd) (vs : List Value) (h : kf A x vs) (hf : jB x = true) (i : Nat) (y : Nd) (hy : x.kids[i]? = some y) : Fun Tryz.prog 110 [.agg vs.toArray, vi i] [A] (fun v Post => v = .bool (brkB x.kind (askS x.kind x.name x.kids) i y) /\ Post = [A]) := by
  obtain ⟨e1, e2, e3, e4, e5, e6, e7, e8, e9, e10, e11, e12, e13, a, cc, bk, o, us, hvs, hmany, ha, hm, hr⟩ := nd_at h;have hl := (List.getElem?_eq_some_iff.1 hy).1;obtain rfl := ha Zo;have hyr := hr i y hy;have hym := hm i hl;obtain ⟨hyf, _⟩ := form_kids hf i y hy;have har := fun e => @form_arity y hyf (.inl e)
  generalize us i = uj at hyr hym;obtain ⟨f1, f2, f3, f4, f5, f6, f7, f8, f9, f10, f11, f12, f13, f14, f15, f16, f17, rfl, hys, hyk⟩ := km hyr;have hlev := levelR_spec y.kind y.name hys har (cv f1) (vi f2) (uv f3) (.string f4) (.slice f5 f6 f7) (.slice f8 f9 f10) (.slice f11 f12 f13) (.slice f14 f15 f16) (vi f17);have hlv : zl y.kind y.name = jU y := rfl;rw [hlv] at hlev;have hask := asks_spec A x vs h hf i;unfold brkB;rw [hvs] at hask |-;generalize asksN x.kind (askS x.kind x.name x.kids) i = ak at hask |-;generalize jU y = lv at hlev |-;refine Fun.intro low110 (by simp [n110]) ?_;refine j7 ?_;refine kS Zr (fun q => ?_);simp only [Value.cells];refine j7 ?_;refine kL Zr (fun z hz => List.mem_append_right _ (Zw _ (hym z hz))) rfl ?_;refine j7 ?_;refine kP (fun q6 => ?_);refine j7 ?_;refine VC.join (α := Unit) (fun _ => [(1, vi i), (2, kN q), (5, kN q6)]) (fun _ => [A, kA q 0 [cv x.kind, .string x.name, cv e1, vi e2, uv e3, .string e4, .slice e5 e6 e7, .slice e8 e9 e10, .slice e11 e12 e13, .slice (some ⟨bk, o, none⟩) x.kids.length cc, vi x.at_], kA q6 0 [cv y.kind, .string y.name, cv f1, vi f2, uv f3, .string f4, .slice f5 f6 f7, .slice f8 f9 f10, .slice f11 f12 f13, .slice f14 f15 f16, vi f17]]) (fun _ => y.kind ≠ 6 /\ y.kind ≠ 9) ?_ ?_
  · refine GOH ?_;by_cases k6 : y.kind = 6
    · skip
      rw [show decide ((y.kind : Int) = 6) = true from Zt Zo];refine GOH ?_;exact kC (Post := [A]) (.inr rfl) (.tmp Zr .nil) ⟨by simp [tup, k6], rfl⟩ ZI
    rw [show decide ((y.kind : Int) = 6) = false from Zf Zo];refine GOH ?_;by_cases k9 : y.kind = 9
    · skip
      rw [show decide ((y.kind : Int) = 9) = true from Zt Zo];refine GOH ?_;exact kC (Post := [A]) (.inr rfl) (.tmp Zr .nil) ⟨by simp [tup, k9], rfl⟩ ZI
    rw [show decide ((y.kind : Int) = 9) = false from Zf Zo];refine GOH ?_;exact ⟨(), ⟨k6, k9⟩, ZU, ZI⟩
  rintro ⟨⟩ ⟨k6, k9⟩
  refine GOH ?_;refine VC.seq_draws (α := Unit) (fun _ => [(4, .bool (decide (lv < ak)))]) (fun _ => [A]) (fun _ => True) ⟨?_, ?_, trivial⟩ ?_;rotate_left 2
  · rintro ⟨⟩ _
    refine GOH ?_;exact kC (Post := [A]) (.inr rfl) (.tmp Zr .nil) ⟨by simp [tup, k6, k9], rfl⟩ ZI
  all_goals
    refine GOH ?_;refine kH hlev Zr ?_;refine GOH ?_;refine kD hask Zr ZP (fun v Post hv => ?_);obtain ⟨rfl, rfl⟩ := hv;simp only [CNx];refine GOH ?_;refine ⟨(), trivial, ?_, ZI⟩;rw [show decide ((lv : Int) < (ak : Int)) = decide (lv < ak) from decide_eq_decide.2 ⟨fun h => by omega, fun h => by omega⟩];exact SUx
theorem deepN_le {x : Nd} (h : jB x = true) : jO x <= 2 * x.w := by
  have h1 := nodeD_law _ x (Nat.le_refl _);rw [h] at h1;exact nodeD_le _ x (Nat.le_refl _) (jO x) (jL x) h1
theorem Deep_spec (A : List kE) : ∀ (N : Nat) (x : Nd), x.w <= N -> x.w <= 274877906944 -> jB x = true -> ∀ vs, kf A x vs -> Fun Tryz.prog 69 [.agg vs.toArray] [A] (fun v Post => v = vi (jO x) /\ Post = [A]) := by
  intro N
  induction N with
  | zero => intro x hx;have := x.w_pos;omega
  | succ N ih =>
    intro x hx hb hf vs h;have hdle := deepN_le hf;have hbrk := fun i y hy => bracketed_spec A x vs h hf i y hy
    have hkids := form_kids hf;cases h with
    | @mk k s lit args temps kids p lv av tv a c bk o us wf hl hav htv ha hm hr hcp =>
    simp only [Nd.kind, Nd.name, Nd.kids] at hbrk hkids;simp only [jO] at hdle |-;simp only [Nd.w] at hx hb hdle;have hmany := wf.many;have hk256 := wf.kind;have hlit := litDepth_spec A _ lit (Nat.le_refl _) Zo lv hl;cases hl with
    | @mk lk ln lb lt items la lc lbk lo lus lwf lha lhm lhr =>
    obtain ⟨aa, ac, rfl, hal, har⟩ := hav;obtain ⟨ta, tc, rfl, htl, htr⟩ := htv;generalize hS : askS k s kids = S at hbrk hdle |-;generalize wh (.mk lk ln lb lt items) = ld at hlit hdle |-;generalize hT : max ld (jV k S 0 kids) = T at hdle |-;have hd01 : (if k = 7 ∨ k = 8 then 1 else 0) <= 1 := by split <;> omega
    simp only [CNx] at hbrk |-;refine Fun.intro low69 (by simp [n69]) ?_;refine j7 ?_;refine kS Zr (fun q => ?_);simp only [Value.cells];refine j7 ?_;refine kD hlit Zr ZP (fun v Post hv => ?_);obtain ⟨rfl, rfl⟩ := hv;simp only [CNx];refine j7 ?_;refine VC.join (α := Unit) (fun _ => [(1, kN q), (3, vi T)]) (fun _ => [A, kA q 0 [cv k, .string s, cv lk, vi ln, uv lb, .string lt, .slice la items.length lc, .slice aa args.length ac, .slice ta temps.length tc, .slice a kids.length c, vi p]]) (fun _ => True) ?_ ?_
    · refine GOH ?_;refine VC.loop (α := Nat × Nat) (Γf := fun z => [(1, kN q), (3, vi z.2), (4, vi z.1)]) (Hf := fun _ => [A, kA q 0 [cv k, .string s, cv lk, vi ln, uv lb, .string lt, .slice la items.length lc, .slice aa args.length ac, .slice ta temps.length tc, .slice a kids.length c, vi p]])
        (I := fun z => z.1 <= kids.length /\ max z.2 (jV k S z.1 (kids.drop z.1)) = T) (μ := fun z => kids.length - z.1) (0, ld) ⟨Nat.zero_le _, hT⟩ ZU ZI ?_
      rintro ⟨j, M⟩ ⟨i1, i2⟩
      simp only at i1 i2;dsimp only;refine GOH ?_;by_cases hj : j < kids.length;rotate_left
      · rw [List.drop_eq_nil_of_le Zo] at i2;simp only [jV, Nat.max_zero] at i2;subst i2;rw [show decide ((j : Int) < (kids.length : Int)) = false from Zf Zo];refine GOH ?_;exact ⟨(), trivial, ZU, ZI⟩
      rw [show decide ((j : Int) < (kids.length : Int)) = true from Zt Zo];obtain rfl := ha Zo;obtain ⟨y, hy⟩ : ∃ y, kids[j]? = some y := ⟨_, Zg hj⟩;have hyr := hr j y hy;have hym := hm j hj;have hyl := hyr.len;have hzw : y.w <= Nd.ws kids := Nd.ws_mem (Zv hy);have hyf := (hkids j y hy).1;have hcall := ih y Zo Zo hyf _ hyr;have hbr := hbrk j y hy;have hyd := deepN_le hyf;have hdrop : kids.drop j = y :: kids.drop (j + 1) := by
        obtain ⟨h1, h2⟩ := List.getElem?_eq_some_iff.1 hy;rw [List.drop_eq_getElem_cons h1, h2]
      rw [hdrop] at i2;simp only [jV] at i2;generalize us j = uj at hyr hym hcall hyl;generalize jO y = d at hcall hyd i2;generalize brkB k S j y = br at hbr i2;refine GOH ?_;refine kL Zr Zah hyl ?_;refine GOH ?_;refine kD hcall Zr ZP (fun v Post hv => ?_);obtain ⟨rfl, rfl⟩ := hv;simp only [CNx];refine GOH ?_;refine kD hbr Zr ZP (fun v Post hv => ?_);obtain ⟨rfl, rfl⟩ := hv;simp only [CNx];cases br with
      | true =>
        simp only [if_true] at i2;refine GOH ?_;by_cases hd : M < d + 1
        · skip
          rw [show decide ((d : Int) + 1 > (M : Int)) = true from Zt Zo];refine GOH ?_;exact ⟨(j + 1, d + 1), ⟨by simp only;omega, by simp only;omega⟩, by simp only;omega, ZU, ZI⟩
        · skip
          rw [show decide ((d : Int) + 1 > (M : Int)) = false from Zf Zo];refine GOH ?_;exact ⟨(j + 1, M), ⟨by simp only;omega, by simp only;omega⟩, by simp only;omega, ZU, ZI⟩
      | false =>
        simp only [Bool.false_eq_true, if_false] at i2;refine GOH ?_;by_cases hd : M < d
        · skip
          rw [show decide ((d : Int) > (M : Int)) = true from Zt Zo];refine GOH ?_;exact ⟨(j + 1, d), ⟨by simp only;omega, by simp only;omega⟩, by simp only;omega, ZU, ZI⟩
        · skip
          rw [show decide ((d : Int) > (M : Int)) = false from Zf Zo];refine GOH ?_;exact ⟨(j + 1, M), ⟨by simp only;omega, by simp only;omega⟩, by simp only;omega, ZU, ZI⟩
    rintro ⟨⟩ _
    refine GOH ?_;by_cases k7 : k = 7
    · skip
      rw [show decide ((k : Int) = 7) = true from Zt Zo];refine GOH ?_;exact kC (Post := [A]) (.inr rfl) (.tmp Zr .nil) ⟨by simp [tup, k7], rfl⟩ ZI
    rw [show decide ((k : Int) = 7) = false from Zf Zo];refine GOH ?_;by_cases k8 : k = 8
    · skip
      rw [show decide ((k : Int) = 8) = true from Zt Zo];refine GOH ?_;exact kC (Post := [A]) (.inr rfl) (.tmp Zr .nil) ⟨by simp [tup, k8], rfl⟩ ZI
    rw [show decide ((k : Int) = 8) = false from Zf Zo];refine GOH ?_;exact kC (Post := [A]) (.inr rfl) (.tmp Zr .nil) ⟨by simp [tup, k7, k8], rfl⟩ ZI
end Go.Proofs.YtmnmandpdadedaaGreatDoor
namespace Go.Proofs.YtmnmandpdadedaaGreatDoor
open Go Go.V
set_option maxHeartbeats 1600000
set_option maxRecDepth 100000
theorem expression_spec (k : Nat) (s : ByteArray) (hk256 : k < 256) (c2 c3 c4 c5 c6 c7 c8 c9 c10 : Value) : Fun Tryz.prog 80 [.agg #[cv k, .string s, c2, c3, c4, c5, c6, c7, c8, c9, c10]] [] (fun v Post => v = .bool (!wJ k s && decide (k ≠ 9 /\ k ≠ 6)) /\ Post = []) := by
  refine Fun.intro low80 (by simp [n80]) ?_;have hsu := superR_spec k s c2 c3 c4 c5 c6 c7 c8 c9 c10;generalize wJ k s = su at hsu |-;refine GOH ?_;refine kS Zr (fun q => ?_);simp only [Value.cells];refine GOH ?_;by_cases k6 : k = 6
  · skip
    rw [show decide ((k : Int) = 6) = true from Zt Zo];refine GOH ?_;exact kC (Post := []) (.inr rfl) (.tmp Zr .nil) ⟨by simp [tup, k6], rfl⟩ ZI
  rw [show decide ((k : Int) = 6) = false from Zf Zo];refine GOH ?_;by_cases k9 : k = 9
  · skip
    rw [show decide ((k : Int) = 9) = true from Zt Zo];refine GOH ?_;exact kC (Post := []) (.inr rfl) (.tmp Zr .nil) ⟨by simp [tup, k9], rfl⟩ ZI
  rw [show decide ((k : Int) = 9) = false from Zf Zo];refine GOH ?_;refine kH hsu Zr ?_;refine GOH ?_;exact kC (Post := []) (.inr rfl) (.tmp Zr .nil) ⟨by simp [tup, k6, k9], rfl⟩ ZI
end Go.Proofs.YtmnmandpdadedaaGreatDoor
namespace Go.Proofs.YtmnmandpdadedaaGreatDoor
open Go Go.V
set_option maxHeartbeats 3200000
set_option maxRecDepth 100000
abbrev rowsN (f : List NV) : List Value := f.flatMap fun p => p.2
end Go.Proofs.YtmnmandpdadedaaGreatDoor
namespace Go.Proofs.YtmnmandpdadedaaGreatDoor
open Go Go.V
set_option maxHeartbeats 3200000
set_option maxRecDepth 100000
theorem roomNode_spec (A : List kE) : ∀ (N : Nat) (x : Nd), x.w <= N -> ∀ vs, NdLen A x vs -> Fun Tryz.prog 57 [.agg vs.toArray] [A] (fun v Post => v = .bool true /\ Post = [A]) := by
  intro N
  induction N with
  | zero => intro x hx;have := x.w_pos;omega
  | succ N ih =>
    intro x hx vs h;cases h with
    | @mk k s lit args temps kids p lv av tv c bk us wf hl hav htv hm hr hroom hc =>
    simp only [Nd.w] at hx;have hmany := wf.many;have hlit := roomLit_spec A _ lit (Nat.le_refl _) lv hl;have hwa := zM A av args hav;have hwt := zM A tv temps htv;obtain ⟨le, lc, hle⟩ := jx hl.rd;obtain ⟨aa, ac, rfl, _⟩ := hav;obtain ⟨ta, tc, rfl, _⟩ := htv;rw [hle] at hlit |-;refine Fun.intro low57 (by simp [n57]) ?_;simp only [CNx];refine GOH ?_;refine kS Zr (fun q => ?_);simp only [Value.cells];refine GOH ?_;refine st_slcL (l := 0) (h := kids.length + 1) (o' := 0) Zr .dft (.num Zr) ⟨Zo, Zo⟩ (by split <;> omega) ?_;refine GOH ?_;refine kD hlit Zr ZP (fun v Post hv => ?_);obtain ⟨rfl, rfl⟩ := hv;simp only [CNx];refine GOH ?_;refine kD hwa Zr ZP (fun v Post hv => ?_);obtain ⟨rfl, rfl⟩ := hv;simp only [CNx];refine GOH ?_;refine kD hwt Zr ZP (fun v Post hv => ?_);obtain ⟨rfl, rfl⟩ := hv;simp only [CNx];refine GOH ?_;refine VC.loop (α := Nat) (Γf := fun j => [(1, kN q), (7, .bool true), (8, vi j)]) (Hf := fun _ => [A, kA q 0 [cv k, .string s, cv lit.kind, vi lit.n, uv lit.bits, .string lit.text, .slice le lit.items.length lc, .slice (some ⟨aa, 0, none⟩) args.length ac, .slice (some ⟨ta, 0, none⟩) temps.length tc, .slice (some ⟨bk, 0, none⟩) kids.length c, vi p]]) (I := fun j => j <= kids.length) (μ := fun j => kids.length - j) 0 (Nat.zero_le _) ZU ZI ?_
    rintro j i1
    refine GOH ?_;by_cases hj : j < kids.length;rotate_left
    · skip
      rw [show decide ((j : Int) < (kids.length : Int)) = false from Zf Zo];refine GOH ?_;exact kC (Post := [A]) (.inr rfl) (.tmp Zr .nil) ⟨rfl, rfl⟩ ZI
    rw [show decide ((j : Int) < (kids.length : Int)) = true from Zt Zo];obtain ⟨y, hy⟩ : ∃ y, kids[j]? = some y := ⟨_, Zg hj⟩;have hym := hm j hj;have hyr := hr j y hy;have h1 := Nd.ws_mem (Zv hy);have hcall := ih y Zo _ hyr;have hyl := hyr.len;generalize us j = uj at *;refine GOH ?_;refine kL Zr Zah hyl ?_;refine GOH ?_;refine kD hcall Zr ZP (fun v Post hv => ?_);obtain ⟨rfl, rfl⟩ := hv;simp only [CNx];refine GOH ?_;exact ⟨j + 1, Zo, Zo, ZU, ZI⟩
end Go.Proofs.YtmnmandpdadedaaGreatDoor
namespace Go.Proofs.YtmnmandpdadedaaGreatDoor
open Go Go.V
set_option maxHeartbeats 3200000
set_option maxRecDepth 100000
def MdLen (A : List kE) (x : Md) (vs : List Value) : Prop := ∃ (av tv : Value) (c bk : Nat) (us : Nat -> List Value), vs = [.string x.sel, av, tv, vi x.prim, .slice (some ⟨bk, 0, none⟩) x.body.length c] /\ TxLen A av x.args /\ TxLen A tv x.temps /\ (∀ i, i < x.body.length -> ∀ y ∈ kA bk (i * 11) (us i), y ∈ A) /\ (∀ i y, x.body[i]? = some y -> NdLen A y (us i)) /\ kE.cell bk (x.body.length * 11 + 10) (vi (-771)) ∈ A /\ x.body.length + 1 <= c /\ x.body.length <= 140737488355328 /\ x.sel.size <= 140737488355328 /\ (-9223372036854775808 <= x.prim /\ x.prim <= 9223372036854775807)
theorem MdLen.more {A B : List kE} (hs : ∀ z ∈ A, z ∈ B) {x : Md} {vs : List Value} (h : MdLen A x vs) : MdLen B x vs := by
  obtain ⟨av, tv, c, bk, us, h1, h2, h3, h4, h5, h6, h7⟩ := h;exact ⟨av, tv, c, bk, us, h1, h2.more hs, h3.more hs, fun i hi y hy => hs _ (h4 i hi y hy), fun i y e => (h5 i y e).more hs, hs _ h6, h7⟩
theorem MdLen.rd {A : List kE} {x : Md} {vs : List Value} (h : MdLen A x vs) : MdW A x vs := by
  obtain ⟨av, tv, c, bk, us, rfl, h2, h3, h4, h5, h6, h7, h8, h9, h10⟩ := h;have r2 := h2.rd;have r3 := h3.rd;obtain ⟨ab, ac, rfl, _⟩ := h2;obtain ⟨tb, tc, rfl, _⟩ := h3;exact ⟨⟨_, _, _, _, _, _, bk, 0, us, rfl, r2, r3, ⟨fun _ => rfl, h8, fun i hi y hy => h4 i hi y (by rwa [Nat.zero_add] at hy), fun i y e => (h5 i y e).rd⟩⟩, h9, h10⟩
theorem LendMethod_spec (A : List kE) (x : Md) (hw : Nd.ws x.body <= 274877906944) (hal : x.args.length <= 1099511627776) (htl : x.temps.length <= 1099511627776) (vs : List Value) (h : MdW A x vs) : Fun Tryz.prog 12 [.agg vs.toArray] [A] (fun v Post => ∃ ws B, v = .agg ws.toArray /\ (MdLen B x ws /\ MdOwn x ws B) /\ Post = [A, B]) := by
  obtain ⟨⟨aa, ac, ta, tc, a, c, bk, o, us, rfl, hav, htv, hk⟩, hsel, hprim⟩ := h;obtain ⟨ha, hmany, hm, hr⟩ := hk;have hge := ws_ge x.body;have hca := zm A _ x.args hav hal;have hct := zm A _ x.temps htv htl;refine Fun.intro low12 (by simp [n12]) ?_;refine GOH ?_;refine kS Zr (fun q => ?_);refine kP (fun q2 => ?_);simp only [Value.cells];refine GOH ?_;refine st_mkslice (li := (x.body.length : Int) + 1) (ci := (x.body.length : Int) + 1) Zr Zr Zo Zr (fun db => ?_);rw [show ((x.body.length : Int) + 1).toNat = x.body.length + 1 by omega];have hz := wK (x.body.length + 1) [Value.int .u8 0, .string ⟨#[]⟩, .int .u8 0, .int .i64 0, .int .u64 0, .string ⟨#[]⟩, .slice none 0 0, .slice none 0 0, .slice none 0 0, .slice none 0 0, .int .i64 0];generalize kd (x.body.length + 1) [Value.int .u8 0, .string ⟨#[]⟩, .int .u8 0, .int .i64 0, .int .u64 0, .string ⟨#[]⟩, .slice none 0 0, .slice none 0 0, .slice none 0 0, .slice none 0 0, .int .i64 0] = tl0 at hz |-;simp only [List.length_cons, List.length_nil, Nat.zero_add, Nat.reduceAdd] at hz;refine GOH ?_;refine VC.loop (α := Nat × List (List Value) × List Value × List kE) (Γf := fun z => [(1, kN q), (2, kN q2), (3, .slice (some ⟨db, 0, none⟩) (x.body.length + 1) (x.body.length + 1)), (4, vi z.1)]) (Hf := fun z => [A, kA q 0 [.string x.sel, .slice aa x.args.length ac, .slice ta x.temps.length tc, vi x.prim, .slice a x.body.length c], kA q2 0 [.string ⟨#[]⟩, .slice none 0 0, .slice none 0 0, .int .i64 0, .slice none 0 0], kA db 0 (z.2.1.flatten ++ z.2.2.1), z.2.2.2])
    (I := fun z => z.1 <= x.body.length /\ zC (x.body.take z.1) z.2.1 z.2.2.2 /\ z.2.2.1.length = (x.body.length + 1 - z.1) * 11 /\ jl (x.body.take z.1) z.2.1 z.2.2.2) (μ := fun z => x.body.length - z.1) (0, [], tl0, []) ⟨Nat.zero_le _, zC.nil, by simpa using hz, jl.nil⟩ ZU (Imp.cut (M := [A, kA q 0 [.string x.sel, .slice aa x.args.length ac, .slice ta x.temps.length tc, vi x.prim, .slice a x.body.length c], kA q2 0 [.string ⟨#[]⟩, .slice none 0 0, .slice none 0 0, .int .i64 0, .slice none 0 0], kA db 0 tl0]) ZI (Imp.perm Zs)) ?_
  rintro ⟨j, rows, tl, K⟩ ⟨i1, i2, i3, i4⟩
  simp only at i1 i2 i3 i4;dsimp only;have hrl : rows.length = j := by rw [i2.1, List.length_take];omega
  have hfl := jJ i2.2.1;rw [hrl] at hfl;refine GOH ?_;by_cases hj : j < x.body.length
  · obtain rfl := ha Zo;rw [show decide ((j : Int) < (x.body.length : Int)) = true from Zt Zo];obtain ⟨y, hy⟩ : ∃ y, x.body[j]? = some y := ⟨_, Zg hj⟩;have hym := hm j hj;have hyr := hr j y hy;have h1 := Nd.ws_mem (Zv hy);have hcall := LendNode_spec A _ y (Nat.le_refl _) Zo _ hyr;have hyl := hyr.len;generalize us j = uj at *;refine GOH ?_;refine kL Zr Zah hyl ?_;refine GOH ?_;refine kD hcall Zr ZP (fun v Post hv => ?_);obtain ⟨ws, B2, rfl, hw, rfl⟩ := hv;simp only [CNx];have hwl := hw.1.len;have hsn := i2.snoc hw.1;have hsn2 := i4.snoc hw.2;rw [show x.body.take j ++ [y] = x.body.take (j + 1) by rw [List.take_add_one, hy];rfl] at hsn hsn2;obtain ⟨f1, f2, f3, f4, f5, f6, f7, f8, f9, f10, f11, f12, f13, f14, f15, f16, f17, hwe, _, _⟩ := km hw.1.rd;have hupd := row_upd (tl := tl) hfl hwl;refine GOH ?_;refine jD (us := ws) Zr Zr Zr hwl (by rw [hwe];rfl) (Upd.there (Upd.there (Upd.there (Upd.there (Upd.cells (k := j * 11) (o := 0) (vs := rows.flatten ++ tl) (us := ws) (Nat.zero_le _) (by rw [List.length_append];omega) hupd))))) ?_;refine GOH ?_;refine ⟨(j + 1, rows ++ [ws], tl.drop 11, K ++ B2), ⟨by simp only;omega, hsn, by simp only [List.length_drop];omega, hsn2⟩, by simp only;omega, ZU, ?_⟩;simp only;refine Imp.cut (M := [A, kA q 0 [.string x.sel, .slice aa x.args.length ac, .slice ta x.temps.length tc, vi x.prim, (.slice (some ⟨bk, o, none⟩) x.body.length c)], kA q2 0 [.string ⟨#[]⟩, .slice none 0 0, .slice none 0 0, .int .i64 0, .slice none 0 0], kA db 0 ((rows ++ [ws]).flatten ++ tl.drop 11), K, B2]) ZI (Imp.perm Zs)
  obtain rfl : j = x.body.length := by omega
  rw [List.take_length] at i2 i4;have hlen : (rows.flatten ++ tl).length = x.body.length * 11 + 11 := by rw [List.length_append];omega
  have hset : (rows.flatten ++ tl).set (x.body.length * 11 + 10) (vi (-771)) = rows.flatten ++ tl.set 10 (vi (-771)) := by
    rw [List.set_append_right _ _ Zo, hfl, Nat.add_sub_cancel_left]
  have hsl : ku 11 (.slice (some ⟨db, 0, none⟩) x.body.length (x.body.length + 1)) x.body.length rows.flatten (tl.set 10 (vi (-771))) := .mk hfl (by rw [List.length_set];omega) Zo;have hrow := fun i hi => set_row (b := db) (f := 10) (tl := tl) (u := vi (-771)) i2.2.1 i2.1 (zC.row i2 (i := i) hi)
  have hroom : kE.cell db (x.body.length * 11 + 10) (vi (-771)) ∈ kA db 0 ((rows.flatten ++ tl).set (x.body.length * 11 + 10) (vi (-771))) := set_room Zo;rw [show decide ((x.body.length : Int) < (x.body.length : Int)) = false from Zf Zo];refine GOH ?_;refine jD Zr Zr Zr Zr Zr (Upd.there (Upd.there (Upd.there (Upd.set1 (i := x.body.length * 11 + 10) (Nat.zero_add _) Zo)))) ?_;change VO _ _ _ _ [A, _, _, kA db 0 ((rows.flatten ++ tl).set (x.body.length * 11 + 10) (vi (-771))), K] _ _;have hslA : slA (.slice (some ⟨db, 0, none⟩) x.body.length (x.body.length + 1)) rows.flatten (tl.set 10 (vi (-771))) = kA db 0 ((rows.flatten ++ tl).set (x.body.length * 11 + 10) (vi (-771))) := by rw [hset];rfl
  generalize kA db 0 ((rows.flatten ++ tl).set (x.body.length * 11 + 10) (vi (-771))) = SL at hrow hroom hslA |-;refine GOH ?_;refine VC.imp (H' := [kA q 0 [.string x.sel, .slice aa x.args.length ac, .slice ta x.temps.length tc, vi x.prim, .slice a x.body.length c], kA q2 0 [.string ⟨#[]⟩, .slice none 0 0, .slice none 0 0, .int .i64 0, .slice none 0 0], SL, K, A]) ZI ?_;refine VC.seq (VC.free 15 (fun i v B => match i with
    | 0 => v = .pointer (some ⟨q, 0, none⟩) /\ B = []
    | 1 => v = .string x.sel /\ B = []
    | 2 => v = .pointer (some ⟨q, 1, none⟩) /\ B = []
    | 3 => v = .slice aa x.args.length ac /\ B = []
    | 4 => TxLen B v x.args /\ wC v x.args B
    | 5 => v = .pointer (some ⟨q, 2, none⟩) /\ B = []
    | 6 => v = .slice ta x.temps.length tc /\ B = []
    | 7 => TxLen B v x.temps /\ wC v x.temps B
    | 8 => v = .pointer (some ⟨q, 3, none⟩) /\ B = []
    | 9 => v = vi x.prim /\ B = []
    | 10 => v = .slice (some ⟨db, 0, none⟩) (x.body.length + 1) (x.body.length + 1) /\ B = []
    | 11 => v = .pointer (some ⟨q, 4, none⟩) /\ B = []
    | 12 => v = .slice a x.body.length c /\ B = []
    | 13 => v = vi x.body.length /\ B = []
    | 14 => v = .slice (some ⟨db, 0, none⟩) x.body.length (x.body.length + 1) /\ B = []
    | _ => True) Zd Zd Zd ?_ ?_)
  · intro i hi vv hg Γ' hh hkp
    match i, hi with
    | 0, _ =>
      show VO _ _ [⟨some 32, none, .fld 0 (.tmp 1)⟩] _ _ _ _;exact kQ (hkp 1 _ rfl Zd) rfl Zad
    | 1, _ =>
      show VO _ _ [⟨some 33, none, .load1 (.tmp 32)⟩] _ _ _ _;have e := hh 0 Zd 32 rfl;rw [(hg 0 Zd).1] at e;exact kI e Zh Zad
    | 2, _ =>
      show VO _ _ [⟨some 34, none, .fld 1 (.tmp 1)⟩] _ _ _ _;exact kQ (hkp 1 _ rfl Zd) rfl Zad
    | 3, _ =>
      show VO _ _ [⟨some 35, none, .load1 (.tmp 34)⟩] _ _ _ _;have e := hh 2 Zd 34 rfl;rw [(hg 2 Zd).1] at e;exact kI e Zh Zad
    | 4, _ =>
      show VO _ _ [⟨some 36, none, .call 44 [.tmp 35]⟩] _ _ _ _;have e := hh 3 Zd 35 rfl;rw [(hg 3 Zd).1] at e;refine kD hca Zao ZP (fun v Post hv => ?_);obtain ⟨B, hw, rfl⟩ := hv;exact VO.nil ⟨_, B, rfl, hw, by simp only [CNx];exact IMx⟩
    | 5, _ =>
      show VO _ _ [⟨some 37, none, .fld 2 (.tmp 1)⟩] _ _ _ _;exact kQ (hkp 1 _ rfl Zd) rfl Zad
    | 6, _ =>
      show VO _ _ [⟨some 38, none, .load1 (.tmp 37)⟩] _ _ _ _;have e := hh 5 Zd 37 rfl;rw [(hg 5 Zd).1] at e;exact kI e Zh Zad
    | 7, _ =>
      show VO _ _ [⟨some 39, none, .call 44 [.tmp 38]⟩] _ _ _ _;have e := hh 6 Zd 38 rfl;rw [(hg 6 Zd).1] at e;refine kD hct Zao ZP (fun v Post hv => ?_);obtain ⟨B, hw, rfl⟩ := hv;exact VO.nil ⟨_, B, rfl, hw, by simp only [CNx];exact IMx⟩
    | 8, _ =>
      show VO _ _ [⟨some 40, none, .fld 3 (.tmp 1)⟩] _ _ _ _;exact kQ (hkp 1 _ rfl Zd) rfl Zad
    | 9, _ =>
      show VO _ _ [⟨some 41, none, .load1 (.tmp 40)⟩] _ _ _ _;have e := hh 8 Zd 40 rfl;rw [(hg 8 Zd).1] at e;exact kI e Zh Zad
    | 10, _ =>
      show VO _ _ [⟨some 42, none, .mv (.tmp 3)⟩] _ _ _ _;exact ka (hkp 3 _ rfl Zd) Zad
    | 11, _ =>
      show VO _ _ [⟨some 43, none, .fld 4 (.tmp 1)⟩] _ _ _ _;exact kQ (hkp 1 _ rfl Zd) rfl Zad
    | 12, _ =>
      show VO _ _ [⟨some 44, none, .load1 (.tmp 43)⟩] _ _ _ _;have e := hh 11 Zd 43 rfl;rw [(hg 11 Zd).1] at e;exact kI e Zh Zad
    | 13, _ =>
      show VO _ _ [⟨some 45, none, .lenL (.tmp 44)⟩] _ _ _ _;have e := hh 12 Zd 44 rfl;rw [(hg 12 Zd).1] at e;exact st_lenI e (VO.nil ⟨_, [], rfl, ⟨rfl, rfl⟩, Imp.perm Zs⟩)
    | 14, _ =>
      show VO _ _ [⟨some 46, none, .slcL 11 (.tmp 42) none (some (.tmp 45)) none⟩] _ _ _ _;have e := hh 10 Zd 42 rfl;rw [(hg 10 Zd).1] at e;have e2 := hh 13 Zd 45 rfl;rw [(hg 13 Zd).1] at e2;exact st_slcL (l := 0) (h := x.body.length) (o' := 0) e .dft (.num e2) ⟨Zo, Zo⟩ (by split <;> omega) (VO.nil ⟨_, [], rfl, ⟨rfl, rfl⟩, Imp.perm Zs⟩)
    | n + 15, h => exact absurd h Zo
  · intro vv hg Γ' hh hkp;show VO _ _ _ _ [(vv 0).2, (vv 1).2, (vv 2).2, (vv 3).2, (vv 4).2, (vv 5).2, (vv 6).2, (vv 7).2, (vv 8).2, (vv 9).2, (vv 10).2, (vv 11).2, (vv 12).2, (vv 13).2, (vv 14).2, kA q 0 [.string x.sel, .slice aa x.args.length ac, .slice ta x.temps.length tc, vi x.prim, .slice a x.body.length c], kA q2 0 [.string ⟨#[]⟩, .slice none 0 0, .slice none 0 0, .int .i64 0, .slice none 0 0], SL, K, A] _ _;refine VO.imp (H' := [kA q2 0 [.string ⟨#[]⟩, .slice none 0 0, .slice none 0 0, .int .i64 0, .slice none 0 0], A, (vv 4).2, (vv 7).2, SL, K]) ZI ?_;have h4 := hg 4 Zo;have h7 := hg 7 Zo;have s33 := hh 1 Zd 33 rfl;have s36 := hh 4 Zd 36 rfl;have s39 := hh 7 Zd 39 rfl;have s41 := hh 9 Zd 41 rfl;have s46 := hh 14 Zd 46 rfl;rw [(hg 1 Zo).1] at s33;rw [(hg 9 Zo).1] at s41;rw [(hg 14 Zo).1] at s46;have s2 := hkp 2 _ rfl Zd;clear hg hh hkp;simp only at h4 h7;generalize vv 4 = p4 at *;generalize vv 7 = p7 at *;obtain ⟨v4, B4⟩ := p4;obtain ⟨v7, B7⟩ := p7;simp only at *;have hL : MdLen (SL ++ (K ++ (B4 ++ B7))) x [.string x.sel, v4, v7, vi x.prim, .slice (some ⟨db, 0, none⟩) x.body.length (x.body.length + 1)] :=
      ⟨v4, v7, _, db, fun i => rows.getD i [], rfl, h4.1.more fun z hz => by simp [hz], h7.1.more fun z hz => by simp [hz], fun i hi y hy => Zw _ (hrow i hi y hy), fun i y e => (i2.2.2 i y _ e (i2.row (List.getElem?_eq_some_iff.1 e).1)).more fun z hz => by simp [hz], Zw _ hroom, Nat.le_refl _, hmany, hsel, hprim⟩
    have hO : MdOwn x [.string x.sel, v4, v7, vi x.prim, .slice (some ⟨db, 0, none⟩) x.body.length (x.body.length + 1)] (SL ++ (K ++ (B4 ++ B7))) :=
      ⟨v4, v7, _, rows, _, B4, B7, K, rfl, hsl, i4, h4.2, h7.2, by rw [hslA]⟩
    obtain ⟨a4, c4, rfl, _, _⟩ := h4.1.rd;obtain ⟨a7, c7, rfl, _, _⟩ := h7.1.rd;refine VO.sub (Δ := [(2, kN q2), (33, .string x.sel), (36, .slice a4 x.args.length c4), (39, .slice a7 x.temps.length c7), (41, vi x.prim), (46, .slice (some ⟨db, 0, none⟩) x.body.length (x.body.length + 1))]) (Sub.cons s2 (Sub.cons s33 (Sub.cons s36 (Sub.cons s39 (Sub.cons s41 (Sub.cons s46 Sub.nil)))))) ?_;refine GOH ?_;exact ⟨.inr rfl, [.agg #[.string x.sel, .slice a4 x.args.length c4, .slice a7 x.temps.length c7, vi x.prim, .slice (some ⟨db, 0, none⟩) x.body.length (x.body.length + 1)]], [A, SL ++ (K ++ (B4 ++ B7))], .cellN (us := [.string x.sel, .slice a4 x.args.length c4, .slice a7 x.temps.length c7, vi x.prim, .slice (some ⟨db, 0, none⟩) x.body.length (x.body.length + 1)]) Zr Zr Zak .nil,
      Imp.cut (M := [A, SL, K, B4, B7]) ZI (Imp.perm Zs), ⟨_, _, rfl, ⟨hL, hO⟩, rfl⟩⟩
theorem mdLike_refl (x : Md) : mdLike true x x = true := by
  unfold mdLike;have : ndsSm x.body x.body = true := (ndsSm_iff _ _).2 ⟨rfl, fun j y z h1 h2 => by rw [h1] at h2;cases h2;exact ndSm_refl _ y (Nat.le_refl _)⟩;simp [this, zK]
theorem WholeMethod_spec (A : List kE) (x : Md) (vs ws : List Value) (h : MdLen A x vs) (h2 : MdW A x ws) : Fun Tryz.prog 16 [.agg vs.toArray, .agg ws.toArray] [A] (fun v Post => v = .bool true /\ Post = [A]) := by
  have hsame := zO A x x vs ws h.rd h2 true;rw [mdLike_refl] at hsame;obtain ⟨av, tv, c, bk, us, rfl, l2, l3, l4, l5, l6, l7, l8, l9, l10⟩ := h;have hwa := zM A av x.args l2;have hwt := zM A tv x.temps l3;obtain ⟨aa, ac, rfl, _⟩ := l2;obtain ⟨ta, tc, rfl, _⟩ := l3;obtain ⟨⟨aa2, ac2, ta2, tc2, a2, c2, bk2, o2, us2, rfl, _, _, _⟩, _, _⟩ := h2;refine Fun.intro low16 (by simp [n16]) ?_;refine GOH ?_;refine kS Zr (fun q => ?_);simp only [Value.cells];refine GOH ?_;refine kS Zr (fun q2 => ?_);simp only [Value.cells];refine GOH ?_;refine kD hsame Zr ZP (fun v Post hv => ?_);obtain ⟨rfl, rfl⟩ := hv;simp only [CNx];refine GOH ?_;refine st_slcL (l := 0) (h := x.body.length + 1) (o' := 0) Zr .dft (.num Zr) ⟨Zo, Zo⟩ (by split <;> omega) ?_;refine GOH ?_;refine kD hwa Zr ZP (fun v Post hv => ?_);obtain ⟨rfl, rfl⟩ := hv;simp only [CNx];refine GOH ?_;refine kD hwt Zr ZP (fun v Post hv => ?_);obtain ⟨rfl, rfl⟩ := hv;simp only [CNx];refine GOH ?_;refine VC.loop (α := Nat) (Γf := fun j => [(2, kN q), (9, .bool true), (10, vi j)]) (Hf := fun _ => [A, kA q 0 [.string x.sel, .slice (some ⟨aa, 0, none⟩) x.args.length ac, .slice (some ⟨ta, 0, none⟩) x.temps.length tc, vi x.prim, .slice (some ⟨bk, 0, none⟩) x.body.length c]]) (I := fun j => j <= x.body.length) (μ := fun j => x.body.length - j) 0 (Nat.zero_le _) ZU ZI ?_
  rintro j i1
  refine GOH ?_;by_cases hj : j < x.body.length;rotate_left
  · skip
    rw [show decide ((j : Int) < (x.body.length : Int)) = false from Zf Zo];refine GOH ?_;exact kC (Post := [A]) (.inr rfl) (.tmp Zr .nil) ⟨rfl, rfl⟩ ZI
  rw [show decide ((j : Int) < (x.body.length : Int)) = true from Zt Zo];obtain ⟨y, hy⟩ : ∃ y, x.body[j]? = some y := ⟨_, Zg hj⟩;have hym := l4 j hj;have hyr := l5 j y hy;have hcall := roomNode_spec A _ y (Nat.le_refl _) _ hyr;have hyl := hyr.len;generalize us j = uj at *;refine GOH ?_;refine kL Zr Zah hyl ?_;refine GOH ?_;refine kD hcall Zr ZP (fun v Post hv => ?_);obtain ⟨rfl, rfl⟩ := hv;simp only [CNx];refine GOH ?_;exact ⟨j + 1, Zo, Zo, ZU, ZI⟩
end Go.Proofs.YtmnmandpdadedaaGreatDoor

/-
  One call of both tables.
-/
import Derived.Test.YtffmipimgodfdaaRS
import Derived.Test.YtffmipimgodfdaaRY
import Derived.Test.YtffmipimgodfdaaF3
import Derived.Test.YtffmipimgodfdaaD8
set_option linter.unusedSimpArgs false
set_option linter.unusedVariables false
namespace Go.V
open Go
theorem Spl.nil2 {H : SH} : Spl H [[], []] H := by simp [Spl]
structure Bk where
  tv : Value
  ps : List OwnI
  tsp : List Value
structure BkOk (k : Bk) (n : Nat) : Prop where
  sl : IsSl 1 k.tv k.ps.length (k.ps.map (·.v)) k.tsp
  own : ∀ p ∈ k.ps, IsSl 1 p.v p.n p.xs p.sp
  small : ∀ p ∈ k.ps, p.n ≤ 4096
  len : k.ps.length ≤ n
theorem BkOk.more {k : Bk} {n m : Nat} (h : BkOk k n) (hm : n ≤ m) : BkOk k m := ⟨h.sl, h.own, h.small, Nat.le_trans h.len hm⟩
theorem BkOk.put {k : Bk} {n : Nat} (h : BkOk k n) {p : OwnI} (hp : IsSl 1 p.v p.n p.xs p.sp) (hn : p.n ≤ 4096) {tv : Value} {tsp : List Value} (ht : IsSl 1 tv (k.ps.length + 1) (k.ps.map (·.v) ++ [p.v]) tsp) : BkOk ⟨tv, k.ps ++ [p], tsp⟩ (n + 1) := by
  refine ⟨by simpa using ht, fun q hq => ?_, fun q hq => ?_, by have := h.len; simp; omega⟩
  · rcases List.mem_append.1 hq with hq | hq
    · exact h.own q hq
    · obtain rfl := List.mem_singleton.1 hq; exact hp
  · rcases List.mem_append.1 hq with hq | hq
    · exact h.small q hq
    · obtain rfl := List.mem_singleton.1 hq; exact hn
end Go.V
namespace Go.Proofs.Ytffmipimgodfdaa
open Go Go.V
set_option maxHeartbeats 6400000
set_option maxRecDepth 100000
set_option linter.unusedSimpArgs false
set_option linter.unusedVariables false
def FA (t : Nat) (R : TRep) : List Atom := (Full t R).flatten
def MA (t : Nat) (r : RTab) : List Atom := (RMem t r).flatten
def BkM (q : Nat) (k : Bk) : SH := [cellsAt q 0 (bkT k.tv), slA k.tv (k.ps.map (·.v)) k.tsp, k.ps.flatMap owA]
def BA (q : Nat) (k : Bk) : List Atom := (BkM q k).flatten
theorem fa_eq (t : Nat) (R : TRep) : (Full t R).flatten = FA t R := rfl
theorem ma_eq (t : Nat) (r : RTab) : (RMem t r).flatten = MA t r := rfl
theorem ba_eq (q : Nat) (k : Bk) : (BkM q k).flatten = BA q k := rfl
theorem fun_fa {f t : Nat} {R : TRep} {args : List Value} {Q : Value → SH → Prop} (h : Fun Try.prog f args (Full t R) Q) : Fun Try.prog f args [FA t R] (fun v Post => ∃ Post', Q v Post' ∧ Post = [Post'.flatten]) := h.flat
theorem fun_ma {f t : Nat} {r : RTab} {args : List Value} {Q : Value → SH → Prop} (h : Fun Try.prog f args (RMem t r) Q) : Fun Try.prog f args [MA t r] (fun v Post => ∃ Post', Q v Post' ∧ Post = [Post'.flatten]) := h.flat
/-- A table but for its counts. -/
def MR (t : Nat) (r : RTab) : List Atom := (cellsAt t 0 [r.sv, r.dv] ++ (cellsAt t 2 (r.glob.flatMap kEnc) ++ cellsAt t 194 [r.xv])) ++ (slA r.sv (r.sup.map vi) r.ssp ++ (slA r.dv (r.dds.map (·.v)) r.dsp ++ (r.dds.flatMap dicA ++ (slA r.xv (r.sites.flatMap sitEnc) r.xsp ++ r.sites.flatMap sitA))))
theorem ma_tel (t : Nat) (r : RTab) : (MA t r).Perm (cellsAt t 195 [vi r.tel.asked, vi r.tel.inl, vi r.tel.glob, vi r.tel.walked, vi r.tel.steps] ++ MR t r) := by
  unfold MA MR RMem
  simp only [telEnc, List.flatten_cons, List.flatten_nil, List.append_nil]
  refine List.Perm.trans (l₂ := (cellsAt t 0 [r.sv, r.dv] ++ (cellsAt t 2 (r.glob.flatMap kEnc) ++ cellsAt t 194 [r.xv])) ++ (cellsAt t 195 [vi r.tel.asked, vi r.tel.inl, vi r.tel.glob, vi r.tel.walked, vi r.tel.steps] ++ _)) ?_ (perm_lead _ _ _)
  simp only [List.append_assoc]
  exact .refl _
theorem own_full (t : Nat) (R : TRep) (c : Int) (s : ByteArray) (h : WF R) : Fun Try.prog 14 [ptr0 t, vi c, .string s] (Full t R) (fun v Post => v = okM (ownR R c s) ∧ Post = Full t R) := by
  refine (own_spec t R c s h).conv (R := SitesI t R) (by simp [V.Spl, Full]) ?_
  rintro v Post ⟨rfl, rfl⟩
  exact ⟨_, ⟨rfl, rfl⟩, Imp.refl _⟩
theorem look_full (t : Nat) (R : TRep) (N : Nat) (c : Int) (s : ByteArray) (h : WF R) (hT : TelOk R.tel N) (hN : N < 140737488355328) (hs : s.size ≤ 1048576) :
    Fun Try.prog 13 [ptr0 t, vi c, .string s] (Full t R) (fun v Post => v = okM (lookR R c s).1 ∧ Post = Full t (lookR R c s).2) := by
  refine (lookup_spec t R c s h N hN hT hs).conv (R := SitesI t R) ?_ ?_
  · simp [V.Spl, Full]
  · rintro v Post ⟨rfl, rfl⟩
    exact ⟨_, ⟨rfl, rfl⟩, by rw [Full, ← lookR_sites t R c s]; exact Imp.refl _⟩
def DoesP (t tr q : Nat) (R : TRep) (N n : Nat) (v : Value) (Post : SH) : Prop :=
  v = .bool true ∧ ∃ R' r' k', Both R' r' (N + 1) ∧ R'.sup = R.sup ∧ BkOk k' (n + 1) ∧ Post = [FA t R', MA tr r', BA q k']
theorem does_spec (t tr q : Nat) (R : TRep) (r : RTab) (N n : Nat) (k : Bk) (kd c : Int) (s : ByteArray) (m a : Int) (h : Both R r N) (hk : BkOk k n) (hn : n ≤ 1048576) (hN : N + 1 < 70368744177664) (hs : s.size ≤ 1048576) :
    Fun Try.prog 19 [ptr0 t, ptr0 tr, .agg #[vi kd, vi c, .string s, vi m, vi a], ptr0 q] [FA t R, MA tr r, BA q k] (DoesP t tr q R N n) := by
  refine Fun.intro low19 (by simp [F19]) ?_
  refine VC.seq_reg ?_
  refine st_box (by rfl) (fun p => ?_)
  simp only [Value.cells]
  refine GO ?_
  by_cases h1 : kd = 1
  · simp only [h1, decide_true]
    refine GO ?_
    refine st_call (fun_fa (install_spec t R c s m h.wf hs)) (by rfl) (by (focus ((repeat (first | exact Spl.nil | (apply Spl.cons; (focus ((repeat (first | with_reducible exact Tk.here | apply Tk.there)); done))))); done))) (fun v Post hv => ?_)
    obtain ⟨P1, hp1, rfl⟩ := hv
    simp only [List.cons_append, List.nil_append]
    refine GO ?_
    refine st_call (fun_ma (rinstall_spec tr r h.ok c s hs m)) (by rfl) (by (focus ((repeat (first | exact Spl.nil | (apply Spl.cons; (focus ((repeat (first | with_reducible exact Tk.here | apply Tk.there)); done))))); done))) (fun v2 Post hv => ?_)
    obtain ⟨P2, hp2, rfl⟩ := hv
    simp only [List.cons_append, List.nil_append]
    obtain ⟨e, R', r', rfl, rfl, rfl, rfl, hB, hs'⟩ := both_inst h hp1 hp2
    simp only [fa_eq, ma_eq]
    refine GO ?_
    simp only [eq_self, decide_true]
    exact endQ_mk (Post := [FA t R', MA tr r', BA q k]) (.inr rfl) (.tmp (by rfl) .nil) ⟨rfl, R', r', k, hB.more (by omega), hs', hk.more (by omega), rfl⟩ (by (first | with_reducible exact Imp.refl | with_reducible exact Imp.left | (focus ((try simp only [List.nil_append]); (repeat (first | exact Imp.nil | (apply Imp.cons; (focus ((repeat (first | with_reducible exact Tk.here | apply Tk.there)); done))))); done))))
  simp only [h1, decide_false]
  refine GO ?_
  by_cases h2 : kd = 2
  · simp only [h2, decide_true]
    refine GO ?_
    refine st_call (fun_fa (remove_spec t R c s h.wf hs)) (by rfl) (by (focus ((repeat (first | exact Spl.nil | (apply Spl.cons; (focus ((repeat (first | with_reducible exact Tk.here | apply Tk.there)); done))))); done))) (fun v Post hv => ?_)
    obtain ⟨P1, hp1, rfl⟩ := hv
    simp only [List.cons_append, List.nil_append]
    refine GO ?_
    refine st_call (fun_ma (rremove_spec tr r h.ok c s)) (by rfl) (by (focus ((repeat (first | exact Spl.nil | (apply Spl.cons; (focus ((repeat (first | with_reducible exact Tk.here | apply Tk.there)); done))))); done))) (fun v2 Post hv => ?_)
    obtain ⟨P2, hp2, rfl⟩ := hv
    simp only [List.cons_append, List.nil_append]
    obtain ⟨e, R', r', rfl, rfl, rfl, rfl, hB, hs'⟩ := both_rem h hp1 hp2
    simp only [fa_eq, ma_eq]
    refine GO ?_
    simp only [eq_self, decide_true]
    exact endQ_mk (Post := [FA t R', MA tr r', BA q k]) (.inr rfl) (.tmp (by rfl) .nil) ⟨rfl, R', r', k, hB.more (by omega), hs', hk.more (by omega), rfl⟩ (by (first | with_reducible exact Imp.refl | with_reducible exact Imp.left | (focus ((try simp only [List.nil_append]); (repeat (first | exact Imp.nil | (apply Imp.cons; (focus ((repeat (first | with_reducible exact Tk.here | apply Tk.there)); done))))); done))))
  simp only [h2, decide_false]
  refine GO ?_
  by_cases h3 : kd = 3
  · simp only [h3, decide_true]
    refine GO ?_
    refine st_call (fun_fa (own_full t R c s h.wf)) (by rfl) (by (focus ((repeat (first | exact Spl.nil | (apply Spl.cons; (focus ((repeat (first | with_reducible exact Tk.here | apply Tk.there)); done))))); done))) (fun v Post hv => ?_)
    obtain ⟨P1, ⟨rfl, rfl⟩, rfl⟩ := hv
    simp only [List.cons_append, List.nil_append, okM, fa_eq, ma_eq]
    refine GO ?_
    refine st_call (fun_ma (rown_spec tr r h.ok c s)) (by rfl) (by (focus ((repeat (first | exact Spl.nil | (apply Spl.cons; (focus ((repeat (first | with_reducible exact Tk.here | apply Tk.there)); done))))); done))) (fun v2 Post hv => ?_)
    obtain ⟨P2, ⟨rfl, rfl⟩, rfl⟩ := hv
    have ho : ownD r.dt c s = ownR R c s := by
      unfold ownD ownR
      rw [h.dic c, show r.dt.sup = R.sup from h.rsup]
    rw [ho]
    generalize ownR R c s = o
    simp only [List.cons_append, List.nil_append, okM, fa_eq, ma_eq]
    refine GO ?_
    simp only [eq_self, decide_true]
    refine GO ?_
    exact endQ_mk (Post := [FA t R, MA tr r, BA q k]) (.inr rfl) (.tmp (by rfl) .nil) ⟨by simp [tup], R, r, k, h.more (by omega), rfl, hk.more (by omega), rfl⟩ (by (first | with_reducible exact Imp.refl | with_reducible exact Imp.left | (focus ((try simp only [List.nil_append]); (repeat (first | exact Imp.nil | (apply Imp.cons; (focus ((repeat (first | with_reducible exact Tk.here | apply Tk.there)); done))))); done))))
  simp only [h3, decide_false]
  refine GO ?_
  by_cases h4 : kd = 4
  · simp only [h4, decide_true]
    have hdl : (R.dic c).length ≤ 4096 := by
      rw [← h.dic c]
      by_cases hc : 0 ≤ c ∧ c < r.sup.length
      · obtain ⟨d, _, hdm, hdi⟩ := h.ok.dic hc
        rw [hdm]; exact h.ok.dn d hdi
      · have hlen := h.ok.len
        unfold DT.dic
        split
        · rw [List.getElem?_eq_none (by simp only [RTab.dt, List.length_map]; omega)]; exact Nat.zero_le _
        · exact Nat.zero_le _
    refine GO ?_
    refine st_call (fun_fa (selectors_spec t R c h.wf (by omega))) (by rfl) (by (focus ((repeat (first | exact Spl.nil | (apply Spl.cons; (focus ((repeat (first | with_reducible exact Tk.here | apply Tk.there)); done))))); done))) (fun v Post hv => ?_)
    obtain ⟨P1, hp1, rfl⟩ := hv
    unfold SelP at hp1
    by_cases hc : 0 ≤ c ∧ c < R.sup.length
    · rw [if_pos hc] at hp1
      obtain ⟨ys, sv, sp, y1, y2, rfl, rfl⟩ := hp1
      have hyl : ys.length ≤ 4096 := by rw [y1.1.length_eq, List.length_map]; exact hdl
      obtain ⟨a1, c1, rfl⟩ := y2.form
      simp only [List.flatten_cons, fa_eq, List.cons_append, List.nil_append]
      refine VO.split (B := slA (.slice a1 ys.length c1) (ys.map Value.string) sp) (C := FA t R) .here (.refl _) ?_
      refine GO ?_
      refine st_call (fun_ma (rselectors_spec tr r h.ok c ys (fun _ => by rw [h.dic c]; exact ⟨y1, nod_dic h.wf hc, noe_dic h.sim c⟩))) (by rfl) (by (focus ((repeat (first | exact Spl.nil | (apply Spl.cons; (focus ((repeat (first | with_reducible exact Tk.here | apply Tk.there)); done))))); done))) (fun v2 Post hv => ?_)
      obtain ⟨P2, hp2, rfl⟩ := hv
      unfold RSelP at hp2
      rw [h.rsup, if_pos hc] at hp2
      obtain ⟨sv2, sp2, z1, rfl, rfl⟩ := hp2
      obtain ⟨a2, c2, rfl⟩ := z1.form
      simp only [List.flatten_cons, ma_eq, List.cons_append, List.nil_append]
      refine VO.split (B := slA (.slice a2 ys.length c2) (ys.map Value.string) sp2) (C := MA tr r) .here (.refl _) ?_
      refine GO ?_
      refine st_call (sameTexts_spec (slA (.slice a1 ys.length c1) (ys.map Value.string) sp) (slA (.slice a2 ys.length c2) (ys.map Value.string) sp2) _ _ ys ys.length rfl y2.rd z1.rd (by omega)) (by rfl) (by (focus ((repeat (first | exact Spl.nil | (apply Spl.cons; (focus ((repeat (first | with_reducible exact Tk.here | apply Tk.there)); done))))); done))) (fun v3 Post hv => ?_)
      obtain ⟨rfl, rfl⟩ := hv
      simp only [List.cons_append, List.nil_append]
      refine GO ?_
      refine VO.split (A := BA q k) (B := cellsAt q 0 (bkT k.tv)) (C := slA k.tv (k.ps.map (·.v)) k.tsp ++ k.ps.flatMap owA) (by (focus ((repeat (first | with_reducible exact Tk.here | apply Tk.there)); done))) (by simp [BA, BkM]) ?_
      refine VO.split (A := slA k.tv (k.ps.map (·.v)) k.tsp ++ k.ps.flatMap owA) (B := slA k.tv (k.ps.map (·.v)) k.tsp) (C := k.ps.flatMap owA) (by (focus ((repeat (first | with_reducible exact Tk.here | apply Tk.there)); done))) (.refl _) ?_
      refine st_call (bookTexts_spec q k.tv (k.ps.map (·.v)) k.tsp k.ps.length a1 ys.length c1 hk.sl (by have := hk.len; omega)) (by rfl) (by (focus ((repeat (first | exact Spl.nil | (apply Spl.cons; (focus ((repeat (first | with_reducible exact Tk.here | apply Tk.there)); done))))); done))) (fun v4 Post hv => ?_)
      obtain ⟨tv', tsp', w1, rfl, rfl⟩ := hv
      simp only [List.cons_append, List.nil_append]
      refine GO ?_
      have hk' := hk.put (p := ⟨.slice a1 ys.length c1, ys.length, ys.map Value.string, sp⟩) y2 hyl w1
      refine endQ_mk (Post := [FA t R, MA tr r, BA q ⟨tv', k.ps ++ [⟨.slice a1 ys.length c1, ys.length, ys.map Value.string, sp⟩], tsp'⟩]) (.inr rfl) (.tmp (by rfl) .nil) ⟨by simp [tup], R, r, _, h.more (by omega), rfl, hk', rfl⟩ ?_
      refine Imp.cut (M := [FA t R, MA tr r, cellsAt q 0 (bkT tv'), slA tv' (k.ps.map (·.v) ++ [.slice a1 ys.length c1]) tsp', k.ps.flatMap owA, slA (.slice a1 ys.length c1) (ys.map Value.string) sp]) (by (first | with_reducible exact Imp.refl | with_reducible exact Imp.left | (focus ((try simp only [List.nil_append]); (repeat (first | exact Imp.nil | (apply Imp.cons; (focus ((repeat (first | with_reducible exact Tk.here | apply Tk.there)); done))))); done)))) (Imp.perm ?_)
      simp [BA, BkM, owA]
    · rw [if_neg hc] at hp1
      obtain ⟨rfl, rfl⟩ := hp1
      simp only [fa_eq, List.cons_append, List.nil_append]
      refine GO ?_
      refine st_call (fun_ma (rselectors_spec tr r h.ok c [] (fun hh => by rw [h.rsup] at hh; exact absurd hh hc))) (by rfl) (by (focus ((repeat (first | exact Spl.nil | (apply Spl.cons; (focus ((repeat (first | with_reducible exact Tk.here | apply Tk.there)); done))))); done))) (fun v2 Post hv => ?_)
      obtain ⟨P2, hp2, rfl⟩ := hv
      unfold RSelP at hp2
      rw [h.rsup, if_neg hc] at hp2
      obtain ⟨rfl, rfl⟩ := hp2
      simp only [ma_eq, List.cons_append, List.nil_append]
      refine GO ?_
      refine st_call (sameTexts_spec [] [] (.slice none 0 0) (.slice none 0 0) [] 0 rfl (.inl ⟨rfl, rfl, rfl⟩) (.inl ⟨rfl, rfl, rfl⟩) (by decide)) (by rfl) Spl.nil2 (fun v3 Post hv => ?_)
      obtain ⟨rfl, rfl⟩ := hv
      simp only [List.cons_append, List.nil_append]
      refine GO ?_
      refine VO.split (A := BA q k) (B := cellsAt q 0 (bkT k.tv)) (C := slA k.tv (k.ps.map (·.v)) k.tsp ++ k.ps.flatMap owA) (by (focus ((repeat (first | with_reducible exact Tk.here | apply Tk.there)); done))) (by simp [BA, BkM]) ?_
      refine VO.split (A := slA k.tv (k.ps.map (·.v)) k.tsp ++ k.ps.flatMap owA) (B := slA k.tv (k.ps.map (·.v)) k.tsp) (C := k.ps.flatMap owA) (by (focus ((repeat (first | with_reducible exact Tk.here | apply Tk.there)); done))) (.refl _) ?_
      refine st_call (bookTexts_spec q k.tv (k.ps.map (·.v)) k.tsp k.ps.length none 0 0 hk.sl (by have := hk.len; omega)) (by rfl) (by (focus ((repeat (first | exact Spl.nil | (apply Spl.cons; (focus ((repeat (first | with_reducible exact Tk.here | apply Tk.there)); done))))); done))) (fun v4 Post hv => ?_)
      obtain ⟨tv', tsp', w1, rfl, rfl⟩ := hv
      simp only [List.cons_append, List.nil_append]
      refine GO ?_
      have hk' := hk.put (p := ⟨.slice none 0 0, 0, [], []⟩) .nil (by decide) w1
      refine endQ_mk (Post := [FA t R, MA tr r, BA q ⟨tv', k.ps ++ [⟨.slice none 0 0, 0, [], []⟩], tsp'⟩]) (.inr rfl) (.tmp (by rfl) .nil) ⟨by simp [tup], R, r, _, h.more (by omega), rfl, hk', rfl⟩ ?_
      refine Imp.cut (M := [FA t R, MA tr r, cellsAt q 0 (bkT tv'), slA tv' (k.ps.map (·.v) ++ [.slice none 0 0]) tsp', k.ps.flatMap owA]) (by (first | with_reducible exact Imp.refl | with_reducible exact Imp.left | (focus ((try simp only [List.nil_append]); (repeat (first | exact Imp.nil | (apply Imp.cons; (focus ((repeat (first | with_reducible exact Tk.here | apply Tk.there)); done))))); done)))) (Imp.perm ?_)
      simp [BA, BkM, owA, slA]
  simp only [h4, decide_false]
  refine GO ?_
  by_cases h5 : kd = 5
  · simp only [h5, decide_true]
    refine GO ?_
    refine st_call (fun_fa (look_full t R N c s h.wf h.tel (by omega) hs)) (by rfl) (by (focus ((repeat (first | exact Spl.nil | (apply Spl.cons; (focus ((repeat (first | with_reducible exact Tk.here | apply Tk.there)); done))))); done))) (fun v Post hv => ?_)
    obtain ⟨P1, ⟨rfl, rfl⟩, rfl⟩ := hv
    simp only [List.cons_append, List.nil_append, okM, fa_eq, ma_eq]
    refine GO ?_
    refine st_call (fun_ma (rlookup_spec tr r h.ok c s hs N (by omega) (by rw [h.rtel]; exact h.tel))) (by rfl) (by (focus ((repeat (first | exact Spl.nil | (apply Spl.cons; (focus ((repeat (first | with_reducible exact Tk.here | apply Tk.there)); done))))); done))) (fun v2 Post hv => ?_)
    obtain ⟨P2, hp2, rfl⟩ := hv
    obtain ⟨rfl, r', rfl, hB, hs'⟩ := both_look h hp2
    generalize (lookR R c s).1 = o
    generalize (lookR R c s).2 = R' at hB hs' ⊢
    simp only [List.cons_append, List.nil_append, okM, fa_eq, ma_eq]
    refine GO ?_
    simp only [eq_self, decide_true]
    refine GO ?_
    exact endQ_mk (Post := [FA t R', MA tr r', BA q k]) (.inr rfl) (.tmp (by rfl) .nil) ⟨by simp [tup], R', r', k, hB, hs', hk.more (by omega), rfl⟩ (by (first | with_reducible exact Imp.refl | with_reducible exact Imp.left | (focus ((try simp only [List.nil_append]); (repeat (first | exact Imp.nil | (apply Imp.cons; (focus ((repeat (first | with_reducible exact Tk.here | apply Tk.there)); done))))); done))))
  simp only [h5, decide_false]
  refine GO ?_
  by_cases h6 : kd = 6
  · simp only [h6, decide_true]
    refine GO ?_
    refine st_call (fun_fa (send_spec t R a c s h.wf N (by omega) h.tel hs)) (by rfl) (by (focus ((repeat (first | exact Spl.nil | (apply Spl.cons; (focus ((repeat (first | with_reducible exact Tk.here | apply Tk.there)); done))))); done))) (fun v Post hv => ?_)
    obtain ⟨P1, hp1, rfl⟩ := hv
    obtain ⟨o, e, rfl⟩ : ∃ o e, v = okE o e := by
      have hp := hp1
      unfold SendP at hp
      split at hp
      · split at hp
        · obtain ⟨b, es, k, x, R1, e1, e2, e3, e4, e5⟩ := hp
          exact ⟨_, _, e4⟩
        · exact ⟨_, _, hp.1⟩
      · exact ⟨_, _, hp.1⟩
    have hoe : ∃ x y z, okE o e = .tuple #[vi x, .bool y, vi z] := ⟨_, _, _, rfl⟩
    obtain ⟨x, y, z, hxyz⟩ := hoe
    simp only [List.cons_append, List.nil_append, hxyz]
    refine GO ?_
    refine st_call (fun_ma (rsend_spec tr r h.ok a c s hs N hN (by rw [h.rtel]; exact h.tel))) (by rfl) (by (focus ((repeat (first | exact Spl.nil | (apply Spl.cons; (focus ((repeat (first | with_reducible exact Tk.here | apply Tk.there)); done))))); done))) (fun v2 Post hv => ?_)
    obtain ⟨P2, hp2, rfl⟩ := hv
    obtain ⟨o', e', R', r', g1, rfl, rfl, rfl, hB, hs'⟩ := both_send h hp1 hp2
    rw [← g1, hxyz]
    simp only [List.cons_append, List.nil_append, fa_eq, ma_eq]
    refine GO ?_
    simp only [eq_self, decide_true]
    refine GO ?_
    simp only [Bool.false_eq_true, if_false, beq_self_eq_true]
    refine GO ?_
    exact endQ_mk (Post := [FA t R', MA tr r', BA q k]) (.inr rfl) (.tmp (by rfl) .nil) ⟨by simp [tup], R', r', k, hB, hs', hk.more (by omega), rfl⟩ (by (first | with_reducible exact Imp.refl | with_reducible exact Imp.left | (focus ((try simp only [List.nil_append]); (repeat (first | exact Imp.nil | (apply Imp.cons; (focus ((repeat (first | with_reducible exact Tk.here | apply Tk.there)); done))))); done))))
  simp only [h6, decide_false]
  refine GO ?_
  by_cases h7 : kd = 7
  · simp only [h7, decide_true]
    refine GO ?_
    refine st_call (fun_fa (flush_spec t R h.wf)) (by rfl) (by (focus ((repeat (first | exact Spl.nil | (apply Spl.cons; (focus ((repeat (first | with_reducible exact Tk.here | apply Tk.there)); done))))); done))) (fun v Post hv => ?_)
    obtain ⟨P1, ⟨es, hw, rfl, rfl⟩, rfl⟩ := hv
    simp only [List.cons_append, List.nil_append, fa_eq]
    refine GO ?_
    refine st_call (fun_ma (rflush_spec tr r h.ok.glob)) (by rfl) (by (focus ((repeat (first | exact Spl.nil | (apply Spl.cons; (focus ((repeat (first | with_reducible exact Tk.here | apply Tk.there)); done))))); done))) (fun v2 Post hv => ?_)
    obtain ⟨P2, ⟨rfl, rfl⟩, rfl⟩ := hv
    simp only [List.cons_append, List.nil_append, ma_eq]
    refine GO ?_
    exact endQ_mk (Post := [FA t _, MA tr (noAll r), BA q k]) (.inr rfl) (.tmp (by rfl) .nil) ⟨rfl, _, _, k, (both_flush h hw).more (by omega), rfl, hk.more (by omega), rfl⟩ (by (first | with_reducible exact Imp.refl | with_reducible exact Imp.left | (focus ((try simp only [List.nil_append]); (repeat (first | exact Imp.nil | (apply Imp.cons; (focus ((repeat (first | with_reducible exact Tk.here | apply Tk.there)); done))))); done))))
  simp only [h7, decide_false]
  refine GO ?_
  refine st_call (fun_fa (counts_full t R)) (by rfl) (by (focus ((repeat (first | exact Spl.nil | (apply Spl.cons; (focus ((repeat (first | with_reducible exact Tk.here | apply Tk.there)); done))))); done))) (fun v Post hv => ?_)
  obtain ⟨P1, ⟨rfl, rfl⟩, rfl⟩ := hv
  simp only [List.cons_append, List.nil_append, fa_eq, telEnc]
  refine GO ?_
  refine st_alloc (fun q2 => ?_)
  refine GO ?_
  refine VO.split (A := MA tr r) (B := cellsAt tr 195 [vi r.tel.asked, vi r.tel.inl, vi r.tel.glob, vi r.tel.walked, vi r.tel.steps]) (C := MR tr r) (by (focus ((repeat (first | with_reducible exact Tk.here | apply Tk.there)); done))) (ma_tel tr r) ?_
  rw [h.rtel]
  refine GO ?_
  refine endQ_mk (Post := [FA t R, MA tr r, BA q k]) (.inr rfl) (.tmp (by rfl) .nil) ⟨by simp [tup], R, r, k, h.more (by omega), rfl, hk.more (by omega), rfl⟩ ?_
  refine Imp.cut (M := [FA t R, cellsAt tr 195 [vi R.tel.asked, vi R.tel.inl, vi R.tel.glob, vi R.tel.walked, vi R.tel.steps], MR tr r, BA q k]) (by (first | with_reducible exact Imp.refl | with_reducible exact Imp.left | (focus ((try simp only [List.nil_append]); (repeat (first | exact Imp.nil | (apply Imp.cons; (focus ((repeat (first | with_reducible exact Tk.here | apply Tk.there)); done))))); done)))) (Imp.perm ?_)
  have := (ma_tel tr r).symm
  rw [h.rtel] at this
  simp only [List.flatten_cons, List.flatten_nil, List.append_nil]
  refine List.Perm.append_left _ ?_
  rw [← List.append_assoc]
  exact List.Perm.append_right _ this
end Go.Proofs.Ytffmipimgodfdaa
namespace Go.Proofs.Ytffmipimgodfdaa
open Go Go.V
set_option maxHeartbeats 1600000
set_option maxRecDepth 100000
set_option linter.unusedSimpArgs false
set_option linter.unusedVariables false
def foo : ByteArray := ⟨#[102, 111, 111]⟩

theorem works_spec : Fun Try.prog 7 [] [] (fun v Post => v = .bool true ∧ Post = []) := by
  refine Fun.intro low7 (by simp [F7]) ?_
  refine GO ?_
  refine st_bslice (out := [vi (-1), vi 0, vi 1]) (by rfl) (by rfl) (fun q => ?_)
  have hA : RdInts (cellsAt q 0 [vi (-1), vi 0, vi 1]) (.slice (some ⟨q, 0, none⟩) 3 3) [-1, 0, 1] := .inr ⟨q, 0, 3, rfl, fun i x hx => mem_cellsAt.2 ⟨i, vi x, by
    rw [show [vi (-1), vi 0, vi 1] = [-1, 0, 1].map vi from rfl, List.getElem?_map, hx]; rfl, rfl⟩⟩
  refine st_call (new_spec _ _ _ hA (by decide)) (by rfl) (by (focus ((repeat (first | exact Spl.nil | (apply Spl.cons; (focus ((repeat (first | with_reducible exact Tk.here | apply Tk.there)); done))))); done))) (fun v Post hv => ?_)
  have hok : NewOk [-1, 0, 1] := by
    refine ⟨by decide, fun i s hs => ?_⟩
    match i, hs with
    | 0, hs => cases hs; decide
    | 1, hs => cases hs; decide
    | 2, hs => cases hs; decide
  rcases hv with hv | ⟨hn, _⟩
  rotate_left
  · exact absurd hok hn
  obtain ⟨_, t, R0, hf, rfl, rfl⟩ := hv
  obtain ⟨f0, a0⟩ := hf.fine
  have q0 : Quiet R0 := fun k hk => by rw [hf.glob] at hk; exact (List.mem_replicate.1 hk).2
  have z0 : R0.tel = {} := hf.tel
  rw [List.append_nil]
  refine VO.imp Imp.tail1 ?_
  refine GO ?_
  refine st_call (install_spec t R0 0 foo 7 hf.wf (by decide)) (by rfl) (R := []) (by simp [V.Spl]) (fun v Post hv => ?_)
  obtain ⟨rfl, R1, f1, a1, rfl, l1, q1⟩ := inst_abs f0 hv
  have e1 : instE R0.abs 0 foo = 0 := by rw [a0]; decide +kernel
  have b1 : R1.abs = ⟨[-1, 0, 1], [[(foo, 7)], [], []], 0⟩ := by rw [a1, a0]; decide +kernel
  rw [List.append_nil, e1]
  refine GO ?_
  have p1 : plain R1 2 foo = (some 7, 3) := by rw [plain_abs, b1]; decide +kernel
  have s1 : R1.sup = [-1, 0, 1] := congrArg Abs.sup b1
  obtain ⟨v1, v2, v3⟩ := look_twice f1.wf (q1 q0) (c := 2) (s := foo) (by rw [s1]; decide) (by decide +kernel) p1
  obtain ⟨_, f2, a2⟩ := look_abs R1 0 f1 2 foo
  obtain ⟨_, f3, a3⟩ := look_abs _ _ f2 2 foo
  refine st_call (lookup_full t R1 0 2 foo f1 (by decide) (by decide)) (by rfl) (R := []) (by simp [V.Spl]) (fun v Post hv => ?_)
  obtain ⟨rfl, rfl⟩ := hv
  rw [List.append_nil, v1]
  simp only [okM, Option.getD_some, Option.isSome_some]
  refine GO ?_
  refine st_call (lookup_full t _ 1 2 foo f2 (by decide) (by decide)) (by rfl) (R := []) (by simp [V.Spl]) (fun v Post hv => ?_)
  obtain ⟨rfl, rfl⟩ := hv
  rw [List.append_nil, v2]
  generalize (lookR (lookR R1 2 foo).2 2 foo).2 = R3 at v3 f3 a3 ⊢
  have b3 : R3.abs = ⟨[-1, 0, 1], [[(foo, 7)], [], []], 2⟩ := by rw [a3, a2, b1]; decide +kernel
  have w3 : R3.tel = ⟨2, 0, 1, 1, 3⟩ := by rw [v3, l1, z0]
  simp only [okM, Option.getD_some, Option.isSome_some]
  refine GO ?_
  refine st_call (counts_full t R3) (by rfl) (R := []) (by simp [V.Spl]) (fun v Post hv => ?_)
  obtain ⟨rfl, rfl⟩ := hv
  rw [List.append_nil, w3]
  simp only [telEnc]
  refine GO ?_
  refine st_alloc (fun q6 => ?_)
  refine GO ?_
  refine st_call (install_spec t R3 1 foo 8 f3.wf (by decide)) (by rfl) Spl.tail1 (fun v Post hv => ?_)
  obtain ⟨rfl, R4, f4, a4, rfl, _, _⟩ := inst_abs f3 hv
  have e4 : instE R3.abs 1 foo = 0 := by rw [b3]; decide +kernel
  have b4 : R4.abs = ⟨[-1, 0, 1], [[(foo, 7)], [(foo, 8)], []], 2⟩ := by rw [a4, b3]; decide +kernel
  rw [e4]
  refine GO ?_
  obtain ⟨g5, f5, a5⟩ := look_abs R4 2 f4 2 foo
  have v5 : (lookR R4 2 foo).1 = some 8 := by rw [g5, b4]; decide +kernel
  refine st_call (lookup_full t R4 2 2 foo f4 (by decide) (by decide)) (by rfl) (Spl.right (I := Full t R4)) (fun v Post hv => ?_)
  obtain ⟨rfl, rfl⟩ := hv
  rw [v5]
  generalize (lookR R4 2 foo).2 = R5 at f5 a5 ⊢
  have b5 : R5.abs = ⟨[-1, 0, 1], [[(foo, 7)], [(foo, 8)], []], 3⟩ := by rw [a5, b4]; decide +kernel
  simp only [okM, Option.getD_some, Option.isSome_some]
  refine GO ?_
  refine st_bslice (out := [vi 0]) (by rfl) (by rfl) (fun q2 => ?_)
  have hB : RdInts (cellsAt q2 0 [vi 0]) (.slice (some ⟨q2, 0, none⟩) 1 1) [0] := .inr ⟨q2, 0, 1, rfl, fun i x hx => mem_cellsAt.2 ⟨i, vi x, by
    rw [show [vi 0] = [0].map vi from rfl, List.getElem?_map, hx]; rfl, rfl⟩⟩
  refine st_call (new_spec _ _ _ hB (by decide)) (by rfl) (R := Full t R5 ++ [cellsAt q6 0 [vi 2, vi 0, vi 1, vi 1, vi 3]]) (by simp [V.Spl]) (fun v Post hv => ?_)
  rcases hv with hv | hv
  · exact absurd (hv.1.2 0 0 rfl).2 (by decide)
  obtain ⟨_, rfl, rfl⟩ := hv
  refine VO.imp Imp.tail1 ?_
  refine GO ?_
  refine st_call (send_spec t R5 (-1) 0 foo f5.wf 3 (by decide) f5.tel (by decide)) (by rfl) (R := [cellsAt q6 0 [vi 2, vi 0, vi 1, vi 1, vi 3]]) (by simp [V.Spl]) (fun v Post hv => ?_)
  obtain ⟨rfl, R6, f6, a6, rfl⟩ := send_abs f5 hv
  have e6 : sendE R5.abs (-1) 0 = 224 := by rw [b5]; decide +kernel
  have b6 : R6.abs = ⟨[-1, 0, 1], [[(foo, 7)], [(foo, 8)], []], 3⟩ := by rw [a6, b5]; decide +kernel
  rw [e6]
  simp only [okE]
  refine GO ?_
  refine st_call (remove_spec t R6 2 foo f6.wf (by decide)) (by rfl) (R := [cellsAt q6 0 [vi 2, vi 0, vi 1, vi 1, vi 3]]) (by simp [V.Spl]) (fun v Post hv => ?_)
  obtain ⟨rfl, R7, f7, a7, rfl⟩ := rem_abs f6 hv
  have e7 : remE R6.abs 2 foo = 223 := by rw [b6]; decide +kernel
  have b7 : R7.abs = ⟨[-1, 0, 1], [[(foo, 7)], [(foo, 8)], []], 3⟩ := by rw [a7, b6]; decide +kernel
  rw [e7]
  refine GO ?_
  refine st_call (install_spec t R7 0 ⟨#[]⟩ 1 f7.wf (by decide)) (by rfl) (R := [cellsAt q6 0 [vi 2, vi 0, vi 1, vi 1, vi 3]]) (by simp [V.Spl]) (fun v Post hv => ?_)
  obtain ⟨rfl, R8, f8, a8, rfl, _, _⟩ := inst_abs f7 hv
  have e8 : instE R7.abs 0 ⟨#[]⟩ = 221 := by rw [b7]; decide +kernel
  rw [e8]
  refine GO ?_
  exact endQ_mk (.inr rfl) (.tmp (by rfl) .nil) ⟨rfl, rfl⟩ Imp.nil
end Go.Proofs.Ytffmipimgodfdaa

/-
  Both tables, call by call.
-/
import Derived.Test.YtffmipimgodfdaaDI
import Derived.Test.YtffmipimgodfdaaTD
import Derived.Test.YtffmipimgodfdaaD8
import Derived.Test.YtffmipimgodfdaaWM
import Derived.KernelRfl
import Derived.Test.YtffmipimgodfdaaProg
import Derived.Test.YtffmipimgodfdaaRZ
set_option linter.unusedSimpArgs false
set_option linter.unusedVariables false
namespace Go.Proofs.Ytffmipimgodfdaa
open Go Go.V
set_option maxHeartbeats 1600000
set_option maxRecDepth 100000
set_option linter.unusedSimpArgs false
set_option linter.unusedVariables false
structure Both (R : TRep) (r : RTab) (N : Nat) : Prop where
  wf : WF R
  tel : TelOk R.tel N
  ok : ROk r
  sim : Sim R r.dt
theorem Both.rtel {R : TRep} {r : RTab} {N : Nat} (h : Both R r N) : r.tel = R.tel := h.sim.tel
theorem Both.rsup {R : TRep} {r : RTab} {N : Nat} (h : Both R r N) : r.sup = R.sup := h.sim.sup
theorem Both.more {R : TRep} {r : RTab} {N M : Nat} (h : Both R r N) (hm : N ≤ M) : Both R r M := by
  obtain ⟨h1, ⟨t1, t2, t3, t4, t5⟩, h3, h4⟩ := h
  exact ⟨h1, ⟨by omega, by omega, by omega, by omega, t5⟩, h3, h4⟩
theorem Both.dic {R : TRep} {r : RTab} {N : Nat} (h : Both R r N) (c : Int) : r.dt.dic c = R.dic c := h.sim.dic c
theorem nod_dic {R : TRep} (h : WF R) {c : Int} (hc : 0 ≤ c ∧ c < R.sup.length) : ((R.dic c).map (·.1)).Nodup := by
  obtain ⟨d, h1, h2, _⟩ := dic_at h hc.1 hc.2
  rw [h2]; exact h.keys d (List.mem_of_getElem? h1)
theorem noe_dic {R : TRep} {D : DT} (h : Sim R D) (c : Int) : ∀ s ∈ (R.dic c).map (·.1), s ≠ noSel := by
  intro s hs e
  have h0 := h.noe c
  generalize R.dic c = l at hs h0
  induction l with
  | nil => cases hs
  | cons q l ih =>
    simp only [mget] at h0
    split at h0
    · cases h0
    · rename_i hne
      simp only [List.map_cons, List.mem_cons] at hs
      rcases hs with hs | hs
      · exact hne (by rw [← hs, e]; rfl)
      · exact ih hs h0
/-- An installing or a removing. -/
theorem both_lay {R : TRep} {r : RTab} {N : Nat} (h : Both R r N) {c : Int} (hc : 0 ≤ c ∧ c < R.sup.length) {s : ByteArray} {d : DicR} {es : Array MapEntry} (hw1 : WF (layR R c d)) (hw2 : WF (forgetR (layR R c d) (fun u => decide (u = s)) es)) (hn : mget ⟨#[]⟩ d.m = none)
    {r' : RTab} (hok : ROk r') (hdt : r'.dt = forgetD (layD r.dt c d.m) (fun u => decide (u = s))) : Both (forgetR (layR R c d) (fun u => decide (u = s)) es) r' N := by
  have hl := h.wf.len
  refine ⟨hw2, h.tel, hok, ?_⟩
  rw [hdt]
  exact sim_forget (sim_lay h.sim hc.1 (by omega) hn) _ (fun _ _ _ => trivial) es
theorem both_inst {t tr : Nat} {R : TRep} {r : RTab} {N : Nat} {c : Int} {s : ByteArray} {m : Int} {v v2 : Value} {Post Post2 : SH} (h : Both R r N) (hp : InstP t R c s m v Post) (hp2 : InstR tr (instD r.dt c s m) v2 Post2) :
    ∃ e R' r', v = vi e ∧ v2 = vi e ∧ Post = Full t R' ∧ Post2 = RMem tr r' ∧ Both R' r' N ∧ R'.sup = R.sup := by
  obtain ⟨r', k1, k2, rfl, rfl⟩ := hp2
  have hsup := h.rsup
  have hsim := h.sim
  unfold InstP at hp
  have hi : instD r.dt c s m = if 0 ≤ c ∧ c < R.sup.length then
    if s.size < 1 ∨ 640 < s.size then (221, r.dt) else if mget s (R.dic c) = none ∧ 4096 ≤ (R.dic c).length then (222, r.dt) else (0, forgetD (layD r.dt c (mset s m (R.dic c))) (fun u => decide (u = s))) else (220, r.dt) := by
    unfold instD
    rw [h.dic c, show r.dt.sup = R.sup from hsup]
  by_cases hc : 0 ≤ c ∧ c < R.sup.length
  · rw [if_pos hc] at hp hi
    by_cases h1 : s.size < 1 ∨ 640 < s.size
    · rw [if_pos h1] at hp hi
      rw [hi] at k2 ⊢
      exact ⟨_, R, r', hp.1, rfl, hp.2, rfl, ⟨h.wf, h.tel, k1, by rw [k2]; exact hsim⟩, rfl⟩
    · rw [if_neg h1] at hp hi
      by_cases h2 : mget s (R.dic c) = none ∧ 4096 ≤ (R.dic c).length
      · rw [if_pos h2] at hp hi
        rw [hi] at k2 ⊢
        exact ⟨_, R, r', hp.1, rfl, hp.2, rfl, ⟨h.wf, h.tel, k1, by rw [k2]; exact hsim⟩, rfl⟩
      · rw [if_neg h2] at hp hi
        rw [hi] at k2 ⊢
        obtain ⟨d, es, e1, e2, e3, e4, e5⟩ := hp
        refine ⟨_, _, r', e4, rfl, e5, rfl, both_lay h hc e2 e3 ?_ k1 (by rw [k2, e1]), rfl⟩
        rw [e1, mget_mset]
        split
        · rename_i he
          exfalso
          rw [he] at h1
          exact h1 (.inl (by decide))
        · exact h.sim.noe c
  · rw [if_neg hc] at hp hi
    rw [hi] at k2 ⊢
    exact ⟨_, R, r', hp.1, rfl, hp.2, rfl, ⟨h.wf, h.tel, k1, by rw [k2]; exact hsim⟩, rfl⟩
theorem both_rem {t tr : Nat} {R : TRep} {r : RTab} {N : Nat} {c : Int} {s : ByteArray} {v v2 : Value} {Post Post2 : SH} (h : Both R r N) (hp : RemP t R c s v Post) (hp2 : InstR tr (remD r.dt c s) v2 Post2) :
    ∃ e R' r', v = vi e ∧ v2 = vi e ∧ Post = Full t R' ∧ Post2 = RMem tr r' ∧ Both R' r' N ∧ R'.sup = R.sup := by
  obtain ⟨r', k1, k2, rfl, rfl⟩ := hp2
  have hsup := h.rsup
  have hsim := h.sim
  unfold RemP at hp
  have hi : remD r.dt c s = if 0 ≤ c ∧ c < R.sup.length then
    if mget s (R.dic c) = none then (223, r.dt) else (0, forgetD (layD r.dt c (mdel s (R.dic c))) (fun u => decide (u = s))) else (220, r.dt) := by
    unfold remD
    rw [h.dic c, show r.dt.sup = R.sup from hsup]
  by_cases hc : 0 ≤ c ∧ c < R.sup.length
  · rw [if_pos hc] at hp hi
    by_cases h2 : mget s (R.dic c) = none
    · rw [if_pos h2] at hp hi
      rw [hi] at k2 ⊢
      exact ⟨_, R, r', hp.1, rfl, hp.2, rfl, ⟨h.wf, h.tel, k1, by rw [k2]; exact hsim⟩, rfl⟩
    · rw [if_neg h2] at hp hi
      rw [hi] at k2 ⊢
      obtain ⟨d, es, e1, e2, e3, e4, e5⟩ := hp
      refine ⟨_, _, r', e4, rfl, e5, rfl, both_lay h hc e2 e3 ?_ k1 (by rw [k2, e1]), rfl⟩
      rw [e1, mget_mdel (nod_dic h.wf hc)]
      split
      · rfl
      · exact h.sim.noe c
  · rw [if_neg hc] at hp hi
    rw [hi] at k2 ⊢
    exact ⟨_, R, r', hp.1, rfl, hp.2, rfl, ⟨h.wf, h.tel, k1, by rw [k2]; exact hsim⟩, rfl⟩
theorem ask_tel {R : TRep} (h : WF R) {c : Int} (hc : 0 ≤ c ∧ c < R.sup.length) (s : ByteArray) {N : Nat} (h1 : R.tel.asked ≤ N) (h2 : R.tel.inl ≤ N) (h3 : R.tel.glob + 1 ≤ N) (h4 : R.tel.walked + 1 ≤ N) (h5 : R.tel.steps ≤ 4096 * R.tel.walked) :
    TelOk (askR R c s).2.tel N ∧ (askR R c s).2.sup = R.sup := by
  have hp := plain_le R s c
  have hs := h.small
  unfold askR
  simp only
  split
  · exact ⟨⟨h1, h2, h3, by simp only; omega, h5⟩, rfl⟩
  · split
    · exact ⟨⟨h1, h2, by simp only [Tel.walk]; omega, h4, by simp only [Tel.walk]; omega⟩, rfl⟩
    · exact ⟨⟨h1, h2, by simp only [Tel.walk]; omega, h4, by simp only [Tel.walk]; omega⟩, rfl⟩
theorem both_look {tr : Nat} {R : TRep} {r : RTab} {N : Nat} {c : Int} {s : ByteArray} {v2 : Value} {Post2 : SH} (h : Both R r N) (hp2 : GlbP tr r (lookD r.dt c s) v2 Post2) :
    v2 = okM (lookR R c s).1 ∧ ∃ r', Post2 = RMem tr r' ∧ Both (lookR R c s).2 r' (N + 1) ∧ (lookR R c s).2.sup = R.sup := by
  obtain ⟨T, G, g1, g2, rfl, rfl⟩ := hp2
  have hok := h.ok.tg T G g1
  have hdt : ({ r with tel := T, glob := G } : RTab).dt = (lookD r.dt c s).2 := g2.symm
  obtain ⟨t1, t2, t3, t4, t5⟩ := h.tel
  unfold lookR
  have hl : lookD r.dt c s = if 0 ≤ c ∧ c < R.sup.length then glbD r.dt.ask1 c s else (none, r.dt) := by unfold lookD; rw [h.sim.sup]
  by_cases hc : 0 ≤ c ∧ c < R.sup.length
  · rw [if_pos hc] at hl
    rw [hl] at hdt ⊢
    simp only [if_pos hc]
    have hw : WF R.ask1 := h.wf.withTel _
    obtain ⟨a1, a2⟩ := sim_ask (R := R.ask1) (D := r.dt.ask1) h.sim.ask1 hw s hc.1
    have ht := ask_tel hw hc s (N := N + 1) (by simp only [TRep.ask1]; omega) (by simp only [TRep.ask1]; omega) (by simp only [TRep.ask1]; omega) (by simp only [TRep.ask1]; omega) t5
    exact ⟨by rw [a1], _, rfl, ⟨hw.ask c s, ht.1, hok, by rw [hdt]; exact a2⟩, ht.2⟩
  · rw [if_neg hc] at hl
    rw [hl] at hdt ⊢
    simp only [if_neg hc]
    exact ⟨trivial, _, rfl, ⟨h.wf, ⟨by omega, by omega, by omega, by omega, t5⟩, hok, by rw [hdt]; exact h.sim⟩, trivial⟩
theorem both_send {t tr : Nat} {R : TRep} {r : RTab} {N : Nat} {a c : Int} {s : ByteArray} {v v2 : Value} {Post Post2 : SH} (h : Both R r N) (hp : SendP t R a c s v Post) (hp2 : SndAll tr r a c s v2 Post2) :
    ∃ o e R' r', v = okE o e ∧ v2 = okE o e ∧ Post = Full t R' ∧ Post2 = RMem tr r' ∧ Both R' r' (N + 1) ∧ R'.sup = R.sup := by
  have hsup := h.rsup
  have hsim := h.sim
  obtain ⟨t1, t2, t3, t4, t5⟩ := h.tel
  unfold SendP at hp
  unfold SndAll at hp2
  rw [hsup] at hp2
  by_cases ha : 0 ≤ a ∧ a < 65536
  · rw [if_pos ha] at hp hp2
    by_cases hc : 0 ≤ c ∧ c < R.sup.length
    · rw [if_pos hc] at hp hp2
      obtain ⟨b, es, k, x, R1, e1, e2, e3, e4, e5⟩ := hp
      obtain ⟨r', k1, k2, k3, k4⟩ := hp2
      obtain ⟨s1, s2, s3, s4⟩ := sim_site h.sim.ask1 a s b es k
      rw [e1] at s1 s2 s3 s4
      simp only at s1 s2 s3 s4
      have hmem := mget_mem s4
      have hx := e2.site _ hmem
      rw [s1] at k2 k3
      obtain ⟨u1, u2⟩ := sim_sendT (at_ := a) s2 e2 hc.1 hx s3
      rw [← k2] at u2
      rw [u1] at k3
      have hR1 : R1.tel = R.ask1.tel ∧ R1.sup = R.sup := by
        have := congrArg (·.2) e1
        simp only at this
        rw [← this]
        unfold siteR
        simp only
        split
        · exact ⟨rfl, rfl⟩
        · split <;> exact ⟨rfl, rfl⟩
      have hask := ask_tel e2 (c := c) (by rw [hR1.2]; exact hc) s (N := N + 1) (by rw [hR1.1]; simp only [TRep.ask1]; omega) (by rw [hR1.1]; simp only [TRep.ask1]; omega) (by rw [hR1.1]; simp only [TRep.ask1]; omega) (by rw [hR1.1]; simp only [TRep.ask1]; omega) (by rw [hR1.1]; exact t5)
      have htel : TelOk (sendT R1 a c s x).2.tel (N + 1) ∧ (sendT R1 a c s x).2.sup = R.sup := by
        unfold sendT
        simp only
        split
        · refine ⟨?_, hR1.2⟩
          rw [hR1.1]
          exact ⟨by simp only [TRep.ask1]; omega, by simp only [TRep.ask1]; omega, by simp only [TRep.ask1]; omega, by simp only [TRep.ask1]; omega, t5⟩
        · split
          · exact ⟨hask.1, hask.2.trans hR1.2⟩
          · split
            · exact ⟨hask.1, hask.2.trans hR1.2⟩
            · exact ⟨hask.1, hask.2.trans hR1.2⟩
      exact ⟨_, 0, _, r', e4, k3, e5, k4, ⟨e3, htel.1, k1, u2⟩, htel.2⟩
    · rw [if_neg hc] at hp hp2
      exact ⟨none, 220, R, r, hp.1, hp2.1, hp.2, hp2.2, h.more (by omega), rfl⟩
  · rw [if_neg ha] at hp hp2
    exact ⟨none, 224, R, r, hp.1, hp2.1, hp.2, hp2.2, h.more (by omega), rfl⟩
theorem both_flush {R : TRep} {r : RTab} {N : Nat} (h : Both R r N) {es : Array MapEntry} (hw : WF (forgetR R (fun _ => true) es)) : Both (forgetR R (fun _ => true) es) (noAll r) N :=
  ⟨hw, h.tel, noAll_ok h.ok, by rw [noAll_dt]; exact sim_forget h.sim _ (fun _ _ _ => trivial) es⟩
end Go.Proofs.Ytffmipimgodfdaa
namespace Go.Proofs.Ytffmipimgodfdaa
open Go Go.V
set_option maxRecDepth 100000
/- palaver/palaverref00.SameTexts -/
def kp35 : List (Nat × List Nat) := [(0, [0, 1]), (1, [0, 1, 10]), (2, [4]), (3, [0, 1, 5]), (4, [0, 1, 5, 14]), (5, [0, 1, 5]), (6, [0, 1, 5, 25]), (7, [4]), (8, [4])]
def od35 : List (Nat × List (List Nat)) := [(6, [[0, 1, 2, 3, 4, 5, 6, 7, 8]])]
def F35 : FIR := ⟨26, [.tmp 4],
 (.seq (.reg [⟨(some 4), none, .mv (.const (Value.bool false))⟩] [0, 1])
 (.seq (.seq (.reg [⟨(some 6), none, .mv (.tmp 0)⟩,
 ⟨(some 7), none, .lenL (.tmp 6)⟩,
 ⟨(some 8), none, .mv (.tmp 1)⟩,
 ⟨(some 9), none, .lenL (.tmp 8)⟩,
 ⟨(some 10), none, .bin .neq (.tmp 7) (.tmp 9)⟩] [0, 1, 10])
 (.cond (.tmp 10)
 (.seq (.reg [⟨(some 4), none, .mv (.const (Value.bool false))⟩] [4])
 .ret)
 .skip))
 (.seq (.seq (.reg [⟨(some 5), none, .mv (.const (Value.int IntKind.i64 0))⟩] [0, 1, 5])
 (.block 0
 (.loop
 (.seq (.seq (.reg [⟨(some 11), none, .mv (.tmp 5)⟩,
 ⟨(some 12), none, .mv (.tmp 0)⟩,
 ⟨(some 13), none, .lenL (.tmp 12)⟩,
 ⟨(some 14), none, .bin .lss (.tmp 11) (.tmp 13)⟩] [0, 1, 5, 14])
 (.cond (.tmp 14)
 .skip
 (.exit 0)))
 (.seq (.block 1
 (.seq (.draw [[⟨(some 17), none, .mv (.tmp 0)⟩,
 ⟨(some 18), none, .mv (.tmp 5)⟩,
 ⟨(some 19), none, .idxL 1 (.tmp 17) (.tmp 18)⟩,
 ⟨(some 20), none, .load1 (.tmp 19)⟩,
 ⟨(some 21), none, .mv (.tmp 1)⟩,
 ⟨(some 22), none, .mv (.tmp 5)⟩,
 ⟨(some 23), none, .idxL 1 (.tmp 21) (.tmp 22)⟩,
 ⟨(some 24), none, .load1 (.tmp 23)⟩,
 ⟨(some 25), none, .bin .neq (.tmp 20) (.tmp 24)⟩]] [0, 1, 5, 25])
 (.cond (.tmp 25)
 (.seq (.reg [⟨(some 4), none, .mv (.const (Value.bool false))⟩] [4])
 .ret)
 .skip)))
 (.reg [⟨(some 15), none, .mv (.tmp 5)⟩,
 ⟨(some 16), none, .bin .add (.tmp 15) (.const (Value.int IntKind.i64 1))⟩,
 ⟨(some 5), none, .mv (.tmp 16)⟩] [0, 1, 5]))))))
 (.seq (.reg [⟨(some 4), none, .mv (.const (Value.bool true))⟩] [4])
 .ret))))⟩
theorem low35 : lowF Try.prog (assoc kp35) (assoc od35) 35 = some F35 := by kernel_rfl

/- palaver/palaverref00.LentInts -/
def kp15 : List (Nat × List Nat) := [(0, [0]), (1, [0, 3]), (2, [0, 4]), (3, [2])]
def od15 : List (Nat × List (List Nat)) := []
def F15 : FIR := ⟨18, [.tmp 2],
 (.seq (.reg [⟨(some 2), none, .mv (.const (Value.slice none 0 0))⟩] [0])
 (.seq (.reg [⟨(some 5), none, .mv (.tmp 0)⟩,
 ⟨(some 6), none, .lenL (.tmp 5)⟩,
 ⟨(some 7), none, .bin .add (.tmp 6) (.const (Value.int IntKind.i64 2))⟩,
 ⟨(some 8), none, .mkslice 3 1 8 [(Value.int IntKind.i64 0)] (.const (Value.int IntKind.i64 0)) (.tmp 7)⟩,
 ⟨(some 9), none, .mv (.tmp 0)⟩,
 ⟨(some 10), none, .append 3 1 8 [(Value.int IntKind.i64 0)] (.tmp 8) (.tmp 9)⟩,
 ⟨(some 3), none, .mv (.tmp 10)⟩] [0, 3])
 (.seq (.reg [⟨(some 11), none, .mv (.tmp 3)⟩,
 ⟨(some 12), none, .bslice 3 2 [(Value.int IntKind.i64 0)] [(0, 1, (.const (Value.int IntKind.i64 (-771)))), (1, 1, (.const (Value.int IntKind.i64 (-772))))]⟩,
 ⟨(some 13), none, .append 3 1 8 [(Value.int IntKind.i64 0)] (.tmp 11) (.tmp 12)⟩,
 ⟨(some 4), none, .mv (.tmp 13)⟩] [0, 4])
 (.seq (.reg [⟨(some 14), none, .mv (.tmp 4)⟩,
 ⟨(some 15), none, .mv (.tmp 0)⟩,
 ⟨(some 16), none, .lenL (.tmp 15)⟩,
 ⟨(some 17), none, .slcL 1 (.tmp 14) none (some (.tmp 16)) none⟩,
 ⟨(some 2), none, .mv (.tmp 17)⟩] [2])
 .ret))))⟩
theorem low15 : lowF Try.prog (assoc kp15) (assoc od15) 15 = some F15 := by kernel_rfl

/- palaver/palaverref00.WholeInts -/
def kp17 : List (Nat × List Nat) := [(0, [0, 1, 23, 24, 25, 26, 27, 28, 31, 32, 33, 34, 35, 36, 37]), (1, [0, 1, 12, 23, 24, 25, 26, 27, 28, 31, 32, 33, 34, 35, 36, 37]), (2, [4]), (3, [0, 1, 5, 23, 24, 25, 26, 27, 28, 31, 32, 33, 34, 35, 36, 37]), (4, [0, 5, 6, 23, 24, 25, 26, 27, 28, 31, 32, 33, 34, 35, 36, 37]), (5, [4])]
def od17 : List (Nat × List (List Nat)) := []
def F17 : FIR := ⟨39, [.tmp 4],
 (.seq (.reg [⟨(some 4), none, .mv (.const (Value.bool false))⟩] [0, 1, 23, 24, 25, 26, 27, 28, 31, 32, 33, 34, 35, 36, 37])
 (.seq (.seq (.reg [⟨(some 7), none, .mv (.tmp 0)⟩,
 ⟨(some 8), none, .cap (.tmp 7)⟩,
 ⟨(some 9), none, .mv (.tmp 0)⟩,
 ⟨(some 10), none, .lenL (.tmp 9)⟩,
 ⟨(some 11), none, .bin .add (.tmp 10) (.const (Value.int IntKind.i64 2))⟩,
 ⟨(some 12), none, .bin .lss (.tmp 8) (.tmp 11)⟩] [0, 1, 12, 23, 24, 25, 26, 27, 28, 31, 32, 33, 34, 35, 36, 37])
 (.cond (.tmp 12)
 (.seq (.reg [⟨(some 4), none, .mv (.const (Value.bool false))⟩] [4])
 .ret)
 .skip))
 (.seq (.reg [⟨(some 13), none, .mv (.tmp 0)⟩,
 ⟨(some 14), none, .mv (.tmp 0)⟩,
 ⟨(some 15), none, .lenL (.tmp 14)⟩,
 ⟨(some 16), none, .bin .add (.tmp 15) (.const (Value.int IntKind.i64 2))⟩,
 ⟨(some 17), none, .slcL 1 (.tmp 13) none (some (.tmp 16)) none⟩,
 ⟨(some 5), none, .mv (.tmp 17)⟩] [0, 1, 5, 23, 24, 25, 26, 27, 28, 31, 32, 33, 34, 35, 36, 37])
 (.seq (.reg [⟨(some 18), none, .mv (.tmp 0)⟩,
 ⟨(some 19), none, .mv (.tmp 1)⟩,
 ⟨(some 20), none, .call 29 [(.tmp 18), (.tmp 19)]⟩,
 ⟨(some 6), none, .mv (.tmp 20)⟩] [0, 5, 6, 23, 24, 25, 26, 27, 28, 31, 32, 33, 34, 35, 36, 37])
 (.seq (.reg [⟨(some 21), none, .mv (.tmp 6)⟩,
 ⟨(some 22), none, .mv (.tmp 21)⟩,
 ⟨(some 23), (some (22, true)), .mv (.tmp 5)⟩,
 ⟨(some 24), (some (22, true)), .mv (.tmp 0)⟩,
 ⟨(some 25), (some (22, true)), .lenL (.tmp 24)⟩,
 ⟨(some 26), (some (22, true)), .idxL 1 (.tmp 23) (.tmp 25)⟩,
 ⟨(some 27), (some (22, true)), .load1 (.tmp 26)⟩,
 ⟨(some 28), (some (22, true)), .bin .eql (.tmp 27) (.const (Value.int IntKind.i64 (-771)))⟩,
 ⟨(some 29), none, .pick (.tmp 22) (.tmp 28) (.const (Value.bool false))⟩,
 ⟨(some 30), none, .mv (.tmp 29)⟩,
 ⟨(some 31), (some (30, true)), .mv (.tmp 5)⟩,
 ⟨(some 32), (some (30, true)), .mv (.tmp 0)⟩,
 ⟨(some 33), (some (30, true)), .lenL (.tmp 32)⟩,
 ⟨(some 34), (some (30, true)), .bin .add (.tmp 33) (.const (Value.int IntKind.i64 1))⟩,
 ⟨(some 35), (some (30, true)), .idxL 1 (.tmp 31) (.tmp 34)⟩,
 ⟨(some 36), (some (30, true)), .load1 (.tmp 35)⟩,
 ⟨(some 37), (some (30, true)), .bin .eql (.tmp 36) (.const (Value.int IntKind.i64 (-772)))⟩,
 ⟨(some 38), none, .pick (.tmp 30) (.tmp 37) (.const (Value.bool false))⟩,
 ⟨(some 4), none, .mv (.tmp 38)⟩] [4])
 .ret)))))⟩
theorem low17 : lowF Try.prog (assoc kp17) (assoc od17) 17 = some F17 := by kernel_rfl

/- palaver/palaverref00.SpoilInts -/
def kp18 : List (Nat × List Nat) := [(0, [2]), (1, [2, 3]), (2, [2, 3, 11]), (3, [2, 3]), (4, [2, 3])]
def od18 : List (Nat × List (List Nat)) := []
def F18 : FIR := ⟨17, [],
 (.seq (.reg [⟨(some 4), none, .mv (.tmp 0)⟩,
 ⟨(some 5), none, .mv (.tmp 0)⟩,
 ⟨(some 6), none, .cap (.tmp 5)⟩,
 ⟨(some 7), none, .slcL 1 (.tmp 4) none (some (.tmp 6)) none⟩,
 ⟨(some 2), none, .mv (.tmp 7)⟩] [2])
 (.seq (.reg [⟨(some 3), none, .mv (.const (Value.int IntKind.i64 0))⟩] [2, 3])
 (.block 0
 (.loop
 (.seq (.seq (.reg [⟨(some 8), none, .mv (.tmp 3)⟩,
 ⟨(some 9), none, .mv (.tmp 2)⟩,
 ⟨(some 10), none, .lenL (.tmp 9)⟩,
 ⟨(some 11), none, .bin .lss (.tmp 8) (.tmp 10)⟩] [2, 3, 11])
 (.cond (.tmp 11)
 .skip
 (.exit 0)))
 (.seq (.block 1
 (.reg [⟨(some 14), none, .mv (.tmp 2)⟩,
 ⟨(some 15), none, .mv (.tmp 3)⟩,
 ⟨(some 16), none, .idxL 1 (.tmp 14) (.tmp 15)⟩,
 ⟨none, none, .store 1 (.tmp 16) (.const (Value.int IntKind.i64 (-779)))⟩] [2, 3]))
 (.reg [⟨(some 12), none, .mv (.tmp 3)⟩,
 ⟨(some 13), none, .bin .add (.tmp 12) (.const (Value.int IntKind.i64 1))⟩,
 ⟨(some 3), none, .mv (.tmp 13)⟩] [2, 3])))))))⟩
theorem low18 : lowF Try.prog (assoc kp18) (assoc od18) 18 = some F18 := by kernel_rfl

/- palaver/palaverref00.SameInts -/
def kp29 : List (Nat × List Nat) := [(0, [0, 1]), (1, [0, 1, 10]), (2, [4]), (3, [0, 1, 5]), (4, [0, 1, 5, 14]), (5, [0, 1, 5]), (6, [0, 1, 5, 25]), (7, [4]), (8, [4])]
def od29 : List (Nat × List (List Nat)) := [(6, [[0, 1, 2, 3, 4, 5, 6, 7, 8]])]
def F29 : FIR := ⟨26, [.tmp 4],
 (.seq (.reg [⟨(some 4), none, .mv (.const (Value.bool false))⟩] [0, 1])
 (.seq (.seq (.reg [⟨(some 6), none, .mv (.tmp 0)⟩,
 ⟨(some 7), none, .lenL (.tmp 6)⟩,
 ⟨(some 8), none, .mv (.tmp 1)⟩,
 ⟨(some 9), none, .lenL (.tmp 8)⟩,
 ⟨(some 10), none, .bin .neq (.tmp 7) (.tmp 9)⟩] [0, 1, 10])
 (.cond (.tmp 10)
 (.seq (.reg [⟨(some 4), none, .mv (.const (Value.bool false))⟩] [4])
 .ret)
 .skip))
 (.seq (.seq (.reg [⟨(some 5), none, .mv (.const (Value.int IntKind.i64 0))⟩] [0, 1, 5])
 (.block 0
 (.loop
 (.seq (.seq (.reg [⟨(some 11), none, .mv (.tmp 5)⟩,
 ⟨(some 12), none, .mv (.tmp 0)⟩,
 ⟨(some 13), none, .lenL (.tmp 12)⟩,
 ⟨(some 14), none, .bin .lss (.tmp 11) (.tmp 13)⟩] [0, 1, 5, 14])
 (.cond (.tmp 14)
 .skip
 (.exit 0)))
 (.seq (.block 1
 (.seq (.draw [[⟨(some 17), none, .mv (.tmp 0)⟩,
 ⟨(some 18), none, .mv (.tmp 5)⟩,
 ⟨(some 19), none, .idxL 1 (.tmp 17) (.tmp 18)⟩,
 ⟨(some 20), none, .load1 (.tmp 19)⟩,
 ⟨(some 21), none, .mv (.tmp 1)⟩,
 ⟨(some 22), none, .mv (.tmp 5)⟩,
 ⟨(some 23), none, .idxL 1 (.tmp 21) (.tmp 22)⟩,
 ⟨(some 24), none, .load1 (.tmp 23)⟩,
 ⟨(some 25), none, .bin .neq (.tmp 20) (.tmp 24)⟩]] [0, 1, 5, 25])
 (.cond (.tmp 25)
 (.seq (.reg [⟨(some 4), none, .mv (.const (Value.bool false))⟩] [4])
 .ret)
 .skip)))
 (.reg [⟨(some 15), none, .mv (.tmp 5)⟩,
 ⟨(some 16), none, .bin .add (.tmp 15) (.const (Value.int IntKind.i64 1))⟩,
 ⟨(some 5), none, .mv (.tmp 16)⟩] [0, 1, 5]))))))
 (.seq (.reg [⟨(some 4), none, .mv (.const (Value.bool true))⟩] [4])
 .ret))))⟩
theorem low29 : lowF Try.prog (assoc kp29) (assoc od29) 29 = some F29 := by kernel_rfl

/- (*palaver/palaverref00.Book).Texts -/
def kp36 : List (Nat × List Nat) := [(0, [])]
def od36 : List (Nat × List (List Nat)) := []
def F36 : FIR := ⟨14, [],
 (.reg [⟨(some 4), none, .mv (.tmp 0)⟩,
 ⟨(some 5), none, .mv (.tmp 0)⟩,
 ⟨(some 6), none, .nilck (.tmp 5)⟩,
 ⟨(some 7), none, .fld 6 (.tmp 6)⟩,
 ⟨(some 8), none, .load1 (.tmp 7)⟩,
 ⟨(some 9), none, .mv (.tmp 1)⟩,
 ⟨(some 10), none, .bslice 88 1 [(Value.slice none 0 0)] [(0, 1, (.tmp 9))]⟩,
 ⟨(some 11), none, .append 88 1 24 [(Value.slice none 0 0)] (.tmp 8) (.tmp 10)⟩,
 ⟨(some 12), none, .nilck (.tmp 4)⟩,
 ⟨(some 13), none, .fld 6 (.tmp 12)⟩,
 ⟨none, none, .store 1 (.tmp 13) (.tmp 11)⟩] [])⟩
theorem low36 : lowF Try.prog (assoc kp36) (assoc od36) 36 = some F36 := by kernel_rfl

/- (*palaver/palaverref00.Book).Own -/
def kp20 : List (Nat × List Nat) := [(0, [0, 53, 56, 59, 62, 65, 68, 71]), (1, [0, 3, 53, 56, 59, 62, 65, 68, 71]), (2, [0, 3, 4, 53, 56, 59, 62, 65, 68, 71]), (3, [0, 3, 4, 5, 53, 56, 59, 62, 65, 68, 71]), (4, [0, 3, 4, 5, 6, 53, 56, 59, 62, 65, 68, 71]), (5, [0, 3, 4, 5, 6, 7, 53, 56, 59, 62, 65, 68, 71]), (6, [0, 3, 4, 5, 6, 7, 8, 53, 56, 59, 62, 65, 68, 71]), (7, [0, 3, 4, 5, 6, 7, 8, 9, 53, 56, 59, 62, 65, 68, 71]), (8, [3, 4, 5, 6, 7, 8, 9, 10, 53, 56, 59, 62, 65, 68, 71]), (9, [2])]
def od20 : List (Nat × List (List Nat)) := []
def F20 : FIR := ⟨73, [.tmp 2],
 (.seq (.reg [⟨(some 2), none, .mv (.const (Value.bool false))⟩] [0, 53, 56, 59, 62, 65, 68, 71])
 (.seq (.reg [⟨(some 11), none, .mv (.tmp 0)⟩,
 ⟨(some 12), none, .nilck (.tmp 11)⟩,
 ⟨(some 13), none, .fld 0 (.tmp 12)⟩,
 ⟨(some 14), none, .load1 (.tmp 13)⟩,
 ⟨(some 15), none, .call 39 [(.tmp 14)]⟩,
 ⟨(some 3), none, .mv (.tmp 15)⟩] [0, 3, 53, 56, 59, 62, 65, 68, 71])
 (.seq (.reg [⟨(some 16), none, .mv (.tmp 0)⟩,
 ⟨(some 17), none, .nilck (.tmp 16)⟩,
 ⟨(some 18), none, .fld 1 (.tmp 17)⟩,
 ⟨(some 19), none, .load1 (.tmp 18)⟩,
 ⟨(some 20), none, .call 40 [(.tmp 19)]⟩,
 ⟨(some 4), none, .mv (.tmp 20)⟩] [0, 3, 4, 53, 56, 59, 62, 65, 68, 71])
 (.seq (.reg [⟨(some 21), none, .mv (.tmp 0)⟩,
 ⟨(some 22), none, .nilck (.tmp 21)⟩,
 ⟨(some 23), none, .fld 2 (.tmp 22)⟩,
 ⟨(some 24), none, .load1 (.tmp 23)⟩,
 ⟨(some 25), none, .call 41 [(.tmp 24)]⟩,
 ⟨(some 5), none, .mv (.tmp 25)⟩] [0, 3, 4, 5, 53, 56, 59, 62, 65, 68, 71])
 (.seq (.reg [⟨(some 26), none, .mv (.tmp 0)⟩,
 ⟨(some 27), none, .nilck (.tmp 26)⟩,
 ⟨(some 28), none, .fld 3 (.tmp 27)⟩,
 ⟨(some 29), none, .load1 (.tmp 28)⟩,
 ⟨(some 30), none, .call 42 [(.tmp 29)]⟩,
 ⟨(some 6), none, .mv (.tmp 30)⟩] [0, 3, 4, 5, 6, 53, 56, 59, 62, 65, 68, 71])
 (.seq (.reg [⟨(some 31), none, .mv (.tmp 0)⟩,
 ⟨(some 32), none, .nilck (.tmp 31)⟩,
 ⟨(some 33), none, .fld 4 (.tmp 32)⟩,
 ⟨(some 34), none, .load1 (.tmp 33)⟩,
 ⟨(some 35), none, .call 43 [(.tmp 34)]⟩,
 ⟨(some 7), none, .mv (.tmp 35)⟩] [0, 3, 4, 5, 6, 7, 53, 56, 59, 62, 65, 68, 71])
 (.seq (.reg [⟨(some 36), none, .mv (.tmp 0)⟩,
 ⟨(some 37), none, .nilck (.tmp 36)⟩,
 ⟨(some 38), none, .fld 5 (.tmp 37)⟩,
 ⟨(some 39), none, .load1 (.tmp 38)⟩,
 ⟨(some 40), none, .call 44 [(.tmp 39)]⟩,
 ⟨(some 8), none, .mv (.tmp 40)⟩] [0, 3, 4, 5, 6, 7, 8, 53, 56, 59, 62, 65, 68, 71])
 (.seq (.reg [⟨(some 41), none, .mv (.tmp 0)⟩,
 ⟨(some 42), none, .nilck (.tmp 41)⟩,
 ⟨(some 43), none, .fld 6 (.tmp 42)⟩,
 ⟨(some 44), none, .load1 (.tmp 43)⟩,
 ⟨(some 45), none, .call 45 [(.tmp 44)]⟩,
 ⟨(some 9), none, .mv (.tmp 45)⟩] [0, 3, 4, 5, 6, 7, 8, 9, 53, 56, 59, 62, 65, 68, 71])
 (.seq (.reg [⟨(some 46), none, .mv (.tmp 0)⟩,
 ⟨(some 47), none, .nilck (.tmp 46)⟩,
 ⟨(some 48), none, .fld 7 (.tmp 47)⟩,
 ⟨(some 49), none, .load1 (.tmp 48)⟩,
 ⟨(some 50), none, .call 46 [(.tmp 49)]⟩,
 ⟨(some 10), none, .mv (.tmp 50)⟩] [3, 4, 5, 6, 7, 8, 9, 10, 53, 56, 59, 62, 65, 68, 71])
 (.seq (.reg [⟨(some 51), none, .mv (.tmp 3)⟩,
 ⟨(some 52), none, .mv (.tmp 51)⟩,
 ⟨(some 53), (some (52, true)), .mv (.tmp 4)⟩,
 ⟨(some 54), none, .pick (.tmp 52) (.tmp 53) (.const (Value.bool false))⟩,
 ⟨(some 55), none, .mv (.tmp 54)⟩,
 ⟨(some 56), (some (55, true)), .mv (.tmp 5)⟩,
 ⟨(some 57), none, .pick (.tmp 55) (.tmp 56) (.const (Value.bool false))⟩,
 ⟨(some 58), none, .mv (.tmp 57)⟩,
 ⟨(some 59), (some (58, true)), .mv (.tmp 6)⟩,
 ⟨(some 60), none, .pick (.tmp 58) (.tmp 59) (.const (Value.bool false))⟩,
 ⟨(some 61), none, .mv (.tmp 60)⟩,
 ⟨(some 62), (some (61, true)), .mv (.tmp 7)⟩,
 ⟨(some 63), none, .pick (.tmp 61) (.tmp 62) (.const (Value.bool false))⟩,
 ⟨(some 64), none, .mv (.tmp 63)⟩,
 ⟨(some 65), (some (64, true)), .mv (.tmp 8)⟩,
 ⟨(some 66), none, .pick (.tmp 64) (.tmp 65) (.const (Value.bool false))⟩,
 ⟨(some 67), none, .mv (.tmp 66)⟩,
 ⟨(some 68), (some (67, true)), .mv (.tmp 9)⟩,
 ⟨(some 69), none, .pick (.tmp 67) (.tmp 68) (.const (Value.bool false))⟩,
 ⟨(some 70), none, .mv (.tmp 69)⟩,
 ⟨(some 71), (some (70, true)), .mv (.tmp 10)⟩,
 ⟨(some 72), none, .pick (.tmp 70) (.tmp 71) (.const (Value.bool false))⟩,
 ⟨(some 2), none, .mv (.tmp 72)⟩] [2])
 .ret))))))))))⟩
theorem low20 : lowF Try.prog (assoc kp20) (assoc od20) 20 = some F20 := by kernel_rfl

end Go.Proofs.Ytffmipimgodfdaa
namespace Go.Proofs.Ytffmipimgodfdaa
open Go Go.V
set_option maxHeartbeats 6400000
set_option maxRecDepth 100000
set_option linter.unusedSimpArgs false
set_option linter.unusedVariables false
theorem sameTexts_spec (A B : List Atom) (av bv : Value) (fs : List ByteArray) (m : Nat) (hm : fs.length = m) (ha : RdRow 1 A av m (fs.map Value.string)) (hb : RdRow 1 B bv m (fs.map Value.string)) (hl : fs.length ≤ 1073741824) :
    Fun Try.prog 35 [av, bv] [A, B] (fun v Post => v = .bool true ∧ Post = [A, B]) := by
  refine Fun.intro low35 (by simp [F35]) ?_
  subst hm
  obtain ⟨aa, ac, hae⟩ := ha.form
  obtain ⟨ba, bc, hbe⟩ := hb.form
  rw [hae, hbe]
  rw [hae] at ha
  rw [hbe] at hb
  refine GO ?_
  refine VC.loop (α := Nat) (Γf := fun k => [(0, .slice aa fs.length ac), (1, .slice ba fs.length bc), (5, vi k)]) (Hf := fun _ => [A, B]) (I := fun k => k ≤ fs.length) (μ := fun k => fs.length - k) 0 (Nat.zero_le _) (by (repeat (first | exact Sub.nil | (apply Sub.cons; rfl)))) (by (first | with_reducible exact Imp.refl | with_reducible exact Imp.left | (focus ((try simp only [List.nil_append]); (repeat (first | exact Imp.nil | (apply Imp.cons; (focus ((repeat (first | with_reducible exact Tk.here | apply Tk.there)); done))))); done)))) ?_
  intro k hk
  refine GO ?_
  (first | (apply VC.seq_cond; rfl) | (apply VC.cond; rfl))
  rotate_left
  · intro hge
    refine GO ?_
    exact endQ_mk (Post := [A, B]) (.inr rfl) (.tmp (by rfl) .nil) ⟨rfl, rfl⟩ (by (first | with_reducible exact Imp.refl | with_reducible exact Imp.left | (focus ((try simp only [List.nil_append]); (repeat (first | exact Imp.nil | (apply Imp.cons; (focus ((repeat (first | with_reducible exact Tk.here | apply Tk.there)); done))))); done))))
  intro hlt
  have hlt : k < fs.length := by simpa using hlt
  obtain ⟨p, hp⟩ : ∃ p, fs[k]? = some p := ⟨fs[k], by simp [hlt]⟩
  obtain ⟨b1, o1, c1, hve1, hc1⟩ := ha.cell hp
  obtain ⟨b2, o2, c2, hve2, hc2⟩ := hb.cell hp
  simp only [Value.slice.injEq, true_and] at hve1 hve2
  obtain ⟨rfl, rfl⟩ := hve1
  obtain ⟨rfl, rfl⟩ := hve2
  refine GO ?_
  exact ⟨k + 1, by omega, by omega, by (repeat (first | exact Sub.nil | (apply Sub.cons; rfl))), by (first | with_reducible exact Imp.refl | with_reducible exact Imp.left | (focus ((try simp only [List.nil_append]); (repeat (first | exact Imp.nil | (apply Imp.cons; (focus ((repeat (first | with_reducible exact Tk.here | apply Tk.there)); done))))); done)))⟩
end Go.Proofs.Ytffmipimgodfdaa

/-
  The code of functions, as terms: printed by a program, proved to be what the seat has.
-/
import Derived.Test.YtgindbomnbojeaaGreatV13
import Derived.Test.YtgindbomnbojeaaGreatV14
import Derived.KernelRfl
import Derived.Test.YtgindbomnbojeaaGreatProg
import Derived.Test.YtgindbomnbojeaaGreatSE
set_option linter.unusedSimpArgs false
set_option linter.unusedVariables false
namespace Go.Proofs.YtgindbomnbojeaaGreat
open Go Go.V
set_option maxRecDepth 100000
def F71 : FIR := laid (X := ⟨4, [.tmp 2],
 (qS [qB 1 76 0,qo 2 (.mv (.const Value.nilFunc))] [1]
 (qS [qo 3 (.clos (.func 118) [] [(.tmp 1)]),qm 2 3] [2]
 .ret))⟩)
theorem n71 : F71.n = 4 := rfl
theorem low71 : lowF Tryz.prog (kpO F71) (assoc []) 71 = some F71 := by kernel_rfl
def F118 : FIR := laid (X := ⟨14, [],
 (qS [ql 4 1,qo 5 (.rangeM (.tmp 4))] [0,5]
 (.block 0 (.loop (qS [qo 6 (.next (.tmp 5) false),qe 7 6 0] [0,5,7]
 (.seq (qC 7 .skip
 (.exit 0))
 (.block 1 (qS [qo 8 (.entry (.tmp 5)),qe 9 8 0,qm 3 9] [0,3,5]
 (qS [qm 10 0,qm 11 3,qo 12 (.callv (.tmp 10) [(.tmp 11)]),qo 13 (.un .not (.tmp 12))] [0,5,13]
 (qC 13 .ret
 .skip)))))))))⟩)
theorem n118 : F118.n = 14 := rfl
theorem low118 : lowF Tryz.prog (kpO F118) (assoc []) 118 = some F118 := by kernel_rfl
def F134 : FIR := laid (X := ⟨13, [.tmp 4],
 (qS [qB 2 111 0,qo 4 (.mv (.const (Value.slice none 0 0)))] [1,2]
 (.seq (qS [qm 6 1] [2,6]
 (.block 0 (.rangef (.tmp 6) [7] (.reg [qm 5 7] [2,5])
 (.block 1 (.reg [ql 8 2,qm 9 5,qo 10 (.bslice 9 1 [(Value.string ⟨#[]⟩)] [(0, 1, (.tmp 9))]),
  qo 11 (.append 9 1 16 [(Value.string ⟨#[]⟩)] (.tmp 8) (.tmp 10)),qs 1 2 11] [])))))
 (qS [ql 12 2,qm 4 12] [4]
 .ret)))⟩)
theorem n134 : F134.n = 13 := rfl
theorem low134 : lowF Tryz.prog (kpO F134) (assoc []) 134 = some F134 := by kernel_rfl
def F116 : FIR := laid (X := ⟨5, [.tmp 2],
 (qS [qo 2 (.mv (.const (Value.slice none 0 0)))] [0]
 (qS [qm 3 0,qo 4 (.call 134 [(.const (Value.slice none 0 0)), (.tmp 3)]),qm 2 4] [2]
 .ret))⟩)
theorem n116 : F116.n = 5 := rfl
theorem low116 : lowF Tryz.prog (kpO F116) (assoc []) 116 = some F116 := by kernel_rfl
def F70 : FIR := laid (X := ⟨9, [.tmp 2],
 (qS [qo 2 (.mv (.const (Value.slice none 0 0)))] [0]
 (qS [qm 4 0,qx 5 116 [4],qm 3 5] [3]
 (qS [qm 6 3,qx 7 117 [6]] [3]
 (qS [qm 8 3,qm 2 8] [2]
 .ret))))⟩)
theorem n70 : F70.n = 9 := rfl
theorem low70 : lowF Tryz.prog (kpO F70) (assoc []) 70 = some F70 := by kernel_rfl
set_option maxHeartbeats 1600000
theorem keys_iter {β : Type} {Vf : β → Value} (q b c : Nat) (es : Array MapEntry) (l : List (ByteArray × β)) (hl : MapIs kStr Vf es c l) (hk : (l.map (·.1)).Nodup) :
    Iter Tryz.prog (.func (.func 118) #[] #[ptr0 q]) (fun s => [.string s]) [cellsAt q 0 [.map (some b)], [.obj b (.map es c)]] [cellsAt q 0 [.map (some b)], [.obj b (.map es c)]] (fun full => full.Perm (l.map (·.1))) := by
  intro y J SP hy A hA
  refine FunV.of_fun (first := #[]) (cap := #[ptr0 q]) ?_
  show Fun Tryz.prog 118 [y, ptr0 q] _ _
  refine Fun.intro low118 (by simp [n118]) ?_
  simp only [CNx]
  refine GO ?_
  refine st_rangeM (by rfl) (.there .here) (fun q2 => ?_)
  refine GO ?_
  refine VC.loop (α := Array Nat × List ByteArray × List Atom) (Γf := fun _ => [(0, y), (5, ptr0 q2)])
    (Hf := fun s => [[.obj q2 (.mapIter (some b) c s.1 c)], cellsAt q 0 [.map (some b)], [.obj b (.map es c)], s.2.2])
    (I := fun s => s.2.1.Nodup ∧ (∀ k ∈ s.2.1, k ∈ l.map (·.1)) ∧ J s.2.1 s.2.2 ∧ ∀ e ∈ es.toList, (e.born ∈ s.1.toList ↔ ∃ k ∈ s.2.1, e.key = .string k))
    (μ := fun s => (es.toList.filter fun e => decide (e.born ∉ s.1.toList)).length) (#[], [], A) ⟨.nil, by simp, hA, by simp⟩ (by exact SUx) (by exact IMx) ?_
  rintro ⟨seen, C, A⟩ ⟨i1, i2, i3, i4⟩
  simp only at i1 i2 i3 i4
  dsimp only
  refine GO ?_
  refine st_next (b := b) (es := es) (by rfl) .here (.there .here) hl.clock (fun hover => ?_) (fun e he hne => ?_)
  · refine GO ?_
    refine endQ_mk (Post := [cellsAt q 0 [.map (some b)], [.obj b (.map es c)], A]) (.inl rfl) .nil ⟨rfl, .inl ⟨C, A, ?_, i3, rfl⟩⟩ (by exact IMx)
    refine (List.perm_ext_iff_of_nodup i1 hk).2 (fun k => ⟨i2 k, fun hk2 => ?_⟩)
    obtain ⟨p, hp, rfl⟩ := List.mem_map.1 hk2
    obtain ⟨e, he, e1, _⟩ := hl.has hp
    obtain ⟨k, hk3, e3⟩ := (i4 e he).1 (hover e he)
    rw [e1] at e3
    cases e3
    exact hk3
  · obtain ⟨p, hp, e1, e2⟩ := hl.entry he
    have hnk : p.1 ∉ C := fun hc => hne ((i4 e he).2 ⟨p.1, hc, e1⟩)
    have hC1 : (C ++ [p.1]).Nodup := by
      rw [List.nodup_append]
      exact ⟨i1, by simp, fun x hx y hy => by rw [List.mem_singleton.1 hy]; intro e; subst e; exact hnk hx⟩
    have hC2 : ∀ k ∈ C ++ [p.1], k ∈ l.map (·.1) := by
      intro k hk'
      rcases List.mem_append.1 hk' with hk' | hk'
      · exact i2 k hk'
      · rw [List.mem_singleton.1 hk']; exact List.mem_map.2 ⟨p, hp, rfl⟩
    have hok : OkC (fun full => full.Perm (l.map (·.1))) (C ++ [p.1]) := nodup_extend hC1 hk hC2
    refine GO ?_
    refine st_entry (b := b) (es := es) (e := e) (by rfl) .here (.there (.there .here)) hl.born he ?_
    rw [e1, e2]
    refine GO ?_
    refine st_callV (by rfl) (hy C p.1 A hok i3) (by rfl) (by exact SPx) (fun v Post hv => ?_)
    rcases hv with ⟨rfl, A', hA', rfl⟩ | ⟨rfl, B', hB', rfl⟩
    · simp only [CNx]
      refine GO ?_
      have hless : (es.toList.filter fun e' => decide (e'.born ∉ (seen.push e.born).toList)).length < (es.toList.filter fun e' => decide (e'.born ∉ seen.toList)).length := by
        refine filter_less (fun x _ h => ?_) he (by simpa using hne) (by simp)
        simp at h ⊢
        exact h.1
      refine ⟨(seen.push e.born, C ++ [p.1], A'), ⟨hC1, hC2, hA', fun e' he' => ?_⟩, hless, by exact SUx, by exact IMx⟩
      simp only [Array.toList_push, List.mem_append, List.mem_singleton]
      constructor
      · rintro (h | h)
        · obtain ⟨k, hk1, hk2⟩ := (i4 e' he').1 h
          exact ⟨k, .inl hk1, hk2⟩
        · have := born_one hl.born he' he h
          subst this
          exact ⟨p.1, .inr rfl, e1⟩
      · rintro ⟨k, hk1 | hk1, hk2⟩
        · exact .inl ((i4 e' he').2 ⟨k, hk1, hk2⟩)
        · subst hk1
          exact .inr (by rw [key_one hl hk he' he (hk2.trans e1.symm)])
    · simp only [CNx]
      refine GO ?_
      exact endQ_mk (Post := [cellsAt q 0 [.map (some b)], [.obj b (.map es c)], B']) (.inr rfl) .nil ⟨rfl, .inr ⟨C ++ [p.1], B', hok, hB', rfl⟩⟩ (by exact IMx)
theorem keys_spec (b : Nat) : Fun Tryz.prog 71 [.map (some b)] [] (fun v Post => ∃ q, v = .func (.func 118) #[] #[ptr0 q] ∧ Post = [cellsAt q 0 [.map (some b)]]) := by
  refine Fun.intro low71 (by simp [n71]) ?_
  refine GO ?_
  refine st_box (by rfl) (fun q => ?_)
  simp only [Value.cells]
  refine GO ?_
  refine ⟨.inr rfl, _, _, .tmp (by rfl) .nil, by exact IMx, ⟨q, rfl, rfl⟩⟩
theorem appendseq_spec (f : Nat) (first cap : Array Value) (Pre Post : SH) (Spec : List ByteArray → Prop) (hit : Iter Tryz.prog (.func (.func f) first cap) (fun s => [.string s]) Pre Post Spec) (hlen : ∀ c, OkC Spec c → c.length ≤ 1073741823) :
    Fun Tryz.prog 134 [.slice none 0 0, .func (.func f) first cap] Pre (fun v B => ∃ xs sv sp, Spec xs ∧ IsSl 1 sv xs.length (xs.map Value.string) sp ∧ v = sv ∧ B = slA sv (xs.map Value.string) sp :: Post) := by
  refine Fun.intro low134 (by simp [n134]) ?_
  refine GO ?_
  refine st_box (by rfl) (fun q => ?_)
  simp only [Value.cells]
  refine GO ?_
  refine VC.rangef (α := ByteArray) (enc := fun s => [.string s]) (fun c A => ∃ sv sp, IsSl 1 sv c.length (c.map Value.string) sp ∧ A = cellsAt q 0 [sv] ++ slA sv (c.map Value.string) sp) (cellsAt q 0 [.slice none 0 0]) (by rfl) hit Spl.tail1 (Imp.refl _)
    ⟨.slice none 0 0, [], .nil, by simp [slA]⟩ (fun _ => rfl) ?_ ?_
  · rintro c x A hok ⟨sv, sp, hsl, rfl⟩
    have hl := hlen _ hok
    simp only [List.length_append, List.length_singleton] at hl
    simp only [bindE]
    refine VC.imp (H' := [cellsAt q 0 [sv], slA sv (c.map Value.string) sp]) (Imp.perm (by simp)) ?_
    refine VC.reg ?_
    refine GO ?_
    refine ⟨trivial, ?_⟩
    refine GO ?_
    refine st_bslice (out := [.string x]) (by rfl) (by rfl) (fun q3 => ?_)
    refine st_append (k := c.length) (m := 1) (xs := c.map Value.string) (sp := sp) (ys := [.string x]) (by rfl) (by rfl) hsl (by exact TKx) (by rfl) ?_ rfl (by rfl) (by rfl) (by decide) (by omega) (fun sv' sp' hsl' => ?_)
    · exact ⟨rfl, fun a ha => by simp only [List.flatten_cons, List.mem_append]; exact .inl ha⟩
    obtain ⟨a', c', hf'⟩ := hsl'.form
    subst hf'
    refine GO ?_
    refine ⟨cellsAt q 0 [.slice a' (c.length + 1) c'] ++ slA (.slice a' (c.length + 1) c') ((c ++ [x]).map Value.string) sp', ⟨_, sp', ?_, rfl⟩, ?_⟩
    · have : (c ++ [x]).length = c.length + 1 := by simp
      rw [this, List.map_append]; exact hsl'
    · rw [List.map_append]
      refine Imp.cut (M := [cellsAt q 0 [.slice a' (c.length + 1) c'], slA (.slice a' (c.length + 1) c') (c.map Value.string ++ [.string x]) sp']) (by exact IMx) (Imp.perm (by simp))
  · rintro full A hf ⟨sv, sp, hsl, rfl⟩
    simp only [V.blockQ, V.thenQ]
    refine VC.imp (H' := cellsAt q 0 [sv] :: slA sv (full.map Value.string) sp :: Post) (Imp.perm ?_) ?_
    · simp only [List.flatten_append, List.flatten_cons, List.flatten_nil, List.append_nil, List.append_assoc]
      exact (perm_lead _ _ _).trans (List.Perm.append_left _ List.perm_append_comm)
    refine GO ?_
    exact endQ_mk (Post := slA sv (full.map Value.string) sp :: Post) (.inr rfl) (.tmp (by rfl) .nil) ⟨full, sv, sp, hf, hsl, rfl, rfl⟩ Imp.tail1
theorem sorted_spec (f : Nat) (first cap : Array Value) (Pre Post : SH) (Spec : List ByteArray → Prop) (hit : Iter Tryz.prog (.func (.func f) first cap) (fun s => [.string s]) Pre Post Spec) (hlen : ∀ c, OkC Spec c → c.length ≤ 1073741823 ∧ c.Nodup) :
    Fun Tryz.prog 70 [.func (.func f) first cap] Pre (fun v B => ∃ xs ys sv sp, Spec xs ∧ SortedOf ltS xs ys ∧ IsSl 1 sv ys.length (ys.map Value.string) sp ∧ v = sv ∧ B = slA sv (ys.map Value.string) sp :: Post) := by
  refine Fun.intro low70 (by simp [n70]) ?_
  have hcollect : Fun Tryz.prog 116 [.func (.func f) first cap] Pre (fun v B => ∃ xs sv sp, Spec xs ∧ IsSl 1 sv xs.length (xs.map Value.string) sp ∧ v = sv ∧ B = slA sv (xs.map Value.string) sp :: Post) := by
    refine Fun.intro low116 (by simp [n116]) ?_
    refine GO ?_
    refine st_call (appendseq_spec f first cap Pre Post Spec hit (fun c hc => (hlen c hc).1)) (by rfl) (R := []) (by simp [V.Spl]) (fun v B hv => ?_)
    obtain ⟨xs, sv, sp, h1, h2, rfl, rfl⟩ := hv
    rw [List.append_nil]
    refine GO ?_
    exact endQ_mk (Post := slA v (xs.map Value.string) sp :: Post) (.inr rfl) (.tmp (by rfl) .nil) ⟨xs, v, sp, h1, h2, rfl, rfl⟩ (Imp.refl _)
  refine GO ?_
  refine st_call hcollect (by rfl) (R := []) (by simp [V.Spl]) (fun v B hv => ?_)
  obtain ⟨xs, sv, sp, h1, h2, rfl, rfl⟩ := hv
  rw [List.append_nil]
  refine GO ?_
  have hx := hlen xs ⟨[], by simp [h1]⟩
  refine st_call (sort_string v xs sp h2 hx.1 hx.2) (by rfl) (Spl.cons .here Spl.nil) (fun v2 B hv => ?_)
  obtain ⟨rfl, ys, h3, rfl⟩ := hv
  have hl : ys.length = xs.length := h3.1.length_eq
  simp only [CNx]
  refine GO ?_
  refine endQ_mk (Post := slA v (ys.map Value.string) sp :: Post) (.inr rfl) (.tmp (by rfl) .nil) ⟨xs, ys, v, sp, h1, h3, ?_, rfl, rfl⟩ (Imp.refl _)
  rw [hl]
  exact h2.other (by simp [hl])
end Go.Proofs.YtgindbomnbojeaaGreat

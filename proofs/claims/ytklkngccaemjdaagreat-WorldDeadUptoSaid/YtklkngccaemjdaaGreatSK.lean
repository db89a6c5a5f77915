/-
  The code of functions, as terms: printed by a program, proved to be what the seat has.
-/
import Derived.Test.YtklkngccaemjdaaGreatVS
import Derived.KernelRfl
import Derived.Test.YtklkngccaemjdaaGreatProg
import Derived.Test.YtklkngccaemjdaaGreatSB
set_option linter.unusedSimpArgs false
set_option linter.unusedVariables false
namespace Go.Proofs.YtklkngccaemjdaaGreat
open Go Go.V
set_option maxRecDepth 100000
/- maps.Keys[map[string]*palaver/world.file,string,*palaver/world.file] -/
def kp45 : List (Nat × List Nat) := [(0, [1]), (1, [2])]
def od45 : List (Nat × List (List Nat)) := []
def F45 : FIR := ⟨4, [.tmp 2],
 (.seq (.reg [⟨(some 1), none, .box 82 (.tmp 0)⟩,
    ⟨(some 2), none, .mv (.const Value.nilFunc)⟩] [1])
 (.seq (.reg [⟨(some 3), none, .clos (.func 109) [] [(.tmp 1)]⟩,
     ⟨(some 2), none, .mv (.tmp 3)⟩] [2])
  .ret))⟩
theorem low45 : lowF Tryz.prog (assoc kp45) (assoc od45) 45 = some F45 := by kernel_rfl

/- maps.Keys[map[string]*palaver/world.file,string,*palaver/world.file]$1 -/
def kp109 : List (Nat × List Nat) := [(0, [0, 5]), (1, [0, 5, 7]), (2, [0, 3, 5]), (3, [0, 5, 13])]
def od109 : List (Nat × List (List Nat)) := []
def F109 : FIR := ⟨14, [],
 (.seq (.reg [⟨(some 4), none, .load1 (.tmp 1)⟩,
    ⟨(some 5), none, .rangeM (.tmp 4)⟩] [0, 5])
 (.block 0
   (.loop
    (.seq (.reg [⟨(some 6), none, .next (.tmp 5) false⟩,
       ⟨(some 7), none, .ext (.tmp 6) 0⟩] [0, 5, 7])
    (.seq (.cond (.tmp 7)
        .skip
        (.exit 0))
     (.block 1
       (.seq (.reg [⟨(some 8), none, .entry (.tmp 5)⟩,
          ⟨(some 9), none, .ext (.tmp 8) 0⟩,
          ⟨(some 3), none, .mv (.tmp 9)⟩] [0, 3, 5])
       (.seq (.reg [⟨(some 10), none, .mv (.tmp 0)⟩,
           ⟨(some 11), none, .mv (.tmp 3)⟩,
           ⟨(some 12), none, .callv (.tmp 10) [(.tmp 11)]⟩,
           ⟨(some 13), none, .un .not (.tmp 12)⟩] [0, 5, 13])
        (.cond (.tmp 13)
           .ret
           .skip)))))))))⟩
theorem low109 : lowF Tryz.prog (assoc kp109) (assoc od109) 109 = some F109 := by kernel_rfl

/- slices.AppendSeq[[]string,string] -/
def kp124 : List (Nat × List Nat) := [(0, [1, 2]), (1, [2, 6]), (2, [2, 5]), (3, []), (4, [4])]
def od124 : List (Nat × List (List Nat)) := []
def F124 : FIR := ⟨13, [.tmp 4],
 (.seq (.reg [⟨(some 2), none, .box 100 (.tmp 0)⟩,
    ⟨(some 4), none, .mv (.const (Value.slice none 0 0))⟩] [1, 2])
 (.seq (.seq (.reg [⟨(some 6), none, .mv (.tmp 1)⟩] [2, 6])
   (.block 0
     (.rangef (.tmp 6) [7]
       (.reg [⟨(some 5), none, .mv (.tmp 7)⟩] [2, 5])
       (.block 1
         (.reg [⟨(some 8), none, .load1 (.tmp 2)⟩,
           ⟨(some 9), none, .mv (.tmp 5)⟩,
           ⟨(some 10), none, .bslice 9 1 [(Value.string ⟨#[]⟩)] [(0, 1, (.tmp 9))]⟩,
           ⟨(some 11), none, .append 9 1 16 [(Value.string ⟨#[]⟩)] (.tmp 8) (.tmp 10)⟩,
           ⟨none, none, .store 1 (.tmp 2) (.tmp 11)⟩] [])))))
  (.seq (.reg [⟨(some 12), none, .load1 (.tmp 2)⟩,
      ⟨(some 4), none, .mv (.tmp 12)⟩] [4])
   .ret)))⟩
theorem low124 : lowF Tryz.prog (assoc kp124) (assoc od124) 124 = some F124 := by kernel_rfl

/- slices.Collect[string] -/
def kp107 : List (Nat × List Nat) := [(0, [0]), (1, [2])]
def od107 : List (Nat × List (List Nat)) := []
def F107 : FIR := ⟨5, [.tmp 2],
 (.seq (.reg [⟨(some 2), none, .mv (.const (Value.slice none 0 0))⟩] [0])
 (.seq (.reg [⟨(some 3), none, .mv (.tmp 0)⟩,
     ⟨(some 4), none, .call 124 [(.const (Value.slice none 0 0)), (.tmp 3)]⟩,
     ⟨(some 2), none, .mv (.tmp 4)⟩] [2])
  .ret))⟩
theorem low107 : lowF Tryz.prog (assoc kp107) (assoc od107) 107 = some F107 := by kernel_rfl

/- slices.Sorted[string] -/
def kp44 : List (Nat × List Nat) := [(0, [0]), (1, [3]), (2, [3]), (3, [2])]
def od44 : List (Nat × List (List Nat)) := []
def F44 : FIR := ⟨9, [.tmp 2],
 (.seq (.reg [⟨(some 2), none, .mv (.const (Value.slice none 0 0))⟩] [0])
 (.seq (.reg [⟨(some 4), none, .mv (.tmp 0)⟩,
     ⟨(some 5), none, .call 107 [(.tmp 4)]⟩,
     ⟨(some 3), none, .mv (.tmp 5)⟩] [3])
  (.seq (.reg [⟨(some 6), none, .mv (.tmp 3)⟩,
      ⟨(some 7), none, .call 108 [(.tmp 6)]⟩] [3])
   (.seq (.reg [⟨(some 8), none, .mv (.tmp 3)⟩,
       ⟨(some 2), none, .mv (.tmp 8)⟩] [2])
    .ret))))⟩
theorem low44 : lowF Tryz.prog (assoc kp44) (assoc od44) 44 = some F44 := by kernel_rfl

end Go.Proofs.YtklkngccaemjdaaGreat
namespace Go.Proofs.YtklkngccaemjdaaGreat
open Go Go.V
set_option maxHeartbeats 1600000
set_option maxRecDepth 100000
set_option linter.unusedSimpArgs false
set_option linter.unusedVariables false
theorem keys_iter {β : Type} {Vf : β → Value} (q b c : Nat) (es : Array MapEntry) (l : List (ByteArray × β)) (hl : MapIs kStr Vf es c l) (hk : (l.map (·.1)).Nodup) :
    Iter Tryz.prog (.func (.func 109) #[] #[ptr0 q]) (fun s => [.string s]) [cellsAt q 0 [.map (some b)], [.obj b (.map es c)]] [cellsAt q 0 [.map (some b)], [.obj b (.map es c)]] (fun full => full.Perm (l.map (·.1))) := by
  intro y J SP hy A hA
  refine FunV.of_fun (first := #[]) (cap := #[ptr0 q]) ?_
  show Fun Tryz.prog 109 [y, ptr0 q] _ _
  refine Fun.intro low109 (by simp [F109]) ?_
  simp only [List.cons_append, List.nil_append]
  refine GO ?_
  refine st_rangeM (by rfl) (.there .here) (fun q2 => ?_)
  refine GO ?_
  refine VC.loop (α := Array Nat × List ByteArray × List Atom) (Γf := fun _ => [(0, y), (5, ptr0 q2)])
    (Hf := fun s => [[.obj q2 (.mapIter (some b) c s.1 c)], cellsAt q 0 [.map (some b)], [.obj b (.map es c)], s.2.2])
    (I := fun s => s.2.1.Nodup ∧ (∀ k ∈ s.2.1, k ∈ l.map (·.1)) ∧ J s.2.1 s.2.2 ∧ ∀ e ∈ es.toList, (e.born ∈ s.1.toList ↔ ∃ k ∈ s.2.1, e.key = .string k))
    (μ := fun s => (es.toList.filter fun e => decide (e.born ∉ s.1.toList)).length) (#[], [], A) ⟨.nil, by simp, hA, by simp⟩ (by (repeat (first | exact Sub.nil | (apply Sub.cons; rfl)))) (by (first | with_reducible exact Imp.refl | with_reducible exact Imp.left | (focus ((try simp only [List.nil_append]); (repeat (first | exact Imp.nil | (apply Imp.cons; (focus ((repeat (first | with_reducible exact Tk.here | apply Tk.there)); done))))); done)))) ?_
  rintro ⟨seen, C, A⟩ ⟨i1, i2, i3, i4⟩
  simp only at i1 i2 i3 i4
  dsimp only
  refine GO ?_
  refine st_next (b := b) (es := es) (by rfl) .here (.there .here) hl.clock (fun hover => ?_) (fun e he hne => ?_)
  · refine GO ?_
    refine endQ_mk (Post := [cellsAt q 0 [.map (some b)], [.obj b (.map es c)], A]) (.inl rfl) .nil ⟨rfl, .inl ⟨C, A, ?_, i3, rfl⟩⟩ (by (first | with_reducible exact Imp.refl | with_reducible exact Imp.left | (focus ((try simp only [List.nil_append]); (repeat (first | exact Imp.nil | (apply Imp.cons; (focus ((repeat (first | with_reducible exact Tk.here | apply Tk.there)); done))))); done))))
    refine (List.perm_ext_iff_of_nodup i1 hk).2 (fun k => ⟨i2 k, fun hk2 => ?_⟩)
    obtain ⟨p, hp, rfl⟩ := List.mem_map.1 hk2
    obtain ⟨e, he, e1, _⟩ := hl.has hp
    obtain ⟨k, hk3, e3⟩ := (i4 e he).1 (hover e he)
    rw [e1] at e3
    cases e3
    exact hk3
  · obtain ⟨p, hp, e1, e2⟩ := hl.entry he
    have hnk : p.1 ∉ C := fun hc => hne ((i4 e he).2 ⟨p.1, hc, e1⟩)
    have hC1 : (C ++ [p.1]).Nodup := by
      rw [List.nodup_append]
      exact ⟨i1, by simp, fun x hx y hy => by rw [List.mem_singleton.1 hy]; intro e; subst e; exact hnk hx⟩
    have hC2 : ∀ k ∈ C ++ [p.1], k ∈ l.map (·.1) := by
      intro k hk'
      rcases List.mem_append.1 hk' with hk' | hk'
      · exact i2 k hk'
      · rw [List.mem_singleton.1 hk']; exact List.mem_map.2 ⟨p, hp, rfl⟩
    have hok : OkC (fun full => full.Perm (l.map (·.1))) (C ++ [p.1]) := nodup_extend hC1 hk hC2
    refine GO ?_
    refine st_entry (b := b) (es := es) (e := e) (by rfl) .here (.there (.there .here)) hl.born he ?_
    rw [e1, e2]
    refine GO ?_
    refine st_callV (by rfl) (hy C p.1 A hok i3) (by rfl) (by (focus ((repeat (first | exact Spl.nil | (apply Spl.cons; (focus ((repeat (first | with_reducible exact Tk.here | apply Tk.there)); done))))); done))) (fun v Post hv => ?_)
    rcases hv with ⟨rfl, A', hA', rfl⟩ | ⟨rfl, B', hB', rfl⟩
    · simp only [List.cons_append, List.nil_append]
      refine GO ?_
      have hless : (es.toList.filter fun e' => decide (e'.born ∉ (seen.push e.born).toList)).length < (es.toList.filter fun e' => decide (e'.born ∉ seen.toList)).length := by
        refine filter_less (fun x _ h => ?_) he (by simpa using hne) (by simp)
        simp at h ⊢
        exact h.1
      refine ⟨(seen.push e.born, C ++ [p.1], A'), ⟨hC1, hC2, hA', fun e' he' => ?_⟩, hless, by (repeat (first | exact Sub.nil | (apply Sub.cons; rfl))), by (first | with_reducible exact Imp.refl | with_reducible exact Imp.left | (focus ((try simp only [List.nil_append]); (repeat (first | exact Imp.nil | (apply Imp.cons; (focus ((repeat (first | with_reducible exact Tk.here | apply Tk.there)); done))))); done)))⟩
      simp only [Array.toList_push, List.mem_append, List.mem_singleton]
      constructor
      · rintro (h | h)
        · obtain ⟨k, hk1, hk2⟩ := (i4 e' he').1 h
          exact ⟨k, .inl hk1, hk2⟩
        · have := born_one hl.born he' he h
          subst this
          exact ⟨p.1, .inr rfl, e1⟩
      · rintro ⟨k, hk1 | hk1, hk2⟩
        · exact .inl ((i4 e' he').2 ⟨k, hk1, hk2⟩)
        · subst hk1
          exact .inr (by rw [key_one hl hk he' he (hk2.trans e1.symm)])
    · simp only [List.cons_append, List.nil_append]
      refine GO ?_
      exact endQ_mk (Post := [cellsAt q 0 [.map (some b)], [.obj b (.map es c)], B']) (.inr rfl) .nil ⟨rfl, .inr ⟨C ++ [p.1], B', hok, hB', rfl⟩⟩ (by (first | with_reducible exact Imp.refl | with_reducible exact Imp.left | (focus ((try simp only [List.nil_append]); (repeat (first | exact Imp.nil | (apply Imp.cons; (focus ((repeat (first | with_reducible exact Tk.here | apply Tk.there)); done))))); done))))

theorem keys_spec (b : Nat) : Fun Tryz.prog 45 [.map (some b)] [] (fun v Post => ∃ q, v = .func (.func 109) #[] #[ptr0 q] ∧ Post = [cellsAt q 0 [.map (some b)]]) := by
  refine Fun.intro low45 (by simp [F45]) ?_
  refine GO ?_
  refine st_box (by rfl) (fun q => ?_)
  simp only [Value.cells]
  refine GO ?_
  refine ⟨.inr rfl, _, _, .tmp (by rfl) .nil, by (first | with_reducible exact Imp.refl | with_reducible exact Imp.left | (focus ((try simp only [List.nil_append]); (repeat (first | exact Imp.nil | (apply Imp.cons; (focus ((repeat (first | with_reducible exact Tk.here | apply Tk.there)); done))))); done))), ⟨q, rfl, rfl⟩⟩

theorem appendseq_spec (f : Nat) (first cap : Array Value) (Pre Post : SH) (Spec : List ByteArray → Prop) (hit : Iter Tryz.prog (.func (.func f) first cap) (fun s => [.string s]) Pre Post Spec) (hlen : ∀ c, OkC Spec c → c.length ≤ 1073741823) :
    Fun Tryz.prog 124 [.slice none 0 0, .func (.func f) first cap] Pre (fun v B => ∃ xs sv sp, Spec xs ∧ IsSl 1 sv xs.length (xs.map Value.string) sp ∧ v = sv ∧ B = slA sv (xs.map Value.string) sp :: Post) := by
  refine Fun.intro low124 (by simp [F124]) ?_
  refine GO ?_
  refine st_box (by rfl) (fun q => ?_)
  simp only [Value.cells]
  refine GO ?_
  refine VC.rangef (α := ByteArray) (enc := fun s => [.string s]) (fun c A => ∃ sv sp, IsSl 1 sv c.length (c.map Value.string) sp ∧ A = cellsAt q 0 [sv] ++ slA sv (c.map Value.string) sp) (cellsAt q 0 [.slice none 0 0]) (by rfl) hit Spl.tail1 (Imp.refl _)
    ⟨.slice none 0 0, [], .nil, by simp [slA]⟩ (fun _ => rfl) ?_ ?_
  · rintro c x A hok ⟨sv, sp, hsl, rfl⟩
    have hl := hlen _ hok
    simp only [List.length_append, List.length_singleton] at hl
    simp only [bindE]
    refine VC.imp (H' := [cellsAt q 0 [sv], slA sv (c.map Value.string) sp]) (Imp.perm (by simp)) ?_
    refine VC.reg ?_
    refine GO ?_
    refine ⟨trivial, ?_⟩
    refine GO ?_
    refine st_bslice (out := [.string x]) (by rfl) (by rfl) (fun q3 => ?_)
    refine st_append (k := c.length) (m := 1) (xs := c.map Value.string) (sp := sp) (ys := [.string x]) (by rfl) (by rfl) hsl (by (focus ((repeat (first | with_reducible exact Tk.here | apply Tk.there)); done))) (by rfl) ?_ rfl (by rfl) (by rfl) (by decide) (by omega) (fun sv' sp' hsl' => ?_)
    · exact ⟨rfl, fun a ha => by simp only [List.flatten_cons, List.mem_append]; exact .inl ha⟩
    obtain ⟨a', c', hf'⟩ := hsl'.form
    subst hf'
    refine GO ?_
    refine ⟨cellsAt q 0 [.slice a' (c.length + 1) c'] ++ slA (.slice a' (c.length + 1) c') ((c ++ [x]).map Value.string) sp', ⟨_, sp', ?_, rfl⟩, ?_⟩
    · have : (c ++ [x]).length = c.length + 1 := by simp
      rw [this, List.map_append]; exact hsl'
    · rw [List.map_append]
      refine Imp.cut (M := [cellsAt q 0 [.slice a' (c.length + 1) c'], slA (.slice a' (c.length + 1) c') (c.map Value.string ++ [.string x]) sp']) (by (first | with_reducible exact Imp.refl | with_reducible exact Imp.left | (focus ((try simp only [List.nil_append]); (repeat (first | exact Imp.nil | (apply Imp.cons; (focus ((repeat (first | with_reducible exact Tk.here | apply Tk.there)); done))))); done)))) (Imp.perm (by simp))
  · rintro full A hf ⟨sv, sp, hsl, rfl⟩
    simp only [V.blockQ, V.thenQ]
    refine VC.imp (H' := cellsAt q 0 [sv] :: slA sv (full.map Value.string) sp :: Post) (Imp.perm ?_) ?_
    · simp only [List.flatten_append, List.flatten_cons, List.flatten_nil, List.append_nil, List.append_assoc]
      exact (perm_lead _ _ _).trans (List.Perm.append_left _ List.perm_append_comm)
    refine GO ?_
    exact endQ_mk (Post := slA sv (full.map Value.string) sp :: Post) (.inr rfl) (.tmp (by rfl) .nil) ⟨full, sv, sp, hf, hsl, rfl, rfl⟩ Imp.tail1

theorem sorted_spec (f : Nat) (first cap : Array Value) (Pre Post : SH) (Spec : List ByteArray → Prop) (hit : Iter Tryz.prog (.func (.func f) first cap) (fun s => [.string s]) Pre Post Spec) (hlen : ∀ c, OkC Spec c → c.length ≤ 1073741823 ∧ c.Nodup) :
    Fun Tryz.prog 44 [.func (.func f) first cap] Pre (fun v B => ∃ xs ys sv sp, Spec xs ∧ SortedOf ltS xs ys ∧ IsSl 1 sv ys.length (ys.map Value.string) sp ∧ v = sv ∧ B = slA sv (ys.map Value.string) sp :: Post) := by
  refine Fun.intro low44 (by simp [F44]) ?_
  have hcollect : Fun Tryz.prog 107 [.func (.func f) first cap] Pre (fun v B => ∃ xs sv sp, Spec xs ∧ IsSl 1 sv xs.length (xs.map Value.string) sp ∧ v = sv ∧ B = slA sv (xs.map Value.string) sp :: Post) := by
    refine Fun.intro low107 (by simp [F107]) ?_
    refine GO ?_
    refine st_call (appendseq_spec f first cap Pre Post Spec hit (fun c hc => (hlen c hc).1)) (by rfl) (R := []) (by simp [V.Spl]) (fun v B hv => ?_)
    obtain ⟨xs, sv, sp, h1, h2, rfl, rfl⟩ := hv
    rw [List.append_nil]
    refine GO ?_
    exact endQ_mk (Post := slA v (xs.map Value.string) sp :: Post) (.inr rfl) (.tmp (by rfl) .nil) ⟨xs, v, sp, h1, h2, rfl, rfl⟩ (Imp.refl _)
  refine GO ?_
  refine st_call hcollect (by rfl) (R := []) (by simp [V.Spl]) (fun v B hv => ?_)
  obtain ⟨xs, sv, sp, h1, h2, rfl, rfl⟩ := hv
  rw [List.append_nil]
  refine GO ?_
  have hx := hlen xs ⟨[], by simp [h1]⟩
  refine st_call (sort_string v xs sp h2 hx.1 hx.2) (by rfl) (Spl.cons .here Spl.nil) (fun v2 B hv => ?_)
  obtain ⟨rfl, ys, h3, rfl⟩ := hv
  have hl : ys.length = xs.length := h3.1.length_eq
  simp only [List.cons_append, List.nil_append]
  refine GO ?_
  refine endQ_mk (Post := slA v (ys.map Value.string) sp :: Post) (.inr rfl) (.tmp (by rfl) .nil) ⟨xs, ys, v, sp, h1, h3, ?_, rfl, rfl⟩ (Imp.refl _)
  rw [hl]
  exact h2.other (by simp [hl])
end Go.Proofs.YtklkngccaemjdaaGreat

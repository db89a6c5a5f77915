/-
  A list that grows: in its own room, or in another; what was there stays.
-/
import Derived.Test.YtffmipimgodfdaaVN
import Derived.Test.YtffmipimgodfdaaDV
import Derived.Test.YtffmipimgodfdaaRS
set_option linter.unusedSimpArgs false
set_option linter.unusedVariables false
namespace Go.V
open Go
set_option linter.unusedSimpArgs false
set_option linter.unusedVariables false
section
variable {P : Program} {n : Nat} {rs : List RO} {Γ : Env} {H : SH} {Z : List PanicEntry → Env → SH → Prop} {K : Env → SH → Prop} {d : Option Nat}

theorem st_append2 {t : TypeId} {size bytes : Nat} {zero : List Value} {s x : Operand} {sv xv : Value} {k m : Nat} {xs sp ys : List Value} {R : SH} (hs : ev Γ s = some sv) (hx : ev Γ x = some xv) (hsl : IsSl size sv k xs sp)
    (ht : Tk H (slA sv xs sp) R) (hm : seqLen xv = some m) (hsrc : Src R.flatten size m ys xv) (hlen : ys.length = m * size) (hone : ys.all oneCell = true) (hz : zero.length = size) (hb : bytes ≠ 0) (hroom : (2 * (k + m) + 192) * bytes ≤ 2 ^ 48)
    (hin : ∀ b o c sp', sv = .slice (Option.some ⟨b, o, none⟩) k c → IsSl size (.slice (Option.some ⟨b, o, none⟩) (k + m) c) (k + m) (xs ++ ys) sp' → VO P n rs (putE d (.slice (Option.some ⟨b, o, none⟩) (k + m) c) Γ) (slA (.slice (Option.some ⟨b, o, none⟩) (k + m) c) (xs ++ ys) sp' :: R) Z K)
    (h : ∀ sv' sp', IsSl size sv' (k + m) (xs ++ ys) sp' → VO P n rs (putE d sv' Γ) (slA sv' (xs ++ ys) sp' :: slA sv xs sp :: R) Z K) : VO P n (⟨d, none, .append t size bytes zero s x⟩ :: rs) Γ H Z K := by
  refine VO.act' rfl rfl (fun ρ hρ => ⟨_, rfl, ?_⟩)
  rw [hρ _ _ hs, hρ _ _ hx]
  refine SWP.perm ht.perm ?_
  have hsrc' : Src (slA sv xs sp ++ R.flatten) size m ys xv := hsrc.mono (fun x hx => List.mem_append_right _ hx)
  have grow : ∀ (a : Option Addr) (c : Nat), sv = .slice a k c → ¬ (k + m ≤ c) → Src (slA sv xs sp ++ R.flatten) size k xs sv →
      SWP P (if Builtin.nextslicecap (k + m) c * bytes > 2 ^ 48 ∨ bytes = 0 then stuck "size" else do
        let cap ← choose (.appendCap (k + m) c t)
        let old ← Builtin.firstCells size k sv
        let new ← Builtin.firstCells size m xv
        let b ← newObj (.cells (old ++ new ++ (zeroRow (cap - (k + m)) zero).toArray) t)
        pure (Next.value (.slice (Option.some ⟨b, 0, none⟩) (k + m) cap)) : Sem Next) (slA sv xs sp ++ R.flatten) fun nx L => ∃ v H' X, (nx = .value v ∨ (nx = .skip ∧ v = undef)) ∧ L.Perm (List.flatten H' ++ X) ∧ VO P n rs (putE d v Γ) H' Z K := by
    intro a c hsv hle hso
    have hnc : Builtin.nextslicecap (k + m) c * bytes ≤ 2 ^ 48 := Nat.le_trans (Nat.mul_le_mul_right _ (nextcap_le (by omega))) hroom
    rw [if_neg (by omega)]
    have fin : ∀ cap, k + m ≤ cap → SWP P (do
        let old ← Builtin.firstCells size k sv
        let new ← Builtin.firstCells size m xv
        let b ← newObj (.cells (old ++ new ++ (zeroRow (cap - (k + m)) zero).toArray) t)
        pure (Next.value (.slice (Option.some ⟨b, 0, none⟩) (k + m) cap)) : Sem Next) (slA sv xs sp ++ R.flatten) fun nx L => ∃ v H' X, (nx = .value v ∨ (nx = .skip ∧ v = undef)) ∧ L.Perm (List.flatten H' ++ X) ∧ VO P n rs (putE d v Γ) H' Z K := by
      intro cap hcap
      refine SWP.bind (SWP.firstCells hso (SWP.bind (SWP.firstCells hsrc' (mem_new (fun b => ?_)))))
      have hI : IsSl size (.slice (Option.some ⟨b, 0, none⟩) (k + m) cap) (k + m) (xs ++ ys) (zeroRow (cap - (k + m)) zero) := by
        refine .mk ?_ ?_ hcap
        · rw [List.length_append, hsl.len, hlen, Nat.add_mul]
        · rw [List.length_append, hsl.len, hlen, zeroRow_length, hz, ← Nat.add_mul, ← Nat.add_mul]
          congr 1; omega
      refine ⟨_, _, [], .inl rfl, ?_, h _ _ hI⟩
      have : (xs.toArray ++ ys.toArray ++ (zeroRow (cap - (k + m)) zero).toArray).toList = xs ++ ys ++ zeroRow (cap - (k + m)) zero := by simp
      rw [this]
      simp only [List.flatten_cons, List.append_assoc, List.append_nil]
      simp only [slA, List.append_assoc]
      exact List.Perm.refl _
    refine SWP.bind (SWP.choose (fun hf => by simp [Question.forced] at hf) (fun t' => fin _ ?_))
    simp only [Question.cut]; omega
  cases hsl with
  | @mk b o _ c _ _ h1 h2 h3 =>
    simp only [hm]
    by_cases hle : k + m ≤ c
    · rw [if_pos hle]
      refine SWP.bind (SWP.firstCells hsrc' ?_)
      have hl2 : ys.length ≤ sp.length := by
        have e1 : (k + m) * size ≤ c * size := Nat.mul_le_mul_right _ hle
        rw [Nat.add_mul] at e1; omega
      have hsplit : cellsAt b o (xs ++ sp) = cellsAt b o xs ++ (cellsAt b (o + k * size) (sp.take ys.length) ++ cellsAt b (o + k * size + ys.length) (sp.drop ys.length)) := by
        rw [cellsAt_append, h1]
        congr 1
        conv => lhs; rw [← List.take_append_drop ys.length sp]
        rw [cellsAt_append]
        congr 2
        simp; omega
      have hI : IsSl size (.slice (Option.some ⟨b, o, none⟩) (k + m) c) (k + m) (xs ++ ys) (sp.drop ys.length) := by
        refine .mk ?_ ?_ hle
        · rw [List.length_append, h1, hlen, Nat.add_mul]
        · rw [List.length_append, List.length_drop]; omega
      have hadd : ((⟨b, o, none⟩ : Addr).add (k * size)) = ⟨b, o + k * size, none⟩ := add_off b o _
      simp only [hadd]
      have hperm : (slA (.slice (Option.some ⟨b, o, none⟩) k c) xs sp ++ R.flatten).Perm (cellsAt b (o + k * size) (sp.take ys.length) ++ (cellsAt b o xs ++ (cellsAt b (o + k * size + ys.length) (sp.drop ys.length) ++ R.flatten))) := by
        simp only [slA, hsplit, List.append_assoc]
        exact perm_lead _ _ _
      refine SWP.perm hperm (SWP.bind (SWP.storeCells (by simp; omega) (List.all_eq_true.1 hone) (SWP.pure ?_)))
      refine ⟨_, _, [], .inl rfl, ?_, hin b o c _ rfl hI⟩
      simp only [slA, List.flatten_cons, List.append_nil, cellsAt_append, h1, List.append_assoc]
      exact perm_lead _ _ _
    · rw [if_neg hle]
      refine grow _ c rfl hle ⟨h1, fun x hx => ?_⟩
      simp only [slA, cellsAt_append, List.mem_append]
      exact .inl (.inl hx)
  | nil =>
    simp only [hm]
    by_cases hle : 0 + m ≤ 0
    · rw [if_pos hle]
      have hm0 : m = 0 := by omega
      subst hm0
      obtain rfl : ys = [] := by simpa using hlen
      refine SWP.bind (SWP.firstCells hsrc' (SWP.pure ?_))
      exact ⟨_, _, [], .inl rfl, by simp [slA], h _ _ .nil⟩
    · rw [if_neg hle]
      exact grow _ 0 rfl hle rfl
end
end Go.V
namespace Go.V
open Go
set_option linter.unusedSimpArgs false
set_option linter.unusedVariables false
section
variable {P : Program} {n : Nat} {rs : List RO} {Γ : Env} {H : SH} {Z : List PanicEntry → Env → SH → Prop} {K : Env → SH → Prop} {d : Option Nat}

theorem st_append_in {t : TypeId} {size bytes : Nat} {zero : List Value} {s x : Operand} {b o c : Nat} {xv : Value} {k m : Nat} {xs sp ys : List Value} {R : SH} (hs : ev Γ s = some (.slice (Option.some ⟨b, o, none⟩) k c)) (hx : ev Γ x = some xv) (hsl : IsSl size (.slice (Option.some ⟨b, o, none⟩) k c) k xs sp)
    (ht : Tk H (slA (.slice (Option.some ⟨b, o, none⟩) k c) xs sp) R) (hm : seqLen xv = some m) (hsrc : Src R.flatten size m ys xv) (hlen : ys.length = m * size) (hone : ys.all oneCell = true) (hle : k + m ≤ c)
    (h : ∀ sp', IsSl size (.slice (Option.some ⟨b, o, none⟩) (k + m) c) (k + m) (xs ++ ys) sp' → VO P n rs (putE d (.slice (Option.some ⟨b, o, none⟩) (k + m) c) Γ) (slA (.slice (Option.some ⟨b, o, none⟩) (k + m) c) (xs ++ ys) sp' :: R) Z K) : VO P n (⟨d, none, .append t size bytes zero s x⟩ :: rs) Γ H Z K := by
  refine VO.act' rfl rfl (fun ρ hρ => ⟨_, rfl, ?_⟩)
  rw [hρ _ _ hs, hρ _ _ hx]
  refine SWP.perm ht.perm ?_
  have hsrc' : Src (slA (.slice (Option.some ⟨b, o, none⟩) k c) xs sp ++ R.flatten) size m ys xv := hsrc.mono (fun x hx => List.mem_append_right _ hx)
  cases hsl with
  | mk h1 h2 h3 =>
    simp only [hm]
    rw [if_pos hle]
    refine SWP.bind (SWP.firstCells hsrc' ?_)
    have hl2 : ys.length ≤ sp.length := by
      have e1 : (k + m) * size ≤ c * size := Nat.mul_le_mul_right _ hle
      rw [Nat.add_mul] at e1; omega
    have hsplit : cellsAt b o (xs ++ sp) = cellsAt b o xs ++ (cellsAt b (o + k * size) (sp.take ys.length) ++ cellsAt b (o + k * size + ys.length) (sp.drop ys.length)) := by
      rw [cellsAt_append, h1]
      congr 1
      conv => lhs; rw [← List.take_append_drop ys.length sp]
      rw [cellsAt_append]
      congr 2
      simp; omega
    have hI : IsSl size (.slice (Option.some ⟨b, o, none⟩) (k + m) c) (k + m) (xs ++ ys) (sp.drop ys.length) := by
      refine .mk ?_ ?_ hle
      · rw [List.length_append, h1, hlen, Nat.add_mul]
      · rw [List.length_append, List.length_drop]; omega
    have hadd : ((⟨b, o, none⟩ : Addr).add (k * size)) = ⟨b, o + k * size, none⟩ := add_off b o _
    simp only [hadd]
    have hperm : (slA (.slice (Option.some ⟨b, o, none⟩) k c) xs sp ++ R.flatten).Perm (cellsAt b (o + k * size) (sp.take ys.length) ++ (cellsAt b o xs ++ (cellsAt b (o + k * size + ys.length) (sp.drop ys.length) ++ R.flatten))) := by
      simp only [slA, hsplit, List.append_assoc]
      exact perm_lead _ _ _
    refine SWP.perm hperm (SWP.bind (SWP.storeCells (by simp; omega) (List.all_eq_true.1 hone) (SWP.pure ?_)))
    refine ⟨_, _, [], .inl rfl, ?_, h _ hI⟩
    simp only [slA, List.flatten_cons, List.append_nil, cellsAt_append, h1, List.append_assoc]
    exact perm_lead _ _ _
end
end Go.V
namespace Go.Proofs.Ytffmipimgodfdaa
open Go Go.V
set_option maxHeartbeats 6400000
set_option maxRecDepth 100000
set_option linter.unusedSimpArgs false
set_option linter.unusedVariables false
def lentL (xs : List Int) : List Value := (xs ++ [-771, -772]).map vi
theorem lentInts_spec (A : List Atom) (v : Value) (xs : List Int) (h : RdInts A v xs) (hn : xs.length ≤ 1048576) :
    Fun Try.prog 15 [v] [A] (fun v' Post => ∃ b o c sp, v' = .slice (some ⟨b, o, none⟩) xs.length c ∧ xs.length + 2 + sp.length = c ∧ c ≤ 1048578 ∧ Post = [A, cellsAt b o (lentL xs ++ sp)]) := by
  obtain ⟨a, c, hv⟩ := h.form
  refine Fun.intro low15 (by simp [F15]) ?_
  rw [hv]
  refine GO ?_
  refine st_mkslice (li := 0) (ci := (xs.length : Int) + 2) (by rfl) (by rfl) (by omega) (by rfl) (fun db => ?_)
  refine GO ?_
  have hz : (zeroRow ((xs.length : Int) + 2).toNat [vi 0]).length = xs.length + 2 := by simp [zeroRow]; omega
  have hz2 : ((xs.length : Int) + 2).toNat = xs.length + 2 := by omega
  refine st_append_in (k := 0) (m := xs.length) (xs := []) (sp := zeroRow ((xs.length : Int) + 2).toNat [vi 0]) (ys := xs.map vi) (by rfl) (by rfl) (.mk rfl (by rw [List.length_nil, hz, hz2]; omega) (Nat.zero_le _)) .here (by rfl) ?_ (by simp) (by simp [oneCell]) (by omega) (fun sp' hsl => ?_)
  · rcases h with ⟨h1, h2⟩ | ⟨b, o, c', h1, hA⟩
    · rw [hv] at h1
      simp only [Value.slice.injEq] at h1
      obtain ⟨rfl, -, -⟩ := h1
      subst h2
      simp [Src]
    · rw [hv] at h1
      simp only [Value.slice.injEq, true_and] at h1
      obtain ⟨rfl, rfl⟩ := h1
      exact ⟨by simp, fun x hx => by have := RdInts.src hA x hx; simp only [List.flatten_cons, List.mem_append]; simp only [this, true_or, or_true]⟩
  rw [Nat.zero_add, List.nil_append] at hsl
  rw [List.nil_append]
  rw [Nat.zero_add]
  refine GO ?_
  refine st_bslice (out := [vi (-771), vi (-772)]) (by rfl) (by rfl) (fun q3 => ?_)
  refine GO ?_
  refine st_append_in (k := xs.length) (m := 2) (xs := xs.map vi) (sp := sp') (ys := [vi (-771), vi (-772)]) (by rfl) (by rfl) hsl (by (focus ((repeat (first | with_reducible exact Tk.here | apply Tk.there)); done))) (by rfl) ?_ rfl (by rfl) (by omega) (fun sp2 hs2 => ?_)
  · exact ⟨rfl, fun a ha => by simp only [List.flatten_cons, List.mem_append]; exact .inl ha⟩
  have he : xs.map vi ++ [vi (-771), vi (-772)] = lentL xs := by simp [lentL]
  rw [he] at hs2 ⊢
  obtain ⟨b, o, c2, he2, hc2, hl2⟩ := hs2.some (by omega)
  simp only [Value.slice.injEq, Option.some.injEq, Addr.mk.injEq, true_and, and_true] at he2
  obtain ⟨⟨rfl, rfl⟩, rfl⟩ := he2
  have hll : (lentL xs).length = xs.length + 2 := by simp [lentL]
  refine GO ?_
  refine st_slcL (l := 0) (h := xs.length) (o' := 0) (by rfl) .dft (.num (by rfl)) ⟨by omega, by omega⟩ (by split <;> omega) ?_
  refine GO ?_
  exact endQ_mk (.inr rfl) (.tmp (by rfl) .nil) ⟨_, _, _, sp2, rfl, by omega, by omega, rfl⟩ (by simp only [slA_some]; (first | with_reducible exact Imp.refl | with_reducible exact Imp.left | (focus ((try simp only [List.nil_append]); (repeat (first | exact Imp.nil | (apply Imp.cons; (focus ((repeat (first | with_reducible exact Tk.here | apply Tk.there)); done))))); done))))
end Go.Proofs.Ytffmipimgodfdaa
namespace Go.Proofs.Ytffmipimgodfdaa
open Go Go.V
set_option maxHeartbeats 6400000
set_option maxRecDepth 100000
set_option linter.unusedSimpArgs false
set_option linter.unusedVariables false
theorem sameInts_spec (A B : List Atom) (b o c : Nat) (vb : Value) (xs : List Int) (ha : ∀ (i : Nat) x, xs[i]? = some x → Atom.cell b (o + i) (vi x) ∈ A) (hb : RdInts B vb xs) (hl : xs.length ≤ 1073741824) :
    Fun Try.prog 29 [.slice (some ⟨b, o, none⟩) xs.length c, vb] [A, B] (fun v Post => v = .bool true ∧ Post = [A, B]) := by
  refine Fun.intro low29 (by simp [F29]) ?_
  obtain ⟨ba, bc, hbe⟩ := hb.form
  rw [hbe]
  rw [hbe] at hb
  refine GO ?_
  refine VC.loop (α := Nat) (Γf := fun k => [(0, .slice (some ⟨b, o, none⟩) xs.length c), (1, .slice ba xs.length bc), (5, vi k)]) (Hf := fun _ => [A, B]) (I := fun k => k ≤ xs.length) (μ := fun k => xs.length - k) 0 (Nat.zero_le _) (by (repeat (first | exact Sub.nil | (apply Sub.cons; rfl)))) (by (first | with_reducible exact Imp.refl | with_reducible exact Imp.left | (focus ((try simp only [List.nil_append]); (repeat (first | exact Imp.nil | (apply Imp.cons; (focus ((repeat (first | with_reducible exact Tk.here | apply Tk.there)); done))))); done)))) ?_
  intro k hk
  refine GO ?_
  (first | (apply VC.seq_cond; rfl) | (apply VC.cond; rfl))
  rotate_left
  · intro hge
    refine GO ?_
    exact endQ_mk (Post := [A, B]) (.inr rfl) (.tmp (by rfl) .nil) ⟨rfl, rfl⟩ (by (first | with_reducible exact Imp.refl | with_reducible exact Imp.left | (focus ((try simp only [List.nil_append]); (repeat (first | exact Imp.nil | (apply Imp.cons; (focus ((repeat (first | with_reducible exact Tk.here | apply Tk.there)); done))))); done))))
  intro hlt
  have hlt : k < xs.length := by simpa using hlt
  have m1 := ha k xs[k] (List.getElem?_eq_getElem hlt)
  obtain ⟨b2, o2, c2, hve, hcell⟩ := hb.pos (by omega)
  simp only [Value.slice.injEq, true_and] at hve
  obtain ⟨rfl, rfl⟩ := hve
  have m2 := hcell k xs[k] (List.getElem?_eq_getElem hlt)
  refine GO ?_
  exact ⟨k + 1, by omega, by omega, by (repeat (first | exact Sub.nil | (apply Sub.cons; rfl))), by (first | with_reducible exact Imp.refl | with_reducible exact Imp.left | (focus ((try simp only [List.nil_append]); (repeat (first | exact Imp.nil | (apply Imp.cons; (focus ((repeat (first | with_reducible exact Tk.here | apply Tk.there)); done))))); done)))⟩

theorem lent_at {xs : List Int} {sp : List Value} {b o i : Nat} {x : Int} (h : (xs ++ [-771, -772])[i]? = some x) : Atom.cell b (o + i) (vi x) ∈ cellsAt b o (lentL xs ++ sp) := by
  refine mem_cellsAt.2 ⟨i, vi x, ?_, rfl⟩
  have hl := (List.getElem?_eq_some_iff.1 h).1
  rw [List.getElem?_append_left (by simpa [lentL] using hl)]
  simp only [lentL, List.getElem?_map, h, Option.map_some]

theorem wholeInts_spec (B : List Atom) (b o c : Nat) (sp : List Value) (vb : Value) (xs : List Int) (hc : xs.length + 2 + sp.length = c) (hb : RdInts B vb xs) (hl : xs.length ≤ 1073741824) :
    Fun Try.prog 17 [.slice (some ⟨b, o, none⟩) xs.length c, vb] [cellsAt b o (lentL xs ++ sp), B] (fun v Post => v = .bool true ∧ Post = [cellsAt b o (lentL xs ++ sp), B]) := by
  refine Fun.intro low17 (by simp [F17]) ?_
  have hall : ∀ (i : Nat) x, xs[i]? = some x → Atom.cell b (o + i) (vi x) ∈ cellsAt b o (lentL xs ++ sp) := fun i x hx => lent_at (by rw [List.getElem?_append_left (List.getElem?_eq_some_iff.1 hx).1]; exact hx)
  have m1 : Atom.cell b (o + xs.length) (vi (-771)) ∈ cellsAt b o (lentL xs ++ sp) := lent_at (by simp)
  have m2 : Atom.cell b (o + (xs.length + 1)) (vi (-772)) ∈ cellsAt b o (lentL xs ++ sp) := lent_at (by rw [List.getElem?_append_right (by omega)]; simp)
  have hsame := sameInts_spec (cellsAt b o (lentL xs ++ sp)) B b o c vb xs hall hb hl
  generalize cellsAt b o (lentL xs ++ sp) = L at m1 m2 hsame ⊢
  refine GO ?_
  simp only [show ¬ (c : Int) < (xs.length : Int) + 2 by omega, decide_false]
  refine GO ?_
  refine st_slcL (l := 0) (h := xs.length + 2) (o' := o) (by rfl) .dft (.num (by rfl)) ⟨by omega, by omega⟩ (by split <;> omega) ?_
  refine GO ?_
  refine st_call hsame (by rfl) (by (focus ((repeat (first | exact Spl.nil | (apply Spl.cons; (focus ((repeat (first | with_reducible exact Tk.here | apply Tk.there)); done))))); done))) (fun v Post hv => ?_)
  obtain ⟨rfl, rfl⟩ := hv
  simp only [List.cons_append, List.nil_append]
  refine GO ?_
  exact endQ_mk (Post := [L, B]) (.inr rfl) (.tmp (by rfl) .nil) ⟨rfl, rfl⟩ (by (first | with_reducible exact Imp.refl | with_reducible exact Imp.left | (focus ((try simp only [List.nil_append]); (repeat (first | exact Imp.nil | (apply Imp.cons; (focus ((repeat (first | with_reducible exact Tk.here | apply Tk.there)); done))))); done))))
end Go.Proofs.Ytffmipimgodfdaa
namespace Go.Proofs.Ytffmipimgodfdaa
open Go Go.V
set_option maxHeartbeats 6400000
set_option maxRecDepth 100000
set_option linter.unusedSimpArgs false
set_option linter.unusedVariables false
theorem spoilInts_spec (b o n c : Nat) (zs : List Value) (hz : zs.length = c) (hn : n ≤ c) (hc : c ≤ 4611686018427387904) :
    Fun Try.prog 18 [.slice (some ⟨b, o, none⟩) n c] [cellsAt b o zs] (fun v Post => v = .tuple #[] ∧ Post = []) := by
  refine Fun.intro low18 (by simp [F18]) ?_
  refine GO ?_
  refine st_slcL (l := 0) (h := c) (o' := o) (by rfl) .dft (.num (by rfl)) ⟨by omega, by omega⟩ (by split <;> omega) ?_
  refine GO ?_
  refine VC.loop (α := Nat × List Value) (Γf := fun s => [(2, .slice (some ⟨b, o, none⟩) c c), (3, vi s.1)]) (Hf := fun s => [cellsAt b o s.2]) (I := fun s => s.1 ≤ c ∧ s.2.length = c) (μ := fun s => c - s.1) (0, zs) ⟨Nat.zero_le _, hz⟩ (by (repeat (first | exact Sub.nil | (apply Sub.cons; rfl)))) (by (first | with_reducible exact Imp.refl | with_reducible exact Imp.left | (focus ((try simp only [List.nil_append]); (repeat (first | exact Imp.nil | (apply Imp.cons; (focus ((repeat (first | with_reducible exact Tk.here | apply Tk.there)); done))))); done)))) ?_
  rintro ⟨k, ys⟩ ⟨hk, hy⟩
  simp only at hk hy
  refine GO ?_
  (first | (apply VC.seq_cond; rfl) | (apply VC.cond; rfl))
  rotate_left
  · intro _
    refine GO ?_
    exact endQ_mk (Post := []) (.inl rfl) .nil ⟨rfl, rfl⟩ Imp.nil
  intro hlt
  have hlt : k < c := by simpa using hlt
  refine GO ?_
  refine st_store' (us := [vi (-779)]) (by rfl) (by rfl) (by rfl) (by rfl) (by rfl) (Upd.set1 (i := k) (by omega) (by omega)) ?_
  refine GO ?_
  exact ⟨(k + 1, ys.set k (vi (-779))), ⟨by show k + 1 ≤ c; omega, by simpa using hy⟩, by simp only; omega, by (repeat (first | exact Sub.nil | (apply Sub.cons; rfl))), by (first | with_reducible exact Imp.refl | with_reducible exact Imp.left | (focus ((try simp only [List.nil_append]); (repeat (first | exact Imp.nil | (apply Imp.cons; (focus ((repeat (first | with_reducible exact Tk.here | apply Tk.there)); done))))); done)))⟩
end Go.Proofs.Ytffmipimgodfdaa
namespace Go.V
open Go
set_option linter.unusedSimpArgs false
set_option linter.unusedVariables false

structure OwnI where
  v : Value
  n : Nat
  xs : List Value
  sp : List Value
def owA (p : OwnI) : List Atom := slA p.v p.xs p.sp
def mkI (i j : Nat) : Int := (i : Int) * 1000 + j
def bkI (i j : Nat) : Int := (-1 - (i : Int)) * 1000 - j
def mkL (i n : Nat) : List Int := (List.range n).map (mkI i)
def bkL (i n : Nat) : List Int := (List.range n).map (bkI i)
theorem mkL_len (i n : Nat) : (mkL i n).length = n := by simp [mkL]
theorem bkL_len (i n : Nat) : (bkL i n).length = n := by simp [bkL]
theorem mkL_succ (i k : Nat) : mkL i (k + 1) = mkL i k ++ [mkI i k] := by simp [mkL, List.range_succ]
theorem bkL_succ (i k : Nat) : bkL i (k + 1) = bkL i k ++ [bkI i k] := by simp [bkL, List.range_succ]
theorem mkL_get {i n k : Nat} (h : k < n) : (mkL i n)[k]? = some (mkI i k) := by simp [mkL, h]
theorem both_get1 {i n k m : Nat} (h : k < n) : (mkL i n ++ bkL i m)[k]? = some (mkI i k) := by
  rw [List.getElem?_append_left (by rw [mkL_len]; exact h), mkL_get h]
theorem both_get2 {i n k m : Nat} (h : k < m) : (mkL i n ++ bkL i m)[n + k]? = some (bkI i k) := by
  rw [List.getElem?_append_right (by rw [mkL_len]; omega), mkL_len, Nat.add_sub_cancel_left]
  simp [bkL, h]

/-- The first lists bear marks. -/
def ph1 (enc : Int → List Value) (i : Nat) (ps : List OwnI) : List OwnI := ps.mapIdx fun j p => if j < i then { p with xs := (mkL j p.n).flatMap enc } else p
theorem ph1_get {enc : Int → List Value} {i j : Nat} {ps : List OwnI} {p : OwnI} (h : ps[j]? = some p) : (ph1 enc i ps)[j]? = some (if j < i then { p with xs := (mkL j p.n).flatMap enc } else p) := by
  simp [ph1, List.getElem?_mapIdx, h]
theorem ph1_zero {enc : Int → List Value} {ps : List OwnI} : ph1 enc 0 ps = ps := by
  apply List.ext_getElem?
  intro j
  simp only [ph1, List.getElem?_mapIdx]
  cases ps[j]? <;> simp
theorem ph1_succ {enc : Int → List Value} {i : Nat} {ps : List OwnI} {p : OwnI} (h : ps[i]? = some p) : ph1 enc (i + 1) ps = (ph1 enc i ps).set i { p with xs := (mkL i p.n).flatMap enc } := by
  apply List.ext_getElem?
  intro j
  rw [List.getElem?_set]
  by_cases e : i = j
  · subst e
    rw [if_pos rfl, ph1_get h, if_pos (by omega)]
    have := (List.getElem?_eq_some_iff.1 (ph1_get (enc := enc) (i := i) h)).1
    rw [if_pos (by simpa using this)]
  · rw [if_neg e]
    simp only [ph1, List.getElem?_mapIdx]
    cases ps[j]? with
    | none => rfl
    | some q => simp only [Option.map_some]; simp only [show (j < i + 1) = (j < i) from by apply propext; omega]
theorem ph1_len {enc : Int → List Value} {i : Nat} {ps : List OwnI} : (ph1 enc i ps).length = ps.length := by simp [ph1]
/-- A mark laid. -/
theorem own_lay {size n k : Nat} {enc : Int → List Value} (he : ∀ z, (enc z).length = size) {xs sp : List Value} (hx : xs.length = n * size) (hk : k < n) (i : Nat) :
    (((mkL i k).flatMap enc ++ xs.drop (k * size)) ++ sp).take (k * size) ++ enc (mkI i k) ++ (((mkL i k).flatMap enc ++ xs.drop (k * size)) ++ sp).drop (k * size + (enc (mkI i k)).length) = ((mkL i (k + 1)).flatMap enc ++ xs.drop ((k + 1) * size)) ++ sp := by
  have hl : ((mkL i k).flatMap enc).length = k * size := by rw [flatMap_len (fun x _ => he x), mkL_len]
  have h2 : (k + 1) * size ≤ n * size := Nat.mul_le_mul_right _ hk
  rw [Nat.add_mul, Nat.one_mul] at h2
  rw [List.append_assoc ((mkL i k).flatMap enc), List.take_append_of_le_length (by omega), List.take_of_length_le (by omega), he]
  rw [List.drop_append, List.drop_of_length_le (by omega), List.nil_append, hl, Nat.add_sub_cancel_left]
  rw [List.drop_append_of_le_length (by rw [List.length_drop]; omega), List.drop_drop]
  rw [mkL_succ, List.flatMap_append, Nat.add_mul, Nat.one_mul]
  simp [List.append_assoc]
theorem own_len {size n k : Nat} {enc : Int → List Value} (he : ∀ z, (enc z).length = size) {xs : List Value} (hx : xs.length = n * size) (hk : k ≤ n) (i : Nat) : ((mkL i k).flatMap enc ++ xs.drop (k * size)).length = n * size := by
  rw [List.length_append, flatMap_len (fun x _ => he x), mkL_len, List.length_drop, hx]
  have h2 : k * size ≤ n * size := Nat.mul_le_mul_right _ hk
  omega
theorem ph1_all {enc : Int → List Value} {ps : List OwnI} {i : Nat} {p : OwnI} (h : ps[i]? = some p) : ((ph1 enc ps.length ps).drop i).flatMap owA = slA p.v ((mkL i p.n).flatMap enc) p.sp ++ ((ph1 enc ps.length ps).drop (i + 1)).flatMap owA := by
  have hi := (List.getElem?_eq_some_iff.1 h).1
  have hg := ph1_get (enc := enc) (i := ps.length) h
  rw [if_pos hi] at hg
  have hl : i < (ph1 enc ps.length ps).length := by rw [ph1_len]; exact hi
  rw [List.drop_eq_getElem_cons hl, List.flatMap_cons]
  rw [List.getElem?_eq_getElem hl, Option.some.injEq] at hg
  rw [hg]
  rfl
/-- Of a list's own cells, whether it grew in its room or not. -/
def Kept (size : Nat) (E : List Atom) (v : Value) (n : Nat) (ms : List Value) (xv : Value) (m : Nat) : Prop :=
  RdRow size E v n ms ∨ (E = [] ∧ ∃ b o c, v = .slice (some ⟨b, o, none⟩) n c ∧ xv = .slice (some ⟨b, o, none⟩) m c)
theorem Kept.start {size n : Nat} {v : Value} {ms sp : List Value} (h : IsSl size v n ms sp) : Kept size [] v n ms v n := by
  cases h with
  | mk h1 h2 h3 => exact .inr ⟨rfl, _, _, _, rfl, rfl⟩
  | nil => exact .inl (.inl ⟨rfl, rfl, rfl⟩)
/-- Behind all: both are read. -/
theorem Kept.done {size n m : Nat} {E : List Atom} {v xv : Value} {ms ts xsp : List Value} (h : Kept size E v n ms xv m) (hx : IsSl size xv m (ms ++ ts) xsp) (hm : ms.length = n * size) (hnm : n ≤ m) :
    RdRow size (slA xv (ms ++ ts) xsp ++ E) v n ms := by
  rcases h with h | ⟨rfl, b, o, c, rfl, rfl⟩
  · exact h.mono (fun a ha => List.mem_append_right _ ha)
  · cases hx with
    | mk h1 h2 h3 =>
      refine .inr ⟨b, o, c, rfl, by omega, hm, fun x hx => ?_⟩
      simp only [slA, List.append_nil, cellsAt_append, List.mem_append]
      exact .inl (.inl hx)
theorem Kept.moved {size n m m' : Nat} {E : List Atom} {v xv xv' : Value} {ms ts xsp : List Value} (h : Kept size E v n ms xv m) (hx : IsSl size xv m (ms ++ ts) xsp) (hm : ms.length = n * size) (hnm : n ≤ m) : Kept size (slA xv (ms ++ ts) xsp ++ E) v n ms xv' m' := .inl (h.done hx hm hnm)
end Go.V
namespace Go.Proofs.Ytffmipimgodfdaa
open Go Go.V
set_option maxHeartbeats 6400000
set_option maxRecDepth 100000
set_option linter.unusedSimpArgs false
set_option linter.unusedVariables false
def bkT (tv : Value) : List Value := [.slice none 0 0, .slice none 0 0, .slice none 0 0, .slice none 0 0, .slice none 0 0, .slice none 0 0, tv, .slice none 0 0]
theorem bookTexts_spec (q : Nat) (tv : Value) (vs tsp : List Value) (k : Nat) (a : Option Addr) (n c : Nat) (ht : IsSl 1 tv k vs tsp) (hk : k ≤ 1073741824) :
    Fun Try.prog 36 [ptr0 q, .slice a n c] [cellsAt q 0 (bkT tv), slA tv vs tsp] (fun v Post => ∃ tv' tsp', IsSl 1 tv' (k + 1) (vs ++ [.slice a n c]) tsp' ∧ v = .tuple #[] ∧ Post = [cellsAt q 0 (bkT tv'), slA tv' (vs ++ [.slice a n c]) tsp']) := by
  refine Fun.intro low36 (by simp [F36]) ?_
  obtain ⟨ta, tc, rfl⟩ := ht.form
  simp only [bkT]
  refine GO ?_
  refine st_bslice (out := [.slice a n c]) (by rfl) (by rfl) (fun q3 => ?_)
  refine GO ?_
  refine st_append (k := k) (m := 1) (xs := vs) (sp := tsp) (ys := [.slice a n c]) (by rfl) (by rfl) ht (by (focus ((repeat (first | with_reducible exact Tk.here | apply Tk.there)); done))) (by rfl) ?_ rfl (by rfl) (by rfl) (by decide) (by omega) (fun sv' sp' hsl' => ?_)
  · exact ⟨rfl, fun a ha => by simp only [List.flatten_cons, List.mem_append]; exact .inl ha⟩
  obtain ⟨a', c', rfl⟩ := hsl'.form
  refine GO ?_
  exact endQ_mk (.inl rfl) .nil ⟨_, _, hsl', rfl, rfl⟩ (by (try simp only [bkT]); (first | with_reducible exact Imp.refl | with_reducible exact Imp.left | (focus ((try simp only [List.nil_append]); (repeat (first | exact Imp.nil | (apply Imp.cons; (focus ((repeat (first | with_reducible exact Tk.here | apply Tk.there)); done))))); done))))
end Go.Proofs.Ytffmipimgodfdaa

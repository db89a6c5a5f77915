/-
  Copying a text into a list of bytes.
-/
import Derived.Test.YtklkngccaemjdaaGreatVS
set_option linter.unusedSimpArgs false
set_option linter.unusedVariables false
namespace Go.V
open Go

def sBytes (s : ByteArray) : List Value := s.data.toList.map fun c => .int .u8 c.toNat

/-- A list from a place on. -/
def SubAt : Value → Nat → Value → Prop
  | .slice (some ⟨b, o, none⟩) k c, l, dv => dv = .slice (some ⟨b, (if c = l then o else o + l), none⟩) (k - l) (c - l)
  | .slice none k c, l, dv => dv = .slice none (k - l) (c - l)
  | _, _, _ => False

theorem imp_nil (H : SH) : Imp H [[]] := ⟨H, by simp only [V.Spl, List.flatten_cons, List.flatten_nil, List.append_nil, List.nil_append]; exact .refl _⟩

section
variable {P : Program} {n : Nat} {rs : List RO} {Γ : Env} {H : SH} {Z : List PanicEntry → Env → SH → Prop} {K : Env → SH → Prop} {d : Option Nat}

theorem st_slcAt {x lo : Operand} {sv : Value} {k l : Nat} {xs sp : List Value} (hx : ev Γ x = some sv) (hsl : IsSl 1 sv k xs sp) (hlo : Bnd Γ 0 (some lo) l) (hl : l ≤ k)
    (h : ∀ dv, SubAt sv l dv → VO P n rs (putE d dv Γ) H Z K) : VO P n (⟨d, none, .slcL 1 x (some lo) none none⟩ :: rs) Γ H Z K := by
  cases hsl with
  | @mk b o _ c _ _ h1 h2 h3 => exact st_slcL hx hlo .dft ⟨hl, h3⟩ (by rw [Nat.mul_one]) (h _ rfl)
  | nil => exact st_slcN hx hlo .dft ⟨hl, Nat.le_refl _⟩ (h _ rfl)

theorem st_copyS {x y : Operand} {sv dv : Value} {k l : Nat} {xs sp : List Value} {s : ByteArray} {R : SH} (hx : ev Γ x = some dv) (hy : ev Γ y = some (.string s)) (hsl : IsSl 1 sv k xs sp) (hd : SubAt sv l dv) (hl : l + s.size ≤ k)
    (ht : Tk H (slA sv xs sp) R) (h : VO P n rs (putE d (vi s.size) Γ) (slA sv (xs.take l ++ sBytes s ++ xs.drop (l + s.size)) sp :: R) Z K) : VO P n (⟨d, none, .copy 1 x y⟩ :: rs) Γ H Z K := by
  refine VO.act' rfl rfl (fun ρ hρ => ⟨_, rfl, ?_⟩)
  rw [hρ _ _ hx, hρ _ _ hy]
  refine SWP.perm ht.perm ?_
  have hys : (sBytes s).length = s.size := by simp [sBytes]
  have hmin : Nat.min s.size (k - l) = s.size := Nat.min_eq_left (by omega)
  cases hsl with
  | @mk b o _ c _ _ h1 h2 h3 =>
    simp only [SubAt] at hd
    subst hd
    simp only [seqLen, hmin]
    have hsrc : Src (slA (.slice (some ⟨b, o, none⟩) k c) xs sp ++ R.flatten) 1 s.size (sBytes s) (.string s) := by
      simp only [Src, sBytes]
      rw [List.take_of_length_le (by simp)]
    refine SWP.bind (SWP.firstCells hsrc ?_)
    rw [Nat.mul_one] at h1 h2
    by_cases hz : s.size = 0
    · have he : sBytes s = [] := List.eq_nil_of_length_eq_zero (by omega)
      rw [he]
      have hsz := SWP.storeCells (P := P) (b := b) (o := if c = l then o else o + l) (vs := []) (us := []) (R := slA (.slice (some ⟨b, o, none⟩) k c) xs sp ++ R.flatten) (K := fun _ L => L = slA (.slice (some ⟨b, o, none⟩) k c) xs sp ++ R.flatten) rfl (by simp) (by simp [cellsAt])
      have hnil : cellsAt b (if c = l then o else o + l) [] = [] := by simp [cellsAt]
      rw [hnil, List.nil_append] at hsz
      refine SWP.bind (SWP.mono hsz ?_)
      rintro _ L rfl
      refine SWP.pure ?_
      refine ⟨_, _, [], .inl rfl, ?_, h⟩
      simp [he, hz, cellsAt]
    · have hcl : c ≠ l := by omega
      rw [if_neg hcl]
      have hsplit : cellsAt b o (xs ++ sp) = cellsAt b o (xs.take l) ++ (cellsAt b (o + l) ((xs.drop l).take s.size) ++ cellsAt b (o + l + s.size) (xs.drop (l + s.size) ++ sp)) := by
        conv => lhs; rw [← List.take_append_drop l xs, List.append_assoc, cellsAt_append]
        congr 1
        rw [List.length_take, Nat.min_eq_left (by omega)]
        conv => lhs; rw [← List.take_append_drop s.size (xs.drop l), List.append_assoc, cellsAt_append]
        rw [List.length_take, List.length_drop, Nat.min_eq_left (by omega), List.drop_drop]
      have hperm : (slA (.slice (some ⟨b, o, none⟩) k c) xs sp ++ R.flatten).Perm (cellsAt b (o + l) ((xs.drop l).take s.size) ++ (cellsAt b o (xs.take l) ++ (cellsAt b (o + l + s.size) (xs.drop (l + s.size) ++ sp) ++ R.flatten))) := by
        simp only [slA, hsplit, List.append_assoc]
        exact perm_lead _ _ _
      refine SWP.perm hperm (SWP.bind (SWP.storeCells (by simp; omega) (by intro v hv; obtain ⟨c, _, rfl⟩ := List.mem_map.1 hv; rfl) (SWP.pure ?_)))
      refine ⟨_, _, [], .inl rfl, ?_, h⟩
      have hlt : (xs.take l).length = l := by rw [List.length_take]; omega
      simp only [slA, List.flatten_cons, List.append_nil, cellsAt_append, hlt, hys, List.append_assoc, List.length_append, Nat.add_assoc]
      exact perm_lead _ _ _
  | nil =>
    have hs0 : s.size = 0 := by omega
    simp only [SubAt] at hd
    subst hd
    simp only [seqLen, hmin]
    have he : sBytes s = [] := List.eq_nil_of_length_eq_zero (by omega)
    refine SWP.bind (SWP.firstCells (vs := []) (by simp only [Src, hs0]; simp) (SWP.pure ?_))
    refine ⟨_, _, [], .inl rfl, ?_, h⟩
    simp [slA]
end
end Go.V

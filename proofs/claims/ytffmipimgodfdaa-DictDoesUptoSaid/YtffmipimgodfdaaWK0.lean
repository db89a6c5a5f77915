/-
  Sorting: all of it.
-/
import Derived.Test.YtffmipimgodfdaaWS5string
import Derived.Test.YtffmipimgodfdaaVS
import Derived.KernelRfl
import Derived.Test.YtffmipimgodfdaaProg
set_option linter.unusedSimpArgs false
set_option linter.unusedVariables false
namespace Go.Proofs.Ytffmipimgodfdaa
open Go Go.V
set_option maxHeartbeats 3200000
set_option maxRecDepth 100000
set_option linter.unusedSimpArgs false
set_option linter.unusedVariables false
theorem pdq_string (b o N c : Nat) (hN : N ≤ 1073741823) : ∀ (d : Nat) (f : Int → ByteArray) (a z l : Int), z - a ≤ d → 0 ≤ a ∧ a ≤ z ∧ z ≤ N → 0 ≤ l ∧ l ≤ 64 → Lo ltS a z f → Inj N f →
    Fun Try.prog 69 [slF_string b o N c, vi a, vi z, vi l] [rowF b o Value.string N f] (fun v Post => v = .tuple #[] ∧ ∃ g, Sw a z f g ∧ Srt ltS a z g ∧ Post = [rowF b o Value.string N g]) := by
  intro d
  induction d using Nat.strongRecOn with
  | _ d ih =>
  intro f a z l hd h hl hlo hinj
  have hless := less_string
  refine Fun.intro low69 (by simp [F69]) ?_
  refine GO ?_
  refine VC.loop (α := Int × Int × Int × Bool × Bool × (Int → ByteArray)) (Γf := fun s => [(0, slF_string b o N c), (1, vi s.1), (2, vi s.2.1), (3, vi s.2.2.1), (8, .bool s.2.2.2.1), (9, .bool s.2.2.2.2.1)]) (Hf := fun s => [rowF b o Value.string N s.2.2.2.2.2])
    (I := fun s => (a ≤ s.1 ∧ s.1 ≤ s.2.1 ∧ s.2.1 ≤ z ∧ 0 ≤ s.2.2.1 ∧ s.2.2.1 ≤ 64) ∧ Sw a z f s.2.2.2.2.2 ∧ But ltS a z s.1 s.2.1 s.2.2.2.2.2) (μ := fun s => (s.2.1 - s.1).toNat)
    (a, z, l, true, true, f) ⟨⟨by simp, by simp only; omega, by simp, hl.1, hl.2⟩, .refl, .start⟩ (by (repeat (first | exact Sub.nil | (apply Sub.cons; rfl)))) (by (first | with_reducible exact Imp.refl | with_reducible exact Imp.left | (focus ((try simp only [List.nil_append]); (repeat (first | exact Imp.nil | (apply Imp.cons; (focus ((repeat (first | with_reducible exact Tk.here | apply Tk.there)); done))))); done)))) ?_
  clear hl l
  rintro ⟨x, y, l, wb, wp, g⟩ ⟨⟨hx1, hxy, hy1, hl0, hl1⟩, hsw, hbut⟩
  simp only at hx1 hxy hy1 hl0 hl1 hsw hbut
  dsimp only
  refine GO ?_
  by_cases h12 : y - x ≤ 12
  · simp only [h12, decide_true]
    refine GO ?_
    refine st_call (insert_string b o N c g x y (by omega) (by omega)) (by rfl) (by (focus ((repeat (first | exact Spl.nil | (apply Spl.cons; (focus ((repeat (first | with_reducible exact Tk.here | apply Tk.there)); done))))); done))) (fun v Post hv => ?_)
    obtain ⟨rfl, g1, s1, r1, rfl⟩ := hv
    simp only [List.cons_append, List.nil_append]
    refine GO ?_
    exact ⟨.inr rfl, _, _, .nil, by (first | with_reducible exact Imp.refl | with_reducible exact Imp.left | (focus ((try simp only [List.nil_append]); (repeat (first | exact Imp.nil | (apply Imp.cons; (focus ((repeat (first | with_reducible exact Tk.here | apply Tk.there)); done))))); done))), rfl, g1, hsw.trans (s1.wide hx1 hy1), (hbut.sw s1 hx1 hy1).done r1, rfl⟩
  simp only [h12, decide_false]
  refine GO ?_
  by_cases hl2 : l = 0
  · simp only [hl2, decide_true]
    refine GO ?_
    refine st_call (heap_string b o N c g x y (by omega) (by omega)) (by rfl) (by (focus ((repeat (first | exact Spl.nil | (apply Spl.cons; (focus ((repeat (first | with_reducible exact Tk.here | apply Tk.there)); done))))); done))) (fun v Post hv => ?_)
    obtain ⟨rfl, g1, s1, r1, rfl⟩ := hv
    simp only [List.cons_append, List.nil_append]
    refine GO ?_
    exact ⟨.inr rfl, _, _, .nil, by (first | with_reducible exact Imp.refl | with_reducible exact Imp.left | (focus ((try simp only [List.nil_append]); (repeat (first | exact Imp.nil | (apply Imp.cons; (focus ((repeat (first | with_reducible exact Tk.here | apply Tk.there)); done))))); done))), rfl, g1, hsw.trans (s1.wide hx1 hy1), (hbut.sw s1 hx1 hy1).done r1, rfl⟩
  simp only [hl2, decide_false]
  refine GO ?_
  refine VC.meet (α := Int × (Int → ByteArray)) (fun s => [(0, slF_string b o N c), (1, vi x), (2, vi y), (3, vi s.1), (8, .bool wb), (9, .bool wp), (10, vi (y - x))]) (fun s => [rowF b o Value.string N s.2]) (fun s => 0 ≤ s.1 ∧ s.1 ≤ 64 ∧ Sw a z f s.2 ∧ But ltS a z x y s.2) ?_ ?_
  · cases wb with
    | true =>
      refine GO ?_
      exact ⟨(l, g), ⟨hl0, hl1, hsw, hbut⟩, by (repeat (first | exact Sub.nil | (apply Sub.cons; rfl))), by (first | with_reducible exact Imp.refl | with_reducible exact Imp.left | (focus ((try simp only [List.nil_append]); (repeat (first | exact Imp.nil | (apply Imp.cons; (focus ((repeat (first | with_reducible exact Tk.here | apply Tk.there)); done))))); done)))⟩
    | false =>
      refine GO ?_
      refine st_call (break_string b o N c g x y (by omega) (by omega)) (by rfl) (by (focus ((repeat (first | exact Spl.nil | (apply Spl.cons; (focus ((repeat (first | with_reducible exact Tk.here | apply Tk.there)); done))))); done))) (fun v Post hv => ?_)
      obtain ⟨rfl, g1, s1, rfl⟩ := hv
      simp only [List.cons_append, List.nil_append]
      refine GO ?_
      exact ⟨(l - 1, g1), ⟨by simp only; omega, by simp only; omega, hsw.trans (s1.wide hx1 hy1), hbut.sw s1 hx1 hy1⟩, by (repeat (first | exact Sub.nil | (apply Sub.cons; rfl))), by (first | with_reducible exact Imp.refl | with_reducible exact Imp.left | (focus ((try simp only [List.nil_append]); (repeat (first | exact Imp.nil | (apply Imp.cons; (focus ((repeat (first | with_reducible exact Tk.here | apply Tk.there)); done))))); done)))⟩
  clear hsw hbut g hl0 hl1 hl2 l
  rintro ⟨l, g⟩ ⟨hl0, hl1, hsw, hbut⟩
  simp only at hl0 hl1 hsw hbut
  refine GO ?_
  refine st_call (choose_string b o N c g x y (by omega) (by omega)) (by rfl) (by (focus ((repeat (first | exact Spl.nil | (apply Spl.cons; (focus ((repeat (first | with_reducible exact Tk.here | apply Tk.there)); done))))); done))) (fun v Post hv => ?_)
  obtain ⟨p, t, hp, rfl, rfl⟩ := hv
  simp only [List.cons_append, List.nil_append]
  refine GO ?_
  refine VC.meet (α := Int × Int × (Int → ByteArray)) (fun s => [(0, slF_string b o N c), (1, vi x), (2, vi y), (3, vi l), (8, .bool wb), (9, .bool wp), (10, vi (y - x)), (11, vi s.1), (12, vi s.2.1)]) (fun s => [rowF b o Value.string N s.2.2]) (fun s => (x ≤ s.1 ∧ s.1 < y) ∧ Sw a z f s.2.2 ∧ But ltS a z x y s.2.2) ?_ ?_
  · by_cases ht : t = 2
    · simp only [ht, decide_true]
      refine GO ?_
      refine st_call (reverse_string b o N c g x y (by omega) (by omega)) (by rfl) (by (focus ((repeat (first | exact Spl.nil | (apply Spl.cons; (focus ((repeat (first | with_reducible exact Tk.here | apply Tk.there)); done))))); done))) (fun v Post hv => ?_)
      obtain ⟨rfl, g1, s1, rfl⟩ := hv
      simp only [List.cons_append, List.nil_append]
      refine GO ?_
      exact ⟨(y - 1 - (p - x), 1, g1), ⟨by simp only; omega, hsw.trans (s1.wide hx1 hy1), hbut.sw s1 hx1 hy1⟩, by (repeat (first | exact Sub.nil | (apply Sub.cons; rfl))), by (first | with_reducible exact Imp.refl | with_reducible exact Imp.left | (focus ((try simp only [List.nil_append]); (repeat (first | exact Imp.nil | (apply Imp.cons; (focus ((repeat (first | with_reducible exact Tk.here | apply Tk.there)); done))))); done)))⟩
    · simp only [ht, decide_false]
      refine GO ?_
      exact ⟨(p, t, g), ⟨hp, hsw, hbut⟩, by (repeat (first | exact Sub.nil | (apply Sub.cons; rfl))), by (first | with_reducible exact Imp.refl | with_reducible exact Imp.left | (focus ((try simp only [List.nil_append]); (repeat (first | exact Imp.nil | (apply Imp.cons; (focus ((repeat (first | with_reducible exact Tk.here | apply Tk.there)); done))))); done)))⟩
  clear hsw hbut hp g t p
  rintro ⟨p, t, g⟩ ⟨hp, hsw, hbut⟩
  simp only at hp hsw hbut
  dsimp only
  refine VC.join (α := Int → ByteArray) (fun s => [(0, slF_string b o N c), (1, vi x), (2, vi y), (3, vi l), (8, .bool wb), (9, .bool wp), (10, vi (y - x)), (11, vi p)]) (fun s => [rowF b o Value.string N s]) (fun s => Sw a z f s ∧ But ltS a z x y s) ?_ ?_
  · cases wb with
    | false =>
      refine GO ?_
      exact ⟨g, ⟨hsw, hbut⟩, by (repeat (first | exact Sub.nil | (apply Sub.cons; rfl))), by (first | with_reducible exact Imp.refl | with_reducible exact Imp.left | (focus ((try simp only [List.nil_append]); (repeat (first | exact Imp.nil | (apply Imp.cons; (focus ((repeat (first | with_reducible exact Tk.here | apply Tk.there)); done))))); done)))⟩
    | true => cases wp with
      | false =>
        refine GO ?_
        exact ⟨g, ⟨hsw, hbut⟩, by (repeat (first | exact Sub.nil | (apply Sub.cons; rfl))), by (first | with_reducible exact Imp.refl | with_reducible exact Imp.left | (focus ((try simp only [List.nil_append]); (repeat (first | exact Imp.nil | (apply Imp.cons; (focus ((repeat (first | with_reducible exact Tk.here | apply Tk.there)); done))))); done)))⟩
      | true =>
        refine GO ?_
        by_cases ht : t = 1
        · simp only [ht, decide_true]
          refine GO ?_
          refine st_call (partial_string b o N c g x y (by omega) (by omega) (hbut.lo (hlo.sw hsw) hx1 hy1)) (by rfl) (by (focus ((repeat (first | exact Spl.nil | (apply Spl.cons; (focus ((repeat (first | with_reducible exact Tk.here | apply Tk.there)); done))))); done))) (fun v Post hv => ?_)
          obtain ⟨t1, g1, s1, r1, rfl, rfl⟩ := hv
          simp only [List.cons_append, List.nil_append]
          refine GO ?_
          cases t1 with
          | true =>
            refine GO ?_
            exact ⟨.inr rfl, _, _, .nil, by (first | with_reducible exact Imp.refl | with_reducible exact Imp.left | (focus ((try simp only [List.nil_append]); (repeat (first | exact Imp.nil | (apply Imp.cons; (focus ((repeat (first | with_reducible exact Tk.here | apply Tk.there)); done))))); done))), rfl, g1, hsw.trans (s1.wide hx1 hy1), (hbut.sw s1 hx1 hy1).done (r1 rfl), rfl⟩
          | false =>
            refine GO ?_
            exact ⟨g1, ⟨hsw.trans (s1.wide hx1 hy1), hbut.sw s1 hx1 hy1⟩, by (repeat (first | exact Sub.nil | (apply Sub.cons; rfl))), by (first | with_reducible exact Imp.refl | with_reducible exact Imp.left | (focus ((try simp only [List.nil_append]); (repeat (first | exact Imp.nil | (apply Imp.cons; (focus ((repeat (first | with_reducible exact Tk.here | apply Tk.there)); done))))); done)))⟩
        · simp only [ht, decide_false]
          refine GO ?_
          exact ⟨g, ⟨hsw, hbut⟩, by (repeat (first | exact Sub.nil | (apply Sub.cons; rfl))), by (first | with_reducible exact Imp.refl | with_reducible exact Imp.left | (focus ((try simp only [List.nil_append]); (repeat (first | exact Imp.nil | (apply Imp.cons; (focus ((repeat (first | with_reducible exact Tk.here | apply Tk.there)); done))))); done)))⟩
  clear hsw hbut t g
  rintro g ⟨hsw, hbut⟩
  have hLo := hbut.lo (hlo.sw hsw) hx1 hy1
  have hInj := hinj.sw hsw h.1 h.2.2
  refine GO ?_
  by_cases hx0 : 0 < x
  · simp only [hx0, decide_true]
    refine GOS ?_
    have hlt : ltS (g (x - 1)) (g p) = true := by
      cases e : ltS (g (x - 1)) (g p) with
      | true => rfl
      | false =>
        have e2 := hLo hx0 p hp.1 hp.2
        have e3 := (ltS_ok).eq _ _ e e2
        have e4 := hInj (x - 1) p (by omega) (by omega) (by omega) (by omega) e3
        omega
    rw [hlt]
    refine GO ?_
    refine st_call (part_string b o N c g x y p (by omega) hp (by omega)) (by rfl) (by (focus ((repeat (first | exact Spl.nil | (apply Spl.cons; (focus ((repeat (first | with_reducible exact Tk.here | apply Tk.there)); done))))); done))) (fun v Post hv => ?_)
    obtain ⟨m, t, g1, hm, s1, r1, rfl, rfl⟩ := hv
    simp only [List.cons_append, List.nil_append]
    have hsw1 := hsw.trans (s1.wide hx1 hy1)
    have hbut1 := hbut.sw s1 hx1 hy1
    have hLo1 := hbut1.lo (hlo.sw hsw1) hx1 hy1
    have hInj1 := hinj.sw hsw1 h.1 h.2.2
    refine GO ?_
    by_cases hlr : m - x < y - m
    · simp only [hlr, decide_true]
      refine GO ?_
      refine st_call (ih (m - x).toNat (by omega) g1 x m l (by omega) (by omega) ⟨hl0, hl1⟩ (fun h0 k k1 k2 => hLo1 h0 k k1 (by omega)) hInj1) (by rfl) (by (focus ((repeat (first | exact Spl.nil | (apply Spl.cons; (focus ((repeat (first | with_reducible exact Tk.here | apply Tk.there)); done))))); done))) (fun v Post hv => ?_)
      obtain ⟨rfl, g2, s2, r2, rfl⟩ := hv
      simp only [List.cons_append, List.nil_append]
      refine GO ?_
      exact ⟨(m + 1, y, l, _, t, g2), ⟨⟨by simp only; omega, by simp only; omega, by simp only; omega, hl0, hl1⟩, hsw1.trans (s2.wide hx1 (by omega)), hbut1.left ltS_ok r1 hm hx1 hy1 s2 r2⟩, by simp only; omega, by (repeat (first | exact Sub.nil | (apply Sub.cons; rfl))), by (first | with_reducible exact Imp.refl | with_reducible exact Imp.left | (focus ((try simp only [List.nil_append]); (repeat (first | exact Imp.nil | (apply Imp.cons; (focus ((repeat (first | with_reducible exact Tk.here | apply Tk.there)); done))))); done)))⟩
    · simp only [hlr, decide_false]
      refine GO ?_
      refine st_call (ih (y - (m + 1)).toNat (by omega) g1 (m + 1) y l (by omega) (by omega) ⟨hl0, hl1⟩ (fun h0 k k1 k2 => by rw [show m + 1 - 1 = m by omega]; exact r1.2 k (by omega) k2) hInj1) (by rfl) (by (focus ((repeat (first | exact Spl.nil | (apply Spl.cons; (focus ((repeat (first | with_reducible exact Tk.here | apply Tk.there)); done))))); done))) (fun v Post hv => ?_)
      obtain ⟨rfl, g2, s2, r2, rfl⟩ := hv
      simp only [List.cons_append, List.nil_append]
      refine GO ?_
      exact ⟨(x, m, l, _, t, g2), ⟨⟨hx1, by simp only; omega, by simp only; omega, hl0, hl1⟩, hsw1.trans (s2.wide (by omega) hy1), hbut1.right ltS_ok r1 hm hx1 hy1 s2 r2⟩, by simp only; omega, by (repeat (first | exact Sub.nil | (apply Sub.cons; rfl))), by (first | with_reducible exact Imp.refl | with_reducible exact Imp.left | (focus ((try simp only [List.nil_append]); (repeat (first | exact Imp.nil | (apply Imp.cons; (focus ((repeat (first | with_reducible exact Tk.here | apply Tk.there)); done))))); done)))⟩
  · simp only [hx0, decide_false]
    refine GO ?_
    refine st_call (part_string b o N c g x y p (by omega) hp (by omega)) (by rfl) (by (focus ((repeat (first | exact Spl.nil | (apply Spl.cons; (focus ((repeat (first | with_reducible exact Tk.here | apply Tk.there)); done))))); done))) (fun v Post hv => ?_)
    obtain ⟨m, t, g1, hm, s1, r1, rfl, rfl⟩ := hv
    simp only [List.cons_append, List.nil_append]
    have hsw1 := hsw.trans (s1.wide hx1 hy1)
    have hbut1 := hbut.sw s1 hx1 hy1
    have hLo1 := hbut1.lo (hlo.sw hsw1) hx1 hy1
    have hInj1 := hinj.sw hsw1 h.1 h.2.2
    refine GO ?_
    by_cases hlr : m - x < y - m
    · simp only [hlr, decide_true]
      refine GO ?_
      refine st_call (ih (m - x).toNat (by omega) g1 x m l (by omega) (by omega) ⟨hl0, hl1⟩ (fun h0 k k1 k2 => hLo1 h0 k k1 (by omega)) hInj1) (by rfl) (by (focus ((repeat (first | exact Spl.nil | (apply Spl.cons; (focus ((repeat (first | with_reducible exact Tk.here | apply Tk.there)); done))))); done))) (fun v Post hv => ?_)
      obtain ⟨rfl, g2, s2, r2, rfl⟩ := hv
      simp only [List.cons_append, List.nil_append]
      refine GO ?_
      exact ⟨(m + 1, y, l, _, t, g2), ⟨⟨by simp only; omega, by simp only; omega, by simp only; omega, hl0, hl1⟩, hsw1.trans (s2.wide hx1 (by omega)), hbut1.left ltS_ok r1 hm hx1 hy1 s2 r2⟩, by simp only; omega, by (repeat (first | exact Sub.nil | (apply Sub.cons; rfl))), by (first | with_reducible exact Imp.refl | with_reducible exact Imp.left | (focus ((try simp only [List.nil_append]); (repeat (first | exact Imp.nil | (apply Imp.cons; (focus ((repeat (first | with_reducible exact Tk.here | apply Tk.there)); done))))); done)))⟩
    · simp only [hlr, decide_false]
      refine GO ?_
      refine st_call (ih (y - (m + 1)).toNat (by omega) g1 (m + 1) y l (by omega) (by omega) ⟨hl0, hl1⟩ (fun h0 k k1 k2 => by rw [show m + 1 - 1 = m by omega]; exact r1.2 k (by omega) k2) hInj1) (by rfl) (by (focus ((repeat (first | exact Spl.nil | (apply Spl.cons; (focus ((repeat (first | with_reducible exact Tk.here | apply Tk.there)); done))))); done))) (fun v Post hv => ?_)
      obtain ⟨rfl, g2, s2, r2, rfl⟩ := hv
      simp only [List.cons_append, List.nil_append]
      refine GO ?_
      exact ⟨(x, m, l, _, t, g2), ⟨⟨hx1, by simp only; omega, by simp only; omega, hl0, hl1⟩, hsw1.trans (s2.wide (by omega) hy1), hbut1.right ltS_ok r1 hm hx1 hy1 s2 r2⟩, by simp only; omega, by (repeat (first | exact Sub.nil | (apply Sub.cons; rfl))), by (first | with_reducible exact Imp.refl | with_reducible exact Imp.left | (focus ((try simp only [List.nil_append]); (repeat (first | exact Imp.nil | (apply Imp.cons; (focus ((repeat (first | with_reducible exact Tk.here | apply Tk.there)); done))))); done)))⟩
end Go.Proofs.Ytffmipimgodfdaa
namespace Go.Proofs.Ytffmipimgodfdaa
open Go Go.V
set_option maxHeartbeats 1600000
set_option maxRecDepth 100000
set_option linter.unusedSimpArgs false
set_option linter.unusedVariables false
theorem insert0_string (sa : Option Addr) (c : Nat) : Fun Try.prog 71 [.slice sa 0 c, vi 0, vi 0] [] (fun v Post => v = .tuple #[] ∧ Post = []) := by
  refine Fun.intro low71 (by simp [F71]) ?_
  refine GO ?_
  refine VC.loop (α := Unit) (Γf := fun _ => [(2, vi 0), (6, vi 1)]) (Hf := fun _ => []) (I := fun _ => True) (μ := fun _ => 0) () trivial (by (repeat (first | exact Sub.nil | (apply Sub.cons; rfl)))) (by (first | with_reducible exact Imp.refl | with_reducible exact Imp.left | (focus ((try simp only [List.nil_append]); (repeat (first | exact Imp.nil | (apply Imp.cons; (focus ((repeat (first | with_reducible exact Tk.here | apply Tk.there)); done))))); done)))) ?_
  rintro _ _
  refine GO ?_
  exact ⟨.inl rfl, _, _, .nil, by (first | with_reducible exact Imp.refl | with_reducible exact Imp.left | (focus ((try simp only [List.nil_append]); (repeat (first | exact Imp.nil | (apply Imp.cons; (focus ((repeat (first | with_reducible exact Tk.here | apply Tk.there)); done))))); done))), rfl, rfl⟩

theorem pdq0_string (sa : Option Addr) (c : Nat) (l : Int) : Fun Try.prog 69 [.slice sa 0 c, vi 0, vi 0, vi l] [] (fun v Post => v = .tuple #[] ∧ Post = []) := by
  refine Fun.intro low69 (by simp [F69]) ?_
  refine GO ?_
  refine VC.loop (α := Unit) (Γf := fun _ => [(0, .slice sa 0 c), (1, vi 0), (2, vi 0)]) (Hf := fun _ => []) (I := fun _ => True) (μ := fun _ => 0) () trivial (by (repeat (first | exact Sub.nil | (apply Sub.cons; rfl)))) (by (first | with_reducible exact Imp.refl | with_reducible exact Imp.left | (focus ((try simp only [List.nil_append]); (repeat (first | exact Imp.nil | (apply Imp.cons; (focus ((repeat (first | with_reducible exact Tk.here | apply Tk.there)); done))))); done)))) ?_
  rintro _ _
  refine GO ?_
  refine st_call (insert0_string sa c) (by rfl) (R := []) (by simp [V.Spl]) (fun v Post hv => ?_)
  obtain ⟨rfl, rfl⟩ := hv
  refine GO ?_
  exact ⟨.inr rfl, _, _, .nil, by (first | with_reducible exact Imp.refl | with_reducible exact Imp.left | (focus ((try simp only [List.nil_append]); (repeat (first | exact Imp.nil | (apply Imp.cons; (focus ((repeat (first | with_reducible exact Tk.here | apply Tk.there)); done))))); done))), rfl, rfl⟩

theorem sort_string (sv : Value) (xs : List ByteArray) (sp : List Value) (h : IsSl 1 sv xs.length (xs.map Value.string) sp) (hn : xs.length ≤ 1073741823) (hd : xs.Nodup) :
    Fun Try.prog 64 [sv] [slA sv (xs.map Value.string) sp] (fun v Post => v = .tuple #[] ∧ ∃ ys, SortedOf ltS xs ys ∧ Post = [slA sv (ys.map Value.string) sp]) := by
  refine Fun.intro low64 (by simp [F64]) ?_
  have hw : IntKind.u64.wrap (xs.length : Int) = xs.length := by simp only [IntKind.wrap, IntKind.bits, IntKind.signed]; simp; omega
  by_cases h0 : xs.length = 0
  · obtain rfl : xs = [] := List.eq_nil_of_length_eq_zero h0
    obtain ⟨a, c, rfl⟩ := h.form
    simp only [List.length_nil]
    refine GO ?_
    refine st_call (bitlen 0 (by omega)) (by rfl) (R := [slA (.slice a 0 c) (List.map Value.string []) sp]) (by simp [V.Spl]) (fun v Post hv => ?_)
    obtain ⟨⟨n, h1, h2, h3, rfl⟩, rfl⟩ := hv
    simp only [List.nil_append]
    refine GO ?_
    refine st_call (pdq0_string a c n) (by rfl) (R := [slA (.slice a 0 c) (List.map Value.string []) sp]) (by simp [V.Spl]) (fun v Post hv => ?_)
    obtain ⟨rfl, rfl⟩ := hv
    simp only [List.nil_append]
    refine GO ?_
    exact ⟨.inl rfl, _, _, .nil, by (first | with_reducible exact Imp.refl | with_reducible exact Imp.left | (focus ((try simp only [List.nil_append]); (repeat (first | exact Imp.nil | (apply Imp.cons; (focus ((repeat (first | with_reducible exact Tk.here | apply Tk.there)); done))))); done))), rfl, [], ⟨.refl _, .nil⟩, rfl⟩
  · obtain ⟨b, o, c, rfl, hc, hl⟩ := h.some (by omega)
    refine GO ?_
    rw [hw]
    refine st_call (bitlen xs.length (by omega)) (by rfl) (R := [slA (.slice (some ⟨b, o, none⟩) xs.length c) (xs.map Value.string) sp]) (by simp [V.Spl]) (fun v Post hv => ?_)
    obtain ⟨⟨n, h1, h2, h3, rfl⟩, rfl⟩ := hv
    simp only [List.nil_append]
    refine GO ?_
    refine VO.split .here (B := rowF b o Value.string xs.length (toF ⟨#[]⟩ xs)) (C := cellsAt b (o + xs.length) sp) ?_ ?_
    · rw [rowF_of]
      simp only [slA, cellsAt_append, List.length_map]
      exact .refl _
    refine st_call (pdq_string b o xs.length c hn xs.length (toF ⟨#[]⟩ xs) 0 xs.length n (by omega) (by omega) (by omega) (fun h => by omega) (Inj.of_nodup hd)) (by rfl) (by (focus ((repeat (first | exact Spl.nil | (apply Spl.cons; (focus ((repeat (first | with_reducible exact Tk.here | apply Tk.there)); done))))); done))) (fun v Post hv => ?_)
    obtain ⟨rfl, g, s1, r1, rfl⟩ := hv
    simp only [List.cons_append, List.nil_append]
    refine GO ?_
    refine endQ_mk (Post := [slA (.slice (some ⟨b, o, none⟩) xs.length c) ((listOf xs.length g).map Value.string) sp]) (.inl rfl) .nil ⟨rfl, listOf xs.length g, ⟨?_, r1.list⟩, rfl⟩ ?_
    · have := s1.perm (n := xs.length) (by omega) (by omega)
      rwa [listOf_toF] at this
    · rw [rowF_list]
      refine Imp.perm ?_
      simp only [slA, cellsAt_append, List.length_map, listOf_length, List.flatten_cons, List.flatten_nil, List.append_nil]
      exact .refl _
end Go.Proofs.Ytffmipimgodfdaa
namespace Go.Proofs.Ytffmipimgodfdaa
open Go Go.V
set_option maxRecDepth 100000
/- maps.Keys[map[string]int,string,int] -/
def kp57 : List (Nat × List Nat) := [(0, [1]), (1, [2])]
def od57 : List (Nat × List (List Nat)) := []
def F57 : FIR := ⟨4, [.tmp 2],
 (.seq (.reg [⟨(some 1), none, .box 80 (.tmp 0)⟩,
 ⟨(some 2), none, .mv (.const Value.nilFunc)⟩] [1])
 (.seq (.reg [⟨(some 3), none, .clos (.func 65) [] [(.tmp 1)]⟩,
 ⟨(some 2), none, .mv (.tmp 3)⟩] [2])
 .ret))⟩
theorem low57 : lowF Try.prog (assoc kp57) (assoc od57) 57 = some F57 := by kernel_rfl

/- maps.Keys[map[string]int,string,int]$1 -/
def kp65 : List (Nat × List Nat) := [(0, [0, 5]), (1, [0, 5, 7]), (2, [0, 3, 5]), (3, [0, 5, 13])]
def od65 : List (Nat × List (List Nat)) := []
def F65 : FIR := ⟨14, [],
 (.seq (.reg [⟨(some 4), none, .load1 (.tmp 1)⟩,
 ⟨(some 5), none, .rangeM (.tmp 4)⟩] [0, 5])
 (.block 0
 (.loop
 (.seq (.reg [⟨(some 6), none, .next (.tmp 5) false⟩,
 ⟨(some 7), none, .ext (.tmp 6) 0⟩] [0, 5, 7])
 (.seq (.cond (.tmp 7)
 .skip
 (.exit 0))
 (.block 1
 (.seq (.reg [⟨(some 8), none, .entry (.tmp 5)⟩,
 ⟨(some 9), none, .ext (.tmp 8) 0⟩,
 ⟨(some 3), none, .mv (.tmp 9)⟩] [0, 3, 5])
 (.seq (.reg [⟨(some 10), none, .mv (.tmp 0)⟩,
 ⟨(some 11), none, .mv (.tmp 3)⟩,
 ⟨(some 12), none, .callv (.tmp 10) [(.tmp 11)]⟩,
 ⟨(some 13), none, .un .not (.tmp 12)⟩] [0, 5, 13])
 (.cond (.tmp 13)
 .ret
 .skip)))))))))⟩
theorem low65 : lowF Try.prog (assoc kp65) (assoc od65) 65 = some F65 := by kernel_rfl

/- slices.AppendSeq[[]string,string] -/
def kp68 : List (Nat × List Nat) := [(0, [1, 2]), (1, [2, 6]), (2, [2, 5]), (3, []), (4, [4])]
def od68 : List (Nat × List (List Nat)) := []
def F68 : FIR := ⟨13, [.tmp 4],
 (.seq (.reg [⟨(some 2), none, .box 88 (.tmp 0)⟩,
 ⟨(some 4), none, .mv (.const (Value.slice none 0 0))⟩] [1, 2])
 (.seq (.seq (.reg [⟨(some 6), none, .mv (.tmp 1)⟩] [2, 6])
 (.block 0
 (.rangef (.tmp 6) [7]
 (.reg [⟨(some 5), none, .mv (.tmp 7)⟩] [2, 5])
 (.block 1
 (.reg [⟨(some 8), none, .load1 (.tmp 2)⟩,
 ⟨(some 9), none, .mv (.tmp 5)⟩,
 ⟨(some 10), none, .bslice 9 1 [(Value.string ⟨#[]⟩)] [(0, 1, (.tmp 9))]⟩,
 ⟨(some 11), none, .append 9 1 16 [(Value.string ⟨#[]⟩)] (.tmp 8) (.tmp 10)⟩,
 ⟨none, none, .store 1 (.tmp 2) (.tmp 11)⟩] [])))))
 (.seq (.reg [⟨(some 12), none, .load1 (.tmp 2)⟩,
 ⟨(some 4), none, .mv (.tmp 12)⟩] [4])
 .ret)))⟩
theorem low68 : lowF Try.prog (assoc kp68) (assoc od68) 68 = some F68 := by kernel_rfl

/- slices.Collect[string] -/
def kp63 : List (Nat × List Nat) := [(0, [0]), (1, [2])]
def od63 : List (Nat × List (List Nat)) := []
def F63 : FIR := ⟨5, [.tmp 2],
 (.seq (.reg [⟨(some 2), none, .mv (.const (Value.slice none 0 0))⟩] [0])
 (.seq (.reg [⟨(some 3), none, .mv (.tmp 0)⟩,
 ⟨(some 4), none, .call 68 [(.const (Value.slice none 0 0)), (.tmp 3)]⟩,
 ⟨(some 2), none, .mv (.tmp 4)⟩] [2])
 .ret))⟩
theorem low63 : lowF Try.prog (assoc kp63) (assoc od63) 63 = some F63 := by kernel_rfl

/- slices.Sorted[string] -/
def kp56 : List (Nat × List Nat) := [(0, [0]), (1, [3]), (2, [3]), (3, [2])]
def od56 : List (Nat × List (List Nat)) := []
def F56 : FIR := ⟨9, [.tmp 2],
 (.seq (.reg [⟨(some 2), none, .mv (.const (Value.slice none 0 0))⟩] [0])
 (.seq (.reg [⟨(some 4), none, .mv (.tmp 0)⟩,
 ⟨(some 5), none, .call 63 [(.tmp 4)]⟩,
 ⟨(some 3), none, .mv (.tmp 5)⟩] [3])
 (.seq (.reg [⟨(some 6), none, .mv (.tmp 3)⟩,
 ⟨(some 7), none, .call 64 [(.tmp 6)]⟩] [3])
 (.seq (.reg [⟨(some 8), none, .mv (.tmp 3)⟩,
 ⟨(some 2), none, .mv (.tmp 8)⟩] [2])
 .ret))))⟩
theorem low56 : lowF Try.prog (assoc kp56) (assoc od56) 56 = some F56 := by kernel_rfl

end Go.Proofs.Ytffmipimgodfdaa

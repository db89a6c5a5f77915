/-
  Checks of a method.
-/
import Derived.Test.YtmnmandpdadedaaGreatDoorT5
import Derived.Test.YtmnmandpdadedaaGreatDoorV5
import Derived.Test.YtmnmandpdadedaaGreatDoorT1
set_option linter.unusedSimpArgs false
set_option linter.unusedVariables false
namespace Go.Proofs.YtmnmandpdadedaaGreatDoor
open Go Go.V
set_option maxHeartbeats 3200000
set_option maxRecDepth 100000
structure Md where
  sel : ByteArray
  args : List ByteArray
  temps : List ByteArray
  prim : Int
  body : List Nd
structure MdRd (A : List kE) (x : Md) (vs : List Value) : Prop where
  form : ∃ aa ac ta tc a c bk o us, vs = [.string x.sel, .slice aa x.args.length ac, .slice ta x.temps.length tc, vi x.prim, .slice a x.body.length c] /\ RdT A (.slice aa x.args.length ac) x.args /\ RdT A (.slice ta x.temps.length tc) x.temps /\ za A x.body a bk o us
  sel : x.sel.size <= 140737488355328
  prim : -9223372036854775808 <= x.prim /\ x.prim <= 9223372036854775807
def methodR (x : Md) : Rs := kK (decide (kR x.sel = x.args.length /\ 0 <= x.prim /\ x.prim <= 255)) (wG 15 x.args (wG 63 x.temps (jF (wL x.body (x.body.map kO)))))
def checkM (x : Md) : Nat := endE (fun d => decide (40 < d)) (methodR x)
theorem check1_spec (A : List kE) (x : Md) (vs : List Value) (h : MdRd A x vs) (q lb : Nat) :
    wE Tryz.prog 46 [kN lb, kN q] [lkA lb false false, A, kA q 0 vs] (fun v Post => ∃ m d Post', Post = lkA lb m d :: Post' /\ (∃ dd, methodR x = some (dd, m) /\ d = decide (40 < dd)) /\ Post' = [A])
      (fun ch Post => ch = jR /\ ∃ m d Post', Post = lkA lb m d :: Post' /\ methodR x = none /\ Post' = [A]) := by
  obtain ⟨⟨aa, ac, ta, tc, a, c, bk, o, us, rfl, hav, htv, hkids⟩, hsel, hprim⟩ := h;obtain ⟨sel, args, temps, prim, body⟩ := x;simp only at hav htv hkids hsel hprim |-;obtain ⟨RR, hRR⟩ : ∃ RR, RR = methodR ⟨sel, args, temps, prim, body⟩ := ⟨_, rfl⟩;rw [<- hRR];simp only [methodR] at hRR;refine wE.intro low46 (by simp [n46]) ?_;refine j7 ?_;by_cases h1 : kR sel = (args.length : Int);rotate_left
  · have hnone : RR = none := by simp [hRR, kK, h1]
    have hb1 : decide (kR sel = (args.length : Int)) = false := Zf h1;refine VC.seq (VC.drawZ (fun ch H' => ch = jR /\ Imp H' [lkA lb false false, A, kA q 0 [.string sel, .slice aa args.length ac, .slice ta temps.length tc, vi prim, .slice a body.length c]]) (fun H' => H' = [lkA lb false false, A, kA q 0 [.string sel, .slice aa args.length ac, .slice ta temps.length tc, vi prim, .slice a body.length c]]) rfl ?_ (fun ch H' hp => ?_))
    · skip
      intro rs hrs;rcases List.mem_cons.1 hrs with rfl | hrs
      · skip
        refine ⟨rfl, .pointer (some ⟨q, 0, none⟩), True, fun Γ H hΓ hH => ?_, ?_⟩
        · subst hH;exact kQ (hΓ 1 Zd _ rfl) rfl Zaf
        refine ⟨rfl, .string sel, True, fun Γ H hΓ hH => ?_, ?_⟩
        · subst hH;exact kI (hΓ 3 Zd _ rfl) Zh Zaf
        refine ⟨rfl, vi (kR sel), True, fun Γ H hΓ hH => ?_, ?_⟩
        · subst hH;exact kH (jv sel hsel) Zav Zaf
        refine ⟨rfl, .pointer (some ⟨q, 1, none⟩), True, fun Γ H hΓ hH => ?_, ?_⟩
        · subst hH;exact kQ (hΓ 1 Zd _ rfl) rfl Zaf
        refine ⟨rfl, .slice aa args.length ac, True, fun Γ H hΓ hH => ?_, ?_⟩
        · subst hH;exact kI (hΓ 6 Zd _ rfl) Zh Zaf
        refine ⟨rfl, vi args.length, True, fun Γ H hΓ hH => ?_, ?_⟩
        · subst hH;exact st_lenI (hΓ 7 Zd _ rfl) (VO.nil ⟨rfl, rfl, trivial⟩)
        refine ⟨rfl, .bool false, True, fun Γ H hΓ hH => ?_, ?_⟩
        · subst hH;exact st_eqI (hΓ 5 Zd _ rfl) (hΓ 8 Zd _ rfl) (by simp only [hb1]) (VO.nil ⟨rfl, rfl, trivial⟩)
        refine ⟨rfl, .bool false, True, fun Γ H hΓ hH => ?_, ?_⟩
        · subst hH;exact ka (hΓ 9 Zd _ rfl) Zaf
        refine ⟨rfl, undef, True, fun Γ H hΓ hH => ?_, ?_⟩
        · subst hH;exact wk (hΓ 10 Zd _ rfl) rfl Zaf
        refine ⟨rfl, undef, True, fun Γ H hΓ hH => ?_, ?_⟩
        · subst hH;exact wk (hΓ 10 Zd _ rfl) rfl Zaf
        refine ⟨rfl, undef, True, fun Γ H hΓ hH => ?_, ?_⟩
        · subst hH;exact wk (hΓ 10 Zd _ rfl) rfl Zaf
        refine ⟨rfl, .bool false, True, fun Γ H hΓ hH => ?_, ?_⟩
        · subst hH;exact w7 (hΓ 10 Zd _ rfl) rfl Zaf
        refine ⟨rfl, .bool false, True, fun Γ H hΓ hH => ?_, ?_⟩
        · subst hH;exact ka (hΓ 14 Zd _ rfl) Zaf
        refine ⟨rfl, undef, True, fun Γ H hΓ hH => ?_, ?_⟩
        · subst hH;exact wk (hΓ 15 Zd _ rfl) rfl Zaf
        refine ⟨rfl, undef, True, fun Γ H hΓ hH => ?_, ?_⟩
        · subst hH;exact wk (hΓ 15 Zd _ rfl) rfl Zaf
        refine ⟨rfl, undef, True, fun Γ H hΓ hH => ?_, ?_⟩
        · subst hH;exact wk (hΓ 15 Zd _ rfl) rfl Zaf
        refine ⟨rfl, .bool false, True, fun Γ H hΓ hH => ?_, ?_⟩
        · subst hH;exact w7 (hΓ 15 Zd _ rfl) rfl Zaf
        refine ⟨rfl, .tuple #[], False, fun Γ H hΓ hH => ?_, ?_⟩
        · subst hH;refine kG (kJ false) Zaw Spl.nil Zai (fun ch Post hz => ?_);obtain ⟨_, rfl, rfl⟩ := hz;exact ⟨rfl, by simp only [List.nil_append];exact Imp.refl _⟩
        exact fun hh => by simp at hh
      rcases List.mem_cons.1 hrs with rfl | hrs
      · skip
        refine ⟨rfl, .pointer (some ⟨q, 0, none⟩), True, fun Γ H hΓ hH => ?_, ?_⟩
        · subst hH;exact kQ (hΓ 1 Zd _ rfl) rfl Zaf
        refine ⟨rfl, .string sel, True, fun Γ H hΓ hH => ?_, ?_⟩
        · subst hH;exact kI (hΓ 3 Zd _ rfl) Zh Zaf
        refine ⟨rfl, .pointer (some ⟨q, 1, none⟩), True, fun Γ H hΓ hH => ?_, ?_⟩
        · subst hH;exact kQ (hΓ 1 Zd _ rfl) rfl Zaf
        refine ⟨rfl, .slice aa args.length ac, True, fun Γ H hΓ hH => ?_, ?_⟩
        · subst hH;exact kI (hΓ 6 Zd _ rfl) Zh Zaf
        refine ⟨rfl, vi (kR sel), True, fun Γ H hΓ hH => ?_, ?_⟩
        · subst hH;exact kH (jv sel hsel) Zav Zaf
        refine ⟨rfl, vi args.length, True, fun Γ H hΓ hH => ?_, ?_⟩
        · subst hH;exact st_lenI (hΓ 7 Zd _ rfl) (VO.nil ⟨rfl, rfl, trivial⟩)
        refine ⟨rfl, .bool false, True, fun Γ H hΓ hH => ?_, ?_⟩
        · subst hH;exact st_eqI (hΓ 5 Zd _ rfl) (hΓ 8 Zd _ rfl) (by simp only [hb1]) (VO.nil ⟨rfl, rfl, trivial⟩)
        refine ⟨rfl, .bool false, True, fun Γ H hΓ hH => ?_, ?_⟩
        · subst hH;exact ka (hΓ 9 Zd _ rfl) Zaf
        refine ⟨rfl, undef, True, fun Γ H hΓ hH => ?_, ?_⟩
        · subst hH;exact wk (hΓ 10 Zd _ rfl) rfl Zaf
        refine ⟨rfl, undef, True, fun Γ H hΓ hH => ?_, ?_⟩
        · subst hH;exact wk (hΓ 10 Zd _ rfl) rfl Zaf
        refine ⟨rfl, undef, True, fun Γ H hΓ hH => ?_, ?_⟩
        · subst hH;exact wk (hΓ 10 Zd _ rfl) rfl Zaf
        refine ⟨rfl, .bool false, True, fun Γ H hΓ hH => ?_, ?_⟩
        · subst hH;exact w7 (hΓ 10 Zd _ rfl) rfl Zaf
        refine ⟨rfl, .bool false, True, fun Γ H hΓ hH => ?_, ?_⟩
        · subst hH;exact ka (hΓ 14 Zd _ rfl) Zaf
        refine ⟨rfl, undef, True, fun Γ H hΓ hH => ?_, ?_⟩
        · subst hH;exact wk (hΓ 15 Zd _ rfl) rfl Zaf
        refine ⟨rfl, undef, True, fun Γ H hΓ hH => ?_, ?_⟩
        · subst hH;exact wk (hΓ 15 Zd _ rfl) rfl Zaf
        refine ⟨rfl, undef, True, fun Γ H hΓ hH => ?_, ?_⟩
        · subst hH;exact wk (hΓ 15 Zd _ rfl) rfl Zaf
        refine ⟨rfl, .bool false, True, fun Γ H hΓ hH => ?_, ?_⟩
        · subst hH;exact w7 (hΓ 15 Zd _ rfl) rfl Zaf
        refine ⟨rfl, .tuple #[], False, fun Γ H hΓ hH => ?_, ?_⟩
        · subst hH;refine kG (kJ false) Zaw Spl.nil Zai (fun ch Post hz => ?_);obtain ⟨_, rfl, rfl⟩ := hz;exact ⟨rfl, by simp only [List.nil_append];exact Imp.refl _⟩
        exact fun hh => by simp at hh
      · cases hrs
    · obtain ⟨rfl, hi⟩ := hp;exact ⟨[lkA lb false false, A], Imp.cut hi ZI, rfl, false, false, [A], rfl, hnone, rfl⟩
  have hb1 : decide (kR sel = (args.length : Int)) = true := Zt h1;by_cases h2 : 0 <= prim;rotate_left
  · have hnone : RR = none := by simp [hRR, kK, h2]
    have hb2 : decide (0 <= prim) = false := Zf h2;refine VC.seq (VC.drawZ (fun ch H' => ch = jR /\ Imp H' [lkA lb false false, A, kA q 0 [.string sel, .slice aa args.length ac, .slice ta temps.length tc, vi prim, .slice a body.length c]]) (fun H' => H' = [lkA lb false false, A, kA q 0 [.string sel, .slice aa args.length ac, .slice ta temps.length tc, vi prim, .slice a body.length c]]) rfl ?_ (fun ch H' hp => ?_))
    · skip
      intro rs hrs;rcases List.mem_cons.1 hrs with rfl | hrs
      · skip
        refine ⟨rfl, .pointer (some ⟨q, 0, none⟩), True, fun Γ H hΓ hH => ?_, ?_⟩
        · subst hH;exact kQ (hΓ 1 Zd _ rfl) rfl Zaf
        refine ⟨rfl, .string sel, True, fun Γ H hΓ hH => ?_, ?_⟩
        · subst hH;exact kI (hΓ 3 Zd _ rfl) Zh Zaf
        refine ⟨rfl, vi (kR sel), True, fun Γ H hΓ hH => ?_, ?_⟩
        · subst hH;exact kH (jv sel hsel) Zav Zaf
        refine ⟨rfl, .pointer (some ⟨q, 1, none⟩), True, fun Γ H hΓ hH => ?_, ?_⟩
        · subst hH;exact kQ (hΓ 1 Zd _ rfl) rfl Zaf
        refine ⟨rfl, .slice aa args.length ac, True, fun Γ H hΓ hH => ?_, ?_⟩
        · subst hH;exact kI (hΓ 6 Zd _ rfl) Zh Zaf
        refine ⟨rfl, vi args.length, True, fun Γ H hΓ hH => ?_, ?_⟩
        · subst hH;exact st_lenI (hΓ 7 Zd _ rfl) (VO.nil ⟨rfl, rfl, trivial⟩)
        refine ⟨rfl, .bool true, True, fun Γ H hΓ hH => ?_, ?_⟩
        · subst hH;exact st_eqI (hΓ 5 Zd _ rfl) (hΓ 8 Zd _ rfl) (by simp only [hb1]) (VO.nil ⟨rfl, rfl, trivial⟩)
        refine ⟨rfl, .bool true, True, fun Γ H hΓ hH => ?_, ?_⟩
        · subst hH;exact ka (hΓ 9 Zd _ rfl) Zaf
        refine ⟨rfl, .pointer (some ⟨q, 3, none⟩), True, fun Γ H hΓ hH => ?_, ?_⟩
        · subst hH;exact jS (hΓ 10 Zd _ rfl) (kQ (hΓ 1 Zd _ rfl) rfl Zaf)
        refine ⟨rfl, vi prim, True, fun Γ H hΓ hH => ?_, ?_⟩
        · subst hH;exact jS (hΓ 10 Zd _ rfl) (kI (hΓ 11 Zd _ rfl) Zh Zaf)
        refine ⟨rfl, .bool false, True, fun Γ H hΓ hH => ?_, ?_⟩
        · subst hH;exact jS (hΓ 10 Zd _ rfl) (st_leI rfl (hΓ 12 Zd _ rfl) (by simp only [hb2]) (VO.nil ⟨rfl, rfl, trivial⟩))
        refine ⟨rfl, .bool false, True, fun Γ H hΓ hH => ?_, ?_⟩
        · subst hH;exact wM (hΓ 10 Zd _ rfl) (hΓ 13 Zd _ rfl) Zaf
        refine ⟨rfl, .bool false, True, fun Γ H hΓ hH => ?_, ?_⟩
        · subst hH;exact ka (hΓ 14 Zd _ rfl) Zaf
        refine ⟨rfl, undef, True, fun Γ H hΓ hH => ?_, ?_⟩
        · subst hH;exact wk (hΓ 15 Zd _ rfl) rfl Zaf
        refine ⟨rfl, undef, True, fun Γ H hΓ hH => ?_, ?_⟩
        · subst hH;exact wk (hΓ 15 Zd _ rfl) rfl Zaf
        refine ⟨rfl, undef, True, fun Γ H hΓ hH => ?_, ?_⟩
        · subst hH;exact wk (hΓ 15 Zd _ rfl) rfl Zaf
        refine ⟨rfl, .bool false, True, fun Γ H hΓ hH => ?_, ?_⟩
        · subst hH;exact w7 (hΓ 15 Zd _ rfl) rfl Zaf
        refine ⟨rfl, .tuple #[], False, fun Γ H hΓ hH => ?_, ?_⟩
        · subst hH;refine kG (kJ false) Zaw Spl.nil Zai (fun ch Post hz => ?_);obtain ⟨_, rfl, rfl⟩ := hz;exact ⟨rfl, by simp only [List.nil_append];exact Imp.refl _⟩
        exact fun hh => by simp at hh
      rcases List.mem_cons.1 hrs with rfl | hrs
      · skip
        refine ⟨rfl, .pointer (some ⟨q, 0, none⟩), True, fun Γ H hΓ hH => ?_, ?_⟩
        · subst hH;exact kQ (hΓ 1 Zd _ rfl) rfl Zaf
        refine ⟨rfl, .string sel, True, fun Γ H hΓ hH => ?_, ?_⟩
        · subst hH;exact kI (hΓ 3 Zd _ rfl) Zh Zaf
        refine ⟨rfl, .pointer (some ⟨q, 1, none⟩), True, fun Γ H hΓ hH => ?_, ?_⟩
        · subst hH;exact kQ (hΓ 1 Zd _ rfl) rfl Zaf
        refine ⟨rfl, .slice aa args.length ac, True, fun Γ H hΓ hH => ?_, ?_⟩
        · subst hH;exact kI (hΓ 6 Zd _ rfl) Zh Zaf
        refine ⟨rfl, vi (kR sel), True, fun Γ H hΓ hH => ?_, ?_⟩
        · subst hH;exact kH (jv sel hsel) Zav Zaf
        refine ⟨rfl, vi args.length, True, fun Γ H hΓ hH => ?_, ?_⟩
        · subst hH;exact st_lenI (hΓ 7 Zd _ rfl) (VO.nil ⟨rfl, rfl, trivial⟩)
        refine ⟨rfl, .bool true, True, fun Γ H hΓ hH => ?_, ?_⟩
        · subst hH;exact st_eqI (hΓ 5 Zd _ rfl) (hΓ 8 Zd _ rfl) (by simp only [hb1]) (VO.nil ⟨rfl, rfl, trivial⟩)
        refine ⟨rfl, .bool true, True, fun Γ H hΓ hH => ?_, ?_⟩
        · subst hH;exact ka (hΓ 9 Zd _ rfl) Zaf
        refine ⟨rfl, .pointer (some ⟨q, 3, none⟩), True, fun Γ H hΓ hH => ?_, ?_⟩
        · subst hH;exact jS (hΓ 10 Zd _ rfl) (kQ (hΓ 1 Zd _ rfl) rfl Zaf)
        refine ⟨rfl, vi prim, True, fun Γ H hΓ hH => ?_, ?_⟩
        · subst hH;exact jS (hΓ 10 Zd _ rfl) (kI (hΓ 11 Zd _ rfl) Zh Zaf)
        refine ⟨rfl, .bool false, True, fun Γ H hΓ hH => ?_, ?_⟩
        · subst hH;exact jS (hΓ 10 Zd _ rfl) (st_leI rfl (hΓ 12 Zd _ rfl) (by simp only [hb2]) (VO.nil ⟨rfl, rfl, trivial⟩))
        refine ⟨rfl, .bool false, True, fun Γ H hΓ hH => ?_, ?_⟩
        · subst hH;exact wM (hΓ 10 Zd _ rfl) (hΓ 13 Zd _ rfl) Zaf
        refine ⟨rfl, .bool false, True, fun Γ H hΓ hH => ?_, ?_⟩
        · subst hH;exact ka (hΓ 14 Zd _ rfl) Zaf
        refine ⟨rfl, undef, True, fun Γ H hΓ hH => ?_, ?_⟩
        · subst hH;exact wk (hΓ 15 Zd _ rfl) rfl Zaf
        refine ⟨rfl, undef, True, fun Γ H hΓ hH => ?_, ?_⟩
        · subst hH;exact wk (hΓ 15 Zd _ rfl) rfl Zaf
        refine ⟨rfl, undef, True, fun Γ H hΓ hH => ?_, ?_⟩
        · subst hH;exact wk (hΓ 15 Zd _ rfl) rfl Zaf
        refine ⟨rfl, .bool false, True, fun Γ H hΓ hH => ?_, ?_⟩
        · subst hH;exact w7 (hΓ 15 Zd _ rfl) rfl Zaf
        refine ⟨rfl, .tuple #[], False, fun Γ H hΓ hH => ?_, ?_⟩
        · subst hH;refine kG (kJ false) Zaw Spl.nil Zai (fun ch Post hz => ?_);obtain ⟨_, rfl, rfl⟩ := hz;exact ⟨rfl, by simp only [List.nil_append];exact Imp.refl _⟩
        exact fun hh => by simp at hh
      · cases hrs
    · obtain ⟨rfl, hi⟩ := hp;exact ⟨[lkA lb false false, A], Imp.cut hi ZI, rfl, false, false, [A], rfl, hnone, rfl⟩
  have hb2 : decide (0 <= prim) = true := Zt h2;by_cases h3 : prim <= 255;rotate_left
  · have hnone : RR = none := by simp [hRR, kK, h3]
    have hb3 : decide (prim <= 255) = false := Zf h3;refine VC.seq (VC.drawZ (fun ch H' => ch = jR /\ Imp H' [lkA lb false false, A, kA q 0 [.string sel, .slice aa args.length ac, .slice ta temps.length tc, vi prim, .slice a body.length c]]) (fun H' => H' = [lkA lb false false, A, kA q 0 [.string sel, .slice aa args.length ac, .slice ta temps.length tc, vi prim, .slice a body.length c]]) rfl ?_ (fun ch H' hp => ?_))
    · skip
      intro rs hrs;rcases List.mem_cons.1 hrs with rfl | hrs
      · skip
        refine ⟨rfl, .pointer (some ⟨q, 0, none⟩), True, fun Γ H hΓ hH => ?_, ?_⟩
        · subst hH;exact kQ (hΓ 1 Zd _ rfl) rfl Zaf
        refine ⟨rfl, .string sel, True, fun Γ H hΓ hH => ?_, ?_⟩
        · subst hH;exact kI (hΓ 3 Zd _ rfl) Zh Zaf
        refine ⟨rfl, vi (kR sel), True, fun Γ H hΓ hH => ?_, ?_⟩
        · subst hH;exact kH (jv sel hsel) Zav Zaf
        refine ⟨rfl, .pointer (some ⟨q, 1, none⟩), True, fun Γ H hΓ hH => ?_, ?_⟩
        · subst hH;exact kQ (hΓ 1 Zd _ rfl) rfl Zaf
        refine ⟨rfl, .slice aa args.length ac, True, fun Γ H hΓ hH => ?_, ?_⟩
        · subst hH;exact kI (hΓ 6 Zd _ rfl) Zh Zaf
        refine ⟨rfl, vi args.length, True, fun Γ H hΓ hH => ?_, ?_⟩
        · subst hH;exact st_lenI (hΓ 7 Zd _ rfl) (VO.nil ⟨rfl, rfl, trivial⟩)
        refine ⟨rfl, .bool true, True, fun Γ H hΓ hH => ?_, ?_⟩
        · subst hH;exact st_eqI (hΓ 5 Zd _ rfl) (hΓ 8 Zd _ rfl) (by simp only [hb1]) (VO.nil ⟨rfl, rfl, trivial⟩)
        refine ⟨rfl, .bool true, True, fun Γ H hΓ hH => ?_, ?_⟩
        · subst hH;exact ka (hΓ 9 Zd _ rfl) Zaf
        refine ⟨rfl, .pointer (some ⟨q, 3, none⟩), True, fun Γ H hΓ hH => ?_, ?_⟩
        · subst hH;exact jS (hΓ 10 Zd _ rfl) (kQ (hΓ 1 Zd _ rfl) rfl Zaf)
        refine ⟨rfl, vi prim, True, fun Γ H hΓ hH => ?_, ?_⟩
        · subst hH;exact jS (hΓ 10 Zd _ rfl) (kI (hΓ 11 Zd _ rfl) Zh Zaf)
        refine ⟨rfl, .bool true, True, fun Γ H hΓ hH => ?_, ?_⟩
        · subst hH;exact jS (hΓ 10 Zd _ rfl) (st_leI rfl (hΓ 12 Zd _ rfl) (by simp only [hb2]) (VO.nil ⟨rfl, rfl, trivial⟩))
        refine ⟨rfl, .bool true, True, fun Γ H hΓ hH => ?_, ?_⟩
        · subst hH;exact wM (hΓ 10 Zd _ rfl) (hΓ 13 Zd _ rfl) Zaf
        refine ⟨rfl, .bool true, True, fun Γ H hΓ hH => ?_, ?_⟩
        · subst hH;exact ka (hΓ 14 Zd _ rfl) Zaf
        refine ⟨rfl, .pointer (some ⟨q, 3, none⟩), True, fun Γ H hΓ hH => ?_, ?_⟩
        · subst hH;exact jS (hΓ 15 Zd _ rfl) (kQ (hΓ 1 Zd _ rfl) rfl Zaf)
        refine ⟨rfl, vi prim, True, fun Γ H hΓ hH => ?_, ?_⟩
        · subst hH;exact jS (hΓ 15 Zd _ rfl) (kI (hΓ 16 Zd _ rfl) Zh Zaf)
        refine ⟨rfl, .bool false, True, fun Γ H hΓ hH => ?_, ?_⟩
        · subst hH;exact jS (hΓ 15 Zd _ rfl) (st_leI (hΓ 17 Zd _ rfl) rfl (by simp only [hb3]) (VO.nil ⟨rfl, rfl, trivial⟩))
        refine ⟨rfl, .bool false, True, fun Γ H hΓ hH => ?_, ?_⟩
        · subst hH;exact wM (hΓ 15 Zd _ rfl) (hΓ 18 Zd _ rfl) Zaf
        refine ⟨rfl, .tuple #[], False, fun Γ H hΓ hH => ?_, ?_⟩
        · subst hH;refine kG (kJ false) Zaw Spl.nil Zai (fun ch Post hz => ?_);obtain ⟨_, rfl, rfl⟩ := hz;exact ⟨rfl, by simp only [List.nil_append];exact Imp.refl _⟩
        exact fun hh => by simp at hh
      rcases List.mem_cons.1 hrs with rfl | hrs
      · skip
        refine ⟨rfl, .pointer (some ⟨q, 0, none⟩), True, fun Γ H hΓ hH => ?_, ?_⟩
        · subst hH;exact kQ (hΓ 1 Zd _ rfl) rfl Zaf
        refine ⟨rfl, .string sel, True, fun Γ H hΓ hH => ?_, ?_⟩
        · subst hH;exact kI (hΓ 3 Zd _ rfl) Zh Zaf
        refine ⟨rfl, .pointer (some ⟨q, 1, none⟩), True, fun Γ H hΓ hH => ?_, ?_⟩
        · subst hH;exact kQ (hΓ 1 Zd _ rfl) rfl Zaf
        refine ⟨rfl, .slice aa args.length ac, True, fun Γ H hΓ hH => ?_, ?_⟩
        · subst hH;exact kI (hΓ 6 Zd _ rfl) Zh Zaf
        refine ⟨rfl, vi (kR sel), True, fun Γ H hΓ hH => ?_, ?_⟩
        · subst hH;exact kH (jv sel hsel) Zav Zaf
        refine ⟨rfl, vi args.length, True, fun Γ H hΓ hH => ?_, ?_⟩
        · subst hH;exact st_lenI (hΓ 7 Zd _ rfl) (VO.nil ⟨rfl, rfl, trivial⟩)
        refine ⟨rfl, .bool true, True, fun Γ H hΓ hH => ?_, ?_⟩
        · subst hH;exact st_eqI (hΓ 5 Zd _ rfl) (hΓ 8 Zd _ rfl) (by simp only [hb1]) (VO.nil ⟨rfl, rfl, trivial⟩)
        refine ⟨rfl, .bool true, True, fun Γ H hΓ hH => ?_, ?_⟩
        · subst hH;exact ka (hΓ 9 Zd _ rfl) Zaf
        refine ⟨rfl, .pointer (some ⟨q, 3, none⟩), True, fun Γ H hΓ hH => ?_, ?_⟩
        · subst hH;exact jS (hΓ 10 Zd _ rfl) (kQ (hΓ 1 Zd _ rfl) rfl Zaf)
        refine ⟨rfl, vi prim, True, fun Γ H hΓ hH => ?_, ?_⟩
        · subst hH;exact jS (hΓ 10 Zd _ rfl) (kI (hΓ 11 Zd _ rfl) Zh Zaf)
        refine ⟨rfl, .bool true, True, fun Γ H hΓ hH => ?_, ?_⟩
        · subst hH;exact jS (hΓ 10 Zd _ rfl) (st_leI rfl (hΓ 12 Zd _ rfl) (by simp only [hb2]) (VO.nil ⟨rfl, rfl, trivial⟩))
        refine ⟨rfl, .bool true, True, fun Γ H hΓ hH => ?_, ?_⟩
        · subst hH;exact wM (hΓ 10 Zd _ rfl) (hΓ 13 Zd _ rfl) Zaf
        refine ⟨rfl, .bool true, True, fun Γ H hΓ hH => ?_, ?_⟩
        · subst hH;exact ka (hΓ 14 Zd _ rfl) Zaf
        refine ⟨rfl, .pointer (some ⟨q, 3, none⟩), True, fun Γ H hΓ hH => ?_, ?_⟩
        · subst hH;exact jS (hΓ 15 Zd _ rfl) (kQ (hΓ 1 Zd _ rfl) rfl Zaf)
        refine ⟨rfl, vi prim, True, fun Γ H hΓ hH => ?_, ?_⟩
        · subst hH;exact jS (hΓ 15 Zd _ rfl) (kI (hΓ 16 Zd _ rfl) Zh Zaf)
        refine ⟨rfl, .bool false, True, fun Γ H hΓ hH => ?_, ?_⟩
        · subst hH;exact jS (hΓ 15 Zd _ rfl) (st_leI (hΓ 17 Zd _ rfl) rfl (by simp only [hb3]) (VO.nil ⟨rfl, rfl, trivial⟩))
        refine ⟨rfl, .bool false, True, fun Γ H hΓ hH => ?_, ?_⟩
        · subst hH;exact wM (hΓ 15 Zd _ rfl) (hΓ 18 Zd _ rfl) Zaf
        refine ⟨rfl, .tuple #[], False, fun Γ H hΓ hH => ?_, ?_⟩
        · subst hH;refine kG (kJ false) Zaw Spl.nil Zai (fun ch Post hz => ?_);obtain ⟨_, rfl, rfl⟩ := hz;exact ⟨rfl, by simp only [List.nil_append];exact Imp.refl _⟩
        exact fun hh => by simp at hh
      · cases hrs
    · obtain ⟨rfl, hi⟩ := hp;exact ⟨[lkA lb false false, A], Imp.cut hi ZI, rfl, false, false, [A], rfl, hnone, rfl⟩
  have hb3 : decide (prim <= 255) = true := Zt h3;have hm : RR = wG 15 args (wG 63 temps (jF (wL body (body.map kO)))) := by simp [hRR, kK, h1, h2, h3]
  refine VC.seq (VC.draws ⟨?_, ?_, trivial⟩)
  · refine GOH ?_;refine kH (jv sel hsel) Zr ?_;refine GOH ?_;rw [hb1];refine GOH ?_;rw [hb2];refine GOH ?_;rw [hb3];refine GOH ?_;refine kD ((kJ true).mono (Z' := fun _ _ => False) (fun v Post h => h) Zaj).fun Zr ZP (fun v Post hv => ?_);obtain ⟨_, rfl, rfl⟩ := hv;simp only [List.nil_append];refine GOH ?_;refine kG (zV A _ args hav lb 15 false false) Zr ZP (fun v Post hv => ?_) (fun ch Post hz => ?_);rotate_left
    · obtain ⟨hb, rfl, m2, rfl⟩ := hz;exact ⟨[lkA lb m2 false, A], by simp only [CNx];exact IMx, rfl, m2, false, [A], rfl, by simp [hm, kK, wG, hb], rfl⟩
    obtain ⟨hf1, rfl, rfl⟩ := hv;rw [Bool.false_or];obtain ⟨m1, hm1⟩ : ∃ m1, m1 = decide (15 < args.length) := ⟨_, rfl⟩;rw [<- hm1];simp only [CNx];refine GOH ?_;refine kG (zV A _ temps htv lb 63 m1 false) Zr ZP (fun v Post hv => ?_) (fun ch Post hz => ?_);rotate_left
    · obtain ⟨hb, rfl, m2, rfl⟩ := hz;have hnone : RR = none := by
        simp only [hm, wG, hb];simp [kK, jm]
      exact ⟨[lkA lb m2 false, A], by simp only [CNx];exact IMx, rfl, m2, false, [A], rfl, hnone, rfl⟩
    obtain ⟨hf2, rfl, rfl⟩ := hv;obtain ⟨m2, hm2⟩ : ∃ m2, m2 = (m1 || decide (63 < temps.length)) := ⟨_, rfl⟩;rw [<- hm2];simp only [CNx];refine GOH ?_;refine kG (statements_spec A body a c bk o us hkids lb m2 false) Zr ZP (fun v Post hv => ?_) (fun ch Post hz => ?_);rotate_left
    · obtain ⟨hb, rfl, m3, rfl⟩ := hz;have hnone : RR = none := by
        simp only [hm, wG, hb, jm];simp [kK]
      exact ⟨[lkA lb m3 false, A], by simp only [CNx];exact IMx, rfl, m3, false, [A], rfl, hnone, rfl⟩
    obtain ⟨d, m3, he, rfl, rfl⟩ := hv;simp only [CNx];refine GOH ?_;refine jk (kC (Post := [lkA lb (m2 || m3) (decide ((d : Int) > 40)), A]) (.inl rfl) .nil ⟨m2 || m3, _, [A], rfl, ⟨d, ?_, decide_eq_decide.2 Zo⟩, rfl⟩ ZI);simp only [hm, wG, hf1, hf2, he, jm, kK, if_true, hm2, hm1, Bool.or_assoc]
  · refine GOH ?_;refine kH (jv sel hsel) Zr ?_;refine GOH ?_;rw [hb1];refine GOH ?_;rw [hb2];refine GOH ?_;rw [hb3];refine GOH ?_;refine kD ((kJ true).mono (Z' := fun _ _ => False) (fun v Post h => h) Zaj).fun Zr ZP (fun v Post hv => ?_);obtain ⟨_, rfl, rfl⟩ := hv;simp only [List.nil_append];refine GOH ?_;refine kG (zV A _ args hav lb 15 false false) Zr ZP (fun v Post hv => ?_) (fun ch Post hz => ?_);rotate_left
    · obtain ⟨hb, rfl, m2, rfl⟩ := hz;exact ⟨[lkA lb m2 false, A], by simp only [CNx];exact IMx, rfl, m2, false, [A], rfl, by simp [hm, kK, wG, hb], rfl⟩
    obtain ⟨hf1, rfl, rfl⟩ := hv;rw [Bool.false_or];obtain ⟨m1, hm1⟩ : ∃ m1, m1 = decide (15 < args.length) := ⟨_, rfl⟩;rw [<- hm1];simp only [CNx];refine GOH ?_;refine kG (zV A _ temps htv lb 63 m1 false) Zr ZP (fun v Post hv => ?_) (fun ch Post hz => ?_);rotate_left
    · obtain ⟨hb, rfl, m2, rfl⟩ := hz;have hnone : RR = none := by
        simp only [hm, wG, hb];simp [kK, jm]
      exact ⟨[lkA lb m2 false, A], by simp only [CNx];exact IMx, rfl, m2, false, [A], rfl, hnone, rfl⟩
    obtain ⟨hf2, rfl, rfl⟩ := hv;obtain ⟨m2, hm2⟩ : ∃ m2, m2 = (m1 || decide (63 < temps.length)) := ⟨_, rfl⟩;rw [<- hm2];simp only [CNx];refine GOH ?_;refine kG (statements_spec A body a c bk o us hkids lb m2 false) Zr ZP (fun v Post hv => ?_) (fun ch Post hz => ?_);rotate_left
    · obtain ⟨hb, rfl, m3, rfl⟩ := hz;have hnone : RR = none := by
        simp only [hm, wG, hb, jm];simp [kK]
      exact ⟨[lkA lb m3 false, A], by simp only [CNx];exact IMx, rfl, m3, false, [A], rfl, hnone, rfl⟩
    obtain ⟨d, m3, he, rfl, rfl⟩ := hv;simp only [CNx];refine GOH ?_;refine jk (kC (Post := [lkA lb (m2 || m3) (decide ((d : Int) > 40)), A]) (.inl rfl) .nil ⟨m2 || m3, _, [A], rfl, ⟨d, ?_, decide_eq_decide.2 Zo⟩, rfl⟩ ZI);simp only [hm, wG, hf1, hf2, he, jm, kK, if_true, hm2, hm1, Bool.or_assoc]
theorem Check_spec (A : List kE) (x : Md) (vs : List Value) (h : MdRd A x vs) : Fun Tryz.prog 13 [.agg vs.toArray] [A] (fun v Post => v = vi (checkM x) /\ Post = [A]) := by
  have h1 := check1_spec A x vs h;obtain ⟨⟨aa, ac, ta, tc, a, c, bk, o, us, rfl, hav, htv, hkids⟩, hsel, hprim⟩ := h;refine Fun.intro low13 (by simp [n13]) ?_;refine GOH ?_;refine kS Zr (fun q => ?_);simp only [Value.cells];refine GOH ?_;refine kD (caught_spec (.func (.func 46) #[] #[kN q]) [A, kA q 0 [.string x.sel, .slice aa x.args.length ac, .slice ta x.temps.length tc, vi x.prim, .slice a x.body.length c]]
    (fun m d Post' => (∃ dd, methodR x = some (dd, m) /\ d = decide (40 < dd)) /\ Post' = [A]) (fun Post' => methodR x = none /\ Post' = [A]) (fun lb => FunVP.of_fun (first := #[]) (cap := #[kN q]) (h1 q lb))) Zr ZP (fun v Post hv => ?_)
  have hfin : v = vi (checkM x) /\ Post = [A] := by
    rcases hv with ⟨m, d, rfl, ⟨dd, e, rfl⟩, rfl⟩ | ⟨rfl, e, rfl⟩
    · refine ⟨?_, rfl⟩;simp only [checkM, endE, e];cases m <;> simp <;> split <;> rfl
    · refine ⟨?_, rfl⟩;simp only [checkM, endE, e];rfl
  obtain ⟨rfl, rfl⟩ := hfin;simp only [CNx];refine GOH ?_;exact kC (Post := [A]) (.inr rfl) (.tmp Zr .nil) ⟨rfl, rfl⟩ ZI
end Go.Proofs.YtmnmandpdadedaaGreatDoor
namespace Go.Proofs.YtmnmandpdadedaaGreatDoor
open Go Go.V
set_option maxHeartbeats 3200000
set_option maxRecDepth 100000
abbrev encN (p : NV) : List Value := [.agg p.2.toArray]
def DownOk (A : List kE) (S : List NV -> Prop) (J SP : List NV -> List kE -> Prop) (y : Value) (p2 p3 : Nat) (x : Nd) (vs : List Value) : Prop :=
  ∀ c, (∀ fx, SpecN A x fx -> OkC S (c ++ fx)) -> ∀ B, J c B -> zD Tryz.prog (.func (.func 83) #[] #[kN p2, kN p3]) [.agg vs.toArray] [kA p2 0 [y], kA p3 0 [.func (.func 83) #[] #[kN p2, kN p3]], B]
    (fun v H => (v = .bool true /\ ∃ fx B', SpecN A x fx /\ J (c ++ fx) B' /\ H = [kA p2 0 [y], kA p3 0 [.func (.func 83) #[] #[kN p2, kN p3]], B']) ∨ (v = .bool false /\ ∃ c' B', OkC S c' /\ SP c' B' /\ H = [kA p2 0 [y], kA p3 0 [.func (.func 83) #[] #[kN p2, kN p3]], B']))
theorem okC_pre {α : Type} {S : List α -> Prop} {c d : List α} (h : OkC S (c ++ d)) : OkC S c := by
  obtain ⟨t, ht⟩ := h;exact ⟨d ++ t, by rw [<- List.append_assoc];exact ht⟩
theorem down_spec (A : List kE) (S : List NV -> Prop) (J SP : List NV -> List kE -> Prop) (y : Value) (hJA : ∀ c B, J c B -> AccT A B)
    (hy : ∀ c x B, OkC S (c ++ [x]) -> J c B -> zD Tryz.prog y (encN x) [B] (fun v H => (v = .bool true /\ ∃ A', J (c ++ [x]) A' /\ H = [A']) ∨ (v = .bool false /\ ∃ B', SP (c ++ [x]) B' /\ H = [B']))) (p2 p3 : Nat) :
    ∀ (N : Nat) (x : Nd), x.w <= N -> ∀ vs, kf A x vs -> DownOk A S J SP y p2 p3 x vs := by
  intro N
  induction N with
  | zero => intro x hx;have := x.w_pos;omega
  | succ N ih =>
    intro x hx vs h c hctx B hB;have hkid : ∀ z us, z ∈ x.kids -> kf A z us -> DownOk A S J SP y p2 p3 z us := fun z us hz hr => by
      have : z.w < x.w := by
        cases x;have := Nd.ws_mem hz;simp only [Nd.kids] at this;simp only [Nd.w];omega
      exact ih z Zo us hr
    have h0 := h;have hself : OkC S (c ++ [(x, vs)]) := by
      obtain ⟨g, hg⟩ := specNs_ex h (l := x.kids) (fun _ h => h);have := hctx _ (SpecN.cons h hg);rw [show c ++ (x, vs) :: g = (c ++ [(x, vs)]) ++ g by simp] at this;exact okC_pre this
    have hcall := hy c (x, vs) B hself hB;have hcons : ∀ {f : List NV}, zY A x.kids f -> SpecN A x ((x, vs) :: f) := fun hf => SpecN.cons h hf
    have hctx2 : ∀ {j : Nat} {z : Nd} {f fz : List NV}, zY A (x.kids.take j) f -> x.kids[j]? = some z -> SpecN A z fz -> OkC S ((c ++ (x, vs) :: f) ++ fz) := fun {j z f fz} hf hz hfz => by
      obtain ⟨g, hg⟩ := specNs_ex h (l := x.kids.drop (j + 1)) (fun _ h => List.mem_of_mem_drop h);have e : x.kids.take j ++ [z] ++ x.kids.drop (j + 1) = x.kids := by
        have e1 : x.kids.take (j + 1) = x.kids.take j ++ [z] := by rw [List.take_add_one, hz];rfl
        rw [<- e1, List.take_append_drop]
      have := hctx _ (hcons (e ▸ (hf.append (zY.one hfz)).append hg));rw [show c ++ (x, vs) :: (f ++ fz ++ g) = (c ++ (x, vs) :: f ++ fz) ++ g by simp] at this;exact okC_pre this
    obtain ⟨e1, e2, e3, e4, e5, e6, e7, e8, e9, e10, e11, e12, e13, a, cc, bk, o, us, hvs, hmany, ha, hm, hr⟩ := nd_at h0;refine zD.of_fun (first := #[]) (cap := #[kN p2, kN p3]) ?_;show Fun Tryz.prog 83 [.agg vs.toArray, kN p2, kN p3] _ _;refine Fun.intro low83 (by simp [n83]) ?_;generalize hfn : Value.func (.func 83) #[] #[kN p2, kN p3] = fn;have hkv : ∀ z zs, z ∈ x.kids -> kf A z zs -> ∀ c, (∀ fx, SpecN A z fx -> OkC S (c ++ fx)) -> ∀ B, J c B -> zD Tryz.prog fn [.agg zs.toArray] [kA p2 0 [y], kA p3 0 [fn], B]
        (fun v H => (v = .bool true /\ ∃ fx B', SpecN A z fx /\ J (c ++ fx) B' /\ H = [kA p2 0 [y], kA p3 0 [fn], B']) ∨ (v = .bool false /\ ∃ c' B', OkC S c' /\ SP c' B' /\ H = [kA p2 0 [y], kA p3 0 [fn], B'])) := fun z zs hz hr => by
      rw [<- hfn];exact hkid z zs hz hr
    simp only [encN] at hcall;rw [hvs] at hcall |-;refine GOH ?_;refine kS Zr (fun q => ?_);simp only [Value.cells];refine GOH ?_;refine wm Zr hcall Zr ZP (fun v Post hv => ?_);rcases hv with ⟨rfl, B1, hB1, rfl⟩ | ⟨rfl, B1, hB1, rfl⟩
    rotate_left
    · simp only [CNx];refine GOH ?_;refine kC (Post := [kA p2 0 [y], kA p3 0 [fn], B1]) (.inr rfl) (.tmp Zr .nil) (.inr ⟨rfl, _, B1, hself, hvs ▸ hB1, rfl⟩) ZI
    simp only [CNx];refine GOH ?_;refine VC.loop (α := Nat × List NV × List kE) (Γf := fun s => [(2, kN p3), (12, .slice a x.kids.length cc), (13, vi x.kids.length), (14, vi s.1)]) (Hf := fun s => [kA p2 0 [y], kA p3 0 [fn], s.2.2])
      (I := fun s => s.1 <= x.kids.length /\ zY A (x.kids.take s.1) s.2.1 /\ J (c ++ (x, vs) :: s.2.1) s.2.2) (μ := fun s => x.kids.length - s.1) (0, [], B1) ⟨Nat.zero_le _, .nil, by rw [<- hvs] at hB1;exact hB1⟩ ZU ZI ?_
    rintro ⟨j, f, B2⟩ ⟨i1, i2, i3⟩
    simp only at i1 i2 i3;dsimp only;refine GOH ?_;by_cases hj : j < x.kids.length;rotate_left
    · rw [show decide ((j : Int) < (x.kids.length : Int)) = false from Zf Zo];rw [List.take_of_length_le Zo] at i2;refine GOH ?_;refine kC (Post := [kA p2 0 [y], kA p3 0 [fn], B2]) (.inr rfl) (.tmp Zr .nil) (.inl ⟨rfl, _, B2, hcons i2, i3, rfl⟩) ZI
    obtain rfl := ha Zo;rw [show decide ((j : Int) < (x.kids.length : Int)) = true from Zt Zo];obtain ⟨z, hz⟩ : ∃ z, x.kids[j]? = some z := ⟨_, Zg hj⟩;have hzr := hr j z hz;have hzm := hm j hj;have hzk := hkv z (us j) (Zv hz) hzr _ (fun fx hfx => hctx2 i2 hz hfx) B2 i3;have hacc := (hJA _ _ i3).mem;generalize us j = uj at hzr hzm hzk;obtain ⟨g1, g2, g3, g4, g5, g6, g7, g8, g9, g10, g11, g12, g13, g14, g15, g16, g17, rfl, hsz, hkk⟩ := km hzr;have htk : x.kids.take (j + 1) = x.kids.take j ++ [z] := by rw [List.take_add_one, hz];rfl
    refine GOH ?_;refine kL Zr (fun u hu => List.mem_append_right _ (List.mem_append_right _ (Zw _ (hacc _ (hzm u hu))))) rfl ?_;refine GOH ?_;refine kP (fun q9 => ?_);refine GOH ?_;refine wm Zr hzk Zr ZP (fun v Post hv => ?_);rcases hv with ⟨rfl, fz, B3, hfz, hB3, rfl⟩ | ⟨rfl, c', B3, hc', hB3, rfl⟩
    rotate_left
    · simp only [CNx];refine GOH ?_;refine kC (Post := [kA p2 0 [y], kA p3 0 [fn], B3]) (.inr rfl) (.tmp Zr .nil) (.inr ⟨rfl, c', B3, hc', hB3, rfl⟩) ZI
    simp only [CNx];refine GOH ?_;refine ⟨(j + 1, f ++ fz, B3), ⟨by simp only;omega, ?_, ?_⟩, by simp only;omega, ZU, ZI⟩
    · simp only [htk];exact i2.append (zY.one hfz)
    · simp only;rw [show c ++ (x, vs) :: (f ++ fz) = (c ++ (x, vs) :: f) ++ fz by simp];exact hB3
theorem all_iter (A : List kE) (x : Nd) (vs : List Value) (h : kf A x vs) (q : Nat) :
    IterA Tryz.prog (.func (.func 82) #[] #[kN q]) encN (AccT A) [kA q 0 vs] [] (SpecN A x) := by
  intro y J SP hcy hJA hy B hB;have hdown := fun p2 p3 => down_spec A (SpecN A x) J SP y hJA hy p2 p3 _ x (Nat.le_refl _) vs h [] (fun fx hfx => ⟨[], by simpa using hfx⟩) B hB
  obtain ⟨g1, g2, g3, g4, g5, g6, g7, g8, g9, g10, g11, g12, g13, g14, g15, g16, g17, rfl, hsz, hkk⟩ := km h;refine zD.of_fun (first := #[]) (cap := #[kN q]) ?_;show Fun Tryz.prog 82 [y, kN q] _ _;refine Fun.intro low82 (by simp [n82]) ?_;simp only [CNx];refine GOH ?_;refine kS Zr (fun p2 => ?_);rw [hcy];refine GOH ?_;refine kP (fun p3 => ?_);refine GOH ?_;refine VO.imp (H' := [kA p2 0 [y], kA p3 0 [.func (.func 83) #[] #[kN p2, kN p3]], B]) ?_ ?_
  · show Imp [kA p3 0 [.func (.func 83) #[] #[kN p2, kN p3]], kA p2 0 [y], kA q 0 _, B] _;exact IMx
  refine wm Zr (hdown p2 p3) Zr ZP (fun v Post hv => ?_);rcases hv with ⟨rfl, fx, B1, hfx, hB1, rfl⟩ | ⟨rfl, c', B1, hc', hB1, rfl⟩
  · simp only [CNx];refine GOH ?_;exact kC (Post := [B1]) (.inl rfl) .nil ⟨rfl, .inl ⟨fx, B1, hfx, by simpa using hB1, rfl⟩⟩ ZI
  · simp only [CNx];refine GOH ?_;exact kC (Post := [B1]) (.inl rfl) .nil ⟨rfl, .inr ⟨c', B1, hc', hB1, rfl⟩⟩ ZI
theorem All_spec (vs : List Value) : Fun Tryz.prog 39 [.agg vs.toArray] [] (fun v Post => ∃ q, v = .func (.func 82) #[] #[kN q] /\ Post = [kA q 0 vs]) := by
  refine Fun.intro low39 (by simp [n39]) ?_;refine GOH ?_;refine kS Zr (fun q => ?_);simp only [Value.cells];refine GOH ?_;exact kC (Post := [kA q 0 vs]) (.inr rfl) (.tmp Zr .nil) ⟨q, rfl, rfl⟩ ZI
end Go.Proofs.YtmnmandpdadedaaGreatDoor
namespace Go.Proofs.YtmnmandpdadedaaGreatDoor
open Go Go.V
set_option maxHeartbeats 3200000
set_option maxRecDepth 100000
theorem Size_spec (A : List kE) (x : Nd) (vs : List Value) (h : kf A x vs) (hw : x.w <= 274877906944) : Fun Tryz.prog 27 [.agg vs.toArray] [A] (fun v Post => v = vi (allN x).length /\ Post = [A]) := by
  have hit := all_iter A x vs h;have hall := All_spec vs;have hlen := allN_len _ x (Nat.le_refl _);obtain ⟨g1, g2, g3, g4, g5, g6, g7, g8, g9, g10, g11, g12, g13, g14, g15, g16, g17, rfl, hsz, hkk⟩ := km h;refine Fun.intro low27 (by simp [n27]) ?_;refine GOH ?_;refine kS Zr (fun q => ?_);simp only [Value.cells];refine GOH ?_;refine kP (fun p => ?_);refine GOH ?_;refine kD hall Zr ZP (fun v Post hv => ?_);obtain ⟨q2, rfl, rfl⟩ := hv;simp only [CNx];refine GOH ?_;refine VC.rangefA (fun c B => B = [kA p 0 [vi c.length], A].flatten) ([kA p 0 [vi 0], A].flatten) Zr (hit q2) (fun A B h => h.more) ?_ (R := [kA p 0 [vi 0], kA q 0 _, A]) ZP ?_ rfl (fun _ => rfl) ?_ ?_
  · rintro c B rfl
    exact ⟨kA p 0 [vi c.length], by simp only [List.flatten_cons, List.flatten_nil, List.append_nil];exact List.perm_append_comm⟩
  · refine Imp.cut (M := [kA p 0 [vi 0], A]) ZI (Imp.perm Zs)
  · rintro c u B hok rfl
    have hc : c.length < (allN x).length := by
      obtain ⟨t, ht⟩ := hok;have := congrArg List.length ht.1;simp at this;omega
    simp only [bindE];refine VC.imp (H' := [kA p 0 [vi c.length], A]) (Imp.perm Zs) ?_;refine GOH ?_;refine ⟨trivial, ?_⟩;refine GOH ?_;refine ⟨_, rfl, Imp.perm ?_⟩;simp
  · rintro full B hfull rfl
    refine VC.imp (H' := [kA p 0 [vi full.length], A]) (Imp.perm Zs) ?_;have : full.length = (allN x).length := by rw [<- hfull.1, List.length_map]
    rw [this];refine GOH ?_;exact kC (Post := [A]) (.inr rfl) (.tmp Zr .nil) ⟨rfl, rfl⟩ ZI
end Go.Proofs.YtmnmandpdadedaaGreatDoor
namespace Go.Proofs.YtmnmandpdadedaaGreatDoor
open Go Go.V
set_option maxHeartbeats 3200000
set_option maxRecDepth 100000
theorem zR (A : List kE) (av bv : Value) (l m : List ByteArray) (hl : RdT A av l) (hm : RdT A bv m) : Fun Tryz.prog 51 [av, bv] [A] (fun v Post => v = .bool (decide (l = m)) /\ Post = [A]) := by
  obtain ⟨a, c, rfl, hll, hlr⟩ := hl;obtain ⟨b, cb, rfl, hml, hmr⟩ := hm;refine Fun.intro low51 (by simp [n51]) ?_;obtain ⟨t, ht⟩ : ∃ t, t = decide (l = m) := ⟨_, rfl⟩;rw [<- ht];refine GOH ?_;by_cases hlen : l.length = m.length;rotate_left
  · have htf : t = false := by rw [ht];exact Zf fun h => hlen (by rw [h])
    rw [show decide ((l.length : Int) = (m.length : Int)) = false from Zf Zo];refine GOH ?_;exact kC (Post := [A]) (.inr rfl) (.tmp Zr .nil) ⟨by rw [htf];rfl, rfl⟩ ZI
  rw [show decide ((l.length : Int) = (m.length : Int)) = true from Zt Zo];refine GOH ?_;refine VC.loop (α := Nat) (Γf := fun j => [(0, .slice a l.length c), (1, .slice b m.length cb), (12, vi l.length), (13, vi j)]) (Hf := fun _ => [A])
    (I := fun j => j <= l.length /\ ∀ i x y, i < j -> l[i]? = some x -> m[i]? = some y -> x = y) (μ := fun j => l.length - j) 0 ⟨Nat.zero_le _, fun i x y h => absurd h Zo⟩ ZU ZI ?_
  rintro j ⟨i1, i2⟩
  refine GOH ?_;by_cases hj : j < l.length;rotate_left
  · rw [show decide ((j : Int) < (l.length : Int)) = false from Zf Zo];have htt : t = true := by
      rw [ht];refine Zt (texts_eq hlen fun i x y e1 e2 => i2 i x y ?_ e1 e2);have := (List.getElem?_eq_some_iff.1 e1).1;omega
    refine GOH ?_;exact kC (Post := [A]) (.inr rfl) (.tmp Zr .nil) ⟨by rw [htt];rfl, rfl⟩ ZI
  rw [show decide ((j : Int) < (l.length : Int)) = true from Zt Zo];obtain ⟨x, hx⟩ : ∃ x, l[j]? = some x := ⟨_, Zg hj⟩;obtain ⟨y, hy⟩ : ∃ y, m[j]? = some y := ⟨_, Zg (hlen ▸ hj)⟩;obtain ⟨b1, o1, rfl, hc1, hs1⟩ := hlr j x hx;obtain ⟨b2, o2, rfl, hc2, hs2⟩ := hmr j y hy;refine GOH ?_;by_cases hxy : x = y
  · rw [Zt hxy];refine GOH ?_;refine ⟨j + 1, ⟨Zo, fun i u v hi e1 e2 => ?_⟩, Zo, ZU, ZI⟩;by_cases hij : i = j
    · subst hij;rw [hx] at e1;rw [hy] at e2;cases e1;cases e2;exact hxy
    · exact i2 i u v Zo e1 e2
  · have htf : t = false := by
      rw [ht];refine Zf fun h => hxy ?_
      subst h;rw [hx] at hy;cases hy;rfl
    rw [Zf hxy];refine GOH ?_;exact kC (Post := [A]) (.inr rfl) (.tmp Zr .nil) ⟨by rw [htf];rfl, rfl⟩ ZI
theorem jx {A : List kE} {x : Lt} {vs : List Value} (h : zL A x vs) : ∃ (e : Option Addr) (c : Nat), vs = [cv x.kind, vi x.n, uv x.bits, .string x.text, .slice e x.items.length c] := by
  cases h with
  | mk wf ha hm hr => exact ⟨_, _, rfl⟩
theorem equalLits_spec (A : List kE) (l m : List Lt) (a b : Option Addr) (c cb bk o bk2 o2 : Nat) (us ws : Nat -> List Value) (hla : l.length <= 140737488355328) (ha : 0 < l.length -> a = some ⟨bk, o, none⟩) (hb : 0 < m.length -> b = some ⟨bk2, o2, none⟩)
    (hm : ∀ i, i < l.length -> ∀ y ∈ kA bk (o + i * 5) (us i), y ∈ A) (hm2 : ∀ i, i < m.length -> ∀ y ∈ kA bk2 (o2 + i * 5) (ws i), y ∈ A) (hr : ∀ i x, l[i]? = some x -> zL A x (us i)) (hr2 : ∀ i x, m[i]? = some x -> zL A x (ws i))
    (fv : Value) (hfv : ∀ i x y, l[i]? = some x -> m[i]? = some y -> zD Tryz.prog fv [.agg (us i).toArray, .agg (ws i).toArray] [A] (fun v Post => v = .bool (wx x y) /\ Post = [A])) :
    Fun Tryz.prog 116 [.slice a l.length c, .slice b m.length cb, fv] [A] (fun v Post => v = .bool (zk l m) /\ Post = [A]) := by
  refine Fun.intro low116 (by simp [n116]) ?_;refine GOH ?_;by_cases hlen : l.length = m.length;rotate_left
  · rw [show decide ((l.length : Int) = (m.length : Int)) = false from Zf Zo];refine GOH ?_;exact kC (Post := [A]) (.inr rfl) (.tmp Zr .nil) ⟨by rw [litsEq_len hlen];rfl, rfl⟩ ZI
  rw [show decide ((l.length : Int) = (m.length : Int)) = true from Zt Zo];refine GOH ?_;refine VC.loop (α := Nat) (Γf := fun j => [(1, .slice b m.length cb), (2, fv), (15, .slice a l.length c), (16, vi l.length), (17, vi j)]) (Hf := fun _ => [A])
    (I := fun j => j <= l.length /\ ∀ i x y, i < j -> l[i]? = some x -> m[i]? = some y -> wx x y = true) (μ := fun j => l.length - j) 0 ⟨Nat.zero_le _, fun i x y h => absurd h Zo⟩ ZU ZI ?_
  rintro j ⟨i1, i2⟩
  refine GOH ?_;by_cases hj : j < l.length;rotate_left
  · rw [show decide ((j : Int) < (l.length : Int)) = false from Zf Zo];have htt : zk l m = true := (litsEq_iff l m).2 ⟨hlen, fun i x y e1 e2 => i2 i x y Zax e1 e2⟩;refine GOH ?_;exact kC (Post := [A]) (.inr rfl) (.tmp Zr .nil) ⟨by rw [htt];rfl, rfl⟩ ZI
  rw [show decide ((j : Int) < (l.length : Int)) = true from Zt Zo];obtain rfl := ha Zo;obtain rfl := hb Zo;obtain ⟨x, hx⟩ : ∃ x, l[j]? = some x := ⟨_, Zg hj⟩;obtain ⟨y, hy⟩ : ∃ y, m[j]? = some y := ⟨_, Zg (hlen ▸ hj)⟩;have hu := hm j hj;have hw := hm2 j Zo;have hur := hr j x hx;have hwr := hr2 j y hy;have hcall := hfv j x y hx hy;generalize us j = uj at *;generalize ws j = wj at *;obtain ⟨e1, c1, rfl⟩ := jx hur;obtain ⟨e2, c2, rfl⟩ := jx hwr;refine GOH ?_;refine kL Zr (fun z hz => Zw _ (hu z hz)) rfl ?_;refine GOH ?_;refine kP (fun q => ?_);refine GOH ?_;refine kL Zr (fun z hz => by simp only [List.flatten_cons, List.mem_append];exact .inr (.inl (hw z hz))) rfl ?_;refine GOH ?_;refine kP (fun q2 => ?_);refine GOH ?_;refine wm Zr hcall Zr ZP (fun v Post hv => ?_);obtain ⟨rfl, rfl⟩ := hv;simp only [CNx];cases hxy : wx x y with
  | true =>
    refine GOH ?_;refine ⟨j + 1, ⟨Zo, fun i u v hi e1 e2 => ?_⟩, Zo, ZU, ZI⟩;by_cases hij : i = j
    · subst hij;rw [hx] at e1;rw [hy] at e2;cases e1;cases e2;exact hxy
    · exact i2 i u v Zo e1 e2
  | false =>
    refine GOH ?_;exact kC (Post := [A]) (.inr rfl) (.tmp Zr .nil) ⟨by rw [litsEq_false hx hy hxy];rfl, rfl⟩ ZI
theorem equalNodes_spec (A : List kE) (l m : List Nd) (a b : Option Addr) (c cb bk o bk2 o2 : Nat) (us ws : Nat -> List Value) (hla : l.length <= 140737488355328) (ha : 0 < l.length -> a = some ⟨bk, o, none⟩) (hb : 0 < m.length -> b = some ⟨bk2, o2, none⟩)
    (hm : ∀ i, i < l.length -> ∀ y ∈ kA bk (o + i * 11) (us i), y ∈ A) (hm2 : ∀ i, i < m.length -> ∀ y ∈ kA bk2 (o2 + i * 11) (ws i), y ∈ A) (hr : ∀ i x, l[i]? = some x -> kf A x (us i)) (hr2 : ∀ i x, m[i]? = some x -> kf A x (ws i))
    (fv : Value) (hfv : ∀ i x y, l[i]? = some x -> m[i]? = some y -> zD Tryz.prog fv [.agg (us i).toArray, .agg (ws i).toArray] [A] (fun v Post => v = .bool (zH x y) /\ Post = [A])) :
    Fun Tryz.prog 52 [.slice a l.length c, .slice b m.length cb, fv] [A] (fun v Post => v = .bool (zG l m) /\ Post = [A]) := by
  refine Fun.intro low52 (by simp [n52]) ?_;refine GOH ?_;by_cases hlen : l.length = m.length;rotate_left
  · rw [show decide ((l.length : Int) = (m.length : Int)) = false from Zf Zo];refine GOH ?_;exact kC (Post := [A]) (.inr rfl) (.tmp Zr .nil) ⟨by rw [ndsEq_len hlen];rfl, rfl⟩ ZI
  rw [show decide ((l.length : Int) = (m.length : Int)) = true from Zt Zo];refine GOH ?_;refine VC.loop (α := Nat) (Γf := fun j => [(1, .slice b m.length cb), (2, fv), (15, .slice a l.length c), (16, vi l.length), (17, vi j)]) (Hf := fun _ => [A])
    (I := fun j => j <= l.length /\ ∀ i x y, i < j -> l[i]? = some x -> m[i]? = some y -> zH x y = true) (μ := fun j => l.length - j) 0 ⟨Nat.zero_le _, fun i x y h => absurd h Zo⟩ ZU ZI ?_
  rintro j ⟨i1, i2⟩
  refine GOH ?_;by_cases hj : j < l.length;rotate_left
  · rw [show decide ((j : Int) < (l.length : Int)) = false from Zf Zo];have htt : zG l m = true := (z7 l m).2 ⟨hlen, fun i x y e1 e2 => i2 i x y Zax e1 e2⟩;refine GOH ?_;exact kC (Post := [A]) (.inr rfl) (.tmp Zr .nil) ⟨by rw [htt];rfl, rfl⟩ ZI
  rw [show decide ((j : Int) < (l.length : Int)) = true from Zt Zo];obtain rfl := ha Zo;obtain rfl := hb Zo;obtain ⟨x, hx⟩ : ∃ x, l[j]? = some x := ⟨_, Zg hj⟩;obtain ⟨y, hy⟩ : ∃ y, m[j]? = some y := ⟨_, Zg (hlen ▸ hj)⟩;have hu := hm j hj;have hw := hm2 j Zo;have hur := hr j x hx;have hwr := hr2 j y hy;have hcall := hfv j x y hx hy;generalize us j = uj at *;generalize ws j = wj at *;obtain ⟨e1, e2, e3, e4, e5, e6, e7, e8, e9, e10, e11, e12, e13, e14, e15, e16, e17, rfl, _, _⟩ := km hur;obtain ⟨g1, g2, g3, g4, g5, g6, g7, g8, g9, g10, g11, g12, g13, g14, g15, g16, g17, rfl, _, _⟩ := km hwr;refine GOH ?_;refine kL Zr (fun z hz => Zw _ (hu z hz)) rfl ?_;refine GOH ?_;refine kP (fun q => ?_);refine GOH ?_;refine kL Zr (fun z hz => by simp only [List.flatten_cons, List.mem_append];exact .inr (.inl (hw z hz))) rfl ?_;refine GOH ?_;refine kP (fun q2 => ?_);refine GOH ?_;refine wm Zr hcall Zr ZP (fun v Post hv => ?_);obtain ⟨rfl, rfl⟩ := hv;simp only [CNx];cases hxy : zH x y with
  | true =>
    refine GOH ?_;refine ⟨j + 1, ⟨Zo, fun i u v hi e1 e2 => ?_⟩, Zo, ZU, ZI⟩;by_cases hij : i = j
    · subst hij;rw [hx] at e1;rw [hy] at e2;cases e1;cases e2;exact hxy
    · exact i2 i u v Zo e1 e2
  | false =>
    refine GOH ?_;exact kC (Post := [A]) (.inr rfl) (.tmp Zr .nil) ⟨by rw [ndsEq_false hx hy hxy];rfl, rfl⟩ ZI
end Go.Proofs.YtmnmandpdadedaaGreatDoor

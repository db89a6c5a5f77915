/-
  The outside world: what the chapter's examples fix.
-/
import Derived.Test.YtklkngccaemjdaaGreatXP
set_option linter.unusedSimpArgs false
set_option linter.unusedVariables false
namespace Go.V
open Go
def tA : ByteArray := ⟨#[97]⟩
def tXyz : ByteArray := ⟨#[120, 121, 122]⟩
def exA0 : AW := (newA [] [(tA, tXyz)]).getD emptyA
def exA1 : AW := (openM tA 1 exA0).2.2
def exA2 : AW := (readM 1 2 exA1).2.2
def exA3 : AW := (writeM 1 ⟨#[113]⟩ exA2).2.2
def exA4 : AW := (openM tA 2 exA3).2.2
def exA5 : AW := (writeM 2 ⟨#[110, 101, 119]⟩ exA4).2.2
def exC0 : AW := (newA [⟨7, 0, nilTx⟩, ⟨5, 0, nilTx⟩] []).getD emptyA
def exC1 : AW := (showM ⟨#[49]⟩ exC0).2.2
def exC2 : AW := (showM ⟨#[50]⟩ exC1).2.2

theorem ex_new : newA [] [(tA, tXyz)] = some exA0 := by
  have : (newA [] [(tA, tXyz)]).isSome = true := by decide +kernel
  unfold exA0
  cases h : newA [] [(tA, tXyz)] with
  | none => rw [h] at this; cases this
  | some a => rfl
theorem ex_newC : newA [⟨7, 0, nilTx⟩, ⟨5, 0, nilTx⟩] [] = some exC0 := by
  have : (newA [⟨7, 0, nilTx⟩, ⟨5, 0, nilTx⟩] []).isSome = true := by decide +kernel
  unfold exC0
  cases h : newA [⟨7, 0, nilTx⟩, ⟨5, 0, nilTx⟩] [] with
  | none => rw [h] at this; cases this
  | some a => rfl

theorem ex1 : (openM tA 1 exA0).1.handle = 1 ∧ (openM tA 1 exA0).2.1 = 0 := by decide +kernel
theorem ex2 : (readM 1 2 exA1).1.text = ⟨#[120, 121]⟩ ∧ (readM 1 2 exA1).2.1 = 0 := by decide +kernel
theorem ex3 : (writeM 1 ⟨#[113]⟩ exA2).2.1 = 33 := by decide +kernel
theorem ex4 : (openM tA 2 exA3).1.handle = 2 ∧ (openM tA 2 exA3).2.1 = 0 := by decide +kernel
theorem ex5 : (writeM 2 ⟨#[110, 101, 119]⟩ exA4).2.1 = 0 := by decide +kernel
theorem ex6 : (showM ⟨#[49]⟩ exC0).2.1 = 0 ∧ (showM ⟨#[50]⟩ exC1).2.1 = 36 ∧ exC2.dead = true := by decide +kernel
theorem ex_ok : AOk exA5 := ⟨by decide +kernel, by decide +kernel, by decide +kernel⟩
theorem ex_names : exA5.names = [(tA, 0)] := by decide +kernel
theorem ex_seqs : seqsOf exA5 [(tA, 0)] = [1, 2] → True := fun _ => trivial

theorem ex_left {which : Int} {a' : AW} (h : LeftR exA5 which [] a') : a' = leftC exA5 (keptT which (seqsOf exA5 exA5.names) (seqsOf exA5 exA5.names).length) [] [(tA, 0)] := by
  obtain ⟨ord, ys, h1, h2, rfl⟩ := h
  rw [ex_names] at h1
  obtain rfl := List.perm_singleton.1 h1
  have hs : SortedOf ltI (seqsOf exA5 exA5.names) (seqsOf exA5 exA5.names) := ⟨.refl _, by decide +kernel⟩
  obtain rfl := sorted_unique ltI_ok h2 hs
  rfl

theorem ex_files {which : Int} {a' : AW} {ys : List ByteArray} (h : LeftR exA5 which [] a') (hs : SortedOf ltS (a'.names.map (·.1)) ys) : ys = [tA] := by
  rw [ex_left h, leftC_names] at hs
  exact List.perm_singleton.1 hs.1
theorem ex_text2 {a' : AW} (h : LeftR exA5 2 [] a') : fileOf a' tA = (tA, ⟨#[110, 101, 119]⟩) := by
  rw [ex_left h]; decide +kernel
theorem ex_text0 {a' : AW} (h : LeftR exA5 0 [] a') : fileOf a' tA = (tA, tXyz) := by
  rw [ex_left h]; decide +kernel
theorem ex_trace : exA5.trace.length = 5 ∧ exA5.trace[1]?.map (fun d => (d.kind, d.handle, d.text, d.to, d.n, d.err)) = some (2, 1, ⟨#[120, 121]⟩, nilTx, 2, 0) := by decide +kernel
end Go.V
namespace Go.Proofs.YtklkngccaemjdaaGreat
open Go Go.V
set_option maxHeartbeats 12800000
set_option maxRecDepth 100000
set_option linter.unusedSimpArgs false
set_option linter.unusedVariables false
theorem works_spec : Fun Tryz.prog 5 [] [] (fun v Post => v = .bool true ∧ Post = []) := by
  refine Fun.intro low5 (by simp [F5]) ?_
  refine GO ?_
  refine st_bslice (out := fiEnc (tA, tXyz)) (by rfl) (by rfl) (fun p1 => ?_)
  refine GO ?_
  have hrd : RdRow 2 (cellsAt p1 0 (fiEnc (tA, tXyz))) (.slice (some ⟨p1, 0, none⟩) 1 1) [(tA, tXyz)].length ([(tA, tXyz)].flatMap fiEnc) := .inr ⟨p1, 0, 1, rfl, Nat.le_refl _, rfl, fun x hx => hx⟩
  have hn := new_spec (cellsAt p1 0 (fiEnc (tA, tXyz))) (.slice none 0 0) (.slice (some ⟨p1, 0, none⟩) 1 1) [] [(tA, tXyz)] (.inl ⟨rfl, rfl, rfl⟩) hrd (by simp) (by simp) (by intro p hp; rw [List.mem_singleton.1 hp]; decide)
  rw [ex_new] at hn
  refine st_call hn (by rfl) (by (focus ((repeat (first | exact Spl.nil | (apply Spl.cons; (focus ((repeat (first | with_reducible exact Tk.here | apply Tk.there)); done))))); done))) (fun v Post hv => ?_)
  obtain ⟨t, w0, rfl, hR0, rfl⟩ := hv
  simp only [WMem, List.cons_append, List.nil_append]
  refine GO ?_
  refine st_call (open_spec t w0 exA0 0 (by omega) hR0 tA (by decide) 1) (by rfl) (by simp only [WMem]; (focus ((repeat (first | exact Spl.nil | (apply Spl.cons; (focus ((repeat (first | with_reducible exact Tk.here | apply Tk.there)); done))))); done))) (fun v Post hv => ?_)
  obtain ⟨w1, hR1, rfl, rfl⟩ := hv
  rw [ex1.1, ex1.2]
  change Rep w1 exA1 (0 + 1) at hR1
  simp only [WMem, List.cons_append, List.nil_append]
  refine GO ?_
  refine st_call (read_spec t w1 exA1 1 (by omega) hR1 1 2) (by rfl) (by simp only [WMem]; (focus ((repeat (first | exact Spl.nil | (apply Spl.cons; (focus ((repeat (first | with_reducible exact Tk.here | apply Tk.there)); done))))); done))) (fun v Post hv => ?_)
  obtain ⟨w2, hR2, rfl, rfl⟩ := hv
  rw [ex2.1, ex2.2]
  change Rep w2 exA2 (1 + 1) at hR2
  simp only [WMem, List.cons_append, List.nil_append]
  refine GO ?_
  refine st_call (write_spec t w2 exA2 2 (by omega) hR2 1 ⟨#[113]⟩ (by decide)) (by rfl) (by simp only [WMem]; (focus ((repeat (first | exact Spl.nil | (apply Spl.cons; (focus ((repeat (first | with_reducible exact Tk.here | apply Tk.there)); done))))); done))) (fun v Post hv => ?_)
  obtain ⟨w3, hR3, rfl, rfl⟩ := hv
  rw [ex3]
  change Rep w3 exA3 (2 + 1) at hR3
  simp only [WMem, List.cons_append, List.nil_append]
  refine GO ?_
  refine st_call (open_spec t w3 exA3 3 (by omega) hR3 tA (by decide) 2) (by rfl) (by simp only [WMem]; (focus ((repeat (first | exact Spl.nil | (apply Spl.cons; (focus ((repeat (first | with_reducible exact Tk.here | apply Tk.there)); done))))); done))) (fun v Post hv => ?_)
  obtain ⟨w4, hR4, rfl, rfl⟩ := hv
  rw [ex4.1, ex4.2]
  change Rep w4 exA4 (3 + 1) at hR4
  simp only [WMem, List.cons_append, List.nil_append]
  refine GO ?_
  refine st_call (write_spec t w4 exA4 4 (by omega) hR4 2 ⟨#[110, 101, 119]⟩ (by decide)) (by rfl) (by simp only [WMem]; (focus ((repeat (first | exact Spl.nil | (apply Spl.cons; (focus ((repeat (first | with_reducible exact Tk.here | apply Tk.there)); done))))); done))) (fun v Post hv => ?_)
  obtain ⟨w5, hR5, rfl, rfl⟩ := hv
  rw [ex5]
  change Rep w5 exA5 (4 + 1) at hR5
  simp only [WMem, List.cons_append, List.nil_append]
  refine GO ?_
  refine st_call (left_spec (cellsAt p1 0 (fiEnc (tA, tXyz))) t w5 exA5 5 (by omega) hR5 ex_ok 2 (by decide) (.slice none 0 0) [] (.inl ⟨rfl, rfl, rfl⟩) (by simp)) (by rfl) (by simp only [WMem, List.cons_append, List.nil_append]; (focus ((repeat (first | exact Spl.nil | (apply Spl.cons; (focus ((repeat (first | with_reducible exact Tk.here | apply Tk.there)); done))))); done))) (fun v Post hv => ?_)
  obtain ⟨t2, x2, b2, rfl, hL2, hx2, rfl⟩ := hv
  simp only [WMem, List.cons_append, List.nil_append]
  refine GO ?_
  refine st_call (left_spec (cellsAt p1 0 (fiEnc (tA, tXyz))) t w5 exA5 5 (by omega) hR5 ex_ok 0 (by decide) (.slice none 0 0) [] (.inl ⟨rfl, rfl, rfl⟩) (by simp)) (by rfl) (by simp only [WMem, List.cons_append, List.nil_append]; (focus ((repeat (first | exact Spl.nil | (apply Spl.cons; (focus ((repeat (first | with_reducible exact Tk.here | apply Tk.there)); done))))); done))) (fun v Post hv => ?_)
  obtain ⟨t0, x0, b0, rfl, hL0, hx0, rfl⟩ := hv
  simp only [WMem, List.cons_append, List.nil_append]
  refine GO ?_
  refine st_call (files_spec t2 x2 b2 0 (by omega) hx2) (by rfl) (by simp only [WMem]; (focus ((repeat (first | exact Spl.nil | (apply Spl.cons; (focus ((repeat (first | with_reducible exact Tk.here | apply Tk.there)); done))))); done))) (fun v Post hv => ?_)
  obtain ⟨ys2, sp2, hs2, hv2, rfl⟩ := hv
  obtain rfl := ex_files hL2 hs2
  simp only [List.map_cons, List.map_nil, List.flatMap_cons, List.flatMap_nil, List.append_nil, ex_text2 hL2, List.length_cons, List.length_nil] at hv2 ⊢
  obtain ⟨f2b, f2o, f2c, rfl, _, _⟩ := hv2.some (by omega)
  simp only [WMem, List.cons_append, List.nil_append]
  refine GO ?_
  refine st_call (files_spec t0 x0 b0 0 (by omega) hx0) (by rfl) (by simp only [WMem]; (focus ((repeat (first | exact Spl.nil | (apply Spl.cons; (focus ((repeat (first | with_reducible exact Tk.here | apply Tk.there)); done))))); done))) (fun v Post hv => ?_)
  obtain ⟨ys0, sp0, hs0, hv0, rfl⟩ := hv
  obtain rfl := ex_files hL0 hs0
  simp only [List.map_cons, List.map_nil, List.flatMap_cons, List.flatMap_nil, List.append_nil, ex_text0 hL0, List.length_cons, List.length_nil] at hv0 ⊢
  obtain ⟨f0b, f0o, f0c, rfl, _, _⟩ := hv0.some (by omega)
  simp only [WMem, List.cons_append, List.nil_append]
  refine GO ?_
  refine st_call (trace_spec t w5 exA5 5 (by omega) hR5) (by rfl) (by simp only [WMem]; (focus ((repeat (first | exact Spl.nil | (apply Spl.cons; (focus ((repeat (first | with_reducible exact Tk.here | apply Tk.there)); done))))); done))) (fun v Post hv => ?_)
  obtain ⟨spt, hvt, rfl⟩ := hv
  obtain ⟨d1, hd1, hd2⟩ : ∃ d : De, exA5.trace[1]? = some d ∧ deEnc d = [.int .u8 2, vi 1, .string ⟨#[120, 121]⟩, .string nilTx, vi 2, vi 0] := by
    have := ex_trace.2
    cases h : exA5.trace[1]? with
    | none => rw [h] at this; cases this
    | some d =>
      rw [h] at this
      simp only [Option.map_some, Option.some.injEq, Prod.mk.injEq] at this
      obtain ⟨h1, h2, h3, h4, h5, h6⟩ := this
      exact ⟨d, rfl, by simp only [deEnc, h1, h2, h3, h4, h5, h6]⟩
  have hrt := hvt.rd
  obtain ⟨tb, to, tc, rfl, htc⟩ := hrt.at_ (fun d => rfl) hd1
  rw [ex_trace.1] at htc ⊢
  simp only [WMem, List.cons_append, List.nil_append]
  refine GO ?_
  refine st_bslice (out := chEnc ⟨7, 0, nilTx⟩ ++ chEnc ⟨5, 0, nilTx⟩) (by rfl) (by rfl) (fun p2 => ?_)
  have hrc : RdRow 3 (cellsAt p2 0 (chEnc ⟨7, 0, nilTx⟩ ++ chEnc ⟨5, 0, nilTx⟩)) (.slice (some ⟨p2, 0, none⟩) 2 2) [(⟨7, 0, nilTx⟩ : Ch), ⟨5, 0, nilTx⟩].length ([(⟨7, 0, nilTx⟩ : Ch), ⟨5, 0, nilTx⟩].flatMap chEnc) := .inr ⟨p2, 0, 2, rfl, Nat.le_refl _, rfl, fun x hx => hx⟩
  have hnc := new_spec (cellsAt p2 0 (chEnc ⟨7, 0, nilTx⟩ ++ chEnc ⟨5, 0, nilTx⟩)) (.slice (some ⟨p2, 0, none⟩) 2 2) (.slice none 0 0) [⟨7, 0, nilTx⟩, ⟨5, 0, nilTx⟩] [] hrc (.inl ⟨rfl, rfl, rfl⟩) (by simp) (by simp) (by intro p hp; cases hp)
  rw [ex_newC] at hnc
  refine st_call hnc (by rfl) (by (focus ((repeat (first | exact Spl.nil | (apply Spl.cons; (focus ((repeat (first | with_reducible exact Tk.here | apply Tk.there)); done))))); done))) (fun v Post hv => ?_)
  obtain ⟨tc2, c0, rfl, hC0, rfl⟩ := hv
  simp only [WMem, List.cons_append, List.nil_append]
  refine GO ?_
  refine st_call (show_spec tc2 c0 exC0 0 (by omega) hC0 ⟨#[49]⟩) (by rfl) (by simp only [WMem]; (focus ((repeat (first | exact Spl.nil | (apply Spl.cons; (focus ((repeat (first | with_reducible exact Tk.here | apply Tk.there)); done))))); done))) (fun v Post hv => ?_)
  obtain ⟨c1, hC1, rfl, rfl⟩ := hv
  rw [ex6.1]
  change Rep c1 exC1 (0 + 1) at hC1
  simp only [WMem, List.cons_append, List.nil_append]
  refine GO ?_
  refine st_call (show_spec tc2 c1 exC1 1 (by omega) hC1 ⟨#[50]⟩) (by rfl) (by simp only [WMem]; (focus ((repeat (first | exact Spl.nil | (apply Spl.cons; (focus ((repeat (first | with_reducible exact Tk.here | apply Tk.there)); done))))); done))) (fun v Post hv => ?_)
  obtain ⟨c2, hC2, rfl, rfl⟩ := hv
  rw [ex6.2.1]
  change Rep c2 exC2 (1 + 1) at hC2
  simp only [WMem, List.cons_append, List.nil_append]
  refine GO ?_
  refine st_call (dead_spec tc2 c2 exC2 2 hC2) (by rfl) (by simp only [WMem]; (focus ((repeat (first | exact Spl.nil | (apply Spl.cons; (focus ((repeat (first | with_reducible exact Tk.here | apply Tk.there)); done))))); done))) (fun v Post hv => ?_)
  obtain ⟨rfl, rfl⟩ := hv
  rw [ex6.2.2]
  simp only [WMem, List.cons_append, List.nil_append]
  have m2 : Atom.cell f2b (f2o + 1) (.string ⟨#[110, 101, 119]⟩) ∈ slA (.slice (some ⟨f2b, f2o, none⟩) (0 + 1) f2c) (fiEnc (tA, ⟨#[110, 101, 119]⟩)) sp2 := mem_cellsAt.2 ⟨1, _, rfl, rfl⟩
  have m0 : Atom.cell f0b (f0o + 1) (.string tXyz) ∈ slA (.slice (some ⟨f0b, f0o, none⟩) (0 + 1) f0c) (fiEnc (tA, tXyz)) sp0 := mem_cellsAt.2 ⟨1, _, rfl, rfl⟩
  refine GO ?_
  refine st_loadA (us := deEnc d1) (by rfl) (fun y hy => by simp only [List.flatten_cons, List.mem_append]; simp only [htc y hy, true_or, or_true]) (by rfl) ?_
  rw [hd2]
  refine GO ?_
  exact endQ_mk (Post := []) (.inr rfl) (.tmp (by rfl) .nil) ⟨rfl, rfl⟩ (by (first | with_reducible exact Imp.refl | with_reducible exact Imp.left | (focus ((try simp only [List.nil_append]); (repeat (first | exact Imp.nil | (apply Imp.cons; (focus ((repeat (first | with_reducible exact Tk.here | apply Tk.there)); done))))); done))))
end Go.Proofs.YtklkngccaemjdaaGreat

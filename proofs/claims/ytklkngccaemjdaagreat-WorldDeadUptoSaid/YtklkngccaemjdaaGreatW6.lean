/-
  The outside world: a write done on bytes.
-/
import Derived.Test.YtklkngccaemjdaaGreatWOc
import Derived.Test.YtklkngccaemjdaaGreatWN
set_option linter.unusedSimpArgs false
set_option linter.unusedVariables false
namespace Go.Proofs.YtklkngccaemjdaaGreat
open Go Go.V
set_option maxHeartbeats 3200000
set_option maxRecDepth 100000
set_option linter.unusedSimpArgs false
set_option linter.unusedVariables false

theorem on_spec (x : Wr) (bv : Value) (l : List UInt8) (sp : List Value) (hx : 0 ≤ x.at_ ∧ x.at_ + x.text.size ≤ 4194304) (hl : l.length ≤ 4194304) (hsl : IsSl 1 bv l.length (l.map u8v) sp) :
    Fun Tryz.prog 76 [.agg (wrEnc x).toArray, bv] [slA bv (l.map u8v) sp] (fun v Post => ∃ sp', IsSl 1 v (onL x l).length ((onL x l).map u8v) sp' ∧ Post = [slA v ((onL x l).map u8v) sp']) := by
  refine Fun.intro low76 (by simp [F76]) ?_
  simp only [wrEnc]
  obtain ⟨ba, bc, rfl⟩ := hsl.form
  refine GO ?_
  refine st_box (by rfl) (fun p => ?_)
  simp only [Value.cells]
  obtain ⟨at_, hat⟩ : ∃ a : Nat, x.at_ = a := ⟨x.at_.toNat, by omega⟩
  have hat2 : x.at_.toNat = at_ := by omega
  cases he : x.empty
  · refine GO ?_
    refine VC.meet (α := Value × List UInt8 × List Value) (fun s => [(1, s.1), (2, ptr0 p)]) (fun s => [cellsAt p 0 [vi x.seq, vi x.at_, .string x.text, .bool false], slA s.1 (s.2.1.map u8v) s.2.2])
      (fun s => s.2.1 = l ++ List.replicate (at_ + x.text.size - l.length) 0 ∧ IsSl 1 s.1 s.2.1.length (s.2.1.map u8v) s.2.2) ?_ ?_
    · by_cases hn : 0 < x.at_ + ↑x.text.size - ↑l.length
      · simp only [hn, decide_true]
        refine GO ?_
        have hm : x.at_ + ↑x.text.size - ↑l.length = ((at_ + x.text.size - l.length : Nat) : Int) := by omega
        rw [hm]
        have hz : zeroRow (at_ + x.text.size - l.length) [Value.int .u8 0] = (List.replicate (at_ + x.text.size - l.length) (0 : UInt8)).map u8v := by
          rw [List.map_replicate]
          refine List.eq_replicate_iff.2 ⟨by rw [zeroRow_length]; simp, fun v hv => ?_⟩
          obtain ⟨i, _, rfl⟩ := List.mem_map.1 hv
          simp only [List.length_cons, List.length_nil, Nat.zero_add, Nat.mod_one]
          rfl
        refine st_grow (by rfl) (by rfl) hsl (by (focus ((repeat (first | with_reducible exact Tk.here | apply Tk.there)); done))) (by rw [hz]; simp only [List.all_map]; exact List.all_eq_true.2 (fun _ _ => rfl)) (by rfl) (by decide) (by decide) (by omega) (fun sv' sp' hI => ?_)
        rw [hz, ← List.map_append] at hI ⊢
        refine GO ?_
        refine ⟨(sv', l ++ List.replicate (at_ + x.text.size - l.length) 0, sp'), ⟨rfl, ?_⟩, by (repeat (first | exact Sub.nil | (apply Sub.cons; rfl))), by (first | with_reducible exact Imp.refl | with_reducible exact Imp.left | (focus ((try simp only [List.nil_append]); (repeat (first | exact Imp.nil | (apply Imp.cons; (focus ((repeat (first | with_reducible exact Tk.here | apply Tk.there)); done))))); done)))⟩
        simpa using hI
      · simp only [hn, decide_false]
        refine GO ?_
        have h0 : at_ + x.text.size - l.length = 0 := by omega
        refine ⟨(.slice ba l.length bc, l, sp), ⟨by rw [h0]; simp, hsl⟩, by (repeat (first | exact Sub.nil | (apply Sub.cons; rfl))), by (first | with_reducible exact Imp.refl | with_reducible exact Imp.left | (focus ((try simp only [List.nil_append]); (repeat (first | exact Imp.nil | (apply Imp.cons; (focus ((repeat (first | with_reducible exact Tk.here | apply Tk.there)); done))))); done)))⟩
    · rintro ⟨sv, m, sp'⟩ ⟨rfl, hI⟩
      simp only at hI ⊢
      refine GO ?_
      refine st_slcAt (by rfl) hI (.num (k := .i64) (m := at_) (by rw [hat]; rfl)) (by simp; omega) (fun dv hdv => ?_)
      refine GO ?_
      refine st_copyS (by rfl) (by rfl) hI hdv (by simp; omega) (by (focus ((repeat (first | with_reducible exact Tk.here | apply Tk.there)); done))) ?_
      refine GO ?_
      have hres : onL x l = (l ++ List.replicate (at_ + x.text.size - l.length) 0).take at_ ++ x.text.data.toList ++ (l ++ List.replicate (at_ + x.text.size - l.length) 0).drop (at_ + x.text.size) := by
        simp only [onL, he, hat2, Bool.false_eq_true, ↓reduceIte]
      have hmap : (onL x l).map u8v = ((l ++ List.replicate (at_ + x.text.size - l.length) 0).map u8v).take at_ ++ sBytes x.text ++ ((l ++ List.replicate (at_ + x.text.size - l.length) 0).map u8v).drop (at_ + x.text.size) := by
        rw [hres, List.map_append, List.map_append, List.map_take, List.map_drop]; rfl
      have hlen : (onL x l).length = (l ++ List.replicate (at_ + x.text.size - l.length) 0).length := by
        rw [onL_length he, hat2]; simp only [List.length_append, List.length_replicate]
        show max _ _ = _
        omega
      rw [← hmap]
      refine endQ_mk (Post := [slA sv ((onL x l).map u8v) sp']) (.inr rfl) (.tmp (by rfl) .nil) ⟨sp', ?_, rfl⟩ (by (first | with_reducible exact Imp.refl | with_reducible exact Imp.left | (focus ((try simp only [List.nil_append]); (repeat (first | exact Imp.nil | (apply Imp.cons; (focus ((repeat (first | with_reducible exact Tk.here | apply Tk.there)); done))))); done))))
      rw [hlen]
      exact hI.other (by simp [hlen])
  · refine GO ?_
    have hres : onL x l = [] := by simp [onL, he]
    rw [hres]
    exact endQ_mk (Post := [slA (.slice none 0 0) (([] : List UInt8).map u8v) []]) (.inr rfl) (.tmp (by rfl) .nil) ⟨[], .nil, rfl⟩ (imp_nil _)
end Go.Proofs.YtklkngccaemjdaaGreat
namespace Go.Proofs.YtklkngccaemjdaaGreat
open Go Go.V
set_option maxHeartbeats 3200000
set_option maxRecDepth 100000
set_option linter.unusedSimpArgs false
set_option linter.unusedVariables false

theorem does_spec (f : Nat) (x : Wr) (nv bv wv : Value) (l : List UInt8) (ns : List Value) (ws : List Wr) (wsp : List Value) (hx : 0 ≤ x.at_ ∧ x.at_ + x.text.size ≤ 4194304) (hl : l.length ≤ 4194304)
    (hn : IsSl 1 nv l.length (l.map u8v) ns) (hw : IsSl 4 wv ws.length (ws.flatMap wrEnc) wsp) (hm : ws.length ≤ 1073741823) :
    Fun Tryz.prog 91 [ptr0 f, .agg (wrEnc x).toArray] [cellsAt f 0 [nv, bv, wv], slA nv (l.map u8v) ns, slA wv (ws.flatMap wrEnc) wsp]
      (fun _ Post => ∃ nv' ns' wv' wsp', IsSl 1 nv' (onL x l).length ((onL x l).map u8v) ns' ∧ IsSl 4 wv' (ws.length + 1) (ws.flatMap wrEnc ++ wrEnc x) wsp' ∧
        Post = [cellsAt f 0 [nv', bv, wv'], slA nv' ((onL x l).map u8v) ns', slA wv' (ws.flatMap wrEnc ++ wrEnc x) wsp']) := by
  refine Fun.intro low91 (by simp [F91]) ?_
  simp only [wrEnc]
  obtain ⟨na, nc, rfl⟩ := hn.form
  obtain ⟨wa, wc, rfl⟩ := hw.form
  refine GO ?_
  refine st_box (by rfl) (fun p => ?_)
  simp only [Value.cells]
  refine GO ?_
  refine st_call (on_spec x _ l ns hx hl hn) (by rfl) (by (focus ((repeat (first | exact Spl.nil | (apply Spl.cons; (focus ((repeat (first | with_reducible exact Tk.here | apply Tk.there)); done))))); done))) (fun v Post hv => ?_)
  obtain ⟨ns', hn', rfl⟩ := hv
  simp only [List.cons_append, List.nil_append]
  obtain ⟨na', nc', rfl⟩ := hn'.form
  refine GO ?_
  refine st_bslice (out := wrEnc x) (by rfl) (by rfl) (fun q3 => ?_)
  refine GO ?_
  refine st_append (k := ws.length) (m := 1) (xs := ws.flatMap wrEnc) (sp := wsp) (ys := wrEnc x) (by rfl) (by rfl) hw (by (focus ((repeat (first | with_reducible exact Tk.here | apply Tk.there)); done))) (by rfl) ?_ rfl (by rfl) (by rfl) (by decide) (by omega) (fun sv' sp' hsl' => ?_)
  · exact ⟨rfl, fun a ha => by simp only [List.flatten_cons, List.mem_append]; exact .inl ha⟩
  obtain ⟨a', c', hf'⟩ := hsl'.form
  subst hf'
  refine GO ?_
  exact endQ_mk (Post := [cellsAt f 0 [.slice na' (onL x l).length nc', bv, .slice a' (ws.length + 1) c'], slA (.slice na' (onL x l).length nc') ((onL x l).map u8v) ns', slA (.slice a' (ws.length + 1) c') (ws.flatMap wrEnc ++ wrEnc x) sp']) (.inl rfl) .nil ⟨_, ns', _, sp', hn', hsl', rfl⟩ (by (first | with_reducible exact Imp.refl | with_reducible exact Imp.left | (focus ((try simp only [List.nil_append]); (repeat (first | exact Imp.nil | (apply Imp.cons; (focus ((repeat (first | with_reducible exact Tk.here | apply Tk.there)); done))))); done))))
end Go.Proofs.YtklkngccaemjdaaGreat

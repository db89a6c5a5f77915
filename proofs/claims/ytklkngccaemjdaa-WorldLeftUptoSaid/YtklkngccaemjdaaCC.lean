/-
  The statement: what is left behind a crash.
-/
import Derived.Test.YtklkngccaemjdaaXU
import Derived.Test.YtklkngccaemjdaaWH
set_option linter.unusedSimpArgs false
set_option linter.unusedVariables false
namespace Go.Proofs.Ytklkngccaemjdaa
open Go Go.V Go.ChangeShapes Go.WideShapes Go.Deep
set_option maxRecDepth 100000
section
noncomputable def fn7 : Func := (Try.prog.funcs[7]?).getD default
theorem func7 : Try.prog.funcs[7]? = some fn7 := by kernel_rfl
theorem params7 : fn7.params = #[48, 39, 54, 40] := by kernel_rfl
theorem result7 : fn7.resultTypes = #[4] := by kernel_rfl

theorem rdActs {H : Type} {enc : TypeId × Value → H} {W : World} {base : Nat} {v : Value} {d : DataW H} {p : List MemPlace} {A : List Atom} (hv : Value.okWide Try.prog W .any base 54 v) (h : DataW.Trod enc Try.prog W 0 (fun _ => true) true 54 v d p) (hf : W.noneFrozen p) (hA : ∀ a : Atom, a.holds W → a ∈ A) :
    ∃ l : List ActW, RdRow 5 A v l.length (l.flatMap actEnc) ∧ l.length ≤ Rows.uptoBulk d ∧ ∀ s ∈ l, s.name.size ≤ Rows.uptoBulk d ∧ s.text.size ≤ Rows.uptoBulk d := by
  obtain ⟨rows, h1, h2, h3⟩ := rd_struct (scs := [.int .i64, .str, .str, .int .i64, .int .i64]) u54 u57 one57 cells57 types57 hv h hf hA
  obtain ⟨l, rfl⟩ := map_of (f := actEnc) (l := rows) (fun y hy => by
    obtain ⟨g1, g2⟩ := h2 y hy
    obtain ⟨a, b, c, e, f, rfl⟩ : ∃ a b c e f, y = [a, b, c, e, f] := by
      match y, g1 with
      | [a, b, c, e, f], _ => exact ⟨a, b, c, e, f, rfl⟩
    obtain ⟨k, rfl, _⟩ := g2 0 _ a rfl rfl
    obtain ⟨s, rfl, _⟩ := g2 1 _ b rfl rfl
    obtain ⟨u, rfl, _⟩ := g2 2 _ c rfl rfl
    obtain ⟨m, rfl, _⟩ := g2 3 _ e rfl rfl
    obtain ⟨n, rfl, _⟩ := g2 4 _ f rfl rfl
    exact ⟨⟨k, s, u, m, n⟩, rfl⟩)
  refine ⟨l, by simpa [List.flatMap_def] using h1, ?_⟩
  rcases h3 with ⟨rfl, hnil⟩ | ⟨sp, rfl⟩
  · have := congrArg List.length hnil; simp at this; subst this; simp
  · have := bulk_len (H := H) ((l.map actEnc).map fun r => .agg (r.map valD))
    simp only [List.length_map] at this
    simp only [Rows.uptoBulk]
    refine ⟨by omega, fun s hs => ?_⟩
    have h4 := bulk_mem (H := H) (d := .agg ((actEnc s).map valD)) (l := (l.map actEnc).map fun r => .agg (r.map valD)) (List.mem_map.2 ⟨_, List.mem_map.2 ⟨s, hs, rfl⟩, rfl⟩)
    have h5 := bulk_mem (H := H) (d := valD (.string s.name)) (l := (actEnc s).map valD) (by simp [actEnc])
    have h6 := bulk_mem (H := H) (d := valD (.string s.text)) (l := (actEnc s).map valD) (by simp [actEnc])
    have h7 := bulk_str (H := H) s.name
    have h8 := bulk_str (H := H) s.text
    simp only [Rows.uptoBulk] at h4
    constructor <;> omega

theorem left_contract (H : Type) (enc : TypeId × Value → H) (W : World) (base : Nat) (args : Array Value) (ds gs : List (DataW H)) (before : List MemPlace)
    (hval : ∀ (j : Nat) t v, fn7.params[j]? = some t → args[j]? = some v → Value.okWide Try.prog W .any base t v)
    (hW : DataW.Whole enc Try.prog fn7.params.toList Rows.worldLeftSpec.vars false W args.toList ds gs before) (hk : Rows.uptoSmall H (ds ++ gs) = true) :
    Calls Try.prog 7 args W fun e W' => ∃ v, e = .returned v ∧ Rows.worldLeftSpec.post enc Try.prog fn7 false true false false W args v W' := by
  have hW' := hW
  obtain ⟨p, q, hA, hV, rfl, hfz, _⟩ := hW
  rw [params7] at hA hval
  obtain ⟨v0, vs0, d0, ds0, p0, q0, hargs, rfl, rfl, h0, r0⟩ := trodAll_cons hA
  obtain ⟨v1, vs1, d1, ds1, p1, q1, rfl, rfl, rfl, h1, r1⟩ := trodAll_cons r0
  obtain ⟨v2, vs2, d2, ds2, p2, q2, rfl, rfl, rfl, h2, r2⟩ := trodAll_cons r1
  obtain ⟨v3, vs3, d3, ds3, p3, q3, rfl, rfl, rfl, h3, r3⟩ := trodAll_cons r2
  obtain ⟨rfl, rfl, rfl⟩ := trodAll_nil r3
  obtain rfl : args = #[v0, v1, v2, v3] := by cases args; simp_all
  obtain ⟨rfl, rfl⟩ := trodVars_none hV
  have hb := of_decide_eq_true hk
  simp only [List.append_nil, Rows.uptoBulkAll, Nat.add_zero] at hb
  refine glue (args := [v0, v1, v2, v3]) rfl result7 u4 rfl closedP (by rw [params7]; simp) hW' (fun A hA' => ?_)
  obtain ⟨cs, hc, hc1⟩ := rdChoices (hval 0 48 v0 rfl rfl) h0 (fun b o h => hfz b o (by simp [h])) hA'
  obtain ⟨fs, hf, hf1, hf2⟩ := rdFiles (hval 1 39 v1 rfl rfl) h1 (fun b o h => hfz b o (by simp [h])) hA'
  obtain ⟨l, hl, hl1, hl2⟩ := rdActs (hval 2 54 v2 rfl rfl) h2 (fun b o h => hfz b o (by simp [h])) hA'
  obtain ⟨which, rfl, hw, _⟩ := u64_form (hval 3 40 v3 rfl rfl) h3
  exact worldLeft_spec A v0 v1 v2 cs fs l which hc hf hl (by omega) (by omega) (fun p hp => ⟨by have := (hf2 p hp).1; omega, by have := (hf2 p hp).2; omega⟩) (by omega) (fun p hp => ⟨by have := (hl2 p hp).1; omega, by have := (hl2 p hp).2; omega⟩) hw

set_option maxRecDepth 100000 in
theorem left_lifted (os : Os) (started : os.Started) (H : Type) (enc : TypeId × Value → H) (F : Stop.Interp) :
    ReturnsInHanded {} Try.checked os 7 .any ((Rows.OpenSpec.upto Rows.worldLeftSpec).pre6 enc Try.prog fn7 Rows.worldLeftUptoRow.domain false) (((Rows.OpenSpec.upto Rows.worldLeftSpec).at F).post enc Try.prog fn7 false true false false) := by
  refine returnsInHanded_of_cond (C := Try.checked) (s := Rows.OpenSpec.upto Rows.worldLeftSpec) (k := Rows.uptoSmall) rfl own started (by kernel_rfl) func7
    (OpenSpec.witness (enc := enc) (C := Try.checked) (s := Rows.OpenSpec.upto Rows.worldLeftSpec) (k := Rows.uptoSmall) rfl false ⟨#[], #[.slice none 0 0, .slice none 0 0, .slice none 0 0, .int .u64 0], []⟩ 8 (by kernel_rfl) (by kernel_rfl) (by kernel_rfl)
      (x := ([.nil, .nil, .nil, .lit (.int .u64 0)], [], [])) (by kernel_rfl) rfl (by kernel_rfl)) ?_
  intro W base args ds gs before hval hW _ hk _
  exact left_contract H enc W base args ds gs before hval hW hk

theorem worldLeft_over : Rows.worldLeftUptoRow.holds Try.pinned (Rows.OpenSpec.upto Rows.worldLeftSpec) :=
  OpenClaim.holds_of_cond 7 fn7 rfl rfl rfl rfl rfl rfl rfl ⟨rfl, rfl, rfl, rfl, rfl⟩ rfl rfl rfl rfl rfl (by kernel_rfl) func7 (by kernel_rfl)
    (of_decide_eq_true (by kernel_rfl)) (by unfold Func.isWrapper; first | (rw [if_pos (by decide +kernel)]; kernel_rfl) | (rw [if_neg (by decide +kernel)]; exact ⟨rfl, rfl⟩))
    (fun os started H enc _ F => left_lifted os started H enc F)

theorem worldLeft_proved : Rows.WorldLeftUptoSaid := worldLeft_over
end
end Go.Proofs.Ytklkngccaemjdaa

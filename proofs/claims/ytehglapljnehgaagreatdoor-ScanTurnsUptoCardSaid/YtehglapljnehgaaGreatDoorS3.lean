/-
  What the chapter's examples fix, run.
-/
import Derived.Test.YtehglapljnehgaaGreatDoorS1
import Derived.Test.YtehglapljnehgaaGreatDoorS2
import Derived.Test.YtehglapljnehgaaGreatDoorV11
import Derived.KernelRfl
import Derived.Test.YtehglapljnehgaaGreatDoorProg
import Derived.Test.YtehglapljnehgaaGreatDoorCards
import Derived.Test.YtehglapljnehgaaGreatDoorTie
import Derived.OpenShut
import Derived.Deep.DeepHandedRow
import Derived.Deep.DeepWitnessRowRef
import Derived.Lib.LaidTab
import Derived.JoinedCond
import Derived.Lay
import Derived.Stop.LaidErr
import Derived.Shelf.Strconv.Itoa4
import Derived.Shelf.Lay
import Derived.Ground.NamesProg
import Derived.Lib.AppendIntMem
set_option linter.unusedSimpArgs false
set_option linter.unusedVariables false
namespace Go.Proofs.YtehglapljnehgaaGreatDoor
open Go Go.V
set_option maxRecDepth 100000
def tabA : List (Nat × FIR) := [(5, F5), (11, F11), (12, F12), (17, F17), (20, F20), (21, F21), (24, F24), (26, F26), (30, F30), (37, F37), (38, F38), (39, F39), (40, F40), (41, F41), (42, F42), (43, F43), (49, F49), (51, F51), (52, F52), (53, F53), (55, F55), (56, F56), (62, F62), (63, F63), (64, F64), (65, F65), (66, F66), (70, F70), (72, F72), (73, F73), (74, F74), (75, F75), (76, F76), (84, F84), (86, F86), (87, F87), (88, F88), (95, F95), (101, F101)]
theorem tabA_ok : TabOk Tryz.prog tabA := .cons low5 <| .cons low11 <| .cons low12 <| .cons low17 <| .cons low20 <| .cons low21 <| .cons low24 <| .cons low26 <| .cons low30 <| .cons low37 <| .cons low38 <| .cons low39 <| .cons low40 <| .cons low41 <| .cons low42 <| .cons low43 <| .cons low49 <| .cons low51 <| .cons low52 <| .cons low53 <| .cons low55 <| .cons low56 <| .cons low62 <| .cons low63 <| .cons low64 <| .cons low65 <| .cons low66 <| .cons low70 <| .cons low72 <| .cons low73 <| .cons low74 <| .cons low75 <| .cons low76 <| .cons low84 <| .cons low86 <| .cons low87 <| .cons low88 <| .cons low95 <| .cons low101 .nil
def orcA (f : Nat) (args : List Value) : Option Value := match Nat.beq f 83 with
 | true => match args with
  | [.string s, .int .u8 (.ofNat c)] => match Nat.blt c 256 with | true => some (vi (ixN (bytesN s) c)) | false => none
  | _ => none
 | false => match Nat.beq f 72 with
 | true => match args with
  | [.string s, .int .i64 (.ofNat a), .int .i64 (.ofNat b)] => match (Nat.beq a 10 && Nat.beq b 64) && (decide (bytesN s ≠ []) && ((bytesN s).all digB && (Nat.ble s.size 19 && Nat.ble (numL (bytesN s)) 9223372036854775807))) with
    | true => some (.tuple #[vi (numL (bytesN s)), .nilIface])
    | false => none
  | _ => none
 | false => match Nat.beq f 21 with
 | true => match args with
  | [.string s] => match Nat.ble s.size 140737488355328 with | true => some (vi (arityS s)) | false => none
  | _ => none
 | false => none
theorem orcA_ok (A : List Atom) (hE : ErA A) : OrcOk A Tryz.prog orcA := by
  intro f args v h
  unfold orcA at h
  split at h
  · rename_i hf
    obtain rfl := beqT hf
    split at h
    case h_2 => cases h
    rename_i s c
    split at h
    case h_2 => cases h
    rename_i hc
    cases h
    refine ⟨rfl, fun σ => ?_⟩
    simp only [List.map_cons, List.map_nil, rn_string, rn_int]
    exact (ixb_spec s c (bltT hc)).conv (R := [A]) (by simp [Spl]) (by rintro u Post ⟨rfl, rfl⟩; exact ⟨_, ⟨rfl, rfl⟩, Imp.refl _⟩)
  split at h
  · rename_i hf
    obtain rfl := beqT hf
    split at h
    case h_2 => cases h
    rename_i s a b
    split at h
    case h_2 => cases h
    rename_i hc
    simp only [Bool.and_eq_true, decide_eq_true_eq] at hc
    obtain ⟨⟨h1, h2⟩, h3, h4, h5, h6⟩ := hc
    obtain rfl := beqT h1
    obtain rfl := beqT h2
    cases h
    refine ⟨rfl, fun σ => ?_⟩
    simp only [List.map_cons, List.map_nil, rn_string, rn_int]
    refine (parseInt_spec A hE s h3 h4 (bleT h5)).mono ?_
    rintro u Post ⟨⟨_, rfl⟩ | ⟨hlt, _⟩, rfl⟩
    · exact ⟨rfl, rfl⟩
    · have := bleT h6; omega
  split at h
  · rename_i hf
    obtain rfl := beqT hf
    split at h
    case h_2 => cases h
    rename_i s
    split at h
    case h_2 => cases h
    rename_i hc
    cases h
    refine ⟨rfl, fun σ => ?_⟩
    simp only [List.map_cons, List.map_nil, rn_string]
    exact (arity_spec s (bleT hc)).conv (R := [A]) (by simp [Spl]) (by rintro u Post ⟨rfl, rfl⟩; exact ⟨_, ⟨rfl, rfl⟩, Imp.refl _⟩)
  · cases h
theorem awake_spec (A : List Atom) (hE : ErA A) : Fun Tryz.prog 11 [] [A] (fun v Post => v = .bool true ∧ Post = [A]) :=
  run_at (N0 := 100000) (L := 100000) (k := 100) tabA_ok (orcA_ok A hE) rfl rfl (by kernel_rfl)
set_option maxHeartbeats 3200000
open Go Go.V Go.ChangeShapes Go.WideShapes Go.Deep
section
variable {H : Type} {enc : TypeId × Value → H}
theorem u4 : Tryz.prog.underlying 4 = some .bool := by kernel_rfl
theorem u9 : Tryz.prog.underlying 9 = some .string := by kernel_rfl
theorem u40 : Tryz.prog.underlying 40 = some (.int .u64) := by kernel_rfl
noncomputable def msE : Array (String × TypeId) := match Tryz.prog.underlying 96 with | some (.interface ms) => ms | _ => #[]
theorem uE : Tryz.prog.underlying 96 = some (.interface msE) := by kernel_rfl
theorem closedS : closedB Tryz.prog [4, 9, 40] = true := by kernel_rfl
theorem closedP : Closed Tryz.prog (· ∈ [4, 9, 40]) := closed_of closedS
theorem own : ownKnob Tryz.prog.godebug = none := by kernel_rfl
theorem str_form {W : World} {base : Nat} {v : Value} {d : DataW H} {p : List MemPlace} (hv : Value.okWide Tryz.prog W .any base 9 v) (h : DataW.Trod enc Tryz.prog W 0 (fun _ => true) true 9 v d p) (hb : Rows.uptoBulk d ≤ 1048576) : ∃ s : ByteArray, v = .string s ∧ s.size ≤ 1048576 := by
  obtain ⟨n, hn⟩ := h
  have hs : ∃ s, v = .string s := by
    cases v <;> simp only [Value.okWide, u9, Cell.okWide, Cell.ok] at hv
    exact ⟨_, rfl⟩
  obtain ⟨s, rfl⟩ := hs
  obtain ⟨t, hz, hx, hwf⟩ := DataW.trod_string u9 hn
  simp only [Value.cells, List.cons.injEq, Value.string.injEq, and_true] at hz
  subst hz
  refine ⟨s, rfl, ?_⟩
  have hd : d = .lit (.string s.data.toList) := congrArg Prod.fst hx
  rw [hd] at hb
  simp only [Rows.uptoBulk, Array.length_toList] at hb
  have : s.size = s.data.size := rfl
  omega
theorem u64_form {W : World} {base : Nat} {v : Value} {d : DataW H} {p : List MemPlace} (hv : Value.okWide Tryz.prog W .any base 40 v) (h : DataW.Trod enc Tryz.prog W 0 (fun _ => true) true 40 v d p) : ∃ n : Nat, v = .int .u64 n ∧ n < 18446744073709551616 := by
  obtain ⟨n, hn⟩ := h
  have hs : ∃ k z, v = .int k z := by
    cases v <;> simp only [Value.okWide, u40, Cell.okWide, Cell.ok] at hv
    exact ⟨_, _, rfl⟩
  obtain ⟨k, z, rfl⟩ := hs
  obtain ⟨m, hz, hx, hwf⟩ := DataW.trod_int u40 hn
  simp only [Value.cells, List.cons.injEq, Value.int.injEq, and_true] at hz
  obtain ⟨rfl, rfl⟩ := hz
  simp [Lit.wf] at hwf
  have e1 : IntKind.u64.min = 0 := by decide
  have e2 : IntKind.u64.max = 18446744073709551615 := by decide
  exact ⟨z.toNat, by rw [Int.toNat_of_nonneg (by omega)], by omega⟩
theorem witZ {C : Checked} {os : Os} {f : FuncId} {fn : Func} {s : OpenSpec} {conds : List PathCond} {apart : Bool} {laid : List (String × DataW Unit)} (w0 : World) (args : Array Value) (hos : w0.os = os)
    (hs : (w0.forCall (fun _ _ => 0) ⟨#[], args, []⟩).Shaped C.prog) (hok : Input.okWideB C.prog (w0.forCall (fun _ _ => 0) ⟨#[], args, []⟩) f ⟨#[], args, []⟩ = true)
    (hrow : s.preRow enc C.prog fn conds apart laid (w0.forCall (fun _ _ => 0) ⟨#[], args, []⟩).memory args) :
    ∃ (w : World) (tape : Tape) (i : Input), w.os = os ∧ (w.forCall tape i).Shaped C.prog ∧ i.vars = [] ∧ Input.okWide C.prog (w.forCall tape i) .any w.heap.size f i ∧
      s.preRow enc C.prog fn conds apart laid (w.forCall tape i).memory i.args ∧ ({ modest := false } : Assume).holds C.prog (lone (Frame.enter C.prog f i.args .normal) [] (w.forCall tape i)) :=
  ⟨w0, fun _ _ => 0, ⟨#[], args, []⟩, hos, hs, (Input.okWide_of_okWideB (base := 0) hok).1, (Input.okWide_of_okWideB hok).2, hrow, by
    simp only [Assume.holds]
    exact ⟨by simp, by simp, fun _ => Modest.zero, by simp, by simp⟩⟩
theorem gErr : Tryz.prog.globalNamed "strconv.ErrRange" = some 5 := by kernel_rfl
theorem gErrT : (Tryz.prog.globals[5]?).map (·.type) = some 96 := by kernel_rfl
theorem gRen : Tryz.sl174_ren.g 16 = 5 := by kernel_rfl
theorem err_in {W : World} {d : DataW Unit} {r : List (String × DataW Unit)} (h : laidMet Tryz.prog (("strconv.ErrRange", d) :: r) W) (hd : ∃ nm e, d = .iface nm e) {A : List Atom} (hA : ∀ a : Atom, a.holds W → a ∈ A) : ErA A := by
  obtain ⟨nm, e, rfl⟩ := hd
  obtain ⟨ps, ⟨g0, t0, cs0, f0, p0, q0, hg0, ht0, hv0, hd0, _, e0⟩, _, hrows⟩ := h
  obtain rfl := Option.some.inj (gErr.symm.trans hg0)
  obtain rfl := Option.some.inj (gErrT.symm.trans ht0)
  subst e0
  have hcs : ∃ te pe, cs0 = #[.iface te pe] := by
    obtain ⟨_, te, pe, he, _, _⟩ := iface_of_trod uE hd0
    exact ⟨te, pe, by rw [← he]⟩
  obtain ⟨te, pe, rfl⟩ := hcs
  obtain ⟨⟨c, t, hc⟩, _⟩ := hrows 5 0 (by simp [MemPlace.row])
  refine ⟨.iface te pe, ?_, .inr ⟨te, pe, rfl⟩⟩
  rw [gRen]
  have hcell : W.cell? ⟨5, 0, none⟩ = some (.iface te pe) := by simpa using World.var?_cell gErr hv0 0
  refine hA _ (holds_cell hcell ?_)
  unfold World.frozen?
  rw [hc]
  simp
end
def lessL : List Nat → List Nat → Bool
  | _, [] => false
  | [], _ :: _ => true
  | a :: x, b :: y => decide (a < b) || (decide (a = b) && lessL x y)
def numF (m : Nat) (l : List Nat) : Nat := l.foldl (fun n c => n * 10 + (c - 48)) m
theorem numF_cons (m c : Nat) (l : List Nat) : numF m (c :: l) = numF (m * 10 + (c - 48)) l := by unfold numF; exact List.foldl_cons ..
theorem numL_F (l : List Nat) : numL l = numF 0 l := by unfold numF numL; exact Eq.refl _
theorem fold_lt : ∀ (a b : List Nat) (m n : Nat), a.length = b.length → a.all digB = true → m < n → numF m a < numF n b := by
  intro a
  induction a with
  | nil => intro b m n h _ hm; cases b with
    | nil => exact hm
    | cons => cases h
  | cons c a ih =>
    intro b m n h hd hm
    cases b with
    | nil => cases h
    | cons d b =>
      simp only [List.all_cons, Bool.and_eq_true] at hd
      have hc := hd.1
      simp only [digB, Bool.and_eq_true, decide_eq_true_eq] at hc
      rw [numF_cons, numF_cons]
      exact ih b _ _ (by simpa using h) hd.2 (by omega)
theorem less_num : ∀ (a b : List Nat) (m : Nat), a.length = b.length → a.all digB = true → b.all digB = true → lessL a b = decide (numF m a < numF m b) ∧ (numF m a = numF m b → a = b) := by
  intro a
  induction a with
  | nil => intro b m h _ _; cases b with
    | nil => simp [lessL]
    | cons => cases h
  | cons c a ih =>
    intro b m h hd hd2
    cases b with
    | nil => cases h
    | cons d b =>
      simp only [List.all_cons, Bool.and_eq_true] at hd hd2
      have hc := hd.1
      have hdd := hd2.1
      simp only [digB, Bool.and_eq_true, decide_eq_true_eq] at hc hdd
      have hl : a.length = b.length := by simpa using h
      rw [numF_cons, numF_cons]
      simp only [lessL]
      rcases Nat.lt_trichotomy c d with h1 | h1 | h1
      · have := fold_lt a b (m * 10 + (c - 48)) (m * 10 + (d - 48)) hl hd.2 (by omega)
        rw [decide_eq_true h1, decide_eq_true this]; exact ⟨rfl, fun e => by omega⟩
      · subst h1
        obtain ⟨i1, i2⟩ := ih b (m * 10 + (c - 48)) hl hd.2 hd2.2
        rw [i1]; exact ⟨by simp, fun e => by rw [i2 e]⟩
      · have := fold_lt b a (m * 10 + (d - 48)) (m * 10 + (c - 48)) hl.symm hd2.2 (by omega)
        rw [decide_eq_false (show ¬ c < d by omega), decide_eq_false (show ¬ c = d by omega), decide_eq_false (show ¬ numF (m * 10 + (c - 48)) a < numF (m * 10 + (d - 48)) b by omega)]; exact ⟨rfl, fun e => by omega⟩
open Go Go.V Go.Shelf
shelf_lay LaysM.n173 Nm 173 at Tryz as Tryz.sl173
theorem gPow : Tryz.prog.globalNamed "internal/strconv.uint64pow10" = some 0 := by kernel_rfl
def PwA (A : List Atom) : Prop := Atom.row 0 20 ∈ A ∧ ∀ i, i < 20 → Atom.cell 0 i (.int .u64 ((10 ^ i : Nat) : Int)) ∈ A
theorem pw_tab {A F : List Atom} {w : World} (hP : PwA A) (hs : Sat w (A ++ F)) : Lib.TabIs Tryz.prog w "internal/strconv.uint64pow10" .u64 Lib.pow10Tab := by
  obtain ⟨c, t, lo, hi, hb, hn⟩ := hs.holds _ (List.mem_append_left F hP.1)
  unfold Lib.TabIs World.var?
  rw [gPow]
  simp only [Option.bind_some, hb, Option.some.injEq]
  have hl : Lib.pow10Tab.length = 20 := by simp [Lib.pow10Tab]
  apply Array.ext
  · simp [hn, hl]
  intro i h1 h2
  have hi20 : i < 20 := by omega
  obtain ⟨c', t', lo', hi', hb', hc', _⟩ := hs.holds _ (List.mem_append_left F (hP.2 i hi20))
  rw [hb] at hb'
  cases hb'
  rw [Array.getElem?_eq_getElem h1] at hc'
  rw [Option.some.inj hc']
  simp [Lib.pow10Tab]
theorem fmt_spec (A : List Atom) (hP : PwA A) (n : Int) (h0 : -9223372036854775808 ≤ n) (h1 : n ≤ 9223372036854775807) :
    Fun Tryz.prog 50 [vi n, vi 10] [A] (fun v Post => v = .string ⟨(Lib.itoa n).toArray⟩ ∧ Post = [A]) := by
  refine Fun.of_calls2 (Q := fun v => v = .string ⟨(Lib.itoa n).toArray⟩) (by kernel_rfl) (fun w F hs => ?_)
  refine (Any.strconv_FormatInt_10 Tryz.sl173 n h0 h1 w (pw_tab hP hs)).mono ?_
  rintro e w' ⟨rfl, k, os, rfl⟩
  exact ⟨_, rfl, rfl, Lib.below_grow _ w (Nat.le_refl _) k os⟩
def decL (u : Nat) : List Nat := (Lib.decDigits u).map UInt8.toNat
theorem u8_of {k : Nat} (h : k < 10) : (UInt8.ofNat (48 + k)).toNat = 48 + k := by
  show (48 + k) % 256 = 48 + k
  omega
theorem decL_small {u : Nat} (h : u < 10) : decL u = [48 + u] := by
  unfold decL; rw [Lib.decDigits, dif_pos h]; simp only [List.map_cons, List.map_nil, u8_of h]
theorem decL_big {u : Nat} (h : ¬ u < 10) : decL u = decL (u / 10) ++ [48 + u % 10] := by
  unfold decL; rw [Lib.decDigits, dif_neg h]; simp only [List.map_append, List.map_cons, List.map_nil, u8_of (Nat.mod_lt u (by omega : 0 < 10))]
theorem numF_append (m : Nat) (l r : List Nat) : numF m (l ++ r) = numF (numF m l) r := by unfold numF; exact List.foldl_append ..
theorem decL_props (u : Nat) : (decL u).all digB = true ∧ numF 0 (decL u) = u ∧ decL u ≠ [] ∧ (0 < u → (decL u).head? ≠ some 48) := by
  induction u using Nat.strongRecOn with
  | _ u ih =>
    by_cases h : u < 10
    · rw [decL_small h]
      refine ⟨?_, ?_, by simp, fun h0 => ?_⟩
      · simp only [List.all_cons, List.all_nil, Bool.and_true, digB, Bool.and_eq_true, decide_eq_true_eq]; omega
      · rw [numF_cons]; simp [numF]
      · simp only [List.head?_cons, ne_eq, Option.some.injEq]; omega
    · rw [decL_big h]
      obtain ⟨i1, i2, i3, i4⟩ := ih (u / 10) (by omega)
      refine ⟨?_, ?_, by simp, fun h0 => ?_⟩
      · rw [List.all_append, i1]
        simp only [List.all_cons, List.all_nil, Bool.and_true, Bool.true_and, digB, Bool.and_eq_true, decide_eq_true_eq]
        have := Nat.mod_lt u (by omega : 0 < 10)
        omega
      · rw [numF_append, i2, numF_cons]
        have : numF (u / 10 * 10 + (48 + u % 10 - 48)) [] = u / 10 * 10 + (48 + u % 10 - 48) := rfl
        rw [this]; omega
      · cases hd : decL (u / 10) with
        | nil => exact absurd hd i3
        | cons c r => rw [hd] at i4; simpa using i4 (by omega)
def canL (t : List Nat) : Prop := t ≠ [] ∧ t.all digB = true ∧ (t.head? = some 48 → t = [48])
theorem canL_plain {l : List Nat} (h0 : l ≠ []) (hd : l.all digB = true) : canL (plainL l) := by
  rw [plainL_eq]
  split
  · exact ⟨by simp, by decide, fun _ => rfl⟩
  · rename_i h
    have hne : l.dropWhile (fun c => decide (c = 48)) ≠ [] := fun e => h ⟨e, h0⟩
    refine ⟨hne, ?_, fun hh => ?_⟩
    · rw [List.all_eq_true] at hd ⊢
      intro x hx
      exact hd x ((List.dropWhile_sublist _).subset hx)
    · exfalso
      have := List.head?_dropWhile_not (fun c => decide (c = 48)) l
      rw [hh] at this
      simp at this
theorem canL_plainL {t : List Nat} (h : canL t) : plainL t = t := by
  rw [plainL_eq]
  obtain ⟨h0, _, h2⟩ := h
  cases t with
  | nil => exact absurd rfl h0
  | cons c r =>
    by_cases hc : c = 48
    · have := h2 (by rw [hc]; rfl)
      rw [this]; decide
    · rw [if_neg]
      · simp [List.dropWhile, hc]
      · simp [List.dropWhile, hc]
theorem pow_le_num : ∀ (r : List Nat) (m : Nat), 1 ≤ m → 10 ^ r.length ≤ numF m r := by
  intro r
  induction r with
  | nil => intro m h; simpa [numF] using h
  | cons c r ih =>
    intro m h
    rw [numF_cons, List.length_cons]
    have : 10 ^ r.length * 10 ≤ numF (m * 10 + (c - 48)) r := by
      have key : ∀ (r : List Nat) (m k : Nat), k ≤ m → 10 ^ r.length * k ≤ numF m r := by
        intro r
        induction r with
        | nil => intro m k hk; simpa [numF] using hk
        | cons c r ih2 =>
          intro m k hk
          rw [numF_cons, List.length_cons, Nat.pow_succ, Nat.mul_assoc]
          exact ih2 _ _ (by omega)
      exact key r _ 10 (by omega)
    rw [Nat.pow_succ]; exact this
theorem num_lt_pow : ∀ (r : List Nat) (m : Nat), r.all digB = true → numF m r < (m + 1) * 10 ^ r.length := by
  intro r
  induction r with
  | nil => intro m _; simp [numF]
  | cons c r ih =>
    intro m hd
    simp only [List.all_cons, Bool.and_eq_true] at hd
    have hc := hd.1
    simp only [digB, Bool.and_eq_true, decide_eq_true_eq] at hc
    rw [numF_cons, List.length_cons, Nat.pow_succ]
    refine Nat.lt_of_lt_of_le (ih _ hd.2) ?_
    rw [Nat.mul_comm (10 ^ r.length) 10, ← Nat.mul_assoc]
    exact Nat.mul_le_mul_right _ (by omega)
theorem canL_uniq {a b : List Nat} (ha : canL a) (hb : canL b) (h : numF 0 a = numF 0 b) : a = b := by
  have low : ∀ {a : List Nat}, canL a → a ≠ [48] → 10 ^ (a.length - 1) ≤ numF 0 a := by
    intro a ⟨h0, h1, h2⟩ h3
    cases a with
    | nil => exact absurd rfl h0
    | cons c r =>
      have hc : c ≠ 48 := fun e => h3 (h2 (by rw [e]; rfl))
      simp only [List.all_cons, Bool.and_eq_true, digB, decide_eq_true_eq] at h1
      rw [numF_cons]
      exact pow_le_num r _ (by omega)
  have up : ∀ {a : List Nat}, canL a → numF 0 a < 10 ^ a.length := by
    intro a ⟨_, h1, _⟩
    have := num_lt_pow a 0 h1
    simpa using this
  have zero : numF 0 [48] = 0 := rfl
  have pos : ∀ {a : List Nat}, canL a → a ≠ [48] → 0 < numF 0 a := fun ha h => Nat.lt_of_lt_of_le (Nat.pow_pos (by omega)) (low ha h)
  by_cases e1 : a = [48]
  · by_cases e2 : b = [48]
    · rw [e1, e2]
    · have := pos hb e2; rw [← h, e1, zero] at this; omega
  · by_cases e2 : b = [48]
    · have := pos ha e1; rw [h, e2, zero] at this; omega
    · have hl : a.length = b.length := by
        have l1 := low ha e1; have l2 := low hb e2; have u1 := up ha; have u2 := up hb
        rw [h] at l1 u1
        have p1 : 0 < a.length := List.length_pos_iff.2 ha.1
        have p2 : 0 < b.length := List.length_pos_iff.2 hb.1
        rcases Nat.lt_trichotomy a.length b.length with g | g | g
        · have := Nat.pow_le_pow_right (n := 10) (by omega) (show a.length ≤ b.length - 1 by omega); omega
        · exact g
        · have := Nat.pow_le_pow_right (n := 10) (by omega) (show b.length ≤ a.length - 1 by omega); omega
      exact (less_num a b 0 hl ha.2.1 hb.2.1).2 h
theorem canL_dec (u : Nat) : canL (decL u) := by
  obtain ⟨h1, h2, h3, h4⟩ := decL_props u
  refine ⟨h3, h1, fun h => ?_⟩
  rcases Nat.eq_zero_or_pos u with rfl | hu
  · rw [decL_small (by omega)]
  · exact absurd h (h4 hu)
theorem decL_of {t : List Nat} (h : canL t) : decL (numL t) = t := by
  refine canL_uniq (canL_dec _) h ?_
  rw [(decL_props _).2.1, numL_F]
theorem itoa_bytes (n : Int) : bytesN ⟨(Lib.itoa n).toArray⟩ = if n < 0 then 45 :: decL n.natAbs else decL n.toNat := by
  unfold Lib.itoa bytesN decL
  split <;> simp
def F25 : FIR := laid (X := ⟨62, [.tmp 4],
 (qS [qB 2 43 0,qB 3 43 1,qz 4 false] [2,3]
 (.seq (qS [qf 7 0 2,ql 8 7,qf 9 0 3,ql 10 9,qb 11 .neq 8 10,qm 12 11,qu 12 (qf 13 1 2),qu 12 (ql 14 13),qu 12 (qf 15 1 3),qu 12 (ql 16 15),
  qu 12 (qb 17 .neq 14 16),qr 18 12 17,qm 19 18,qu 19 (qf 20 2 2),qu 19 (ql 21 20),qu 19 (qf 22 2 3),qu 19 (ql 23 22),qu 19 (qb 24 .neq 21 23),
  qr 25 19 24,qm 26 25,qu 26 (qf 27 3 2),qu 26 (ql 28 27),qu 26 (qf 29 3 3),qu 26 (ql 30 29),qu 26 (qb 31 .neq 28 30),qr 32 26 31,qm 33 32,
  qu 33 (qf 34 4 2),qu 33 (ql 35 34),qu 33 (qL 36 35),qu 33 (qf 37 4 3),qu 33 (ql 38 37),qu 33 (qL 39 38),qu 33 (qb 40 .neq 36 39),qr 41 33 40] [2,3,41]
 (qC 41 (qS [qz 4 false] [4]
 .ret)
 .skip))
 (.seq (qS [qk 5 0] [2,3,5]
 (.block 0 (.loop (.seq (qS [qm 42 5,qf 43 4 2,ql 44 43,qL 45 44,qb 46 .lss 42 45] [2,3,5,46]
 (qC 46 .skip
 (.exit 0)))
 (.seq (.block 1 (.seq (qD [qf 49 4 2,ql 50 49,qm 51 5,qi 52 5 50 51,qN 53 5 52,qf 54 4 3,ql 55 54,qm 56 5,qi 57 5 55 56,qN 58 5 57,qx 59 25 [53,58],qm 6 59] [[0,1,2,3,4,5,6,7,8,9,10,11]] [2,3,5,6])
 (qS [qm 60 6,qo 61 (.un .not (.tmp 60))] [2,3,5,61]
 (qC 61 (qS [qz 4 false] [4]
 .ret)
 .skip))))
 (.reg [qm 47 5,qc 48 .add 47 1,qm 5 48] [2,3,5]))))))
 (qS [qz 4 true] [4]
 .ret))))⟩)
theorem n25 : F25.n = 62 := rfl
theorem low25 : lowF Tryz.prog (kpO F25) (assoc [(6,[[0,1,2,3,4,5,6,7,8,9,10,11]])]) 25 = some F25 := by kernel_rfl
def F6 : FIR := laid (X := ⟨106, [.tmp 4],
 (qS [qz 4 false] [0,1]
 (qS [qx 20 11 [],qm 5 20] [0,1,5]
 (.seq (qS [qm 21 5,qo 22 (.un .not (.tmp 21)),qm 23 22,qu 23 (qm 24 0),qu 23 (qo 25 (.lenS (.tmp 24))),qu 23 (qc 26 .gtr 25 4194304),
  qr 27 23 26] [0,1,5,27]
 (qC 27 (qS [qm 28 5,qm 4 28] [4]
 .ret)
 .skip))
 (qS [qm 29 1,
  qo 30 (.build [(Value.int IntKind.u8 0), (Value.int IntKind.i64 0), (Value.int IntKind.u64 0), (Value.string ⟨#[]⟩), (Value.slice none 0 0)] [(0, 1, (.const (Value.int IntKind.u8 6))), (2, 1, (.tmp 29))]),
  qo 6 (.alloc 43 [(Value.int IntKind.u8 0), (Value.int IntKind.i64 0), (Value.int IntKind.u64 0), (Value.string ⟨#[]⟩), (Value.slice none 0 0)]),
  qs 5 6 30] [0,6]
 (qS [qN 32 5 6,qx 33 24 [32],qm 31 33,qe 34 31 0,qe 35 31 1,
  qo 7 (.alloc 43 [(Value.int IntKind.u8 0), (Value.int IntKind.i64 0), (Value.int IntKind.u64 0), (Value.string ⟨#[]⟩), (Value.slice none 0 0)]),
  qs 5 7 34,qm 8 35] [0,6,7,8]
 (qS [qN 37 5 7,qx 38 24 [37],qm 36 38,qe 39 36 0,qe 40 36 1,
  qo 9 (.alloc 43 [(Value.int IntKind.u8 0), (Value.int IntKind.i64 0), (Value.int IntKind.u64 0), (Value.string ⟨#[]⟩), (Value.slice none 0 0)]),
  qs 5 9 39,qm 10 40] [0,6,7,8,9,10]
 (qS [qN 41 5 6,qN 42 5 9,qx 43 25 [41,42],qm 11 43] [0,6,7,8,10,11]
 (.seq (qS [qm 44 8,qo 45 (.un .not (.tmp 44)),qm 46 45,qu 46 (qm 47 10),qu 46 (qo 48 (.un .not (.tmp 47))),qr 49 46 48,qm 50 49,
  qu 50 (qm 51 11),qu 50 (qo 52 (.un .not (.tmp 51))),qr 53 50 52,qm 54 53,qu 54 (qf 55 2 7),qu 54 (ql 56 55),qu 54 (qf 57 2 6),qu 54 (ql 58 57),
  qu 54 (qb 59 .eql 56 58),qr 60 54 59] [0,60]
 (qC 60 (qS [qz 4 false] [4]
 .ret)
 .skip))
 (qS [qm 62 0,qx 63 26 [62],qm 61 63,qe 64 61 0,qe 65 61 1,
  qo 12 (.alloc 43 [(Value.int IntKind.u8 0), (Value.int IntKind.i64 0), (Value.int IntKind.u64 0), (Value.string ⟨#[]⟩), (Value.slice none 0 0)]),
  qs 5 12 64,qm 13 65] [12,13]
 (.seq (qS [qm 66 13,qc 67 .neq 66 0] [12,67]
 (qC 67 (qS [qf 68 0 12,ql 69 68,qo 70 (.bin .eql (.tmp 69) (.const (Value.int IntKind.u8 0))),qm 4 70] [4]
 .ret)
 .skip))
 (qS [qN 72 5 12,qx 73 24 [72],qm 71 73,qe 74 71 0,qe 75 71 1,
  qo 14 (.alloc 43 [(Value.int IntKind.u8 0), (Value.int IntKind.i64 0), (Value.int IntKind.u64 0), (Value.string ⟨#[]⟩), (Value.slice none 0 0)]),
  qs 5 14 74,qm 15 75] [12,14,15]
 (qS [qN 77 5 14,qx 78 24 [77],qm 76 78,qe 79 76 0,qe 80 76 1,
  qo 16 (.alloc 43 [(Value.int IntKind.u8 0), (Value.int IntKind.i64 0), (Value.int IntKind.u64 0), (Value.string ⟨#[]⟩), (Value.slice none 0 0)]),
  qs 5 16 79,qm 17 80] [12,14,15,16,17]
 (qS [qN 81 5 12,qN 82 5 16,qx 83 25 [81,82],qm 18 83] [12,14,15,17,18]
 (qS [qf 84 0 12,ql 85 84,qo 86 (.bin .eql (.tmp 85) (.const (Value.int IntKind.u8 4))),qm 87 86,qt 87 (qf 88 1 12),qt 87 (ql 89 88),
  qt 87 (qc 90 .eql 89 0),qa 91 87 90,qm 19 91] [12,14,15,17,18,19]
 (qS [qm 92 15,qm 93 92,qt 93 (qm 94 17),qa 95 93 94,qm 96 95,qt 96 (qm 97 18),qa 98 96 97,qm 99 98,qt 99 (qm 100 19),qt 99 (qN 101 5 12),
  qt 99 (qN 102 5 14),qt 99 (qx 103 25 [101,102]),qt 99 (qo 104 (.eqb false (.tmp 100) (.tmp 103))),qa 105 99 104,qm 4 105] [4]
 .ret)))))))))))))))⟩)
theorem n6 : F6.n = 106 := rfl
theorem low6 : lowF Tryz.prog (kpO F6) (assoc []) 6 = some F6 := by kernel_rfl
def xr (b : Nat) : Nat := b ^^^ 9223372036854775808
theorem xr_lt {b : Nat} (h : b < 18446744073709551616) : xr b < 18446744073709551616 := Nat.xor_lt_two_pow (n := 64) h (by decide)
theorem xr_xr (b : Nat) : xr (xr b) = b := by unfold xr; rw [Nat.xor_assoc, Nat.xor_self, Nat.xor_zero]
theorem xr_ne (b : Nat) : xr b ≠ b := fun e => by
  have h : b ^^^ xr b = b ^^^ b := by rw [e]
  unfold xr at h
  rw [← Nat.xor_assoc, Nat.xor_self, Nat.zero_xor] at h
  cases h
theorem xorU {a b : Nat} (ha : a < 18446744073709551616) (hb : b < 18446744073709551616) : binV .xor (uv a) (uv b) = some (uv (a ^^^ b)) := by
  have hx : a ^^^ b < 18446744073709551616 := Nat.xor_lt_two_pow (n := 64) ha hb
  have e1 : (BitVec.ofInt 64 (a : Int)).toNat = a := by
    rw [BitVec.toNat_ofInt]; omega
  have e2 : (BitVec.ofInt 64 (b : Int)).toNat = b := by
    rw [BitVec.toNat_ofInt]; omega
  have e3 : (BitVec.ofInt IntKind.u64.bits (a : Int) ^^^ BitVec.ofInt IntKind.u64.bits (b : Int)).toNat = a ^^^ b := by
    show (BitVec.ofInt 64 (a : Int) ^^^ BitVec.ofInt 64 (b : Int)).toNat = a ^^^ b
    rw [BitVec.toNat_xor, e1, e2]
  simp only [binV, intV, if_true, e3]
  rw [wrapU, Nat.mod_eq_of_lt hx]
theorem xorW {b : Nat} (hb : b < 18446744073709551616) : IntKind.u64.wrap ((BitVec.ofInt IntKind.u64.bits (b : Int) ^^^ BitVec.ofInt IntKind.u64.bits 9223372036854775808).toNat : Nat) = ((xr b : Nat) : Int) := by
  have h := xorU hb (show (9223372036854775808 : Nat) < 18446744073709551616 by decide)
  simp only [binV, intV, if_true, Option.some.injEq, Value.int.injEq, true_and] at h
  exact h
theorem minus_float (A : List Atom) (b : Nat) (hb : b < 18446744073709551616) : Fun Tryz.prog 24 [.agg #[cv 6, vi 0, uv b, .string ⟨#[]⟩, .slice none 0 0]] [A]
    (fun v Post => v = .tuple #[.agg #[cv 6, vi 0, uv (xr b), .string ⟨#[]⟩, .slice none 0 0], .bool true] ∧ Post = [A]) := by
  refine Fun.intro low24 (by simp [n24]) ?_
  refine GOH ?_
  refine st_box (by rfl) (fun q => ?_)
  simp only [Value.cells]
  refine GOH ?_
  refine st_alloc (fun r => ?_)
  refine GOH ?_
  have hx := xorW hb
  refine ⟨.inr rfl, _, [A], .cellN (us := [cv 6, vi 0, .int .u64 (IntKind.u64.wrap ((BitVec.ofInt IntKind.u64.bits (b : Int) ^^^ BitVec.ofInt IntKind.u64.bits 9223372036854775808).toNat : Nat)), .string ⟨#[]⟩, .slice none 0 0]) (by rfl) (by rfl) (fun x hx => by simp only [List.flatten_cons, List.mem_append]; first | exact .inl hx | exact .inr (.inl hx)) (.tmp (by rfl) .nil), by exact IMx, ?_, rfl⟩
  rw [hx]; rfl
theorem dig_head {l : List Nat} (h : l.all digB = true) : l.head? ≠ some 45 := by
  cases l with
  | nil => simp
  | cons c r =>
    simp only [List.all_cons, Bool.and_eq_true, digB, decide_eq_true_eq] at h
    simp only [List.head?_cons, ne_eq, Option.some.injEq]; omega
theorem can_zero {t : List Nat} (h : canL t) (h0 : numL t = 0) : t = [48] := canL_uniq h ⟨by simp, by decide, fun _ => rfl⟩ (by rw [← numL_F, h0]; rfl)
theorem big_ne {m : Bool} {t : List Nat} (h : canL t) (hn : ¬ smallD m t) : numL t ≠ 0 := fun e => hn (by rw [can_zero h e]; cases m <;> exact ⟨by decide, by decide⟩)
def sgn (m : Bool) (t : ByteArray) : Bool := m && decide (numL (bytesN t) ≠ 0)
theorem minus_whole (A : List Atom) (hE : ErA A) (hP : PwA A) (m : Bool) (t : ByteArray) (ht : canL (bytesN t)) (hl : t.size ≤ 255) (v : Value) (hv : WholeQ m t v) :
    Fun Tryz.prog 24 [v] [A] (fun u Post => (∃ w, u = .tuple #[w, .bool true] ∧ WholeQ (!(sgn m t)) t w) ∧ Post = [A]) := by
  obtain ⟨m1, hm1⟩ : ∃ m1, m1 = sgn m t := ⟨_, rfl⟩
  rw [← hm1]
  have hwhole := whole_spec A hE t ht.1 ht.2.1 hl (!m1)
  have hlen := bytesN_len t
  refine Fun.intro low24 (by simp [n24]) ?_
  rcases hv with ⟨⟨hs1, hs2⟩, rfl⟩ | ⟨hns, u, rfl, hu⟩
  · obtain ⟨z, hz⟩ : ∃ z : Int, z = if m = true then -(numL (bytesN t) : Int) else (numL (bytesN t) : Int) := ⟨_, rfl⟩
    rw [← hz]
    have hzb : -1152921504606846976 ≤ z ∧ z ≤ 1152921504606846975 := by
      rw [hz]; cases m <;> simp at hs2 ⊢ <;> omega
    have hzn : z.natAbs = numL (bytesN t) := by rw [hz]; cases m <;> simp
    have hneg : (z < 0) ↔ m1 = true := by
      rw [hm1, hz]; unfold sgn; cases m <;> simp <;> omega
    refine GOH ?_
    refine st_box (by rfl) (fun q => ?_)
    simp only [Value.cells]
    refine GOH ?_
    refine st_alloc (fun r => ?_)
    refine GOH ?_
    rw [decide_eq_false (show ¬ z < -1152921504606846976 by omega)]
    refine GOH ?_
    rw [decide_eq_false (show ¬ (1152921504606846975 : Int) < z by omega)]
    refine GOH ?_
    refine st_callS (fmt_spec A hP z (by omega) (by omega)) (by rfl) (by exact TKx) ?_
    have hb := itoa_bytes z
    generalize (⟨(Lib.itoa z).toArray⟩ : ByteArray) = s1 at hb ⊢
    have hd2 : decL z.natAbs = bytesN t := by rw [hzn]; exact decL_of ht
    have hs1s : s1.size ≤ 300 := by
      rw [← bytesN_len, hb]
      split
      · rw [hd2, List.length_cons, hlen]; omega
      · rw [show z.toNat = z.natAbs by omega, hd2, hlen]; omega
    refine st_call (cutPrefix_spec s1 (by omega)) (by rfl) (by exact SPx) (fun v Post hv => ?_)
    obtain ⟨t1, rfl, ht1, hts, rfl⟩ := hv
    simp only [List.nil_append]
    have hm : decide ((bytesN s1).head? = some 45) = m1 := by
      rw [hb]
      by_cases h0 : z < 0
      · rw [if_pos h0, hneg.1 h0]; simp
      · rw [if_neg h0, show z.toNat = z.natAbs by omega, hd2]
        have : m1 = false := by cases m1 with
          | false => rfl
          | true => exact absurd (hneg.2 rfl) h0
        rw [this]; simpa using dig_head ht.2.1
    have htt : t1 = t := by
      refine bytesN_inj ?_
      rw [ht1, hb]
      by_cases h0 : z < 0
      · rw [if_pos h0]; simpa using hd2
      · rw [if_neg h0, show z.toNat = z.natAbs by omega, hd2, if_neg (dig_head ht.2.1)]
    rw [hm, htt]
    refine GOH ?_
    refine st_call hwhole (by rfl) (by exact SPx) (fun v Post hv => ?_)
    obtain ⟨hw, rfl⟩ := hv
    have hfin := hw
    simp only [CNx]
    rcases hw with ⟨hs1, rfl⟩ | ⟨hs1, u1, rfl, hu1⟩
    · generalize (if (!m1) = true then -(numL (bytesN t) : Int) else (numL (bytesN t) : Int)) = z1 at hfin ⊢
      refine GOH ?_
      refine ⟨.inr rfl, _, [A], .cellN (us := [cv 4, vi z1, uv 0, .string ⟨#[]⟩, .slice none 0 0]) (by rfl) (by rfl) (fun x hx => by simp only [List.flatten_cons, List.mem_append]; first | exact .inl hx | exact .inr (.inl hx) | exact .inr (.inr (.inl hx))) (.tmp (by rfl) .nil), by exact IMx, ⟨_, rfl, hfin⟩, rfl⟩
    · refine GOH ?_
      refine ⟨.inr rfl, _, [A], .cellN (us := [cv 5, vi 0, uv 0, .string u1, .slice none 0 0]) (by rfl) (by rfl) (fun x hx => by simp only [List.flatten_cons, List.mem_append]; first | exact .inl hx | exact .inr (.inl hx) | exact .inr (.inr (.inl hx))) (.tmp (by rfl) .nil), by exact IMx, ⟨_, rfl, hfin⟩, rfl⟩
  · have hN := big_ne ht hns
    have hmm : m1 = m := by rw [hm1]; unfold sgn; rw [decide_eq_true hN, Bool.and_true]
    have hus : u.size ≤ 300 := by
      rw [← bytesN_len, hu]
      split
      · rw [List.length_cons, hlen]; omega
      · rw [hlen]; omega
    have hmin : minusL (bytesN u) = m := by
      unfold minusL; rw [hu]
      cases m with
      | true => simp
      | false => simpa using dig_head ht.2.1
    have hdg : digsL (bytesN u) = bytesN t := by
      unfold digsL; rw [hu]
      cases m with
      | true => simp
      | false => simp [dig_head ht.2.1]
    have hgood : goodL (bytesN u) = true := by
      unfold goodL; rw [hdg, canL_plainL ht, decide_eq_true ht.1, decide_eq_true (show (bytesN t).length ≤ 255 by omega), ht.2.1]; rfl
    refine GOH ?_
    refine st_box (by rfl) (fun q => ?_)
    simp only [Value.cells]
    refine GOH ?_
    refine st_alloc (fun r => ?_)
    refine GOH ?_
    refine st_call (integer_spec A hE u (by omega)) (by rfl) (by exact SPx) (fun v Post hv => ?_)
    obtain ⟨hi, rfl⟩ := hv
    simp only [CNx]
    rcases hi with ⟨hbad, _⟩ | ⟨_, t2, u2, ht2, hw2, rfl⟩
    · rw [hgood] at hbad; cases hbad
    have htt : t2 = t := bytesN_inj (by rw [ht2, hdg, canL_plainL ht])
    subst htt
    rw [hmin] at hw2
    rcases hw2 with ⟨hs3, _⟩ | ⟨_, u3, rfl, hu3⟩
    · exact absurd hs3 hns
    have huu : u3 = u := bytesN_inj (by rw [hu3, hu])
    subst huu
    refine GOH ?_
    refine st_alloc (fun p => ?_)
    refine GOH ?_
    refine st_call (cutPrefix_spec u3 (by omega)) (by rfl) (by exact SPx) (fun v Post hv => ?_)
    obtain ⟨t1, rfl, ht1, hts, rfl⟩ := hv
    simp only [List.nil_append]
    have hm : decide ((bytesN u3).head? = some 45) = m1 := by rw [hmm]; exact hmin
    have ht3 : t1 = t2 := bytesN_inj (by rw [ht1]; exact hdg)
    rw [hm, ht3]
    refine GOH ?_
    refine st_call hwhole (by rfl) (by exact SPx) (fun v Post hv => ?_)
    obtain ⟨hw, rfl⟩ := hv
    have hfin := hw
    simp only [CNx]
    generalize t2 = t at hfin hw ⊢
    rcases hw with ⟨hs1, rfl⟩ | ⟨hs1, u1, rfl, hu1⟩
    · generalize (if (!m1) = true then -(numL (bytesN t) : Int) else (numL (bytesN t) : Int)) = z1 at hfin ⊢
      refine GOH ?_
      refine ⟨.inr rfl, _, [A], .cellN (us := [cv 4, vi z1, uv 0, .string ⟨#[]⟩, .slice none 0 0]) (by rfl) (by rfl) (fun x hx => by simp only [List.flatten_cons, List.mem_append]; first | exact .inl hx | exact .inr (.inl hx) | exact .inr (.inr (.inl hx))) (.tmp (by rfl) .nil), by exact IMx, ⟨_, rfl, hfin⟩, rfl⟩
    · refine GOH ?_
      refine ⟨.inr rfl, _, [A], .cellN (us := [cv 5, vi 0, uv 0, .string u1, .slice none 0 0]) (by rfl) (by rfl) (fun x hx => by simp only [List.flatten_cons, List.mem_append]; first | exact .inl hx | exact .inr (.inl hx) | exact .inr (.inr (.inl hx))) (.tmp (by rfl) .nil), by exact IMx, ⟨_, rfl, hfin⟩, rfl⟩
theorem same0_spec (A : List Atom) (k k' : Nat) (n n' : Int) (b b' : Nat) (t t' : ByteArray) :
    Fun Tryz.prog 25 [.agg #[cv k, vi n, uv b, .string t, .slice none 0 0], .agg #[cv k', vi n', uv b', .string t', .slice none 0 0]] [A] (fun v Post => v = .bool (decide (k = k' ∧ n = n' ∧ b = b' ∧ t = t')) ∧ Post = [A]) := by
  refine Fun.intro low25 (by simp [n25]) ?_
  obtain ⟨E, hE⟩ : ∃ E, E = decide (k = k' ∧ n = n' ∧ b = b' ∧ t = t') := ⟨_, rfl⟩
  rw [← hE]
  refine GOH ?_
  refine st_box (by rfl) (fun q => ?_)
  refine st_box (by rfl) (fun q2 => ?_)
  simp only [Value.cells]
  refine GOH ?_
  by_cases h1 : k = k'
  rotate_left
  · have hno : E = false := by simp [hE, h1]
    rw [show decide ((k : Int) = (k' : Int)) = false from decide_eq_false (by omega)]
    refine GOH ?_
    exact endQ_mk (Post := [A]) (.inr rfl) (.tmp (by rfl) .nil) ⟨by rw [hno]; rfl, rfl⟩ (by exact IMx)
  rw [show decide ((k : Int) = (k' : Int)) = true from decide_eq_true (by omega)]
  refine GOH ?_
  by_cases h2 : n = n'
  rotate_left
  · have hno : E = false := by simp [hE, h2]
    rw [decide_eq_false h2]
    refine GOH ?_
    exact endQ_mk (Post := [A]) (.inr rfl) (.tmp (by rfl) .nil) ⟨by rw [hno]; rfl, rfl⟩ (by exact IMx)
  rw [decide_eq_true h2]
  refine GOH ?_
  by_cases h3 : b = b'
  rotate_left
  · have hno : E = false := by simp [hE, h3]
    rw [show decide ((b : Int) = (b' : Int)) = false from decide_eq_false (by omega)]
    refine GOH ?_
    exact endQ_mk (Post := [A]) (.inr rfl) (.tmp (by rfl) .nil) ⟨by rw [hno]; rfl, rfl⟩ (by exact IMx)
  rw [show decide ((b : Int) = (b' : Int)) = true from decide_eq_true (by omega)]
  refine GOH ?_
  by_cases h4 : t = t'
  rotate_left
  · have hno : E = false := by simp [hE, h4]
    rw [decide_eq_false h4]
    refine GOH ?_
    exact endQ_mk (Post := [A]) (.inr rfl) (.tmp (by rfl) .nil) ⟨by rw [hno]; rfl, rfl⟩ (by exact IMx)
  rw [decide_eq_true h4]
  have htt : E = true := by simp [hE, h1, h2, h3, h4]
  refine GOH ?_
  refine VC.loop (α := Unit) (Γf := fun _ => [(2, ptr0 q), (3, ptr0 q2), (5, vi 0)]) (Hf := fun _ => [A, cellsAt q 0 [cv k, vi n, uv b, .string t, .slice none 0 0], cellsAt q2 0 [cv k', vi n', uv b', .string t', .slice none 0 0]]) (I := fun _ => True) (μ := fun _ => 0) () trivial (by exact SUx) (by exact IMx) ?_
  rintro ⟨⟩ _
  refine GOH ?_
  exact endQ_mk (Post := [A]) (.inr rfl) (.tmp (by rfl) .nil) ⟨by rw [htt]; rfl, rfl⟩ (by exact IMx)
theorem WholeQ.uniq {m : Bool} {t : ByteArray} {v w : Value} (h : WholeQ m t v) (k : WholeQ m t w) : v = w := by
  rcases h with ⟨h1, rfl⟩ | ⟨h1, u, rfl, hu⟩ <;> rcases k with ⟨k1, rfl⟩ | ⟨k1, u2, rfl, hu2⟩
  · rfl
  · exact absurd h1 k1
  · exact absurd k1 h1
  · rw [bytesN_inj (hu.trans hu2.symm)]
theorem WholeQ.zero {m m' : Bool} {t : ByteArray} {v w : Value} (hz : numL (bytesN t) = 0) (ht : canL (bytesN t)) (h : WholeQ m t v) (k : WholeQ m' t w) : v = .agg #[cv 4, vi 0, uv 0, .string ⟨#[]⟩, .slice none 0 0] ∧ w = v := by
  have hs : ∀ m, smallD m (bytesN t) := fun m => by rw [can_zero ht hz]; cases m <;> exact ⟨by decide, by decide⟩
  have e : ∀ {m : Bool} {v : Value}, WholeQ m t v → v = .agg #[cv 4, vi 0, uv 0, .string ⟨#[]⟩, .slice none 0 0] := fun {m v} h => by
    rcases h with ⟨_, rfl⟩ | ⟨h1, _⟩
    · rw [hz]; cases m <;> rfl
    · exact absurd (hs m) h1
  exact ⟨e h, by rw [e h, e k]⟩
theorem WholeQ.form {m : Bool} {t : ByteArray} {v : Value} (h : WholeQ m t v) : ∃ (k : Nat) (n : Int) (x : ByteArray), v = .agg #[cv k, vi n, uv 0, .string x, .slice none 0 0] := by
  rcases h with ⟨_, rfl⟩ | ⟨_, u, rfl, _⟩
  · exact ⟨4, _, _, rfl⟩
  · exact ⟨5, 0, u, rfl⟩
theorem lit_inj {k k' : Nat} {n n' : Int} {x x' : ByteArray} : (Value.agg #[cv k, vi n, uv 0, .string x, .slice none 0 0] = Value.agg #[cv k', vi n', uv 0, .string x', .slice none 0 0]) ↔ (k = k' ∧ n = n' ∧ (0 : Nat) = 0 ∧ x = x') := by
  constructor
  · intro h; simp at h; obtain ⟨h1, h2, h3⟩ := h; exact ⟨by omega, h2, rfl, h3⟩
  · rintro ⟨rfl, rfl, _, rfl⟩; rfl
theorem WholeQ.other {m : Bool} {t : ByteArray} {v w : Value} (hz : numL (bytesN t) ≠ 0) (ht : canL (bytesN t)) (h : WholeQ m t v) (k : WholeQ (!m) t w) : v ≠ w := by
  rcases h with ⟨h1, rfl⟩ | ⟨h1, u, rfl, hu⟩ <;> rcases k with ⟨k1, rfl⟩ | ⟨k1, u2, rfl, hu2⟩ <;> intro e
  · simp at e; cases m <;> simp at e <;> omega
  · simp at e
  · simp at e
  · simp at e
    subst e
    rw [hu] at hu2
    cases m with
    | true => simp at hu2
    | false => simp at hu2
theorem scanTurns_spec (A : List Atom) (hE : ErA A) (hP : PwA A) (s : ByteArray) (hs : s.size ≤ 1048576) (b : Nat) (hb : b < 18446744073709551616) : Fun Tryz.prog 6 [.string s, uv b] [A] (fun v Post => v = .bool true ∧ Post = [A]) := by
  refine Fun.intro low6 (by simp [n6]) ?_
  refine GOH ?_
  refine st_call (awake_spec A hE) (by rfl) (by exact SPx) (fun v Post hv => ?_)
  obtain ⟨rfl, rfl⟩ := hv
  simp only [CNx]
  refine GOH ?_
  rw [decide_eq_false (show ¬ (s.size : Int) > 4194304 by omega)]
  refine GOH ?_
  refine st_alloc (fun q6 => ?_)
  refine GOH ?_
  refine st_call (minus_float A b hb) (by rfl) (by exact SPx) (fun v Post hv => ?_)
  obtain ⟨rfl, rfl⟩ := hv
  simp only [CNx]
  have hx := xr_lt hb
  refine GOH ?_
  refine st_alloc (fun q7 => ?_)
  refine GOH ?_
  refine st_call (minus_float A (xr b) hx) (by rfl) (by exact SPx) (fun v Post hv => ?_)
  obtain ⟨rfl, rfl⟩ := hv
  simp only [CNx]
  rw [xr_xr]
  refine GOH ?_
  refine st_alloc (fun q9 => ?_)
  refine GOH ?_
  have hsm := same0_spec A 6 6 0 0 b b ⟨#[]⟩ ⟨#[]⟩
  rw [decide_eq_true (show (6 = 6 ∧ (0 : Int) = 0 ∧ b = b ∧ (⟨#[]⟩ : ByteArray) = ⟨#[]⟩) from ⟨rfl, rfl, rfl, rfl⟩)] at hsm
  refine st_call hsm (by rfl) (by exact SPx) (fun v Post hv => ?_)
  obtain ⟨rfl, rfl⟩ := hv
  simp only [CNx]
  have hne := xr_ne b
  refine GOH ?_
  rw [decide_eq_false (show ¬ ((xr b : Nat) : Int) = (b : Int) by omega)]
  refine GOH ?_
  refine st_call (integer_spec A hE s (by omega)) (by rfl) (by exact SPx) (fun v Post hv => ?_)
  obtain ⟨hi, rfl⟩ := hv
  simp only [CNx]
  rcases hi with ⟨_, rfl⟩ | ⟨hg, t, n, ht, hn, rfl⟩
  · refine GOH ?_
    refine st_alloc (fun q12 => ?_)
    refine GOH ?_
    exact endQ_mk (Post := [A]) (.inr rfl) (.tmp (by rfl) .nil) ⟨rfl, rfl⟩ (by exact IMx)
  unfold goodL at hg
  simp only [Bool.and_eq_true, decide_eq_true_eq] at hg
  obtain ⟨⟨g1, g2⟩, g3⟩ := hg
  have hcan : canL (bytesN t) := by rw [ht]; exact canL_plain g1 g3
  have htl : t.size ≤ 255 := by rw [← bytesN_len, ht]; exact g2
  generalize minusL (bytesN s) = m at hn
  have hm1 := minus_whole A hE hP m t hcan htl n hn
  obtain ⟨k1, n1, x1, rfl⟩ := hn.form
  refine GOH ?_
  refine st_alloc (fun q12 => ?_)
  refine GOH ?_
  refine st_call hm1 (by rfl) (by exact SPx) (fun v Post hv => ?_)
  obtain ⟨⟨w, rfl, hw⟩, rfl⟩ := hv
  simp only [CNx]
  have hm2 := minus_whole A hE hP _ t hcan htl w hw
  obtain ⟨k2, n2, x2, rfl⟩ := hw.form
  refine GOH ?_
  refine st_alloc (fun q14 => ?_)
  refine GOH ?_
  refine st_call hm2 (by rfl) (by exact SPx) (fun v Post hv => ?_)
  obtain ⟨⟨z, rfl, hz⟩, rfl⟩ := hv
  simp only [CNx]
  obtain ⟨k3, n3, x3, rfl⟩ := hz.form
  have hback : (Value.agg #[cv k1, vi n1, uv 0, .string x1, .slice none 0 0]) = .agg #[cv k3, vi n3, uv 0, .string x3, .slice none 0 0] := by
    by_cases h0 : numL (bytesN t) = 0
    · have a := (hn.zero h0 hcan hz).2; exact a.symm
    · have e : (!(sgn (!(sgn m t)) t)) = m := by unfold sgn; rw [decide_eq_true h0]; cases m <;> rfl
      rw [e] at hz
      exact hn.uniq hz
  obtain ⟨e1, e2, e3, e4⟩ := lit_inj.1 hback
  refine GOH ?_
  refine st_alloc (fun q16 => ?_)
  refine GOH ?_
  have hsm2 := same0_spec A k1 k3 n1 n3 0 0 x1 x3
  rw [decide_eq_true (show k1 = k3 ∧ n1 = n3 ∧ (0 : Nat) = 0 ∧ x1 = x3 from ⟨e1, e2, rfl, e4⟩)] at hsm2
  refine st_call hsm2 (by rfl) (by exact SPx) (fun v Post hv => ?_)
  obtain ⟨rfl, rfl⟩ := hv
  simp only [CNx]
  have hsame := same0_spec A k1 k2 n1 n2 0 0 x1 x2
  by_cases h0 : numL (bytesN t) = 0
  · obtain ⟨a1, a2⟩ := hn.zero h0 hcan hw
    obtain ⟨b1, b2, _, b4⟩ := lit_inj.1 a1
    obtain ⟨c1, c2, _, c4⟩ := lit_inj.1 a2
    rw [decide_eq_true (show k1 = k2 ∧ n1 = n2 ∧ (0 : Nat) = 0 ∧ x1 = x2 from ⟨c1.symm, c2.symm, rfl, c4.symm⟩)] at hsame
    subst b1 b2
    refine GOH ?_
    refine st_call hsame (by rfl) (by exact SPx) (fun v Post hv => ?_)
    obtain ⟨rfl, rfl⟩ := hv
    simp only [CNx]
    refine GOH ?_
    exact endQ_mk (Post := [A]) (.inr rfl) (.tmp (by rfl) .nil) ⟨rfl, rfl⟩ (by exact IMx)
  · have hs0 : sgn m t = m := by unfold sgn; rw [decide_eq_true h0, Bool.and_true]
    rw [hs0] at hw
    have hno : ¬ (k1 = k2 ∧ n1 = n2 ∧ (0 : Nat) = 0 ∧ x1 = x2) := fun h => hn.other h0 hcan hw (lit_inj.2 h)
    rw [decide_eq_false hno] at hsame
    have hzero : ¬ (k1 = 4 ∧ n1 = 0) := by
      rintro ⟨rfl, rfl⟩
      rcases hn with ⟨_, e⟩ | ⟨_, u, e, _⟩
      · simp at e; cases m <;> simp at e <;> omega
      · simp at e
    by_cases h4 : k1 = 4
    · have hn0 : n1 ≠ 0 := fun e => hzero ⟨h4, e⟩
      subst h4
      refine GOH ?_
      rw [decide_eq_false hn0]
      refine GOH ?_
      refine st_call hsame (by rfl) (by exact SPx) (fun v Post hv => ?_)
      obtain ⟨rfl, rfl⟩ := hv
      simp only [CNx]
      refine GOH ?_
      exact endQ_mk (Post := [A]) (.inr rfl) (.tmp (by rfl) .nil) ⟨rfl, rfl⟩ (by exact IMx)
    · refine GOH ?_
      rw [decide_eq_false (show ¬ (k1 : Int) = 4 by omega)]
      refine GOH ?_
      refine st_call hsame (by rfl) (by exact SPx) (fun v Post hv => ?_)
      obtain ⟨rfl, rfl⟩ := hv
      simp only [CNx]
      refine GOH ?_
      exact endQ_mk (Post := [A]) (.inr rfl) (.tmp (by rfl) .nil) ⟨rfl, rfl⟩ (by exact IMx)
theorem gPowT : (Tryz.prog.globals[0]?).map (·.type) = some 131 := by kernel_rfl
theorem u131 : Tryz.prog.underlying 131 = some (.array 20 40) := by kernel_rfl
theorem c131 : Tryz.prog.cellsOf 131 = 20 := by kernel_rfl
theorem c40 : Tryz.prog.cellsOf 40 = 1 := by kernel_rfl
theorem powData : (Rows.laid_internal_strconv_uint64pow10 : DataW Unit) = Lib.tabData .u64 Lib.pow10Tab := by kernel_rfl
theorem pw_in {W : World} {r : List (String × DataW Unit)} (h : laidMet Tryz.prog (("internal/strconv.uint64pow10", Rows.laid_internal_strconv_uint64pow10) :: r) W) {A : List Atom} (hA : ∀ a : Atom, a.holds W → a ∈ A) : PwA A := by
  rw [powData] at h
  have htab : Lib.TabIs Tryz.prog W "internal/strconv.uint64pow10" .u64 Lib.pow10Tab := Lib.tabIs_of_head (n := 20) gPow gPowT u131 u40 c40 c131 h
  obtain ⟨ps, ⟨g0, t0, cs0, f0, p0, q0, hg0, ht0, hv0, hd0, _, e0⟩, _, hrows⟩ := h
  obtain rfl := Option.some.inj (gPow.symm.trans hg0)
  subst e0
  unfold Lib.TabIs at htab
  have hcs : cs0 = (Lib.pow10Tab.map fun z => Value.int .u64 z).toArray := Option.some.inj (hv0.symm.trans htab)
  have hl : Lib.pow10Tab.length = 20 := by simp [Lib.pow10Tab]
  have hsz : cs0.size = 20 := by rw [hcs]; simp [hl]
  obtain ⟨⟨c, t, hc⟩, _⟩ := hrows 0 0 (by simp [MemPlace.row, hsz])
  have hcc : c = cs0 := by
    unfold World.var? at hv0
    rw [gPow] at hv0
    simp only [Option.bind_some, hc, Option.some.injEq] at hv0
    exact hv0
  refine ⟨hA _ ⟨c, t, 0, 0, hc, by rw [hcc]; exact hsz⟩, fun i hi => hA _ ⟨c, t, 0, 0, hc, ?_, by omega⟩⟩
  rw [hcc, hcs]
  simp [Lib.pow10Tab, hi]
end Go.Proofs.YtehglapljnehgaaGreatDoor

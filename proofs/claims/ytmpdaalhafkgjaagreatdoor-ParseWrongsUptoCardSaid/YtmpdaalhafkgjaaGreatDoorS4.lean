/-
  errors.As for the evaluator.
-/
import Derived.Test.YtmpdaalhafkgjaaGreatDoorS3
import Derived.Test.YtmpdaalhafkgjaaGreatDoorV11
import Derived.Test.YtmpdaalhafkgjaaGreatDoorV8
import Derived.Test.YtmpdaalhafkgjaaGreatDoorS1
import Derived.Shelf.Strings.Search2
import Derived.Shelf.Lay
import Derived.Shelf.Strconv.ParseIntPublic10
import Derived.Test.YtmpdaalhafkgjaaGreatDoorS2
import Derived.KernelRfl
import Derived.Test.YtmpdaalhafkgjaaGreatDoorV12
import Derived.Test.YtmpdaalhafkgjaaGreatDoorCards
import Derived.Test.YtmpdaalhafkgjaaGreatDoorTie
import Derived.OpenShut
import Derived.Deep.DeepHandedRow
import Derived.Deep.DeepWitnessRowRef
import Derived.Lib.LaidTab
import Derived.JoinedCond
import Derived.Lay
import Derived.LaidSub
import Derived.LaidHandle
set_option linter.unusedSimpArgs false
set_option linter.unusedVariables false
namespace Go.Proofs.YtmpdaalhafkgjaaGreatDoor
open Go Go.V
set_option maxRecDepth 100000
theorem hit {A : List Atom} {P : Program} {f N0 : Nat} {args vals : List Value} {σ : Sg} {h : Mp} {nx b : Nat} {old new : Value} {Z : List PanicEntry → SH → Prop} (g : GoodS N0 σ vals h nx) (hb : getB h b = some (.cells [old])) (hsc : ScV nx new)
    (hf : Fun P f args [instH A σ (delB h b), [.cell (σ.blk b) (σ.off b) (rn σ old)]] (fun u Post => u = .bool true ∧ Post = [instH A σ (delB h b), [.cell (σ.blk b) (σ.off b) (rn σ new)]])) :
    FunP P f args [instH A σ h] (fun v Post => ∃ v0 h' nx' σ', PR.val (.bool true) (setB h b (.cells [new])) nx = .val v0 h' nx' ∧ Ag nx σ σ' ∧ nx ≤ nx' ∧ GoodS N0 σ' [v0] h' nx' ∧ v = rn σ' v0 ∧ Post = [instH A σ' h']) Z := by
  refine (FunP.of_fun hf).conv (R := []) ?_ ?_ (fun ch Post q => by exact False.elim q)
  · have := instH_get (A := A) (σ := σ) hb
    simp only [instB, List.map_cons, List.map_nil] at this
    simp only [Spl, List.flatten_cons, List.flatten_nil, List.append_nil]
    exact this.trans List.perm_append_comm
  · rintro u Post ⟨rfl, rfl⟩
    refine ⟨_, ⟨.bool true, setB h b (.cells [new]), nx, σ, rfl, .refl _ _, Nat.le_refl _, ⟨g.fix, g.le, fun p hp => ?_, fun p hp => ?_, fun p hp => ?_, fun v hv => by rw [List.mem_singleton.1 hv]; exact ScV.plain rfl⟩, (rn_bool _ _).symm, rfl⟩, Imp.perm ?_⟩
    · rcases setB_sub hp with hp | rfl
      · exact g.ids p hp
      · exact g.ids (b, .cells [old]) (getB_mem hb)
    · rcases setB_sub hp with hp | rfl
      · exact g.grow p hp
      · trivial
    · rcases setB_sub hp with hp | rfl
      · exact g.cells p hp
      · exact fun v hv => by rw [List.mem_singleton.1 hv]; exact hsc
    · have := instH_set (A := A) (σ := σ) (c := .cells [new]) hb
      simp only [instB, List.map_cons, List.map_nil] at this
      simp only [List.flatten_cons, List.flatten_nil, List.append_nil]
      exact List.perm_append_comm.trans this.symm
def orcE : CF := fun f args h nx => match Nat.beq f 9 with
  | false => none
  | true => match args with
    | [.iface t (.pointer (some ⟨k, i, none⟩)), .iface u (.pointer (some ⟨b, o, none⟩))] => match Nat.beq t 26 && Nat.beq o 0 with
      | false => none
      | true => match getB h b with
        | some (.cells [_]) => match Nat.beq u 48 with
          | true => some (.val (.bool true) (setB h b (.cells [.pointer (some ⟨k, i, none⟩)])) nx)
          | false => match Nat.beq u 49 with
            | false => none
            | true => match readN (delB h b) k (i + 2) 1 with
              | some [.iface s (.int .i64 n)] => match Nat.beq s 23 with
                | true => some (.val (.bool true) (setB h b (.cells [.int .i64 n])) nx)
                | false => none
              | _ => none
        | _ => none
    | _ => none
theorem orcE_ok (A : List Atom) (hE : ErA ∈ A) (N0 : Nat) : SoundF A Tryz.prog N0 orcE := by
  intro f args h nx res he σ g
  unfold orcE at he
  split at he
  · cases he
  rename_i hf
  obtain rfl := beqT hf
  split at he
  case h_2 => cases he
  rename_i t k i u b o
  split at he
  · cases he
  rename_i hto
  rw [Bool.and_eq_true] at hto
  obtain rfl := beqT hto.1
  obtain rfl := beqT hto.2
  split at he
  case h_2 => cases he
  rename_i old hb
  have hE' : ErA ∈ instH A σ (delB h b) := instH_split.mem_iff.2 (List.mem_append_left _ hE)
  split at he
  · rename_i hu
    obtain rfl := beqT hu
    cases he
    refine hit g hb ?_ ?_
    · have := g.vals (.iface 26 (.pointer (some ⟨k, i, none⟩))) (by simp)
      intro τ υ a
      have h2 := this τ υ a
      simp only [rn_iface, Value.iface.injEq, true_and] at h2
      exact h2
    · simp only [List.map_cons, List.map_nil, rn_iface, rn_ptr, rnA, Nat.add_zero]
      exact Fun.of_hit (by kernel_rfl) fun w hA h1 h2 => (as_fail ⟨σ.blk k, σ.off k + i, none⟩ ⟨σ.blk b, σ.off b, none⟩ _ w (holds_cell (hA _ hE')) h1 h2).mono fun _ _ ⟨h, h'⟩ => ⟨h, [_, _, _, _], h'⟩
  · split at he
    · cases he
    rename_i hu
    obtain rfl := beqT hu
    split at he
    case h_2 => cases he
    rename_i s n hr
    split at he
    case h_2 => cases he
    rename_i hs
    obtain rfl := beqT hs
    cases he
    have hm := readN_mem (A := A) (σ := σ) hr (.cell (σ.blk k) (σ.off k + (i + 2)) (.iface 23 (.int .i64 n))) (by simp [cellsAt])
    refine hit g hb (ScV.plain rfl) ?_
    simp only [List.map_cons, List.map_nil, rn_iface, rn_ptr, rnA, rn_int, Nat.add_zero]
    exact Fun.of_hit (by kernel_rfl) fun w hA h1 h2 => (as_in ⟨σ.blk k, σ.off k + i, none⟩ ⟨σ.blk b, σ.off b, none⟩ n _ w (holds_cell (hA _ hE')) h1 h2 (holds_cell (hA _ (by simpa [Nat.add_assoc] using hm))) rfl).mono fun _ _ ⟨h, h'⟩ => ⟨h, [_, _, _, _], h'⟩
open Go Go.V Go.Shelf
set_option maxHeartbeats 3200000
shelf_lay Lays.n217 Nm 217 at Tryz as Tryz.sl217
shelf_lay LaysC.n174 Nm 174 at Tryz as Tryz.sl174
theorem ixb_spec (s : ByteArray) (c : Nat) (hc : c < 256) : Fun Tryz.prog 75 [.string s, cv c] [] (fun v Post => v = vi (ixN (bytesN s) c) ∧ Post = []) := by
  refine Fun.of_calls (by kernel_rfl) (fun w => (Any.stringslite_IndexByte Tryz.sl217 s c w).mono ?_)
  rintro e w' ⟨rfl, rfl⟩
  refine ⟨_, rfl, ?_, rfl⟩
  have hx : ((c : Int).toNat.toUInt8).toNat = c := by
    rw [Int.toNat_natCast]
    exact Nat.mod_eq_of_lt hc
  rw [ix_eq, hx]; rfl
theorem parseM_ok : ∀ (l : List UInt8) (acc k : Nat), (∀ c ∈ l, digB c.toNat = true) → acc < 10 ^ k → k + l.length ≤ 19 → Lib.parseUintM (2 ^ 64 - 1) acc l = .ok ((l.map UInt8.toNat).foldl (fun n c => n * 10 + (c - 48)) acc) := by
  intro l
  induction l with
  | nil => intro acc k _ _ _; rfl
  | cons c r ih =>
    intro acc k hd ha hk
    have hc := hd c (by simp)
    simp only [digB, Bool.and_eq_true, decide_eq_true_eq] at hc
    simp only [List.length_cons] at hk
    have hp : 10 ^ k ≤ 10 ^ 18 := Nat.pow_le_pow_right (by omega) (by omega)
    have h18 : (10 : Nat) ^ 18 = 1000000000000000000 := by decide
    have h64 : (2 : Nat) ^ 64 - 1 = 18446744073709551615 := by decide
    have hs : (10 : Nat) ^ (k + 1) = 10 ^ k * 10 := Nat.pow_succ ..
    simp only [Lib.parseUintM, if_pos hc, if_neg (show ¬ 1844674407370955162 ≤ acc by omega), if_neg (show ¬ (2 ^ 64 - 1 < acc * 10 + (c.toNat - 48)) by omega), List.map_cons, List.foldl_cons]
    exact ih _ (k + 1) (fun x hx => hd x (by simp [hx])) (by omega) (by omega)
theorem parseInt_ok (A : List Atom) (s : ByteArray) (h0 : bytesN s ≠ []) (hd : (bytesN s).all digB = true) (hl : s.size ≤ 19) (hm : numL (bytesN s) ≤ 9223372036854775807) :
    Fun Tryz.prog 85 [.string s, vi 10, vi 64] [A] (fun v Post => v = .tuple #[vi (numL (bytesN s)), .nilIface] ∧ Post = [A]) := by
  have hall : ∀ c ∈ s.data.toList, digB c.toNat = true := fun c hc => List.all_eq_true.1 hd _ (List.mem_map.2 ⟨c, hc, rfl⟩)
  have hlen : s.data.toList.length = s.size := by simp
  have hu := parseM_ok s.data.toList 0 0 hall (by decide) (by omega)
  have hu2 : Lib.parseUintM (2 ^ 64 - 1) 0 s.data.toList = .ok (numL (bytesN s)) := hu
  have hne : s.data.toList ≠ [] := fun e => h0 (by simp [bytesN, e])
  have hp : Lib.parseIntB 64 s.data.toList = if 9223372036854775808 ≤ numL (bytesN s) then .range else .ok ((numL (bytesN s) : Nat) : Int) := by
    unfold Lib.parseIntB
    cases hs : s.data.toList with
    | nil => exact absurd hs hne
    | cons c r =>
      have hc := hall c (by rw [hs]; simp)
      simp only [digB, Bool.and_eq_true, decide_eq_true_eq] at hc
      rw [hs] at hu2
      simp only [if_neg (show ¬ (c.toNat = 43 ∨ c.toNat = 45) by omega), Lib.parseUintB, if_neg (show ¬ (c :: r = []) by simp), hu2]
      have h45 : ¬ c.toNat = 45 := by omega
      by_cases hbig : 9223372036854775808 ≤ numL (bytesN s)
      · simp [h45, hbig]
      · simp [h45, hbig]
  rw [if_neg (by omega)] at hp
  refine Fun.of_calls2 (by kernel_rfl) (fun w F hs => ?_)
  refine (Any.strconv_ParseInt_10_at64_ok Tryz.sl174 s (by omega) _ hp w).mono ?_
  rintro e w' ⟨rfl, hb⟩
  refine ⟨_, rfl, rfl, ?_⟩
  rcases hb with rfl | ⟨t, rfl⟩
  · exact .refl _ _
  · exact Lib.bytesWorld_below _ _ _
def orcA (f : Nat) (args : List Value) : Option Value := match Nat.beq f 75 with
 | true => match args with
  | [.string s, .int .u8 (.ofNat c)] => match Nat.blt c 256 with | true => some (vi (ixN (bytesN s) c)) | false => none
  | _ => none
 | false => match Nat.beq f 85 with
 | true => match args with
  | [.string s, .int .i64 (.ofNat a), .int .i64 (.ofNat b)] => match (Nat.beq a 10 && Nat.beq b 64) && (decide (bytesN s ≠ []) && ((bytesN s).all digB && (Nat.ble s.size 19 && Nat.ble (numL (bytesN s)) 9223372036854775807))) with
    | true => some (.tuple #[vi (numL (bytesN s)), .nilIface])
    | false => none
  | _ => none
 | false => none
theorem orcA_ok (A : List Atom) : OrcOk A Tryz.prog orcA := by
  intro f args v h
  unfold orcA at h
  split at h
  · rename_i hf
    obtain rfl := beqT hf
    split at h
    case h_2 => cases h
    rename_i s c
    split at h
    case h_2 => cases h
    rename_i hc
    cases h
    refine ⟨rfl, fun σ => ?_⟩
    simp only [List.map_cons, List.map_nil, rn_string, rn_int]
    exact (ixb_spec s c (bltT hc)).conv (R := [A]) (by simp [Spl]) (by rintro u Post ⟨rfl, rfl⟩; exact ⟨_, ⟨rfl, rfl⟩, Imp.refl _⟩)
  split at h
  · rename_i hf
    obtain rfl := beqT hf
    split at h
    case h_2 => cases h
    rename_i s a b
    split at h
    case h_2 => cases h
    rename_i hc
    simp only [Bool.and_eq_true, decide_eq_true_eq] at hc
    obtain ⟨⟨h1, h2⟩, h3, h4, h5, h6⟩ := hc
    obtain rfl := beqT h1
    obtain rfl := beqT h2
    cases h
    refine ⟨rfl, fun σ => ?_⟩
    simp only [List.map_cons, List.map_nil, rn_string, rn_int]
    exact parseInt_ok A s h3 h4 (bleT h5) (bleT h6)
  · cases h
def tabM : List (Nat × FE) := [(3, .fir F3), (4, .fir F4), (5, .fir F5), (6, .fir F6), (7, .fir F7), (8, .fir F8), (10, .dir F10 F17), (11, .fir F11), (12, .fir F12), (18, .fir F18), (19, .fir F19), (20, .fir F20), (21, .fir F21), (22, .fir F22), (23, .fir F23), (24, .fir F24), (28, .fir F28), (29, .fir F29), (30, .fir F30), (31, .fir F31), (32, .fir F32), (33, .fir F33), (34, .fir F34), (35, .fir F35), (36, .fir F36), (37, .fir F37), (38, .fir F38), (39, .fir F39), (40, .fir F40), (41, .fir F41), (42, .fir F42), (43, .fir F43), (44, .fir F44), (45, .fir F45), (46, .fir F46), (47, .fir F47), (48, .fir F48), (49, .fir F49), (50, .fir F50), (51, .fir F51), (52, .fir F52), (53, .fir F53), (54, .fir F54), (55, .fir F55), (56, .fir F56), (57, .fir F57), (59, .fir F59), (60, .fir F60), (61, .fir F61), (62, .fir F62), (63, .fir F63), (64, .fir F64), (65, .fir F65), (66, .fir F66), (67, .fir F67), (69, .fir F69), (70, .fir F70), (72, .fir F72), (73, .fir F73), (74, .fir F74), (76, .fir F76), (79, .fir F79), (80, .fir F80), (81, .fir F81), (83, .fir F83), (85, .fir F85), (86, .fir F86), (95, .fir F95), (102, .fir F102), (129, .fir F129)]
theorem tabM_ok : TabOk Tryz.prog tabM := .cons low3 <| .cons low4 <| .cons low5 <| .cons low6 <| .cons low7 <| .cons low8 <| .consD low10 low17 <| .cons low11 <| .cons low12 <| .cons low18 <| .cons low19 <| .cons low20 <| .cons low21 <| .cons low22 <| .cons low23 <| .cons low24 <| .cons low28 <| .cons low29 <| .cons low30 <| .cons low31 <| .cons low32 <| .cons low33 <| .cons low34 <| .cons low35 <| .cons low36 <| .cons low37 <| .cons low38 <| .cons low39 <| .cons low40 <| .cons low41 <| .cons low42 <| .cons low43 <| .cons low44 <| .cons low45 <| .cons low46 <| .cons low47 <| .cons low48 <| .cons low49 <| .cons low50 <| .cons low51 <| .cons low52 <| .cons low53 <| .cons low54 <| .cons low55 <| .cons low56 <| .cons low57 <| .cons low59 <| .cons low60 <| .cons low61 <| .cons low62 <| .cons low63 <| .cons low64 <| .cons low65 <| .cons low66 <| .cons low67 <| .cons low69 <| .cons low70 <| .cons low72 <| .cons low73 <| .cons low74 <| .cons low76 <| .cons low79 <| .cons low80 <| .cons low81 <| .cons low83 <| .cons low85 <| .cons low86 <| .cons low95 <| .cons low102 <| .cons low129 .nil
theorem awake_spec (A : List Atom) (hE : ErA ∈ A) : Fun Tryz.prog 4 [] [A] (fun v Post => v = .bool true ∧ Post = [A]) :=
  run_at (N0 := 100000) (L := 100000) (k := 100) tabM_ok (orcTo_sound (orcE_ok A hE _) (orcOf_sound (orcA_ok A))) rfl rfl (by kernel_rfl)
section
variable (A : List Atom) (hE : ErA ∈ A)
include hE
theorem Wrong_num (n : Int) : Fun Tryz.prog 5 [.iface 23 (.int .i64 n)] [A] (fun v Post => v = .tuple #[.int .i64 n, .int .i64 0] ∧ Post = [A]) := by
  refine Fun.intro low5 (by simp [n5]) ?_
  refine GOH ?_
  refine st_alloc (fun pe => ?_)
  refine GOH ?_
  refine st_alloc (fun pf => ?_)
  refine GOH ?_
  refine st_call (As_miss A hE n pf _) (by rfl) (by exact SPx) (fun v Post hv => ?_)
  obtain ⟨rfl, rfl⟩ := hv
  simp only [CNx]
  refine GOH ?_
  refine st_call (As_num A hE n pe _) (by rfl) (by exact SPx) (fun v Post hv => ?_)
  obtain ⟨rfl, rfl⟩ := hv
  simp only [CNx]
  refine GOH ?_
  refine endQ_mk (.inr rfl) (.tmp (by rfl) (.tmp (by rfl) .nil)) ⟨by simp [tup], rfl⟩ (by exact IMx)
theorem Wrong_in (k : Nat) (a n : Int) (ha : Atom.cell k 1 (.int .i64 a) ∈ A) (hk : Atom.cell k 2 (.iface 23 (.int .i64 n)) ∈ A) : Fun Tryz.prog 5 [flP k] [A] (fun v Post => v = .tuple #[.int .i64 n, .int .i64 a] ∧ Post = [A]) := by
  refine Fun.intro low5 (by simp [n5]) ?_
  unfold flP
  refine GOH ?_
  refine st_alloc (fun pe => ?_)
  refine GOH ?_
  refine st_alloc (fun pf => ?_)
  refine GOH ?_
  refine st_call (As_fail A hE k pf _) (by rfl) (by exact SPx) (fun v Post hv => ?_)
  obtain ⟨rfl, rfl⟩ := hv
  simp only [CNx]
  refine GOH ?_
  refine st_call (As_in A hE k n hk pe _) (by rfl) (by exact SPx) (fun v Post hv => ?_)
  obtain ⟨rfl, rfl⟩ := hv
  simp only [CNx]
  refine GOH ?_
  refine endQ_mk (.inr rfl) (.tmp (by rfl) (.tmp (by rfl) .nil)) ⟨by simp [tup], rfl⟩ (by exact IMx)
theorem Wrong_in2 (k m : Nat) (a n : Int) (ha : Atom.cell k 1 (.int .i64 a) ∈ A) (hk : Atom.cell k 2 (flP m) ∈ A) (hm : Atom.cell m 2 (.iface 23 (.int .i64 n)) ∈ A) : Fun Tryz.prog 5 [flP k] [A] (fun v Post => v = .tuple #[.int .i64 n, .int .i64 a] ∧ Post = [A]) := by
  refine Fun.intro low5 (by simp [n5]) ?_
  have e : flP k = .iface 26 (ptr0 k) := rfl
  rw [e]
  refine GOH ?_
  refine st_alloc (fun pe => ?_)
  refine GOH ?_
  refine st_alloc (fun pf => ?_)
  refine GOH ?_
  refine st_call (As_fail A hE k pf _) (by rfl) (by exact SPx) (fun v Post hv => ?_)
  obtain ⟨rfl, rfl⟩ := hv
  simp only [CNx]
  refine GOH ?_
  refine st_call (As_in2 A hE k m n hk hm pe _) (by rfl) (by exact SPx) (fun v Post hv => ?_)
  obtain ⟨rfl, rfl⟩ := hv
  simp only [CNx]
  refine GOH ?_
  refine endQ_mk (.inr rfl) (.tmp (by rfl) (.tmp (by rfl) .nil)) ⟨by simp [tup], rfl⟩ (by exact IMx)
theorem Wrong_other (k m : Nat) (a : Int) (ha : Atom.cell k 1 (.int .i64 a) ∈ A) (hk : Atom.cell k 2 (.iface 50 (ptr0 m)) ∈ A) : Fun Tryz.prog 5 [flP k] [A] (fun v Post => v = .tuple #[.int .i64 (-1), .int .i64 a] ∧ Post = [A]) := by
  refine Fun.intro low5 (by simp [n5]) ?_
  have e : flP k = .iface 26 (ptr0 k) := rfl
  rw [e]
  refine GOH ?_
  refine st_alloc (fun pe => ?_)
  refine GOH ?_
  refine st_alloc (fun pf => ?_)
  refine GOH ?_
  refine st_call (As_fail A hE k pf _) (by rfl) (by exact SPx) (fun v Post hv => ?_)
  obtain ⟨rfl, rfl⟩ := hv
  simp only [CNx]
  refine GOH ?_
  refine st_call (As_other A hE k m hk pe _) (by rfl) (by exact SPx) (fun v Post hv => ?_)
  obtain ⟨rfl, rfl⟩ := hv
  simp only [CNx]
  refine GOH ?_
  refine endQ_mk (.inr rfl) (.tmp (by rfl) (.tmp (by rfl) .nil)) ⟨by simp [tup], rfl⟩ (by exact IMx)
end
set_option maxHeartbeats 6400000
theorem Wrong_inB (A : List Atom) (hE : ErA ∈ A) (k : Nat) (s : Value) (a n : Int) : Fun Tryz.prog 5 [.iface 26 (ptr0 k)] [A, cellsAt k 0 [s, .int .i64 a, .iface 23 (.int .i64 n)]] (fun v Post => v = .tuple #[.int .i64 n, .int .i64 a] ∧ Post = [A, cellsAt k 0 [s, .int .i64 a, .iface 23 (.int .i64 n)]]) :=
  (Wrong_in (A ++ cellsAt k 0 [s, .int .i64 a, .iface 23 (.int .i64 n)]) (by simp [hE]) k a n (by simp [cellsAt]) (by simp [cellsAt])).conv (R := []) (by simp [V.Spl]) (fun v Post h => ⟨_, ⟨h.1, rfl⟩, by rw [h.2]; exact Imp.perm (by simp)⟩)
theorem Wrong_in2B (A : List Atom) (hE : ErA ∈ A) (k m : Nat) (s t : Value) (a b n : Int) : Fun Tryz.prog 5 [.iface 26 (ptr0 k)] [A, cellsAt k 0 [s, .int .i64 a, .iface 26 (ptr0 m)], cellsAt m 0 [t, .int .i64 b, .iface 23 (.int .i64 n)]] (fun v Post => v = .tuple #[.int .i64 n, .int .i64 a] ∧ Post = [A]) :=
  (Wrong_in2 (A ++ (cellsAt k 0 [s, .int .i64 a, .iface 26 (ptr0 m)] ++ cellsAt m 0 [t, .int .i64 b, .iface 23 (.int .i64 n)])) (by simp [hE]) k m a n (by simp [cellsAt]) (by simp [cellsAt, flP]) (by simp [cellsAt])).conv (R := []) (by simp [V.Spl]) (fun v Post h => ⟨_, ⟨h.1, rfl⟩, by rw [h.2]; exact ⟨[cellsAt k 0 [s, .int .i64 a, .iface 26 (ptr0 m)] ++ cellsAt m 0 [t, .int .i64 b, .iface 23 (.int .i64 n)]], by simp [V.Spl]⟩⟩)
theorem Wrong_otherB (A : List Atom) (hE : ErA ∈ A) (k m : Nat) (s : Value) (a : Int) : Fun Tryz.prog 5 [.iface 26 (ptr0 k)] [A, cellsAt k 0 [s, .int .i64 a, .iface 50 (ptr0 m)]] (fun v Post => v = .tuple #[.int .i64 (-1), .int .i64 a] ∧ Post = [A, cellsAt k 0 [s, .int .i64 a, .iface 50 (ptr0 m)]]) :=
  (Wrong_other (A ++ cellsAt k 0 [s, .int .i64 a, .iface 50 (ptr0 m)]) (by simp [hE]) k m a (by simp [cellsAt]) (by simp [cellsAt])).conv (R := []) (by simp [V.Spl]) (fun v Post h => ⟨_, ⟨h.1, rfl⟩, by rw [h.2]; exact Imp.perm (by simp)⟩)
theorem New_spec (s : ByteArray) : Fun Tryz.prog 6 [.string s] [] (fun v Post => ∃ m, v = .iface 50 (ptr0 m) ∧ Post = []) := by
  refine Fun.intro low6 (by simp [n6]) ?_
  refine GOH ?_
  refine st_box (by rfl) (fun m => ?_)
  simp only [Value.cells]
  refine GOH ?_
  refine endQ_mk (.inr rfl) (.tmp (by rfl) .nil) ⟨m, rfl, rfl⟩ (by exact IMx)
theorem parseWrongs_spec (A : List Atom) (hE : ErA ∈ A) (haw : Fun Tryz.prog 4 [] [A] (fun v Post => v = .bool true ∧ Post = [A])) (n a b : Int) (s : ByteArray) (hs : s.size ≤ 1048576) :
    Fun Tryz.prog 3 [.int .i64 n, .int .i64 a, .int .i64 b, .string s] [A] (fun v Post => v = .bool true ∧ Post = [A]) := by
  refine Fun.intro low3 (by simp [n3]) ?_
  refine GOH ?_
  refine st_call haw (by rfl) (by exact SPx) (fun v Post hv => ?_)
  obtain ⟨rfl, rfl⟩ := hv
  simp only [CNx]
  refine GOH ?_
  rw [decide_eq_false (show ¬ (s.size : Int) > 1048576 by omega)]
  refine GOH ?_
  refine st_call (Wrong_num A hE n) (by rfl) (by exact SPx) (fun v Post hv => ?_)
  obtain ⟨rfl, rfl⟩ := hv
  simp only [CNx]
  refine GOH ?_
  refine st_box (by rfl) (fun k1 => ?_)
  simp only [Value.cells]
  refine GOH ?_
  refine st_call (Wrong_inB A hE k1 _ a n) (by rfl) (by exact SPx) (fun v Post hv => ?_)
  obtain ⟨rfl, rfl⟩ := hv
  simp only [CNx]
  refine GOH ?_
  refine st_box (by rfl) (fun k2 => ?_)
  simp only [Value.cells]
  refine GOH ?_
  refine st_box (by rfl) (fun k3 => ?_)
  simp only [Value.cells]
  refine GOH ?_
  refine st_call (Wrong_in2B A hE k3 k2 _ _ b a n) (by rfl) (by exact SPx) (fun v Post hv => ?_)
  obtain ⟨rfl, rfl⟩ := hv
  simp only [CNx]
  refine GOH ?_
  refine st_call (New_spec s) (by rfl) (by exact SPx) (fun v Post hv => ?_)
  obtain ⟨m, rfl, rfl⟩ := hv
  simp only [CNx]
  refine GOH ?_
  refine st_box (by rfl) (fun k4 => ?_)
  simp only [Value.cells]
  refine GOH ?_
  refine st_call (Wrong_otherB A hE k4 m _ b) (by rfl) (by exact SPx) (fun v Post hv => ?_)
  obtain ⟨rfl, rfl⟩ := hv
  simp only [CNx]
  refine GOH ?_
  rw [decide_eq_true (show n = n from rfl)]
  refine GOH ?_
  rw [decide_eq_true (show n = n from rfl)]
  refine GOH ?_
  rw [decide_eq_true (show a = a from rfl)]
  refine GOH ?_
  rw [decide_eq_true (show n = n from rfl)]
  refine GOH ?_
  rw [decide_eq_true (show b = b from rfl)]
  refine GOH ?_
  exact endQ_mk (Post := [A]) (.inr rfl) (.tmp (by rfl) .nil) ⟨by simp [tup], rfl⟩ (by exact IMx)
open Go Go.V Go.ChangeShapes Go.WideShapes Go.Deep
section
variable {H : Type} {enc : TypeId × Value → H}
theorem u3 : Tryz.prog.underlying 3 = some (.int .i64) := by kernel_rfl
theorem u4 : Tryz.prog.underlying 4 = some .bool := by kernel_rfl
theorem u9 : Tryz.prog.underlying 9 = some .string := by kernel_rfl
theorem closedS : closedB Tryz.prog [3, 4, 9] = true := by kernel_rfl
theorem closedP : Closed Tryz.prog (· ∈ [3, 4, 9]) := closed_of closedS
theorem own : ownKnob Tryz.prog.godebug = none := by kernel_rfl
theorem str_form {W : World} {base : Nat} {v : Value} {d : DataW H} {p : List MemPlace} (hv : Value.okWide Tryz.prog W .any base 9 v) (h : DataW.Trod enc Tryz.prog W 0 (fun _ => true) true 9 v d p) (hb : Rows.uptoBulk d ≤ 1048576) : ∃ s : ByteArray, v = .string s ∧ s.size ≤ 1048576 := by
  obtain ⟨n, hn⟩ := h
  have hs : ∃ s, v = .string s := by
    cases v <;> simp only [Value.okWide, u9, Cell.okWide, Cell.ok] at hv
    exact ⟨_, rfl⟩
  obtain ⟨s, rfl⟩ := hs
  obtain ⟨t, hz, hx, hwf⟩ := DataW.trod_string u9 hn
  simp only [Value.cells, List.cons.injEq, Value.string.injEq, and_true] at hz
  subst hz
  refine ⟨s, rfl, ?_⟩
  have hd : d = .lit (.string s.data.toList) := congrArg Prod.fst hx
  rw [hd] at hb
  simp only [Rows.uptoBulk, Array.length_toList] at hb
  have : s.size = s.data.size := rfl
  omega
theorem int_form {W : World} {base : Nat} {v : Value} {d : DataW H} {p : List MemPlace} (hv : Value.okWide Tryz.prog W .any base 3 v) (h : DataW.Trod enc Tryz.prog W 0 (fun _ => true) true 3 v d p) : ∃ n : Int, v = .int .i64 n := by
  obtain ⟨n, hn⟩ := h
  have hs : ∃ k z, v = .int k z := by
    cases v <;> simp only [Value.okWide, u3, Cell.okWide, Cell.ok] at hv
    exact ⟨_, _, rfl⟩
  obtain ⟨k, z, rfl⟩ := hs
  obtain ⟨m, hz, hx, hwf⟩ := DataW.trod_int u3 hn
  simp only [Value.cells, List.cons.injEq, Value.int.injEq, and_true] at hz
  obtain ⟨rfl, rfl⟩ := hz
  exact ⟨z, rfl⟩
theorem witZ {C : Checked} {os : Os} {f : FuncId} {fn : Func} {s : OpenSpec} {conds : List PathCond} {apart : Bool} {laid : List (String × DataW Unit)} (w0 : World) (args : Array Value) (hos : w0.os = os)
    (hs : (w0.forCall (fun _ _ => 0) ⟨#[], args, []⟩).Shaped C.prog) (hok : Input.okWideB C.prog (w0.forCall (fun _ _ => 0) ⟨#[], args, []⟩) f ⟨#[], args, []⟩ = true)
    (hrow : s.preRow enc C.prog fn conds apart laid (w0.forCall (fun _ _ => 0) ⟨#[], args, []⟩).memory args) :
    ∃ (w : World) (tape : Tape) (i : Input), w.os = os ∧ (w.forCall tape i).Shaped C.prog ∧ i.vars = [] ∧ Input.okWide C.prog (w.forCall tape i) .any w.heap.size f i ∧
      s.preRow enc C.prog fn conds apart laid (w.forCall tape i).memory i.args ∧ ({ modest := false } : Assume).holds C.prog (lone (Frame.enter C.prog f i.args .normal) [] (w.forCall tape i)) :=
  ⟨w0, fun _ _ => 0, ⟨#[], args, []⟩, hos, hs, (Input.okWide_of_okWideB (base := 0) hok).1, (Input.okWide_of_okWideB hok).2, hrow, by
    simp only [Assume.holds]
    exact ⟨by simp, by simp, fun _ => Modest.zero, by simp, by simp⟩⟩
theorem gErr : Tryz.prog.globalNamed "errors.errorType" = some 0 := by kernel_rfl
theorem hRt : (Tryz.prog.cutTypes.find? (·.1 == "internal/reflectlite.rtype")).map (·.2) = some 82 := by kernel_rfl
theorem hOne : ((List.range Tryz.prog.types.size).filter fun t => Tryz.prog.rowNamed t [101, 114, 114, 111, 114]) = [28] := by kernel_rfl
theorem hZero : (((begin Tryz.prog (fun _ _ => 0) default).world.heap[0]?).bind Obj.row?).isSome = true := by kernel_rfl
theorem hGlob : 0 < Tryz.prog.globals.size := by decide +kernel
theorem hIn : ("errors.errorType", Rows.laid_errors_errorType) ∈ Rows.parseWrongsUptoRow.laid :=
  List.mem_cons_of_mem _ <| List.mem_cons_of_mem _ <| List.mem_cons_of_mem _ <| List.mem_cons_of_mem _ <| List.mem_cons_of_mem _ <| List.mem_cons_of_mem _ <| List.mem_cons_of_mem _ <| List.mem_cons_of_mem _ <| List.mem_cons_of_mem _ <| List.mem_cons_of_mem _ <| List.mem_cons_self ..
theorem err_cell {W : World} (h : laidMetH Tryz.prog Rows.parseWrongsUptoRow.laid W) : W.cell? ⟨0, 0, none⟩ = some (.iface 82 (.agg #[.pointer (some ⟨20, 28, none⟩)])) := by
  obtain ⟨_, h2⟩ := laidMetH_iff.1 h
  obtain ⟨name, u, ty, e1, e2, e3, e4, e5⟩ := h2 ("errors.errorType", Rows.laid_errors_errorType) (List.mem_filter.2 ⟨hIn, rfl⟩)
  have en : name = [101, 114, 114, 111, 114] := (Option.some.inj e1).symm
  subst en
  obtain rfl := Option.some.inj (hRt.symm.trans e2)
  have hm : ty ∈ (List.range Tryz.prog.types.size).filter fun t => Tryz.prog.rowNamed t [101, 114, 114, 111, 114] := List.mem_filter.2 ⟨List.mem_range.2 e3, e4⟩
  rw [hOne] at hm
  obtain rfl := List.mem_singleton.1 hm
  have hh : typeHandle Tryz.prog 28 = .pointer (some ⟨20, 28, none⟩) := by kernel_rfl
  rw [hh] at e5
  simpa using World.var?_cell gErr e5 0
theorem err_in {W : World} (h : laidMetH Tryz.prog Rows.parseWrongsUptoRow.laid W) (hS : W.ShapedOpen Tryz.prog) {A : List Atom} (hA : ∀ a : Atom, a.holds W → a ∈ A) : ErA ∈ A := by
  obtain ⟨⟨z, ty⟩, hzt⟩ := Option.isSome_iff_exists.1 hZero
  obtain ⟨cs, hc, hz, _⟩ := hS.1 0 z ty hGlob hzt
  have hcell := err_cell h
  have h0 : cs[0]? = some (.iface 82 (.agg #[.pointer (some ⟨20, 28, none⟩)])) := by simpa [World.cell?, hc] using hcell
  exact hA _ ⟨cs, ty, 0, 0, hc, h0, by omega⟩
noncomputable def lstN : List (String × DataW Unit) := Rows.parseWrongsUptoRow.laid.filter fun x => x.2.handleName?.isNone
noncomputable def w00 (os : Os) : World :=
  let w := World.holding Tryz.prog os ⟨#[], #[], []⟩
  { w with heap := w.heap.modify 0 fun
      | .cells _ t frozen => .cells #[.iface 82 (.agg #[.pointer (some ⟨20, 28, none⟩)])] t frozen
      | o => o }
noncomputable def wW (os : Os) : World := (w00 os).layVars Tryz.prog lstN
theorem wW_os (os : Os) : (wW os).os = os := World.layVars_os _ _ _
theorem wW_fits (os : Os) : (w00 os).layFits Tryz.prog lstN [] = true := by kernel_rfl
theorem wW_ifaces (os : Os) : (w00 os).layIfaces Tryz.prog lstN (wW os) = true := by kernel_rfl
theorem wW_laid (os : Os) (args : Array Value) : laidMet Tryz.prog lstN ((wW os).forCall (fun _ _ => 0) ⟨#[], args, []⟩).memory := by
  have e1 : (lstN.filter fun x => (lstN.map (·.1)).contains x.1) = lstN := List.filter_eq_self.2 fun x hx => List.contains_iff_mem.2 (List.mem_map.2 ⟨x, hx, rfl⟩)
  have e2 : (lstN.filter fun x => !(lstN.map (·.1)).contains x.1) = [] := List.filter_eq_nil_iff.2 fun x hx => by rw [List.contains_iff_mem.2 (List.mem_map.2 ⟨x, hx, rfl⟩)]; simp
  have h : laidMet Tryz.prog lstN (wW os) := laidMet_layVars (w0 := w00 os) (lstN.map (·.1)) [] (by rw [e1]; rfl) (by rw [e1]; exact wW_fits os) (by rw [e1]; exact wW_ifaces os) (by rw [e2]; exact LaidIn.none)
  exact h.of_heap (by simp [World.memory, World.forCall, Input.heap])
theorem wW_met (os : Os) : laidMetH Tryz.prog Rows.parseWrongsUptoRow.laid ((wW os).forCall (fun _ _ => 0) ⟨#[], #[.int .i64 0, .int .i64 0, .int .i64 0, .string ⟨#[]⟩], []⟩).memory :=
  laidMetH_of_parts (wW_laid os _) (by kernel_rfl)
end
end Go.Proofs.YtmpdaalhafkgjaaGreatDoor

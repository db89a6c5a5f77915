/-
  Two rows that are the same; the size asked.
-/
import Derived.Test.YtgindbomnbojeaaGreatD8
import Derived.Test.YtgindbomnbojeaaGreatP8
import Derived.Test.YtgindbomnbojeaaGreatCB
import Derived.Test.YtgindbomnbojeaaGreatV22
import Derived.Test.YtgindbomnbojeaaGreatCE
import Derived.Test.YtgindbomnbojeaaGreatV20
import Derived.Test.YtgindbomnbojeaaGreatCC
import Derived.Test.YtgindbomnbojeaaGreatV16
set_option linter.unusedSimpArgs false
set_option linter.unusedVariables false
namespace Go.Proofs.YtgindbomnbojeaaGreat
open Go Go.V
set_option maxHeartbeats 12800000
set_option maxRecDepth 100000
theorem sameFiles_spec (A B : List Atom) (av bv : Value) (fs : List (ByteArray × ByteArray)) (m : Nat) (hm : fs.length = m) (ha : RdRow 2 A av m (fs.flatMap fiEnc)) (hb : RdRow 2 B bv m (fs.flatMap fiEnc)) (hl : fs.length ≤ 1073741824) :
    Fun Tryz.prog 29 [av, bv] [A, B] (fun v Post => v = .bool true ∧ Post = [A, B]) := by
  refine Fun.intro low29 (by simp [n29]) ?_
  subst hm
  obtain ⟨aa, ac, hae⟩ := ha.form
  obtain ⟨ba, bc, hbe⟩ := hb.form
  rw [hae, hbe]
  rw [hae] at ha
  rw [hbe] at hb
  refine GO ?_
  refine VC.loop (α := Nat) (Γf := fun k => [(0, .slice aa fs.length ac), (1, .slice ba fs.length bc), (5, vi k)]) (Hf := fun _ => [A, B]) (I := fun k => k ≤ fs.length) (μ := fun k => fs.length - k) 0 (Nat.zero_le _) (by exact SUx) (by exact IMx) ?_
  intro k hk
  refine GO ?_
  (first | (apply VC.seq_cond; rfl) | (apply VC.cond; rfl))
  rotate_left
  · intro hge
    refine GO ?_
    exact endQ_mk (Post := [A, B]) (.inr rfl) (.tmp (by rfl) .nil) ⟨rfl, rfl⟩ (by exact IMx)
  intro hlt
  have hlt : k < fs.length := by simpa using hlt
  obtain ⟨p, hp⟩ : ∃ p, fs[k]? = some p := ⟨fs[k], by simp [hlt]⟩
  obtain ⟨b1, o1, c1, hve1, hc1⟩ := ha.at_ (enc := fiEnc) (fun p => rfl) hp
  obtain ⟨b2, o2, c2, hve2, hc2⟩ := hb.at_ (enc := fiEnc) (fun p => rfl) hp
  simp only [Value.slice.injEq, true_and] at hve1 hve2
  obtain ⟨rfl, rfl⟩ := hve1
  obtain ⟨rfl, rfl⟩ := hve2
  refine GO ?_
  refine st_loadA (us := fiEnc p) (by rfl) (fun y hy => by simp only [List.flatten_cons, List.mem_append]; simp only [hc1 y hy, true_or, or_true]) (by rfl) ?_
  refine GO ?_
  refine st_loadA (us := fiEnc p) (by rfl) (fun y hy => by simp only [List.flatten_cons, List.mem_append]; simp only [hc2 y hy, true_or, or_true]) (by rfl) ?_
  refine GO ?_
  exact ⟨k + 1, by omega, by omega, by exact SUx, by exact IMx⟩
theorem size_spec (t : Nat) (w : WR) (a : AW) (M : Nat) (hM : M ≤ 1073741823) (hR : Rep w a M) (n : Int) :
    Fun Tryz.prog 60 [ptr0 t, vi n] (WMem t w) (fun v Post => v = .tuple #[vi (sizeM n a).1, vi (sizeM n a).2] ∧ Post = WMem t w) := by
  refine Fun.intro low60 (by simp [n60]) ?_
  simp only [WMem]
  have hmany := hR.ok.hmany
  refine GO ?_
  (first | (apply VC.seq_cond; rfl) | (apply VC.cond; rfl))
  · intro hd
    refine GO ?_
    rw [show sizeM n a = (0, 36) from by simp [sizeM, ← hR.dead, hd]]
    exact endQ_mk (Post := WMem t w) (.inr rfl) (.tmp (by rfl) (.tmp (by rfl) .nil)) ⟨rfl, rfl⟩ (by simp only [WMem]; exact IMx)
  intro hd
  refine GO ?_
  refine st_call (held_spec t w n false hR.ok.hv (by omega)) (by rfl) (by simp only [hdr]; exact SPx) (fun v Post hv => ?_)
  obtain ⟨⟨p, rfl, hp1, hp2⟩, rfl⟩ := hv
  rw [hR.held] at hp1 hp2
  simp only [hR.held, hdr, List.cons_append, List.nil_append]
  refine GO ?_
  have hda : a.dead = false := by rw [← hR.dead, hd]
  by_cases he : heldE a.hs n false = 0
  rotate_left
  · simp only [he, decide_false, Bool.not_false]
    refine GO ?_
    rw [show sizeM n a = (0, heldE a.hs n false) from by simp [sizeM, hda, he]]
    exact endQ_mk (Post := WMem t w) (.inr rfl) (.tmp (by rfl) (.tmp (by rfl) .nil)) ⟨rfl, rfl⟩ (by simp only [WMem]; exact IMx)
  obtain ⟨x, y, b, j, fo, hn1, hx, hy, hxc, hxs, hyc, hys, hmode, hat, hxf, hyf, hob, hfi, hfo, hrange⟩ := hR.opened he
  obtain rfl : p = ptr0 x.blk := hp1 x he hx
  have hgH : getH a n = y := by simp only [getH, hy, Option.getD_some]
  have hgF : getF a n = foF fo := by simp only [getF, hgH, hyf, Option.getD_some, hfi]
  have hfile : Atom.cell x.blk 2 (ptr0 b) ∈ w.hs.flatMap hoA := by
    have := hoA_cell (j := 2) (v := pf x.file) hx rfl
    rw [hxf] at this; exact this
  have hnow : Atom.cell b 0 fo.nv ∈ w.objs.flatMap foA := List.mem_flatMap.2 ⟨_, List.mem_of_getElem? hob, by simp [foA, cellsAt]⟩
  obtain ⟨na, nc, hnv⟩ := hfo.now.form
  rw [hnv] at hnow
  simp only [he, decide_true, Bool.not_true]
  refine GO ?_
  rw [show sizeM n a = ((fo.now.length : Int), 0) from by simp [sizeM, hda, he, hgF, foF]]
  exact endQ_mk (Post := WMem t w) (.inr rfl) (.tmp (by rfl) (.tmp (by rfl) .nil)) ⟨rfl, rfl⟩ (by simp only [WMem]; exact IMx)
theorem sameDeeds_spec (A B : List Atom) (av bv : Value) (fs : List De) (m : Nat) (hm : fs.length = m) (ha : RdRow 6 A av m (fs.flatMap deEnc)) (hb : RdRow 6 B bv m (fs.flatMap deEnc)) (hl : fs.length ≤ 1073741824) :
    Fun Tryz.prog 67 [av, bv] [A, B] (fun v Post => v = .bool true ∧ Post = [A, B]) := by
  refine Fun.intro low67 (by simp [n67]) ?_
  subst hm
  obtain ⟨aa, ac, hae⟩ := ha.form
  obtain ⟨ba, bc, hbe⟩ := hb.form
  rw [hae, hbe]
  rw [hae] at ha
  rw [hbe] at hb
  refine GO ?_
  refine VC.loop (α := Nat) (Γf := fun k => [(0, .slice aa fs.length ac), (1, .slice ba fs.length bc), (5, vi k)]) (Hf := fun _ => [A, B]) (I := fun k => k ≤ fs.length) (μ := fun k => fs.length - k) 0 (Nat.zero_le _) (by exact SUx) (by exact IMx) ?_
  intro k hk
  refine GO ?_
  (first | (apply VC.seq_cond; rfl) | (apply VC.cond; rfl))
  rotate_left
  · intro hge
    refine GO ?_
    exact endQ_mk (Post := [A, B]) (.inr rfl) (.tmp (by rfl) .nil) ⟨rfl, rfl⟩ (by exact IMx)
  intro hlt
  have hlt : k < fs.length := by simpa using hlt
  obtain ⟨p, hp⟩ : ∃ p, fs[k]? = some p := ⟨fs[k], by simp [hlt]⟩
  obtain ⟨b1, o1, c1, hve1, hc1⟩ := ha.at_ (enc := deEnc) (fun p => rfl) hp
  obtain ⟨b2, o2, c2, hve2, hc2⟩ := hb.at_ (enc := deEnc) (fun p => rfl) hp
  simp only [Value.slice.injEq, true_and] at hve1 hve2
  obtain ⟨rfl, rfl⟩ := hve1
  obtain ⟨rfl, rfl⟩ := hve2
  refine GO ?_
  refine st_loadA (us := deEnc p) (by rfl) (fun y hy => by simp only [List.flatten_cons, List.mem_append]; simp only [hc1 y hy, true_or, or_true]) (by rfl) ?_
  refine GO ?_
  refine st_loadA (us := deEnc p) (by rfl) (fun y hy => by simp only [List.flatten_cons, List.mem_append]; simp only [hc2 y hy, true_or, or_true]) (by rfl) ?_
  refine GO ?_
  exact ⟨k + 1, by omega, by omega, by exact SUx, by exact IMx⟩
set_option maxHeartbeats 6400000
def markC (n : Int) : List Value := [.int .u8 0, vi n, .string ⟨#[]⟩]
def lentC (cs : List Ch) : List Value := cs.flatMap chEnc ++ (markC (-771) ++ markC (-772))
theorem lentChoices_spec (A : List Atom) (v : Value) (cs : List Ch) (h : RdRow 3 A v cs.length (cs.flatMap chEnc)) (hn : cs.length ≤ 1048576) :
    Fun Tryz.prog 5 [v] [A] (fun v' Post => ∃ b o c sp, v' = .slice (some ⟨b, o, none⟩) cs.length c ∧ cs.length * 3 + 6 + sp.length = c * 3 ∧ c ≤ 1048578 ∧ Post = [A, cellsAt b o (lentC cs ++ sp)]) := by
  obtain ⟨a, c, hv⟩ := h.form
  refine Fun.intro low5 (by simp [n5]) ?_
  rw [hv]
  have hfl : (cs.flatMap chEnc).length = cs.length * 3 := flat_lenS chEnc_len cs
  refine GO ?_
  refine st_mkslice (li := 0) (ci := (cs.length : Int) + 2) (by rfl) (by rfl) (by omega) (by rfl) (fun db => ?_)
  refine GO ?_
  have hz2 : ((cs.length : Int) + 2).toNat = cs.length + 2 := by omega
  have hz : (zeroRow ((cs.length : Int) + 2).toNat [.int .u8 0, vi 0, .string ⟨#[]⟩]).length = (cs.length + 2) * 3 := by simp [zeroRow, hz2]
  refine st_append_in (k := 0) (m := cs.length) (xs := []) (sp := zeroRow ((cs.length : Int) + 2).toNat [.int .u8 0, vi 0, .string ⟨#[]⟩]) (ys := cs.flatMap chEnc) (by rfl) (by rfl) (.mk rfl (by rw [List.length_nil, hz, hz2]; omega) (Nat.zero_le _)) .here (by rfl) ?_ hfl (chEnc_one _) (by omega) (fun sp' hsl => ?_)
  · rcases h with ⟨h1, h2, h3⟩ | ⟨b, o, c', h1, h2, h3, hA⟩
    · rw [hv] at h1
      simp only [Value.slice.injEq] at h1
      obtain ⟨rfl, -, -⟩ := h1
      simpa [Src] using h3
    · rw [hv] at h1
      simp only [Value.slice.injEq, true_and] at h1
      obtain ⟨rfl, rfl⟩ := h1
      exact ⟨h3, fun x hx => by simp only [List.flatten_cons, List.mem_append]; simp only [hA x hx, true_or, or_true]⟩
  rw [Nat.zero_add, List.nil_append] at hsl
  rw [List.nil_append]
  rw [Nat.zero_add]
  refine GO ?_
  refine st_bslice (out := markC (-771) ++ markC (-772)) (by rfl) (by rfl) (fun q3 => ?_)
  refine GO ?_
  refine st_append_in (k := cs.length) (m := 2) (xs := cs.flatMap chEnc) (sp := sp') (ys := markC (-771) ++ markC (-772)) (by rfl) (by rfl) hsl (by exact TKx) (by rfl) ?_ rfl (by rfl) (by omega) (fun sp2 hs2 => ?_)
  · exact ⟨rfl, fun a ha => by simp only [List.flatten_cons, List.mem_append]; exact .inl ha⟩
  rw [show cs.flatMap chEnc ++ (markC (-771) ++ markC (-772)) = lentC cs from rfl] at hs2 ⊢
  obtain ⟨b, o, c2, he2, hc2, hl2⟩ := hs2.some (by omega)
  simp only [Value.slice.injEq, Option.some.injEq, Addr.mk.injEq, true_and, and_true] at he2
  obtain ⟨⟨rfl, rfl⟩, rfl⟩ := he2
  have hll : (lentC cs).length = cs.length * 3 + 6 := by simp [lentC, markC, hfl]
  refine GO ?_
  refine st_slcL (l := 0) (h := cs.length) (o' := 0) (by rfl) .dft (.num (by rfl)) ⟨by omega, by omega⟩ (by split <;> omega) ?_
  refine GO ?_
  exact endQ_mk (.inr rfl) (.tmp (by rfl) .nil) ⟨_, _, _, sp2, rfl, by omega, by omega, rfl⟩ (by simp only [slA_at]; exact IMx)
end Go.Proofs.YtgindbomnbojeaaGreat
namespace Go.V
open Go
def chB (n : Nat) : ByteArray := ⟨#[UInt8.ofNat (97 + n % 26)]⟩
def markN (n : Nat) : ByteArray := if _h : 26 ≤ n then markN (n / 26) ++ chB n else chB n
termination_by n
decreasing_by omega
def minusB : ByteArray := ⟨#[45]⟩
def markZ (z : Int) : ByteArray := if z < 0 then minusB ++ markN (-z).toNat else markN z.toNat
theorem markN_size : ∀ (f n : Nat), n < 26 ^ (f + 1) → (markN n).size ≤ f + 1 := by
  intro f
  induction f with
  | zero =>
    intro n h
    unfold markN
    rw [dif_neg (by simp at h; omega)]
    exact Nat.le_refl _
  | succ f ih =>
    intro n h
    unfold markN
    split
    · have : n / 26 < 26 ^ (f + 1) := by
        rw [Nat.div_lt_iff_lt_mul (by omega)]; rw [Nat.pow_succ] at h; exact h
      have := ih _ this
      rw [ByteArray.size_append]
      have e : (chB n).size = 1 := rfl
      omega
    · have e : (chB n).size = 1 := rfl
      omega
theorem markN_small {n : Nat} (h : n ≤ 4611686018427387904) : (markN n).size ≤ 14 := by
  refine markN_size 13 n ?_
  rw [show (26 : Nat) ^ (13 + 1) = 64509974703297150976 by decide]
  omega
theorem ch_txt (n : Nat) : ftxt [UInt8.ofNat (97 + n % 26)] = chB n := rfl
end Go.V
namespace Go.Proofs.YtgindbomnbojeaaGreat
open Go Go.V
set_option maxHeartbeats 6400000
set_option maxRecDepth 100000
theorem markN_spec : ∀ n : Nat, n ≤ 4611686018427387904 → Fun Tryz.prog 25 [vi n] [] (fun v Post => v = .string (markN n) ∧ Post = []) := by
  intro n
  induction n using Nat.strongRecOn with
  | _ n ih =>
  intro hn
  refine Fun.intro low25 (by simp [n25]) ?_
  refine GO ?_
  have hr : (n : Int).tmod 26 = ((n % 26 : Nat) : Int) := by rw [Int.tmod_eq_emod_of_nonneg (by omega)]; omega
  have he : IntKind.u8.wrap (IntKind.i64.wrap (97 + (n : Int).tmod 26)) = ((UInt8.ofNat (97 + n % 26)).toNat : Int) := by
    rw [hr, wrap64 ⟨by omega, by omega⟩]
    have : (UInt8.ofNat (97 + n % 26)).toNat = 97 + n % 26 := by simp; omega
    rw [this]
    simp [IntKind.wrap, IntKind.bits, IntKind.signed]; omega
  rw [he]
  refine st_bslice (out := [u8v (UInt8.ofNat (97 + n % 26))]) (by rfl) (by rfl) (fun q => ?_)
  refine GO ?_
  refine st_b2s (l := [UInt8.ofNat (97 + n % 26)]) (by rfl) ((IsSl.mk (b := q) (o := 0) (n := 1) (c := 1) (xs := [u8v (UInt8.ofNat (97 + n % 26))]) (sp := []) rfl rfl (Nat.le_refl _)).bytes .here) ?_
  rw [ch_txt]
  refine GO ?_
  by_cases h26 : 26 ≤ n
  · simp only [show (26 : Int) ≤ (n : Int) by omega, decide_true, show ((n : Int) ≥ 26) by omega]
    refine GO ?_
    have hq : IntKind.i64.wrap ((n : Int).tdiv 26) = ((n / 26 : Nat) : Int) := by
      rw [Int.tdiv_eq_ediv_of_nonneg (by omega)]
      rw [wrap64 ⟨by omega, by omega⟩]; omega
    rw [hq]
    refine GO ?_
    refine st_call (ih (n / 26) (by omega) (by omega)) (by rfl) Spl.nil (fun v Post hv => ?_)
    obtain ⟨rfl, rfl⟩ := hv
    simp only [List.nil_append]
    have hs := markN_small (n := n / 26) (by omega)
    refine GO ?_
    refine st_cat (by rfl) (by rfl) (by have e : (chB n).size = 1 := rfl; omega) ?_
    refine GO ?_
    exact endQ_mk (Post := []) (.inr rfl) (.tmp (by rfl) .nil) ⟨by rw [show markN n = markN (n / 26) ++ chB n by rw [markN, dif_pos h26]]; rfl, rfl⟩ (by exact IMx)
  · simp only [show ¬ ((n : Int) ≥ 26) by omega, decide_false]
    refine GO ?_
    exact endQ_mk (Post := []) (.inr rfl) (.tmp (by rfl) .nil) ⟨by rw [show markN n = chB n by rw [markN, dif_neg h26]]; rfl, rfl⟩ (by exact IMx)
theorem mark_spec (z : Int) (h1 : -4611686018427387904 ≤ z) (h2 : z ≤ 4611686018427387904) : Fun Tryz.prog 25 [vi z] [] (fun v Post => v = .string (markZ z) ∧ Post = []) := by
  by_cases hz : z < 0
  rotate_left
  · obtain ⟨n, rfl⟩ := Int.eq_ofNat_of_zero_le (show 0 ≤ z by omega)
    rw [show markZ n = markN n by unfold markZ; rw [if_neg (by omega)]; rfl]
    exact markN_spec n (by omega)
  refine Fun.intro low25 (by simp [n25]) ?_
  refine GO ?_
  simp only [decide_eq_true hz]
  refine GO ?_
  have hw : IntKind.i64.wrap (0 - z) = (((-z).toNat : Nat) : Int) := by rw [wrap64 ⟨by omega, by omega⟩]; omega
  rw [hw]
  refine st_call (markN_spec (-z).toNat (by omega)) (by rfl) Spl.nil (fun v Post hv => ?_)
  obtain ⟨rfl, rfl⟩ := hv
  simp only [List.nil_append]
  have hs := markN_small (n := (-z).toNat) (by omega)
  refine GO ?_
  refine st_cat (by rfl) (by rfl) (by have e : (ByteArray.mk #[45]).size = 1 := rfl; omega) ?_
  refine GO ?_
  exact endQ_mk (Post := []) (.inr rfl) (.tmp (by rfl) .nil) ⟨by rw [show markZ z = minusB ++ markN (-z).toNat by unfold markZ; rw [if_pos hz]]; rfl, rfl⟩ (by exact IMx)
def markF (n : Int) : List Value := [.string (markZ n), .string ⟨#[]⟩]
def lentF (cs : List (ByteArray × ByteArray)) : List Value := cs.flatMap fiEnc ++ (markF (-771) ++ markF (-772))
theorem fiEnc_len (p : ByteArray × ByteArray) : (fiEnc p).length = 2 := rfl
theorem fiEnc_one (l : List (ByteArray × ByteArray)) : (l.flatMap fiEnc).all oneCell = true := by
  rw [List.all_flatMap, List.all_eq_true]; intro p _; rfl
theorem lentFiles_spec (A : List Atom) (v : Value) (cs : List (ByteArray × ByteArray)) (h : RdRow 2 A v cs.length (cs.flatMap fiEnc)) (hn : cs.length ≤ 1048576) :
    Fun Tryz.prog 6 [v] [A] (fun v' Post => ∃ b o c sp, v' = .slice (some ⟨b, o, none⟩) cs.length c ∧ cs.length * 2 + 4 + sp.length = c * 2 ∧ c ≤ 1048578 ∧ Post = [A, cellsAt b o (lentF cs ++ sp)]) := by
  obtain ⟨a, c, hv⟩ := h.form
  refine Fun.intro low6 (by simp [n6]) ?_
  rw [hv]
  have hfl : (cs.flatMap fiEnc).length = cs.length * 2 := flat_lenS fiEnc_len cs
  refine GO ?_
  refine st_mkslice (li := 0) (ci := (cs.length : Int) + 2) (by rfl) (by rfl) (by omega) (by rfl) (fun db => ?_)
  refine GO ?_
  have hz2 : ((cs.length : Int) + 2).toNat = cs.length + 2 := by omega
  have hz : (zeroRow ((cs.length : Int) + 2).toNat [.string ⟨#[]⟩, .string ⟨#[]⟩]).length = (cs.length + 2) * 2 := by simp [zeroRow, hz2]
  refine st_append_in (k := 0) (m := cs.length) (xs := []) (sp := zeroRow ((cs.length : Int) + 2).toNat [.string ⟨#[]⟩, .string ⟨#[]⟩]) (ys := cs.flatMap fiEnc) (by rfl) (by rfl) (.mk rfl (by rw [List.length_nil, hz, hz2]; omega) (Nat.zero_le _)) .here (by rfl) ?_ hfl (fiEnc_one _) (by omega) (fun sp' hsl => ?_)
  · rcases h with ⟨h1, h2, h3⟩ | ⟨b, o, c', h1, h2, h3, hA⟩
    · rw [hv] at h1
      simp only [Value.slice.injEq] at h1
      obtain ⟨rfl, -, -⟩ := h1
      simpa [Src] using h3
    · rw [hv] at h1
      simp only [Value.slice.injEq, true_and] at h1
      obtain ⟨rfl, rfl⟩ := h1
      exact ⟨h3, fun x hx => by simp only [List.flatten_cons, List.mem_append]; simp only [hA x hx, true_or, or_true]⟩
  rw [Nat.zero_add, List.nil_append] at hsl
  rw [List.nil_append]
  rw [Nat.zero_add]
  refine GO ?_
  refine st_call (mark_spec (-771) (by decide) (by decide)) (by rfl) Spl.nil (fun v Post hv => ?_)
  obtain ⟨rfl, rfl⟩ := hv
  rw [List.nil_append]
  refine GO ?_
  refine st_call (mark_spec (-772) (by decide) (by decide)) (by rfl) Spl.nil (fun v Post hv => ?_)
  obtain ⟨rfl, rfl⟩ := hv
  rw [List.nil_append]
  refine GO ?_
  refine st_bslice (out := markF (-771) ++ markF (-772)) (by rfl) (by rfl) (fun q3 => ?_)
  refine GO ?_
  refine st_append_in (k := cs.length) (m := 2) (xs := cs.flatMap fiEnc) (sp := sp') (ys := markF (-771) ++ markF (-772)) (by rfl) (by rfl) hsl (by exact TKx) (by rfl) ?_ rfl (by rfl) (by omega) (fun sp2 hs2 => ?_)
  · exact ⟨rfl, fun a ha => by simp only [List.flatten_cons, List.mem_append]; exact .inl ha⟩
  rw [show cs.flatMap fiEnc ++ (markF (-771) ++ markF (-772)) = lentF cs from rfl] at hs2 ⊢
  obtain ⟨b, o, c2, he2, hc2, hl2⟩ := hs2.some (by omega)
  simp only [Value.slice.injEq, Option.some.injEq, Addr.mk.injEq, true_and, and_true] at he2
  obtain ⟨⟨rfl, rfl⟩, rfl⟩ := he2
  have hll : (lentF cs).length = cs.length * 2 + 4 := by simp [lentF, markF, hfl]
  refine GO ?_
  refine st_slcL (l := 0) (h := cs.length) (o' := 0) (by rfl) .dft (.num (by rfl)) ⟨by omega, by omega⟩ (by split <;> omega) ?_
  refine GO ?_
  exact endQ_mk (.inr rfl) (.tmp (by rfl) .nil) ⟨_, _, _, sp2, rfl, by omega, by omega, rfl⟩ (by simp only [slA_at]; exact IMx)
theorem sameChoices_spec (A B : List Atom) (av bv : Value) (fs : List Ch) (m : Nat) (hm : fs.length = m) (ha : RdRow 3 A av m (fs.flatMap chEnc)) (hb : RdRow 3 B bv m (fs.flatMap chEnc)) (hl : fs.length ≤ 1073741824) :
    Fun Tryz.prog 28 [av, bv] [A, B] (fun v Post => v = .bool true ∧ Post = [A, B]) := by
  refine Fun.intro low28 (by simp [n28]) ?_
  subst hm
  obtain ⟨aa, ac, hae⟩ := ha.form
  obtain ⟨ba, bc, hbe⟩ := hb.form
  rw [hae, hbe]
  rw [hae] at ha
  rw [hbe] at hb
  refine GO ?_
  refine VC.loop (α := Nat) (Γf := fun k => [(0, .slice aa fs.length ac), (1, .slice ba fs.length bc), (5, vi k)]) (Hf := fun _ => [A, B]) (I := fun k => k ≤ fs.length) (μ := fun k => fs.length - k) 0 (Nat.zero_le _) (by exact SUx) (by exact IMx) ?_
  intro k hk
  refine GO ?_
  (first | (apply VC.seq_cond; rfl) | (apply VC.cond; rfl))
  rotate_left
  · intro hge
    refine GO ?_
    exact endQ_mk (Post := [A, B]) (.inr rfl) (.tmp (by rfl) .nil) ⟨rfl, rfl⟩ (by exact IMx)
  intro hlt
  have hlt : k < fs.length := by simpa using hlt
  obtain ⟨p, hp⟩ : ∃ p, fs[k]? = some p := ⟨fs[k], by simp [hlt]⟩
  obtain ⟨b1, o1, c1, hve1, hc1⟩ := ha.at_ (enc := chEnc) (fun p => rfl) hp
  obtain ⟨b2, o2, c2, hve2, hc2⟩ := hb.at_ (enc := chEnc) (fun p => rfl) hp
  simp only [Value.slice.injEq, true_and] at hve1 hve2
  obtain ⟨rfl, rfl⟩ := hve1
  obtain ⟨rfl, rfl⟩ := hve2
  refine GO ?_
  refine st_loadA (us := chEnc p) (by rfl) (fun y hy => by simp only [List.flatten_cons, List.mem_append]; simp only [hc1 y hy, true_or, or_true]) (by rfl) ?_
  refine GO ?_
  refine st_loadA (us := chEnc p) (by rfl) (fun y hy => by simp only [List.flatten_cons, List.mem_append]; simp only [hc2 y hy, true_or, or_true]) (by rfl) ?_
  refine GO ?_
  exact ⟨k + 1, by omega, by omega, by exact SUx, by exact IMx⟩
theorem lentC_row (b o c : Nat) (cs : List Ch) (sp : List Value) (h : cs.length ≤ c) : RdRow 3 (cellsAt b o (lentC cs ++ sp)) (.slice (some ⟨b, o, none⟩) cs.length c) cs.length (cs.flatMap chEnc) :=
  .inr ⟨b, o, c, rfl, h, flat_lenS chEnc_len cs, fun x hx => by
    obtain ⟨i, v, hi, rfl⟩ := mem_cellsAt.1 hx
    exact mem_cellsAt.2 ⟨i, v, by rw [List.getElem?_append_left (by have := (List.getElem?_eq_some_iff.1 hi).1; rw [lentC, List.length_append]; omega), lentC, List.getElem?_append_left (List.getElem?_eq_some_iff.1 hi).1]; exact hi, rfl⟩⟩
theorem wholeChoices_spec (B : List Atom) (b o c : Nat) (sp : List Value) (vb : Value) (cs : List Ch) (hc : cs.length * 3 + 6 + sp.length = c * 3) (hb : RdRow 3 B vb cs.length (cs.flatMap chEnc)) (hl : cs.length ≤ 1073741824) :
    Fun Tryz.prog 8 [.slice (some ⟨b, o, none⟩) cs.length c, vb] [cellsAt b o (lentC cs ++ sp), B] (fun v Post => v = .bool true ∧ Post = [cellsAt b o (lentC cs ++ sp), B]) := by
  refine Fun.intro low8 (by simp [n8]) ?_
  have hfl : (cs.flatMap chEnc).length = cs.length * 3 := flat_lenS chEnc_len cs
  have m1 : ∀ y ∈ cellsAt b (o + cs.length * 3) (markC (-771)), y ∈ cellsAt b o (lentC cs ++ sp) := by
    intro y hy
    obtain ⟨i, v, hi, rfl⟩ := mem_cellsAt.1 hy
    have hil : i < 3 := (List.getElem?_eq_some_iff.1 hi).1
    refine mem_cellsAt.2 ⟨cs.length * 3 + i, v, ?_, by rw [Nat.add_assoc]⟩
    rw [List.getElem?_append_left (by simp [lentC, markC, hfl]; omega), lentC, List.getElem?_append_right (by omega), hfl, Nat.add_sub_cancel_left, List.getElem?_append_left (by simpa [markC] using hil)]
    exact hi
  have m2 : ∀ y ∈ cellsAt b (o + (cs.length + 1) * 3) (markC (-772)), y ∈ cellsAt b o (lentC cs ++ sp) := by
    intro y hy
    obtain ⟨i, v, hi, rfl⟩ := mem_cellsAt.1 hy
    have hil : i < 3 := (List.getElem?_eq_some_iff.1 hi).1
    refine mem_cellsAt.2 ⟨(cs.length + 1) * 3 + i, v, ?_, by rw [Nat.add_assoc]⟩
    rw [List.getElem?_append_left (by simp [lentC, markC, hfl]; omega), lentC, List.getElem?_append_right (by omega), hfl, show (cs.length + 1) * 3 + i - cs.length * 3 = 3 + i by omega, List.getElem?_append_right (by simp [markC]), show (markC (-771)).length = 3 from rfl, Nat.add_sub_cancel_left]
    exact hi
  have hsame := sameChoices_spec (cellsAt b o (lentC cs ++ sp)) B (.slice (some ⟨b, o, none⟩) cs.length c) vb cs cs.length rfl (lentC_row b o c cs sp (by omega)) hb hl
  generalize cellsAt b o (lentC cs ++ sp) = L at m1 m2 hsame ⊢
  refine GO ?_
  simp only [show ¬ (c : Int) < (cs.length : Int) + 2 by omega, decide_false]
  refine GO ?_
  refine st_slcL (l := 0) (h := cs.length + 2) (o' := o) (by rfl) .dft (.num (by rfl)) ⟨by omega, by omega⟩ (by split <;> omega) ?_
  refine GO ?_
  refine st_call hsame (by rfl) (by exact SPx) (fun v Post hv => ?_)
  obtain ⟨rfl, rfl⟩ := hv
  simp only [CNx]
  refine GO ?_
  refine st_loadA (us := markC (-771)) (by rfl) (fun y hy => by simp only [List.flatten_cons, List.mem_append]; simp only [m1 y hy, true_or, or_true]) (by rfl) ?_
  refine GO ?_
  refine st_loadA (us := markC (-772)) (by rfl) (fun y hy => by simp only [List.flatten_cons, List.mem_append]; simp only [m2 y hy, true_or, or_true]) (by rfl) ?_
  refine GO ?_
  exact endQ_mk (Post := [L, B]) (.inr rfl) (.tmp (by rfl) .nil) ⟨rfl, rfl⟩ (by exact IMx)
theorem lentF_row (b o c : Nat) (cs : List (ByteArray × ByteArray)) (sp : List Value) (h : cs.length ≤ c) : RdRow 2 (cellsAt b o (lentF cs ++ sp)) (.slice (some ⟨b, o, none⟩) cs.length c) cs.length (cs.flatMap fiEnc) :=
  .inr ⟨b, o, c, rfl, h, flat_lenS fiEnc_len cs, fun x hx => by
    obtain ⟨i, v, hi, rfl⟩ := mem_cellsAt.1 hx
    exact mem_cellsAt.2 ⟨i, v, by rw [List.getElem?_append_left (by have := (List.getElem?_eq_some_iff.1 hi).1; rw [lentF, List.length_append]; omega), lentF, List.getElem?_append_left (List.getElem?_eq_some_iff.1 hi).1]; exact hi, rfl⟩⟩
theorem wholeFiles_spec (B : List Atom) (b o c : Nat) (sp : List Value) (vb : Value) (cs : List (ByteArray × ByteArray)) (hc : cs.length * 2 + 4 + sp.length = c * 2) (hb : RdRow 2 B vb cs.length (cs.flatMap fiEnc)) (hl : cs.length ≤ 1073741824) :
    Fun Tryz.prog 9 [.slice (some ⟨b, o, none⟩) cs.length c, vb] [cellsAt b o (lentF cs ++ sp), B] (fun v Post => v = .bool true ∧ Post = [cellsAt b o (lentF cs ++ sp), B]) := by
  refine Fun.intro low9 (by simp [n9]) ?_
  have hfl : (cs.flatMap fiEnc).length = cs.length * 2 := flat_lenS fiEnc_len cs
  have m1 : ∀ y ∈ cellsAt b (o + cs.length * 2) (markF (-771)), y ∈ cellsAt b o (lentF cs ++ sp) := by
    intro y hy
    obtain ⟨i, v, hi, rfl⟩ := mem_cellsAt.1 hy
    have hil : i < 2 := (List.getElem?_eq_some_iff.1 hi).1
    refine mem_cellsAt.2 ⟨cs.length * 2 + i, v, ?_, by rw [Nat.add_assoc]⟩
    rw [List.getElem?_append_left (by simp [lentF, markF, hfl]; omega), lentF, List.getElem?_append_right (by omega), hfl, Nat.add_sub_cancel_left, List.getElem?_append_left (by simpa [markF] using hil)]
    exact hi
  have m2 : ∀ y ∈ cellsAt b (o + (cs.length + 1) * 2) (markF (-772)), y ∈ cellsAt b o (lentF cs ++ sp) := by
    intro y hy
    obtain ⟨i, v, hi, rfl⟩ := mem_cellsAt.1 hy
    have hil : i < 2 := (List.getElem?_eq_some_iff.1 hi).1
    refine mem_cellsAt.2 ⟨(cs.length + 1) * 2 + i, v, ?_, by rw [Nat.add_assoc]⟩
    rw [List.getElem?_append_left (by simp [lentF, markF, hfl]; omega), lentF, List.getElem?_append_right (by omega), hfl, show (cs.length + 1) * 2 + i - cs.length * 2 = 2 + i by omega, List.getElem?_append_right (by simp [markF]), show (markF (-771)).length = 2 from rfl, Nat.add_sub_cancel_left]
    exact hi
  have hsame := sameFiles_spec (cellsAt b o (lentF cs ++ sp)) B (.slice (some ⟨b, o, none⟩) cs.length c) vb cs cs.length rfl (lentF_row b o c cs sp (by omega)) hb hl
  generalize cellsAt b o (lentF cs ++ sp) = L at m1 m2 hsame ⊢
  refine GO ?_
  simp only [show ¬ (c : Int) < (cs.length : Int) + 2 by omega, decide_false]
  refine GO ?_
  refine st_slcL (l := 0) (h := cs.length + 2) (o' := o) (by rfl) .dft (.num (by rfl)) ⟨by omega, by omega⟩ (by split <;> omega) ?_
  refine GO ?_
  refine st_call hsame (by rfl) (by exact SPx) (fun v Post hv => ?_)
  obtain ⟨rfl, rfl⟩ := hv
  simp only [CNx]
  refine GO ?_
  refine VC.seq_draws (α := Unit) (fun _ => [(4, .bool true)]) (fun _ => [L, B]) (fun _ => True) ⟨?_, ?_, ?_, ?_, trivial⟩ (fun _ _ => ?_)
  rotate_right
  · refine GO ?_
    exact endQ_mk (Post := [L, B]) (.inr rfl) (.tmp (by rfl) .nil) ⟨rfl, rfl⟩ (by exact IMx)
  all_goals
    refine GO ?_
    first
      | (refine st_loadA (us := markF (-771)) (by rfl) (fun y hy => by simp only [List.flatten_cons, List.mem_append]; simp only [m1 y hy, true_or, or_true]) (by rfl) ?_
         refine GO ?_
         refine st_call (mark_spec (-771) (by decide) (by decide)) (by rfl) Spl.nil (fun v Post hv => ?_)
         obtain ⟨rfl, rfl⟩ := hv
         rw [List.nil_append]
         refine GO ?_)
      | (refine st_call (mark_spec (-771) (by decide) (by decide)) (by rfl) Spl.nil (fun v Post hv => ?_)
         obtain ⟨rfl, rfl⟩ := hv
         rw [List.nil_append]
         refine GO ?_
         refine st_loadA (us := markF (-771)) (by rfl) (fun y hy => by simp only [List.flatten_cons, List.mem_append]; simp only [m1 y hy, true_or, or_true]) (by rfl) ?_
         refine GO ?_)
    simp only [decide_true, Bool.and_self, Bool.and_true, Bool.false_eq_true, if_false]
    refine GO ?_
    first
      | (refine st_loadA (us := markF (-772)) (by rfl) (fun y hy => by simp only [List.flatten_cons, List.mem_append]; simp only [m2 y hy, true_or, or_true]) (by rfl) ?_
         refine GO ?_
         refine st_call (mark_spec (-772) (by decide) (by decide)) (by rfl) Spl.nil (fun v Post hv => ?_)
         obtain ⟨rfl, rfl⟩ := hv
         rw [List.nil_append]
         refine GO ?_)
      | (refine st_call (mark_spec (-772) (by decide) (by decide)) (by rfl) Spl.nil (fun v Post hv => ?_)
         obtain ⟨rfl, rfl⟩ := hv
         rw [List.nil_append]
         refine GO ?_
         refine st_loadA (us := markF (-772)) (by rfl) (fun y hy => by simp only [List.flatten_cons, List.mem_append]; simp only [m2 y hy, true_or, or_true]) (by rfl) ?_
         refine GO ?_)
    simp only [decide_true, Bool.and_self, Bool.and_true, Bool.false_eq_true, if_false]
    refine GO ?_
    exact ⟨(), trivial, by exact SUx, by exact IMx⟩
theorem spoilChoices_spec (b o n c : Nat) (zs : List Value) (hz : zs.length = c * 3) (hn : n ≤ c) (hc : c ≤ 1073741824) :
    Fun Tryz.prog 11 [.slice (some ⟨b, o, none⟩) n c] [cellsAt b o zs] (fun v Post => v = .tuple #[] ∧ Post = []) := by
  refine Fun.intro low11 (by simp [n11]) ?_
  refine GO ?_
  refine st_slcL (l := 0) (h := c) (o' := o) (by rfl) .dft (.num (by rfl)) ⟨by omega, by omega⟩ (by split <;> omega) ?_
  refine GO ?_
  refine VC.loop (α := Nat × List Value) (Γf := fun s => [(2, .slice (some ⟨b, o, none⟩) c c), (3, vi s.1)]) (Hf := fun s => [cellsAt b o s.2]) (I := fun s => s.1 ≤ c ∧ s.2.length = c * 3) (μ := fun s => c - s.1) (0, zs) ⟨Nat.zero_le _, hz⟩ (by exact SUx) (by exact IMx) ?_
  rintro ⟨k, ys⟩ ⟨hk, hy⟩
  simp only at hk hy
  refine GO ?_
  (first | (apply VC.seq_cond; rfl) | (apply VC.cond; rfl))
  rotate_left
  · intro _
    refine GO ?_
    exact endQ_mk (Post := []) (.inl rfl) .nil ⟨rfl, rfl⟩ Imp.nil
  intro hlt
  have hlt : k < c := by simpa using hlt
  refine GO ?_
  have hml : (markC (-779)).length = 3 := rfl
  refine st_store' (us := markC (-779)) (by rfl) (by rfl) (by rfl) (by rfl) (by rfl) (.cells (by omega) (by rw [hml, hy]; omega) rfl) ?_
  refine GO ?_
  refine ⟨(k + 1, _), ⟨by show k + 1 ≤ c; omega, ?_⟩, by simp only; omega, by exact SUx, Imp.refl _⟩
  simp only [List.length_append, List.length_take, List.length_drop, hml, hy]; omega
theorem spoilFiles_spec (b o n c : Nat) (zs : List Value) (hz : zs.length = c * 2) (hn : n ≤ c) (hc : c ≤ 1073741824) :
    Fun Tryz.prog 12 [.slice (some ⟨b, o, none⟩) n c] [cellsAt b o zs] (fun v Post => v = .tuple #[] ∧ Post = []) := by
  refine Fun.intro low12 (by simp [n12]) ?_
  refine GO ?_
  refine st_slcL (l := 0) (h := c) (o' := o) (by rfl) .dft (.num (by rfl)) ⟨by omega, by omega⟩ (by split <;> omega) ?_
  refine GO ?_
  refine VC.loop (α := Nat × List Value) (Γf := fun s => [(2, .slice (some ⟨b, o, none⟩) c c), (3, vi s.1)]) (Hf := fun s => [cellsAt b o s.2]) (I := fun s => s.1 ≤ c ∧ s.2.length = c * 2) (μ := fun s => c - s.1) (0, zs) ⟨Nat.zero_le _, hz⟩ (by exact SUx) (by exact IMx) ?_
  rintro ⟨k, ys⟩ ⟨hk, hy⟩
  simp only at hk hy
  refine GO ?_
  (first | (apply VC.seq_cond; rfl) | (apply VC.cond; rfl))
  rotate_left
  · intro _
    refine GO ?_
    exact endQ_mk (Post := []) (.inl rfl) .nil ⟨rfl, rfl⟩ Imp.nil
  intro hlt
  have hlt : k < c := by simpa using hlt
  refine GO ?_
  refine st_call (mark_spec (-779) (by decide) (by decide)) (by rfl) Spl.nil (fun v Post hv => ?_)
  obtain ⟨rfl, rfl⟩ := hv
  rw [List.nil_append]
  refine GO ?_
  have hml : (markF (-779)).length = 2 := rfl
  refine st_store' (us := markF (-779)) (by rfl) (by rfl) (by rfl) (by rfl) (by rfl) (.cells (by omega) (by rw [hml, hy]; omega) rfl) ?_
  refine GO ?_
  refine ⟨(k + 1, _), ⟨by show k + 1 ≤ c; omega, ?_⟩, by simp only; omega, by exact SUx, Imp.refl _⟩
  simp only [List.length_append, List.length_take, List.length_drop, hml, hy]; omega
def bkDF (dv fv : Value) : List Value := [.slice none 0 0, .slice none 0 0, .slice none 0 0, dv, fv, .slice none 0 0, .slice none 0 0, .slice none 0 0]
theorem bookDeeds_spec (q : Nat) (fv : Value) (tv : Value) (vs tsp : List Value) (k : Nat) (a : Option Addr) (n c : Nat) (ht : IsSl 1 tv k vs tsp) (hk : k ≤ 1073741824) :
    Fun Tryz.prog 68 [ptr0 q, .slice a n c] [cellsAt q 0 (bkDF tv fv), slA tv vs tsp] (fun v Post => ∃ tv' tsp', IsSl 1 tv' (k + 1) (vs ++ [.slice a n c]) tsp' ∧ v = .tuple #[] ∧ Post = [cellsAt q 0 (bkDF tv' fv), slA tv' (vs ++ [.slice a n c]) tsp']) := by
  refine Fun.intro low68 (by simp [n68]) ?_
  obtain ⟨ta, tc, rfl⟩ := ht.form
  simp only [bkDF]
  refine GO ?_
  refine st_bslice (out := [.slice a n c]) (by rfl) (by rfl) (fun q3 => ?_)
  refine GO ?_
  refine st_append (k := k) (m := 1) (xs := vs) (sp := tsp) (ys := [.slice a n c]) (by rfl) (by rfl) ht (by exact TKx) (by rfl) ?_ rfl (by rfl) (by rfl) (by decide) (by omega) (fun sv' sp' hsl' => ?_)
  · exact ⟨rfl, fun a ha => by simp only [List.flatten_cons, List.mem_append]; exact .inl ha⟩
  obtain ⟨a', c', rfl⟩ := hsl'.form
  refine GO ?_
  exact endQ_mk (.inl rfl) .nil ⟨_, _, hsl', rfl, rfl⟩ (by (try simp only [bkDF]); exact IMx)
theorem bookFiles_spec (q : Nat) (dv : Value) (tv : Value) (vs tsp : List Value) (k : Nat) (a : Option Addr) (n c : Nat) (ht : IsSl 1 tv k vs tsp) (hk : k ≤ 1073741824) :
    Fun Tryz.prog 69 [ptr0 q, .slice a n c] [cellsAt q 0 (bkDF dv tv), slA tv vs tsp] (fun v Post => ∃ tv' tsp', IsSl 1 tv' (k + 1) (vs ++ [.slice a n c]) tsp' ∧ v = .tuple #[] ∧ Post = [cellsAt q 0 (bkDF dv tv'), slA tv' (vs ++ [.slice a n c]) tsp']) := by
  refine Fun.intro low69 (by simp [n69]) ?_
  obtain ⟨ta, tc, rfl⟩ := ht.form
  simp only [bkDF]
  refine GO ?_
  refine st_bslice (out := [.slice a n c]) (by rfl) (by rfl) (fun q3 => ?_)
  refine GO ?_
  refine st_append (k := k) (m := 1) (xs := vs) (sp := tsp) (ys := [.slice a n c]) (by rfl) (by rfl) ht (by exact TKx) (by rfl) ?_ rfl (by rfl) (by rfl) (by decide) (by omega) (fun sv' sp' hsl' => ?_)
  · exact ⟨rfl, fun a ha => by simp only [List.flatten_cons, List.mem_append]; exact .inl ha⟩
  obtain ⟨a', c', rfl⟩ := hsl'.form
  refine GO ?_
  exact endQ_mk (.inl rfl) .nil ⟨_, _, hsl', rfl, rfl⟩ (by (try simp only [bkDF]); exact IMx)
end Go.Proofs.YtgindbomnbojeaaGreat

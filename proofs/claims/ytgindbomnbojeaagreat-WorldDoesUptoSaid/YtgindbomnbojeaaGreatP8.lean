/-
  The outside world: what is left behind a crash.
-/
import Derived.Test.YtgindbomnbojeaaGreatP7
import Derived.Test.YtgindbomnbojeaaGreatSF
import Derived.Test.YtgindbomnbojeaaGreatV16
set_option linter.unusedSimpArgs false
set_option linter.unusedVariables false
namespace Go.Proofs.YtgindbomnbojeaaGreat
open Go Go.V
set_option maxHeartbeats 12800000
set_option maxRecDepth 100000
theorem left_spec (A : List Atom) (t : Nat) (w : WR) (a : AW) (M : Nat) (hM : M ≤ 1073741823) (hR : Rep w a M) (hA : AOk a) (which : Int) (hwh : 0 ≤ which) (cv : Value) (cs : List Ch) (hc : RdRow 3 A cv cs.length (cs.flatMap chEnc)) (hcl : cs.length ≤ 1073741824) :
    Fun Tryz.prog 14 [ptr0 t, .int .u64 which, cv] (WMem t w ++ [A]) (fun v Post => ∃ t' w' a', v = ptr0 t' ∧ LeftR a which cs a' ∧ Rep w' a' 0 ∧ Post = WMem t' w' ++ (WMem t w ++ [A])) := by
  refine Fun.intro low14 (by simp [n14]) ?_
  simp only [WMem, List.cons_append, List.nil_append]
  obtain ⟨ca, cc, hcv⟩ := hc.form
  rw [hcv] at hc ⊢
  have hcount := seqs_le hA hR
  have hfm := hR.fmA
  have hkeys := hR.keys
  refine GO ?_
  refine st_mkmap (fun mb => ?_)
  refine GO ?_
  refine st_box (by rfl) (fun tx => ?_)
  simp only [Value.cells]
  refine GO ?_
  obtain ⟨h, hh⟩ : ∃ h : Nat, h = min cs.length 65536 := ⟨_, rfl⟩
  have hmin : (if (65536 : Int) < (cs.length : Nat) then (65536 : Int) else (cs.length : Nat)) = ((h : Nat) : Int) := by split <;> omega
  rw [hmin]
  refine st_slcRow (by rfl) hc (.num (by rfl)) (by omega) (fun dv hdv => ?_)
  rw [← flatMap_take_len (enc := chEnc) (size := 3) (fun c => rfl)] at hdv
  have htk : cs.take h = cs.take 65536 := by rw [List.take_eq_take_iff]; omega
  rw [htk] at hdv
  have hlen65 : (cs.take 65536).length = h := by rw [List.length_take]; omega
  rw [← hlen65] at hdv
  refine st_call (cloneC_spec A dv _ _ (by omega) hdv (chEnc_one _)) (by rfl) (by exact SPx) (fun v Post hv => ?_)
  obtain ⟨csp', hcs', rfl⟩ := hv
  simp only [CNx]
  obtain ⟨ca', cc', rfl⟩ := hcs'.form
  refine GO ?_
  refine st_rangeM (by rfl) (by (focus ((repeat (first | with_reducible exact HasO.here | apply HasO.there)); done))) (fun q1 => ?_)
  refine GO ?_
  obtain ⟨xc, hxc⟩ : ∃ xc : Value, xc = .slice ca' (cs.take 65536).length cc' := ⟨_, rfl⟩
  refine VC.loop (α := Array Nat × List (ByteArray × Nat) × Value × List Value) (Γf := fun s => [(0, ptr0 t), (1, .int .u64 which), (7, ptr0 tx), (8, s.2.2.1), (41, ptr0 q1)])
    (Hf := fun s => [[.obj q1 (.mapIter (some w.fm) w.fc s.1 w.fc)], slA s.2.2.1 ((seqsOf a s.2.1).map vi) s.2.2.2, cellsAt tx 0 [.slice ca' (cs.take 65536).length cc', .map (some mb), .slice none 0 0, .slice none 0 0, vi w.clock, vi 0, .bool false], slA (.slice ca' (cs.take 65536).length cc') ((cs.take 65536).flatMap chEnc) csp', [.obj mb (.map #[] 0)]] ++ (WMem t w ++ [A]))
    (I := fun s => Seen w.fes a.names s.1 s.2.1 ∧ IsSl 1 s.2.2.1 (seqsOf a s.2.1).length ((seqsOf a s.2.1).map vi) s.2.2.2) (μ := fun s => (w.fes.toList.filter fun e => decide (e.born ∉ s.1.toList)).length) (#[], [], .slice none 0 0, []) ⟨Seen.init, .nil⟩ (by exact SUx) ?_ ?_
  · refine Imp.cut (by simp only [WMem, List.cons_append, List.nil_append]; exact IMx) (Imp.perm (A := [[.obj q1 (.mapIter (some w.fm) w.fc #[] w.fc)], cellsAt tx 0 [.slice ca' (cs.take 65536).length cc', .map (some mb), .slice none 0 0, .slice none 0 0, vi w.clock, vi 0, .bool false], slA (.slice ca' (cs.take 65536).length cc') ((cs.take 65536).flatMap chEnc) csp', [.obj mb (.map #[] 0)]] ++ (WMem t w ++ [A])) ?_)
    simp [slA, seqsOf]
  rintro ⟨seen, C, av, asp⟩ ⟨hseen, hav⟩
  simp only at hseen hav
  obtain ⟨ava, avc, rfl⟩ := hav.form
  simp only [WMem, List.cons_append, List.nil_append]
  refine GO ?_
  refine st_next (b := w.fm) (es := w.fes) (by rfl) .here (by (focus ((repeat (first | with_reducible exact HasO.here | apply HasO.there)); done))) hfm.clock (fun hover => ?_) (fun e he hne => ?_)
  rotate_left
  · -- one more file's writes
    obtain ⟨p, hp, e1, e2, hnk, hseen2, hless⟩ := hseen.step hfm hkeys he hne
    have hj := hR.nin p hp
    obtain ⟨b, fo, hob, hB, hfi, hfo⟩ := hR.file hj
    have hfa : fileAt a p.2 = foF fo := by simp only [fileAt, hfi, Option.getD_some]
    have hsq : seqsAt a p.2 = fo.writes.map (·.seq) := by simp only [seqsAt, hfa, foF]
    have hin : ∀ x ∈ foA (b, fo), x ∈ w.objs.flatMap foA := fun x hx => List.mem_flatMap.2 ⟨_, List.mem_of_getElem? hob, hx⟩
    have hC2 : (seqsOf a (C ++ [p])).length ≤ M := by
      obtain ⟨tt, htt⟩ := hseen2.ext hkeys
      have h1 : (seqsOf a (C ++ [p] ++ tt)).length = (seqsOf a a.names).length := (htt.flatMap_right _).length_eq
      rw [seqsOf, List.flatMap_append, List.length_append] at h1
      simp only [seqsOf] at h1 hcount ⊢; omega
    have hsnoc : seqsOf a (C ++ [p]) = seqsOf a C ++ fo.writes.map (·.seq) := by simp [seqsOf, hsq]
    rw [hsnoc, List.length_append, List.length_map] at hC2
    refine GO ?_
    refine st_entry (b := w.fm) (es := w.fes) (e := e) (by rfl) (by (focus ((repeat (first | with_reducible exact HasO.here | apply HasO.there)); done))) (by (focus ((repeat (first | with_reducible exact HasO.here | apply HasO.there)); done))) hfm.born he ?_
    rw [e1, e2, hB]
    have hwv : Atom.cell b 2 fo.wv ∈ w.objs.flatMap foA := hin _ (by simp [foA, cellsAt])
    have hwr := hfo.wr
    obtain ⟨wa, wc, hwf⟩ := hwr.form
    have hwrd : RdRow 4 (w.objs.flatMap foA) fo.wv fo.writes.length (fo.writes.flatMap wrEnc) := hwr.rd.mono (fun x hx => hin x (by simp only [foA, List.mem_append]; exact .inr (.inr (.inr hx))))
    rw [hwf] at hwv hwrd
    refine GO ?_
    refine VC.loop (α := Nat × Value × List Value) (Γf := fun s => [(0, ptr0 t), (1, .int .u64 which), (7, ptr0 tx), (8, s.2.1), (41, ptr0 q1), (49, .slice wa fo.writes.length wc), (50, vi fo.writes.length), (51, vi s.1)])
      (Hf := fun s => [[.obj q1 (.mapIter (some w.fm) w.fc (seen.push e.born) w.fc)], slA s.2.1 ((seqsOf a C ++ (fo.writes.take s.1).map (·.seq)).map vi) s.2.2, cellsAt tx 0 [.slice ca' (cs.take 65536).length cc', .map (some mb), .slice none 0 0, .slice none 0 0, vi w.clock, vi 0, .bool false], slA (.slice ca' (cs.take 65536).length cc') ((cs.take 65536).flatMap chEnc) csp', [.obj mb (.map #[] 0)]] ++ (WMem t w ++ [A]))
      (I := fun s => s.1 ≤ fo.writes.length ∧ IsSl 1 s.2.1 ((seqsOf a C).length + s.1) ((seqsOf a C ++ (fo.writes.take s.1).map (·.seq)).map vi) s.2.2) (μ := fun s => fo.writes.length - s.1) (0, .slice ava (seqsOf a C).length avc, asp) ⟨Nat.zero_le _, by simpa using hav⟩ (by exact SUx) (by simp only [WMem, List.take_zero, List.map_nil, List.append_nil, List.cons_append, List.nil_append]; exact IMx) ?_
    rintro ⟨i, iv, isp⟩ ⟨hi, hiv⟩
    simp only at hi hiv
    obtain ⟨iva, ivc, rfl⟩ := hiv.form
    simp only [WMem, List.cons_append, List.nil_append]
    refine GO ?_
    (first | (apply VC.seq_cond; rfl) | (apply VC.cond; rfl))
    · intro hlt
      have hlt : i < fo.writes.length := by simpa using hlt
      obtain ⟨x, hx⟩ : ∃ x, fo.writes[i]? = some x := ⟨fo.writes[i], by simp [hlt]⟩
      obtain ⟨wb, wo, wc', hwe, hcell⟩ := hwrd.at_ (fun p => rfl) hx
      simp only [Value.slice.injEq, true_and] at hwe
      obtain ⟨rfl, rfl⟩ := hwe
      refine GO ?_
      refine st_loadA (us := wrEnc x) (by rfl) (fun y hy => by simp only [List.flatten_cons, List.mem_append]; simp only [hcell y hy, true_or, or_true]) (by rfl) ?_
      refine st_alloc (fun p12 => ?_)
      simp only [wrEnc]
      refine GO ?_
      refine st_bslice (out := [vi x.seq]) (by rfl) (by rfl) (fun q3 => ?_)
      refine st_append (k := (seqsOf a C).length + i) (m := 1) (xs := (seqsOf a C ++ (fo.writes.take i).map (·.seq)).map vi) (sp := isp) (ys := [vi x.seq]) (by rfl) (by rfl) hiv (by exact TKx) (by rfl) ?_ rfl (by rfl) (by rfl) (by decide) (by omega) (fun sv' sp' hsl' => ?_)
      · exact ⟨rfl, fun a ha => by simp only [List.flatten_cons, List.mem_append]; exact .inl ha⟩
      have htake : (seqsOf a C ++ (fo.writes.take (i + 1)).map (·.seq)).map vi = (seqsOf a C ++ (fo.writes.take i).map (·.seq)).map vi ++ [vi x.seq] := by
        rw [List.take_add_one, hx]; simp
      rw [← htake] at hsl' ⊢
      obtain ⟨a', c', hf'⟩ := hsl'.form
      subst hf'
      refine GO ?_
      exact ⟨(i + 1, _, sp'), ⟨by show i + 1 ≤ fo.writes.length; omega, hsl'⟩, by simp only; omega, by exact SUx, by simp only [WMem, List.cons_append, List.nil_append]; exact IMx⟩
    · intro hge
      have hge : ¬ i < fo.writes.length := by simpa using hge
      obtain rfl : i = fo.writes.length := by omega
      rw [List.take_length] at hiv ⊢
      rw [← hsnoc] at hiv ⊢
      have hlen2 : (seqsOf a C).length + fo.writes.length = (seqsOf a (C ++ [p])).length := by rw [hsnoc]; simp
      rw [hlen2] at hiv ⊢
      refine GO ?_
      exact ⟨(seen.push e.born, C ++ [p], _, isp), ⟨hseen2, hiv⟩, hless, by exact SUx, by simp only [WMem, List.cons_append, List.nil_append]; exact IMx⟩
  have hCp := hseen.over hfm hkeys hover
  have hperm : (seqsOf a C).Perm (seqsOf a a.names) := hCp.flatMap_right _
  have hCn : (seqsOf a C).length ≤ M := by rw [hperm.length_eq]; exact hcount
  have hCd : (seqsOf a C).Nodup := (hperm.nodup_iff).2 (seqs_nodup hA hR.nin)
  refine GO ?_
  refine st_call (sort_int _ (seqsOf a C) asp hav (by omega) hCd) (by rfl) (by exact SPx) (fun v Post hv => ?_)
  obtain ⟨rfl, ys, hys, rfl⟩ := hv
  have hsort : SortedOf ltI (seqsOf a a.names) ys := ⟨hys.1.trans hperm, hys.2⟩
  have hyl : (seqsOf a C).length = ys.length := hys.1.length_eq.symm
  have hav2 : IsSl 1 (.slice ava (seqsOf a C).length avc) (seqsOf a C).length (ys.map vi) asp := hav.other (by simp [hyl])
  rw [hyl] at hav2 ⊢
  simp only [CNx]
  refine GO ?_
  refine st_mkmap (fun km => ?_)
  refine GO ?_
  refine VC.loop (α := Nat × Array MapEntry × Nat) (Γf := fun s => [(0, ptr0 t), (1, .int .u64 which), (7, ptr0 tx), (13, .map (some km)), (64, .slice ava ys.length avc), (65, vi ys.length), (66, vi s.1)])
    (Hf := fun s => [[.obj km (.map s.2.1 s.2.2)], slA (.slice ava ys.length avc) (ys.map vi) asp, cellsAt tx 0 [.slice ca' (cs.take 65536).length cc', .map (some mb), .slice none 0 0, .slice none 0 0, vi w.clock, vi 0, .bool false], slA (.slice ca' (cs.take 65536).length cc') ((cs.take 65536).flatMap chEnc) csp', [.obj mb (.map #[] 0)]] ++ (WMem t w ++ [A]))
    (I := fun s => s.1 ≤ ys.length ∧ MapIs kInt Value.bool s.2.1 s.2.2 (keptT which ys s.1)) (μ := fun s => ys.length - s.1) (0, #[], 0) ⟨Nat.zero_le _, .nil⟩ (by exact SUx) (by simp only [WMem, List.cons_append, List.nil_append]; exact IMx) ?_
  rintro ⟨k, kes, kc⟩ ⟨hk, hkm⟩
  simp only at hk hkm
  simp only [WMem, List.cons_append, List.nil_append]
  refine GO ?_
  (first | (apply VC.seq_cond; rfl) | (apply VC.cond; rfl))
  · intro hlt
    have hlt : k < ys.length := by simpa using hlt
    obtain ⟨y, hy⟩ : ∃ y, ys[k]? = some y := ⟨ys[k], by simp [hlt]⟩
    obtain ⟨b, o, c, he, _, _⟩ := hav2.some (by omega)
    simp only [Value.slice.injEq, true_and] at he
    obtain ⟨rfl, rfl⟩ := he
    have hstep : ∀ vv, vv = Value.bool (keepB which k) → ∃ u, vv = Value.bool u ∧ u = keepB which k := fun vv h => ⟨_, h, rfl⟩
    refine GO ?_
    refine st_load1 (v := vi y) (by rfl) (.there (Has.row (by simp [hy]))) ?_
    refine GO ?_
    by_cases h64 : k < 64
    · have hkb : keepB which k = bitV which k := by simp [keepB, h64]
      simp only [show (k : Int) < 64 by omega, decide_true]
      refine GO ?_
      refine st_mapupd (E := kInt) (V := Value.bool) (k := y) (v := keepB which k) (by rfl) (by rfl) (by rw [hkb]; rfl) rfl .here hkm (fun es2 c2 hm2 => ?_)
      rw [← keptT_succ hy] at hm2
      refine GO ?_
      exact ⟨(k + 1, es2, c2), ⟨by show k + 1 ≤ ys.length; omega, hm2⟩, by simp only; omega, by exact SUx, by simp only [WMem, List.cons_append, List.nil_append]; exact IMx⟩
    · simp only [show ¬ (k : Int) < 64 by omega, decide_false]
      refine GO ?_
      refine st_mapupd (E := kInt) (V := Value.bool) (k := y) (v := keepB which k) (by rfl) (by rfl) (by simp [keepB, h64, ev, V.look, V.putE]) rfl .here hkm (fun es2 c2 hm2 => ?_)
      rw [← keptT_succ hy] at hm2
      refine GO ?_
      exact ⟨(k + 1, es2, c2), ⟨by show k + 1 ≤ ys.length; omega, hm2⟩, by simp only; omega, by exact SUx, by simp only [WMem, List.cons_append, List.nil_append]; exact IMx⟩
  intro hge
  have hge : ¬ k < ys.length := by simpa using hge
  obtain rfl : k = ys.length := by omega
  obtain ⟨m, hm⟩ : ∃ m, m = keptT which ys ys.length := ⟨_, rfl⟩
  rw [← hm] at hkm
  refine GO ?_
  refine st_rangeM (by rfl) (by (focus ((repeat (first | with_reducible exact HasO.here | apply HasO.there)); done))) (fun q2 => ?_)
  refine GO ?_
  have hx0 : Rep ⟨.slice ca' (cs.take 65536).length cc', cs.take 65536, csp', mb, #[], 0, [], [], .slice none 0 0, [], [], .slice none 0 0, [], [], w.clock, 0, false⟩ (leftC a m (cs.take 65536) []) 0 := by
    refine ⟨rfl, rfl, by simp [leftC, hR.clock], rfl, rfl, rfl, by simp [leftC], rfl, rfl, by simp [leftC], ⟨hcs', .nil, .nil, .nil, by simp, by simp, .nil, by simp, by simp, by simp, .nil, by simp, by simp, ?_, by simp, ?_⟩⟩
    · exact hR.ok.clock
    · show (cs.take 65536).length ≤ 65536; omega
  refine VC.loop (α := Array Nat × List (ByteArray × Nat) × WR) (Γf := fun s => [(7, ptr0 tx), (13, .map (some km)), (87, ptr0 q2)])
    (Hf := fun s => [[.obj q2 (.mapIter (some w.fm) w.fc s.1 w.fc)], [.obj km (.map kes kc)]] ++ (WMem tx s.2.2 ++ (WMem t w ++ [A])))
    (I := fun s => Seen w.fes a.names s.1 s.2.1 ∧ Rep s.2.2 (leftC a m (cs.take 65536) s.2.1) 0) (μ := fun s => (w.fes.toList.filter fun e => decide (e.born ∉ s.1.toList)).length) (#[], [], _) ⟨Seen.init, hx0⟩ (by exact SUx) ?_ ?_
  · refine Imp.cut (M := [[.obj q2 (.mapIter (some w.fm) w.fc #[] w.fc)], [.obj km (.map kes kc)], cellsAt tx 0 [.slice ca' (cs.take 65536).length cc', .map (some mb), .slice none 0 0, .slice none 0 0, vi w.clock, vi 0, .bool false], slA (.slice ca' (cs.take 65536).length cc') ((cs.take 65536).flatMap chEnc) csp', [.obj mb (.map #[] 0)]] ++ (WMem t w ++ [A])) (by simp only [WMem, List.cons_append, List.nil_append]; exact IMx) (Imp.perm ?_)
    simp [slA, WMem]
  clear hx0
  rintro ⟨seen2, C2, wx⟩ ⟨hseen2, hRx⟩
  simp only at hseen2 hRx
  simp only [WMem, List.cons_append, List.nil_append]
  refine GO ?_
  refine st_next (b := w.fm) (es := w.fes) (by rfl) .here (by (focus ((repeat (first | with_reducible exact HasO.here | apply HasO.there)); done))) hfm.clock (fun hover => ?_) (fun e he hne => ?_)
  · have hC2p := hseen2.over hfm hkeys hover
    refine GO ?_
    refine endQ_mk (Post := WMem tx wx ++ (WMem t w ++ [A])) (.inr rfl) (.tmp (by rfl) .nil) ⟨tx, wx, _, rfl, ⟨C2, ys, hC2p, hsort, by rw [← hm]⟩, hRx, by simp only [WMem, List.cons_append, List.nil_append]⟩ ?_
    simp only [WMem, List.cons_append, List.nil_append]; exact IMx
  obtain ⟨p, hp, e1, e2, hnk, hseen3, hless⟩ := hseen2.step hfm hkeys he hne
  have hj := hR.nin p hp
  obtain ⟨b, fo, hob, hB, hfi, hfo⟩ := hR.file hj
  have hfa : fileAt a p.2 = foF fo := by simp only [fileAt, hfi, Option.getD_some]
  have hmw := hfo.many
  have hin : ∀ x ∈ foA (b, fo), x ∈ w.objs.flatMap foA := fun x hx => List.mem_flatMap.2 ⟨_, List.mem_of_getElem? hob, hx⟩
  have hbv : Atom.cell b 1 fo.bv ∈ w.objs.flatMap foA := hin _ (by simp [foA, cellsAt])
  have hwv : Atom.cell b 2 fo.wv ∈ w.objs.flatMap foA := hin _ (by simp [foA, cellsAt])
  have hwr := hfo.wr
  obtain ⟨wa, wc, hwf⟩ := hwr.form
  have hwrd : RdRow 4 (w.objs.flatMap foA) fo.wv fo.writes.length (fo.writes.flatMap wrEnc) := hwr.rd.mono (fun x hx => hin x (by simp only [foA, List.mem_append]; exact .inr (.inr (.inr hx))))
  have hbrd : RdRow 1 (w.objs.flatMap foA) fo.bv fo.base.length (fo.base.map u8v) := hfo.base.rd.mono (fun x hx => hin x (by simp only [foA, List.mem_append]; exact .inr (.inr (.inl hx))))
  rw [hwf] at hwv hwrd
  refine GO ?_
  refine st_entry (b := w.fm) (es := w.fes) (e := e) (by rfl) (by (focus ((repeat (first | with_reducible exact HasO.here | apply HasO.there)); done))) (by (focus ((repeat (first | with_reducible exact HasO.here | apply HasO.there)); done))) hfm.born he ?_
  rw [e1, e2, hB]
  refine GO ?_
  refine st_call (cloneY_spec _ fo.bv fo.base.length (fo.base.map u8v) (by have := hfo.len2; omega) hbrd (by simp only [List.all_map]; exact List.all_eq_true.2 (fun _ _ => rfl))) (by rfl) (by exact SPx) (fun v Post hv => ?_)
  obtain ⟨bsp, hbs, rfl⟩ := hv
  simp only [CNx]
  refine GO ?_
  refine VC.loop (α := Nat × Value × List Value) (Γf := fun s => [(7, ptr0 tx), (13, .map (some km)), (16, .string p.1), (18, s.2.1), (87, ptr0 q2), (101, .slice wa fo.writes.length wc), (102, vi fo.writes.length), (103, vi s.1)])
    (Hf := fun s => [slA s.2.1 (((fo.writes.take s.1).foldl (onKept m) fo.base).map u8v) s.2.2, [.obj q2 (.mapIter (some w.fm) w.fc (seen2.push e.born) w.fc)], [.obj km (.map kes kc)]] ++ (WMem tx wx ++ (WMem t w ++ [A])))
    (I := fun s => s.1 ≤ fo.writes.length ∧ IsSl 1 s.2.1 ((fo.writes.take s.1).foldl (onKept m) fo.base).length (((fo.writes.take s.1).foldl (onKept m) fo.base).map u8v) s.2.2) (μ := fun s => fo.writes.length - s.1) (0, v, bsp) ⟨Nat.zero_le _, by simpa using hbs⟩ (by exact SUx) (by simp only [WMem, List.take_zero, List.foldl_nil, List.cons_append, List.nil_append]; exact IMx) ?_
  rintro ⟨i, lv, lsp⟩ ⟨hi, hlv⟩
  simp only at hi hlv
  have hle : ((fo.writes.take i).foldl (onKept m) fo.base).length ≤ 4194304 := foldl_kept_le hfo.len2 (fun x hx => hfo.at_ x (List.mem_of_mem_take hx))
  simp only [WMem, List.cons_append, List.nil_append]
  refine GO ?_
  (first | (apply VC.seq_cond; rfl) | (apply VC.cond; rfl))
  · intro hlt
    have hlt : i < fo.writes.length := by simpa using hlt
    obtain ⟨x, hx⟩ : ∃ x, fo.writes[i]? = some x := ⟨fo.writes[i], by simp [hlt]⟩
    have hxa := hfo.at_ x (List.mem_of_getElem? hx)
    have htake := foldl_take (f := onKept m) (b := fo.base) hx
    obtain ⟨wb, wo, wc', hwe, hcell⟩ := hwrd.at_ (fun p => rfl) hx
    simp only [Value.slice.injEq, true_and] at hwe
    obtain ⟨rfl, rfl⟩ := hwe
    refine GO ?_
    refine st_loadA (us := wrEnc x) (by rfl) (fun y hy => by simp only [List.flatten_cons, List.mem_append]; simp only [hcell y hy, true_or, or_true]) (by rfl) ?_
    refine st_alloc (fun p20 => ?_)
    simp only [wrEnc]
    refine GO ?_
    refine st_lookup (E := kInt) (V := Value.bool) (k := x.seq) (by rfl) (by rfl) rfl (by (focus ((repeat (first | with_reducible exact HasO.here | apply HasO.there)); done))) hkm ?_
    have hlk : lookV false (Value.bool false) ((mget x.seq m).map Value.bool) = .bool ((mget x.seq m).getD false) := by cases mget x.seq m <;> rfl
    rw [hlk]
    cases hkp : (mget x.seq m).getD false with
    | true =>
      refine GO ?_
      refine st_call (on_spec x lv _ lsp hxa hle hlv) (by rfl) (by exact SPx) (fun v' Post hv => ?_)
      obtain ⟨sp', hs', rfl⟩ := hv
      have hon : onKept m ((fo.writes.take i).foldl (onKept m) fo.base) x = onL x ((fo.writes.take i).foldl (onKept m) fo.base) := by simp only [onKept, hkp, if_true]
      rw [← hon, ← htake] at hs' ⊢
      simp only [CNx]
      refine GO ?_
      exact ⟨(i + 1, v', sp'), ⟨by show i + 1 ≤ fo.writes.length; omega, hs'⟩, by simp only; omega, by exact SUx, by simp only [WMem, List.cons_append, List.nil_append]; exact IMx⟩
    | false =>
      have hon : onKept m ((fo.writes.take i).foldl (onKept m) fo.base) x = (fo.writes.take i).foldl (onKept m) fo.base := by simp only [onKept, hkp, Bool.false_eq_true, if_false]
      rw [hon] at htake
      rw [← htake] at hlv ⊢
      refine GO ?_
      exact ⟨(i + 1, lv, lsp), ⟨by show i + 1 ≤ fo.writes.length; omega, hlv⟩, by simp only; omega, by exact SUx, by simp only [WMem, List.cons_append, List.nil_append]; exact IMx⟩
  intro hge
  have hge : ¬ i < fo.writes.length := by simpa using hge
  obtain rfl : i = fo.writes.length := by omega
  rw [List.take_length] at hle hlv ⊢
  have hrec : fo.writes.foldl (onKept m) fo.base = recF m (fileAt a p.2) := by rw [hfa]; rfl
  rw [hrec] at hle hlv ⊢
  generalize hL : recF m (fileAt a p.2) = L at hle hlv
  have hnb : (leftC a m (cs.take 65536) C2).names.length + 1 ≤ 1073741823 := by
    have h1 := congrArg List.length (leftC_names (a := a) (m := m) (cs := cs.take 65536) (C := C2))
    rw [List.length_map, List.length_map] at h1
    have h2 := hseen3.nodup
    obtain ⟨tt, htt⟩ := hseen3.ext hkeys
    have h3 := htt.length_eq
    have h4 := hR.ok.files
    rw [hR.nlen] at h4
    rw [List.length_append, List.length_append, List.length_singleton] at h3
    omega
  have hnkx : p.1 ∉ C2.map (·.1) := hnk
  obtain ⟨la, lc, rfl⟩ := hlv.form
  refine GO ?_
  refine VC.draws ⟨?_, ?_, trivial⟩
  all_goals
    refine GO ?_
    refine st_call (cloneB_spec _ L.length (L.map u8v) lsp (by omega) hlv (by simp only [List.all_map]; exact List.all_eq_true.2 (fun _ _ => rfl))) (by rfl) (by exact SPx) (fun v2 Post hv => ?_)
    obtain ⟨sp2, hs2, rfl⟩ := hv
    obtain ⟨a2, c2, rfl⟩ := hs2.form
    simp only [CNx]
    refine GO ?_
    refine st_box (by rfl) (fun p6 => ?_)
    simp only [Value.cells]
    refine VO.know (φ := p6 ∉ wx.objs.map (·.1)) (fun w0 F hs0 hmem => ?_) (fun hfr => ?_)
    · obtain ⟨⟨b', fo'⟩, hm', rfl⟩ := List.mem_map.1 hmem
      have hy : Atom.cell b' 0 fo'.nv ∈ wx.objs.flatMap foA := List.mem_flatMap.2 ⟨_, hm', by simp [foA, cellsAt]⟩
      exact hs0.apart (x := .cell b' 0 (.slice la L.length lc)) (y := .cell b' 0 fo'.nv) .here (by simp [cellsAt]) (by simp only [List.flatten_cons, List.mem_append, hy, true_or, or_true]) rfl
    refine st_mapupd (k := p.1) (v := p6) (by rfl) (by rfl) (by rfl) rfl (by exact TKx) hRx.ok.fm (fun es2 c2' hm2 => ?_)
    have hfok : FOk ⟨L, L, [], .slice la L.length lc, .slice a2 L.length c2, .slice none 0 0, lsp, sp2, []⟩ 0 := ⟨hlv, hs2, .nil, hle, hle, by simp, by simp⟩
    obtain ⟨hRn, hB2⟩ := hRx.newFile (s := p.1) hfr hfok hm2 hnb
    have hfoF : foF ⟨L, L, [], .slice la L.length lc, .slice a2 L.length c2, .slice none 0 0, lsp, sp2, []⟩ = ⟨recF m (fileAt a p.2), recF m (fileAt a p.2), []⟩ := by rw [hL]; rfl
    rw [hfoF, ← leftC_snoc hnkx] at hRn
    refine GO ?_
    refine ⟨(seen2.push e.born, C2 ++ [p], _), ⟨hseen3, hRn⟩, hless, by exact SUx, ?_⟩
    refine Imp.cut (imp_jn3 (a := cellsAt p6 0 [.slice la L.length lc, .slice a2 L.length c2, .slice none 0 0]) (b := slA (.slice la L.length lc) (L.map u8v) lsp) (c := slA (.slice a2 L.length c2) (L.map u8v) sp2) (d := wx.objs.flatMap foA) (x := (wx.objs ++ [(p6, (⟨L, L, [], .slice la L.length lc, .slice a2 L.length c2, .slice none 0 0, lsp, sp2, []⟩ : FO))]).flatMap foA) (by exact TKx) (by exact TKx) (by exact TKx) (by exact TKx) ?_) ?_
    · simp only [List.flatMap_append, List.flatMap_cons, List.flatMap_nil, List.append_nil, foA, List.append_assoc]
      simp only [slA, List.append_nil, List.append_assoc]
      exact .refl _
    · simp only [WMem, List.cons_append, List.nil_append]; exact IMx
end Go.Proofs.YtgindbomnbojeaaGreat
namespace Go.V
open Go
def tA : ByteArray := ⟨#[97]⟩
def tXyz : ByteArray := ⟨#[120, 121, 122]⟩
def exA0 : AW := (newA [] [(tA, tXyz)]).getD emptyA
def exA1 : AW := (openM tA 1 exA0).2.2
def exA2 : AW := (readM 1 2 exA1).2.2
def exA3 : AW := (writeM 1 ⟨#[113]⟩ exA2).2.2
def exA4 : AW := (openM tA 2 exA3).2.2
def exA5 : AW := (writeM 2 ⟨#[110, 101, 119]⟩ exA4).2.2
def exC0 : AW := (newA [⟨7, 0, nilTx⟩, ⟨5, 0, nilTx⟩] []).getD emptyA
def exC1 : AW := (showM ⟨#[49]⟩ exC0).2.2
def exC2 : AW := (showM ⟨#[50]⟩ exC1).2.2
theorem ex_new : newA [] [(tA, tXyz)] = some exA0 := by
  have : (newA [] [(tA, tXyz)]).isSome = true := by decide +kernel
  unfold exA0
  cases h : newA [] [(tA, tXyz)] with
  | none => rw [h] at this; cases this
  | some a => rfl
theorem ex_newC : newA [⟨7, 0, nilTx⟩, ⟨5, 0, nilTx⟩] [] = some exC0 := by
  have : (newA [⟨7, 0, nilTx⟩, ⟨5, 0, nilTx⟩] []).isSome = true := by decide +kernel
  unfold exC0
  cases h : newA [⟨7, 0, nilTx⟩, ⟨5, 0, nilTx⟩] [] with
  | none => rw [h] at this; cases this
  | some a => rfl
theorem ex1 : (openM tA 1 exA0).1.handle = 1 ∧ (openM tA 1 exA0).2.1 = 0 := by decide +kernel
theorem ex2 : (readM 1 2 exA1).1.text = ⟨#[120, 121]⟩ ∧ (readM 1 2 exA1).2.1 = 0 := by decide +kernel
theorem ex3 : (writeM 1 ⟨#[113]⟩ exA2).2.1 = 33 := by decide +kernel
theorem ex4 : (openM tA 2 exA3).1.handle = 2 ∧ (openM tA 2 exA3).2.1 = 0 := by decide +kernel
theorem ex5 : (writeM 2 ⟨#[110, 101, 119]⟩ exA4).2.1 = 0 := by decide +kernel
theorem ex6 : (showM ⟨#[49]⟩ exC0).2.1 = 0 ∧ (showM ⟨#[50]⟩ exC1).2.1 = 36 ∧ exC2.dead = true := by decide +kernel
theorem ex_ok : AOk exA5 := ⟨by decide +kernel, by decide +kernel, by decide +kernel⟩
theorem ex_names : exA5.names = [(tA, 0)] := by decide +kernel
theorem ex_left {which : Int} {a' : AW} (h : LeftR exA5 which [] a') : a' = leftC exA5 (keptT which (seqsOf exA5 exA5.names) (seqsOf exA5 exA5.names).length) [] [(tA, 0)] := by
  obtain ⟨ord, ys, h1, h2, rfl⟩ := h
  rw [ex_names] at h1
  obtain rfl := List.perm_singleton.1 h1
  have hs : SortedOf ltI (seqsOf exA5 exA5.names) (seqsOf exA5 exA5.names) := ⟨.refl _, by decide +kernel⟩
  obtain rfl := sorted_unique ltI_ok h2 hs
  rfl
theorem ex_files {which : Int} {a' : AW} {ys : List ByteArray} (h : LeftR exA5 which [] a') (hs : SortedOf ltS (a'.names.map (·.1)) ys) : ys = [tA] := by
  rw [ex_left h, leftC_names] at hs
  exact List.perm_singleton.1 hs.1
theorem ex_text2 {a' : AW} (h : LeftR exA5 2 [] a') : fileOf a' tA = (tA, ⟨#[110, 101, 119]⟩) := by
  rw [ex_left h]; decide +kernel
theorem ex_text0 {a' : AW} (h : LeftR exA5 0 [] a') : fileOf a' tA = (tA, tXyz) := by
  rw [ex_left h]; decide +kernel
theorem ex_trace : exA5.trace.length = 5 ∧ exA5.trace[1]?.map (fun d => (d.kind, d.handle, d.text, d.to, d.n, d.err)) = some (2, 1, ⟨#[120, 121]⟩, nilTx, 2, 0) := by decide +kernel
end Go.V
namespace Go.Proofs.YtgindbomnbojeaaGreat
open Go Go.V
set_option maxHeartbeats 12800000
set_option maxRecDepth 100000
theorem works_spec : Fun Tryz.prog 4 [] [] (fun v Post => v = .bool true ∧ Post = []) := by
  refine Fun.intro low4 (by simp [n4]) ?_
  refine GO ?_
  refine st_bslice (out := fiEnc (tA, tXyz)) (by rfl) (by rfl) (fun p1 => ?_)
  refine GO ?_
  have hrd : RdRow 2 (cellsAt p1 0 (fiEnc (tA, tXyz))) (.slice (some ⟨p1, 0, none⟩) 1 1) [(tA, tXyz)].length ([(tA, tXyz)].flatMap fiEnc) := .inr ⟨p1, 0, 1, rfl, Nat.le_refl _, rfl, fun x hx => hx⟩
  have hn := new_spec (cellsAt p1 0 (fiEnc (tA, tXyz))) (.slice none 0 0) (.slice (some ⟨p1, 0, none⟩) 1 1) [] [(tA, tXyz)] (.inl ⟨rfl, rfl, rfl⟩) hrd (by simp) (by simp) (by intro p hp; rw [List.mem_singleton.1 hp]; decide)
  rw [ex_new] at hn
  refine st_call hn (by rfl) (by exact SPx) (fun v Post hv => ?_)
  obtain ⟨t, w0, rfl, hR0, rfl⟩ := hv
  simp only [WMem, List.cons_append, List.nil_append]
  refine GO ?_
  refine st_call (open_spec t w0 exA0 0 (by omega) hR0 tA (by decide) 1) (by rfl) (by simp only [WMem]; exact SPx) (fun v Post hv => ?_)
  obtain ⟨w1, hR1, rfl, rfl⟩ := hv
  rw [ex1.1, ex1.2]
  change Rep w1 exA1 (0 + 1) at hR1
  simp only [WMem, List.cons_append, List.nil_append]
  refine GO ?_
  refine st_call (read_spec t w1 exA1 1 (by omega) hR1 1 2) (by rfl) (by simp only [WMem]; exact SPx) (fun v Post hv => ?_)
  obtain ⟨w2, hR2, rfl, rfl⟩ := hv
  rw [ex2.1, ex2.2]
  change Rep w2 exA2 (1 + 1) at hR2
  simp only [WMem, List.cons_append, List.nil_append]
  refine GO ?_
  refine st_call (write_spec t w2 exA2 2 (by omega) hR2 1 ⟨#[113]⟩ (by decide)) (by rfl) (by simp only [WMem]; exact SPx) (fun v Post hv => ?_)
  obtain ⟨w3, hR3, rfl, rfl⟩ := hv
  rw [ex3]
  change Rep w3 exA3 (2 + 1) at hR3
  simp only [WMem, List.cons_append, List.nil_append]
  refine GO ?_
  refine st_call (open_spec t w3 exA3 3 (by omega) hR3 tA (by decide) 2) (by rfl) (by simp only [WMem]; exact SPx) (fun v Post hv => ?_)
  obtain ⟨w4, hR4, rfl, rfl⟩ := hv
  rw [ex4.1, ex4.2]
  change Rep w4 exA4 (3 + 1) at hR4
  simp only [WMem, List.cons_append, List.nil_append]
  refine GO ?_
  refine st_call (write_spec t w4 exA4 4 (by omega) hR4 2 ⟨#[110, 101, 119]⟩ (by decide)) (by rfl) (by simp only [WMem]; exact SPx) (fun v Post hv => ?_)
  obtain ⟨w5, hR5, rfl, rfl⟩ := hv
  rw [ex5]
  change Rep w5 exA5 (4 + 1) at hR5
  simp only [WMem, List.cons_append, List.nil_append]
  refine GO ?_
  refine st_call (left_spec (cellsAt p1 0 (fiEnc (tA, tXyz))) t w5 exA5 5 (by omega) hR5 ex_ok 2 (by decide) (.slice none 0 0) [] (.inl ⟨rfl, rfl, rfl⟩) (by simp)) (by rfl) (by simp only [WMem, List.cons_append, List.nil_append]; exact SPx) (fun v Post hv => ?_)
  obtain ⟨t2, x2, b2, rfl, hL2, hx2, rfl⟩ := hv
  simp only [WMem, List.cons_append, List.nil_append]
  refine GO ?_
  refine st_call (left_spec (cellsAt p1 0 (fiEnc (tA, tXyz))) t w5 exA5 5 (by omega) hR5 ex_ok 0 (by decide) (.slice none 0 0) [] (.inl ⟨rfl, rfl, rfl⟩) (by simp)) (by rfl) (by simp only [WMem, List.cons_append, List.nil_append]; exact SPx) (fun v Post hv => ?_)
  obtain ⟨t0, x0, b0, rfl, hL0, hx0, rfl⟩ := hv
  simp only [WMem, List.cons_append, List.nil_append]
  refine GO ?_
  refine st_call (files_spec t2 x2 b2 0 (by omega) hx2) (by rfl) (by simp only [WMem]; exact SPx) (fun v Post hv => ?_)
  obtain ⟨ys2, sp2, hs2, hv2, rfl⟩ := hv
  obtain rfl := ex_files hL2 hs2
  simp only [List.map_cons, List.map_nil, List.flatMap_cons, List.flatMap_nil, List.append_nil, ex_text2 hL2, List.length_cons, List.length_nil] at hv2 ⊢
  obtain ⟨f2b, f2o, f2c, rfl, _, _⟩ := hv2.some (by omega)
  simp only [WMem, List.cons_append, List.nil_append]
  refine GO ?_
  refine st_call (files_spec t0 x0 b0 0 (by omega) hx0) (by rfl) (by simp only [WMem]; exact SPx) (fun v Post hv => ?_)
  obtain ⟨ys0, sp0, hs0, hv0, rfl⟩ := hv
  obtain rfl := ex_files hL0 hs0
  simp only [List.map_cons, List.map_nil, List.flatMap_cons, List.flatMap_nil, List.append_nil, ex_text0 hL0, List.length_cons, List.length_nil] at hv0 ⊢
  obtain ⟨f0b, f0o, f0c, rfl, _, _⟩ := hv0.some (by omega)
  simp only [WMem, List.cons_append, List.nil_append]
  refine GO ?_
  refine st_call (trace_spec t w5 exA5 5 (by omega) hR5) (by rfl) (by simp only [WMem]; exact SPx) (fun v Post hv => ?_)
  obtain ⟨spt, hvt, rfl⟩ := hv
  obtain ⟨d1, hd1, hd2⟩ : ∃ d : De, exA5.trace[1]? = some d ∧ deEnc d = [.int .u8 2, vi 1, .string ⟨#[120, 121]⟩, .string nilTx, vi 2, vi 0] := by
    have := ex_trace.2
    cases h : exA5.trace[1]? with
    | none => rw [h] at this; cases this
    | some d =>
      rw [h] at this
      simp only [Option.map_some, Option.some.injEq, Prod.mk.injEq] at this
      obtain ⟨h1, h2, h3, h4, h5, h6⟩ := this
      exact ⟨d, rfl, by simp only [deEnc, h1, h2, h3, h4, h5, h6]⟩
  have hrt := hvt.rd
  obtain ⟨tb, to, tc, rfl, htc⟩ := hrt.at_ (fun d => rfl) hd1
  rw [ex_trace.1] at htc ⊢
  simp only [WMem, List.cons_append, List.nil_append]
  refine GO ?_
  refine st_bslice (out := chEnc ⟨7, 0, nilTx⟩ ++ chEnc ⟨5, 0, nilTx⟩) (by rfl) (by rfl) (fun p2 => ?_)
  have hrc : RdRow 3 (cellsAt p2 0 (chEnc ⟨7, 0, nilTx⟩ ++ chEnc ⟨5, 0, nilTx⟩)) (.slice (some ⟨p2, 0, none⟩) 2 2) [(⟨7, 0, nilTx⟩ : Ch), ⟨5, 0, nilTx⟩].length ([(⟨7, 0, nilTx⟩ : Ch), ⟨5, 0, nilTx⟩].flatMap chEnc) := .inr ⟨p2, 0, 2, rfl, Nat.le_refl _, rfl, fun x hx => hx⟩
  have hnc := new_spec (cellsAt p2 0 (chEnc ⟨7, 0, nilTx⟩ ++ chEnc ⟨5, 0, nilTx⟩)) (.slice (some ⟨p2, 0, none⟩) 2 2) (.slice none 0 0) [⟨7, 0, nilTx⟩, ⟨5, 0, nilTx⟩] [] hrc (.inl ⟨rfl, rfl, rfl⟩) (by simp) (by simp) (by intro p hp; cases hp)
  rw [ex_newC] at hnc
  refine st_call hnc (by rfl) (by exact SPx) (fun v Post hv => ?_)
  obtain ⟨tc2, c0, rfl, hC0, rfl⟩ := hv
  simp only [WMem, List.cons_append, List.nil_append]
  refine GO ?_
  refine st_call (show_spec tc2 c0 exC0 0 (by omega) hC0 ⟨#[49]⟩) (by rfl) (by simp only [WMem]; exact SPx) (fun v Post hv => ?_)
  obtain ⟨c1, hC1, rfl, rfl⟩ := hv
  rw [ex6.1]
  change Rep c1 exC1 (0 + 1) at hC1
  simp only [WMem, List.cons_append, List.nil_append]
  refine GO ?_
  refine st_call (show_spec tc2 c1 exC1 1 (by omega) hC1 ⟨#[50]⟩) (by rfl) (by simp only [WMem]; exact SPx) (fun v Post hv => ?_)
  obtain ⟨c2, hC2, rfl, rfl⟩ := hv
  rw [ex6.2.1]
  change Rep c2 exC2 (1 + 1) at hC2
  simp only [WMem, List.cons_append, List.nil_append]
  refine GO ?_
  refine st_call (dead_spec tc2 c2 exC2 2 hC2) (by rfl) (by simp only [WMem]; exact SPx) (fun v Post hv => ?_)
  obtain ⟨rfl, rfl⟩ := hv
  rw [ex6.2.2]
  simp only [WMem, List.cons_append, List.nil_append]
  have m2 : Atom.cell f2b (f2o + 1) (.string ⟨#[110, 101, 119]⟩) ∈ slA (.slice (some ⟨f2b, f2o, none⟩) (0 + 1) f2c) (fiEnc (tA, ⟨#[110, 101, 119]⟩)) sp2 := mem_cellsAt.2 ⟨1, _, rfl, rfl⟩
  have m0 : Atom.cell f0b (f0o + 1) (.string tXyz) ∈ slA (.slice (some ⟨f0b, f0o, none⟩) (0 + 1) f0c) (fiEnc (tA, tXyz)) sp0 := mem_cellsAt.2 ⟨1, _, rfl, rfl⟩
  refine GO ?_
  refine st_loadA (us := deEnc d1) (by rfl) (fun y hy => by simp only [List.flatten_cons, List.mem_append]; simp only [htc y hy, true_or, or_true]) (by rfl) ?_
  rw [hd2]
  refine GO ?_
  exact endQ_mk (Post := []) (.inr rfl) (.tmp (by rfl) .nil) ⟨rfl, rfl⟩ (by exact IMx)
end Go.Proofs.YtgindbomnbojeaaGreat

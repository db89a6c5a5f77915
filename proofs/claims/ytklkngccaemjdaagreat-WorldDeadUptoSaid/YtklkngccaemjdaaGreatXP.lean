/-
  The outside world: what is left behind a crash.
-/
import Derived.Test.YtklkngccaemjdaaGreatXO
import Derived.Test.YtklkngccaemjdaaGreatSD
import Derived.Test.YtklkngccaemjdaaGreatWC
set_option linter.unusedSimpArgs false
set_option linter.unusedVariables false
namespace Go.Proofs.YtklkngccaemjdaaGreat
open Go Go.V
set_option maxHeartbeats 12800000
set_option maxRecDepth 100000
set_option linter.unusedSimpArgs false
set_option linter.unusedVariables false
theorem left_spec (A : List Atom) (t : Nat) (w : WR) (a : AW) (M : Nat) (hM : M ≤ 1073741823) (hR : Rep w a M) (hA : AOk a) (which : Int) (hwh : 0 ≤ which) (cv : Value) (cs : List Ch) (hc : RdRow 3 A cv cs.length (cs.flatMap chEnc)) (hcl : cs.length ≤ 1073741824) :
    Fun Tryz.prog 25 [ptr0 t, .int .u64 which, cv] (WMem t w ++ [A]) (fun v Post => ∃ t' w' a', v = ptr0 t' ∧ LeftR a which cs a' ∧ Rep w' a' 0 ∧ Post = WMem t' w' ++ (WMem t w ++ [A])) := by
  refine Fun.intro low25 (by simp [F25]) ?_
  simp only [WMem, List.cons_append, List.nil_append]
  obtain ⟨ca, cc, hcv⟩ := hc.form
  rw [hcv] at hc ⊢
  have hcount := seqs_le hA hR
  have hfm := hR.fmA
  have hkeys := hR.keys
  refine GO ?_
  refine st_mkmap (fun mb => ?_)
  refine GO ?_
  refine st_box (by rfl) (fun tx => ?_)
  simp only [Value.cells]
  refine GO ?_
  obtain ⟨h, hh⟩ : ∃ h : Nat, h = min cs.length 65536 := ⟨_, rfl⟩
  have hmin : (if (65536 : Int) < (cs.length : Nat) then (65536 : Int) else (cs.length : Nat)) = ((h : Nat) : Int) := by split <;> omega
  rw [hmin]
  refine st_slcRow (by rfl) hc (.num (by rfl)) (by omega) (fun dv hdv => ?_)
  rw [← flatMap_take_len (enc := chEnc) (size := 3) (fun c => rfl)] at hdv
  have htk : cs.take h = cs.take 65536 := by rw [List.take_eq_take_iff]; omega
  rw [htk] at hdv
  have hlen65 : (cs.take 65536).length = h := by rw [List.length_take]; omega
  rw [← hlen65] at hdv
  refine st_call (cloneC_spec A dv _ _ (by omega) hdv (chEnc_one _)) (by rfl) (by (focus ((repeat (first | exact Spl.nil | (apply Spl.cons; (focus ((repeat (first | with_reducible exact Tk.here | apply Tk.there)); done))))); done))) (fun v Post hv => ?_)
  obtain ⟨csp', hcs', rfl⟩ := hv
  simp only [List.cons_append, List.nil_append]
  obtain ⟨ca', cc', rfl⟩ := hcs'.form
  refine GO ?_
  refine st_rangeM (by rfl) (by (focus ((repeat (first | with_reducible exact HasO.here | apply HasO.there)); done))) (fun q1 => ?_)
  refine GO ?_
  obtain ⟨xc, hxc⟩ : ∃ xc : Value, xc = .slice ca' (cs.take 65536).length cc' := ⟨_, rfl⟩
  refine VC.loop (α := Array Nat × List (ByteArray × Nat) × Value × List Value) (Γf := fun s => [(0, ptr0 t), (1, .int .u64 which), (7, ptr0 tx), (8, s.2.2.1), (41, ptr0 q1)])
    (Hf := fun s => [[.obj q1 (.mapIter (some w.fm) w.fc s.1 w.fc)], slA s.2.2.1 ((seqsOf a s.2.1).map vi) s.2.2.2, cellsAt tx 0 [.slice ca' (cs.take 65536).length cc', .map (some mb), .slice none 0 0, .slice none 0 0, vi w.clock, vi 0, .bool false], slA (.slice ca' (cs.take 65536).length cc') ((cs.take 65536).flatMap chEnc) csp', [.obj mb (.map #[] 0)]] ++ (WMem t w ++ [A]))
    (I := fun s => Seen w.fes a.names s.1 s.2.1 ∧ IsSl 1 s.2.2.1 (seqsOf a s.2.1).length ((seqsOf a s.2.1).map vi) s.2.2.2) (μ := fun s => (w.fes.toList.filter fun e => decide (e.born ∉ s.1.toList)).length) (#[], [], .slice none 0 0, []) ⟨Seen.init, .nil⟩ (by (repeat (first | exact Sub.nil | (apply Sub.cons; rfl)))) ?_ ?_
  · refine Imp.cut (by simp only [WMem, List.cons_append, List.nil_append]; (first | with_reducible exact Imp.refl | with_reducible exact Imp.left | (focus ((try simp only [List.nil_append]); (repeat (first | exact Imp.nil | (apply Imp.cons; (focus ((repeat (first | with_reducible exact Tk.here | apply Tk.there)); done))))); done)))) (Imp.perm (A := [[.obj q1 (.mapIter (some w.fm) w.fc #[] w.fc)], cellsAt tx 0 [.slice ca' (cs.take 65536).length cc', .map (some mb), .slice none 0 0, .slice none 0 0, vi w.clock, vi 0, .bool false], slA (.slice ca' (cs.take 65536).length cc') ((cs.take 65536).flatMap chEnc) csp', [.obj mb (.map #[] 0)]] ++ (WMem t w ++ [A])) ?_)
    simp [slA, seqsOf]
  rintro ⟨seen, C, av, asp⟩ ⟨hseen, hav⟩
  simp only at hseen hav
  obtain ⟨ava, avc, rfl⟩ := hav.form
  simp only [WMem, List.cons_append, List.nil_append]
  refine GO ?_
  refine st_next (b := w.fm) (es := w.fes) (by rfl) .here (by (focus ((repeat (first | with_reducible exact HasO.here | apply HasO.there)); done))) hfm.clock (fun hover => ?_) (fun e he hne => ?_)
  rotate_left
  · -- one more file's writes
    obtain ⟨p, hp, e1, e2, hnk, hseen2, hless⟩ := hseen.step hfm hkeys he hne
    have hj := hR.nin p hp
    obtain ⟨b, fo, hob, hB, hfi, hfo⟩ := hR.file hj
    have hfa : fileAt a p.2 = foF fo := by simp only [fileAt, hfi, Option.getD_some]
    have hsq : seqsAt a p.2 = fo.writes.map (·.seq) := by simp only [seqsAt, hfa, foF]
    have hin : ∀ x ∈ foA (b, fo), x ∈ w.objs.flatMap foA := fun x hx => List.mem_flatMap.2 ⟨_, List.mem_of_getElem? hob, hx⟩
    have hC2 : (seqsOf a (C ++ [p])).length ≤ M := by
      obtain ⟨tt, htt⟩ := hseen2.ext hkeys
      have h1 : (seqsOf a (C ++ [p] ++ tt)).length = (seqsOf a a.names).length := (htt.flatMap_right _).length_eq
      rw [seqsOf, List.flatMap_append, List.length_append] at h1
      simp only [seqsOf] at h1 hcount ⊢; omega
    have hsnoc : seqsOf a (C ++ [p]) = seqsOf a C ++ fo.writes.map (·.seq) := by simp [seqsOf, hsq]
    rw [hsnoc, List.length_append, List.length_map] at hC2
    refine GO ?_
    refine st_entry (b := w.fm) (es := w.fes) (e := e) (by rfl) (by (focus ((repeat (first | with_reducible exact HasO.here | apply HasO.there)); done))) (by (focus ((repeat (first | with_reducible exact HasO.here | apply HasO.there)); done))) hfm.born he ?_
    rw [e1, e2, hB]
    have hwv : Atom.cell b 2 fo.wv ∈ w.objs.flatMap foA := hin _ (by simp [foA, cellsAt])
    have hwr := hfo.wr
    obtain ⟨wa, wc, hwf⟩ := hwr.form
    have hwrd : RdRow 4 (w.objs.flatMap foA) fo.wv fo.writes.length (fo.writes.flatMap wrEnc) := hwr.rd.mono (fun x hx => hin x (by simp only [foA, List.mem_append]; exact .inr (.inr (.inr hx))))
    rw [hwf] at hwv hwrd
    refine GO ?_
    refine VC.loop (α := Nat × Value × List Value) (Γf := fun s => [(0, ptr0 t), (1, .int .u64 which), (7, ptr0 tx), (8, s.2.1), (41, ptr0 q1), (49, .slice wa fo.writes.length wc), (50, vi fo.writes.length), (51, vi s.1)])
      (Hf := fun s => [[.obj q1 (.mapIter (some w.fm) w.fc (seen.push e.born) w.fc)], slA s.2.1 ((seqsOf a C ++ (fo.writes.take s.1).map (·.seq)).map vi) s.2.2, cellsAt tx 0 [.slice ca' (cs.take 65536).length cc', .map (some mb), .slice none 0 0, .slice none 0 0, vi w.clock, vi 0, .bool false], slA (.slice ca' (cs.take 65536).length cc') ((cs.take 65536).flatMap chEnc) csp', [.obj mb (.map #[] 0)]] ++ (WMem t w ++ [A]))
      (I := fun s => s.1 ≤ fo.writes.length ∧ IsSl 1 s.2.1 ((seqsOf a C).length + s.1) ((seqsOf a C ++ (fo.writes.take s.1).map (·.seq)).map vi) s.2.2) (μ := fun s => fo.writes.length - s.1) (0, .slice ava (seqsOf a C).length avc, asp) ⟨Nat.zero_le _, by simpa using hav⟩ (by (repeat (first | exact Sub.nil | (apply Sub.cons; rfl)))) (by simp only [WMem, List.take_zero, List.map_nil, List.append_nil, List.cons_append, List.nil_append]; (first | with_reducible exact Imp.refl | with_reducible exact Imp.left | (focus ((try simp only [List.nil_append]); (repeat (first | exact Imp.nil | (apply Imp.cons; (focus ((repeat (first | with_reducible exact Tk.here | apply Tk.there)); done))))); done)))) ?_
    rintro ⟨i, iv, isp⟩ ⟨hi, hiv⟩
    simp only at hi hiv
    obtain ⟨iva, ivc, rfl⟩ := hiv.form
    simp only [WMem, List.cons_append, List.nil_append]
    refine GO ?_
    (first | (apply VC.seq_cond; rfl) | (apply VC.cond; rfl))
    · intro hlt
      have hlt : i < fo.writes.length := by simpa using hlt
      obtain ⟨x, hx⟩ : ∃ x, fo.writes[i]? = some x := ⟨fo.writes[i], by simp [hlt]⟩
      obtain ⟨wb, wo, wc', hwe, hcell⟩ := hwrd.at_ (fun p => rfl) hx
      simp only [Value.slice.injEq, true_and] at hwe
      obtain ⟨rfl, rfl⟩ := hwe
      refine GO ?_
      refine st_loadA (us := wrEnc x) (by rfl) (fun y hy => by simp only [List.flatten_cons, List.mem_append]; simp only [hcell y hy, true_or, or_true]) (by rfl) ?_
      refine st_alloc (fun p12 => ?_)
      simp only [wrEnc]
      refine GO ?_
      refine st_bslice (out := [vi x.seq]) (by rfl) (by rfl) (fun q3 => ?_)
      refine st_append (k := (seqsOf a C).length + i) (m := 1) (xs := (seqsOf a C ++ (fo.writes.take i).map (·.seq)).map vi) (sp := isp) (ys := [vi x.seq]) (by rfl) (by rfl) hiv (by (focus ((repeat (first | with_reducible exact Tk.here | apply Tk.there)); done))) (by rfl) ?_ rfl (by rfl) (by rfl) (by decide) (by omega) (fun sv' sp' hsl' => ?_)
      · exact ⟨rfl, fun a ha => by simp only [List.flatten_cons, List.mem_append]; exact .inl ha⟩
      have htake : (seqsOf a C ++ (fo.writes.take (i + 1)).map (·.seq)).map vi = (seqsOf a C ++ (fo.writes.take i).map (·.seq)).map vi ++ [vi x.seq] := by
        rw [List.take_add_one, hx]; simp
      rw [← htake] at hsl' ⊢
      obtain ⟨a', c', hf'⟩ := hsl'.form
      subst hf'
      refine GO ?_
      exact ⟨(i + 1, _, sp'), ⟨by show i + 1 ≤ fo.writes.length; omega, hsl'⟩, by simp only; omega, by (repeat (first | exact Sub.nil | (apply Sub.cons; rfl))), by simp only [WMem, List.cons_append, List.nil_append]; (first | with_reducible exact Imp.refl | with_reducible exact Imp.left | (focus ((try simp only [List.nil_append]); (repeat (first | exact Imp.nil | (apply Imp.cons; (focus ((repeat (first | with_reducible exact Tk.here | apply Tk.there)); done))))); done)))⟩
    · intro hge
      have hge : ¬ i < fo.writes.length := by simpa using hge
      obtain rfl : i = fo.writes.length := by omega
      rw [List.take_length] at hiv ⊢
      rw [← hsnoc] at hiv ⊢
      have hlen2 : (seqsOf a C).length + fo.writes.length = (seqsOf a (C ++ [p])).length := by rw [hsnoc]; simp
      rw [hlen2] at hiv ⊢
      refine GO ?_
      exact ⟨(seen.push e.born, C ++ [p], _, isp), ⟨hseen2, hiv⟩, hless, by (repeat (first | exact Sub.nil | (apply Sub.cons; rfl))), by simp only [WMem, List.cons_append, List.nil_append]; (first | with_reducible exact Imp.refl | with_reducible exact Imp.left | (focus ((try simp only [List.nil_append]); (repeat (first | exact Imp.nil | (apply Imp.cons; (focus ((repeat (first | with_reducible exact Tk.here | apply Tk.there)); done))))); done)))⟩
  have hCp := hseen.over hfm hkeys hover
  have hperm : (seqsOf a C).Perm (seqsOf a a.names) := hCp.flatMap_right _
  have hCn : (seqsOf a C).length ≤ M := by rw [hperm.length_eq]; exact hcount
  have hCd : (seqsOf a C).Nodup := (hperm.nodup_iff).2 (seqs_nodup hA hR.nin)
  refine GO ?_
  refine st_call (sort_int _ (seqsOf a C) asp hav (by omega) hCd) (by rfl) (by (focus ((repeat (first | exact Spl.nil | (apply Spl.cons; (focus ((repeat (first | with_reducible exact Tk.here | apply Tk.there)); done))))); done))) (fun v Post hv => ?_)
  obtain ⟨rfl, ys, hys, rfl⟩ := hv
  have hsort : SortedOf ltI (seqsOf a a.names) ys := ⟨hys.1.trans hperm, hys.2⟩
  have hyl : (seqsOf a C).length = ys.length := hys.1.length_eq.symm
  have hav2 : IsSl 1 (.slice ava (seqsOf a C).length avc) (seqsOf a C).length (ys.map vi) asp := hav.other (by simp [hyl])
  rw [hyl] at hav2 ⊢
  simp only [List.cons_append, List.nil_append]
  refine GO ?_
  refine st_mkmap (fun km => ?_)
  refine GO ?_
  refine VC.loop (α := Nat × Array MapEntry × Nat) (Γf := fun s => [(0, ptr0 t), (1, .int .u64 which), (7, ptr0 tx), (13, .map (some km)), (64, .slice ava ys.length avc), (65, vi ys.length), (66, vi s.1)])
    (Hf := fun s => [[.obj km (.map s.2.1 s.2.2)], slA (.slice ava ys.length avc) (ys.map vi) asp, cellsAt tx 0 [.slice ca' (cs.take 65536).length cc', .map (some mb), .slice none 0 0, .slice none 0 0, vi w.clock, vi 0, .bool false], slA (.slice ca' (cs.take 65536).length cc') ((cs.take 65536).flatMap chEnc) csp', [.obj mb (.map #[] 0)]] ++ (WMem t w ++ [A]))
    (I := fun s => s.1 ≤ ys.length ∧ MapIs kInt Value.bool s.2.1 s.2.2 (keptT which ys s.1)) (μ := fun s => ys.length - s.1) (0, #[], 0) ⟨Nat.zero_le _, .nil⟩ (by (repeat (first | exact Sub.nil | (apply Sub.cons; rfl)))) (by simp only [WMem, List.cons_append, List.nil_append]; (first | with_reducible exact Imp.refl | with_reducible exact Imp.left | (focus ((try simp only [List.nil_append]); (repeat (first | exact Imp.nil | (apply Imp.cons; (focus ((repeat (first | with_reducible exact Tk.here | apply Tk.there)); done))))); done)))) ?_
  rintro ⟨k, kes, kc⟩ ⟨hk, hkm⟩
  simp only at hk hkm
  simp only [WMem, List.cons_append, List.nil_append]
  refine GO ?_
  (first | (apply VC.seq_cond; rfl) | (apply VC.cond; rfl))
  · intro hlt
    have hlt : k < ys.length := by simpa using hlt
    obtain ⟨y, hy⟩ : ∃ y, ys[k]? = some y := ⟨ys[k], by simp [hlt]⟩
    obtain ⟨b, o, c, he, _, _⟩ := hav2.some (by omega)
    simp only [Value.slice.injEq, true_and] at he
    obtain ⟨rfl, rfl⟩ := he
    have hstep : ∀ vv, vv = Value.bool (keepB which k) → ∃ u, vv = Value.bool u ∧ u = keepB which k := fun vv h => ⟨_, h, rfl⟩
    refine GO ?_
    refine st_load1 (v := vi y) (by rfl) (.there (Has.row (by simp [hy]))) ?_
    refine GO ?_
    by_cases h64 : k < 64
    · have hkb : keepB which k = bitV which k := by simp [keepB, h64]
      simp only [show (k : Int) < 64 by omega, decide_true]
      refine GO ?_
      refine st_mapupd (E := kInt) (V := Value.bool) (k := y) (v := keepB which k) (by rfl) (by rfl) (by rw [hkb]; rfl) rfl .here hkm (fun es2 c2 hm2 => ?_)
      rw [← keptT_succ hy] at hm2
      refine GO ?_
      exact ⟨(k + 1, es2, c2), ⟨by show k + 1 ≤ ys.length; omega, hm2⟩, by simp only; omega, by (repeat (first | exact Sub.nil | (apply Sub.cons; rfl))), by simp only [WMem, List.cons_append, List.nil_append]; (first | with_reducible exact Imp.refl | with_reducible exact Imp.left | (focus ((try simp only [List.nil_append]); (repeat (first | exact Imp.nil | (apply Imp.cons; (focus ((repeat (first | with_reducible exact Tk.here | apply Tk.there)); done))))); done)))⟩
    · simp only [show ¬ (k : Int) < 64 by omega, decide_false]
      refine GO ?_
      refine st_mapupd (E := kInt) (V := Value.bool) (k := y) (v := keepB which k) (by rfl) (by rfl) (by simp [keepB, h64, ev, V.look, V.putE]) rfl .here hkm (fun es2 c2 hm2 => ?_)
      rw [← keptT_succ hy] at hm2
      refine GO ?_
      exact ⟨(k + 1, es2, c2), ⟨by show k + 1 ≤ ys.length; omega, hm2⟩, by simp only; omega, by (repeat (first | exact Sub.nil | (apply Sub.cons; rfl))), by simp only [WMem, List.cons_append, List.nil_append]; (first | with_reducible exact Imp.refl | with_reducible exact Imp.left | (focus ((try simp only [List.nil_append]); (repeat (first | exact Imp.nil | (apply Imp.cons; (focus ((repeat (first | with_reducible exact Tk.here | apply Tk.there)); done))))); done)))⟩
  intro hge
  have hge : ¬ k < ys.length := by simpa using hge
  obtain rfl : k = ys.length := by omega
  obtain ⟨m, hm⟩ : ∃ m, m = keptT which ys ys.length := ⟨_, rfl⟩
  rw [← hm] at hkm
  refine GO ?_
  refine st_rangeM (by rfl) (by (focus ((repeat (first | with_reducible exact HasO.here | apply HasO.there)); done))) (fun q2 => ?_)
  refine GO ?_
  have hx0 : Rep ⟨.slice ca' (cs.take 65536).length cc', cs.take 65536, csp', mb, #[], 0, [], [], .slice none 0 0, [], [], .slice none 0 0, [], [], w.clock, 0, false⟩ (leftC a m (cs.take 65536) []) 0 := by
    refine ⟨rfl, rfl, by simp [leftC, hR.clock], rfl, rfl, rfl, by simp [leftC], rfl, rfl, by simp [leftC], ⟨hcs', .nil, .nil, .nil, by simp, by simp, .nil, by simp, by simp, by simp, .nil, by simp, by simp, ?_, by simp, ?_⟩⟩
    · exact hR.ok.clock
    · show (cs.take 65536).length ≤ 65536; omega
  refine VC.loop (α := Array Nat × List (ByteArray × Nat) × WR) (Γf := fun s => [(7, ptr0 tx), (13, .map (some km)), (87, ptr0 q2)])
    (Hf := fun s => [[.obj q2 (.mapIter (some w.fm) w.fc s.1 w.fc)], [.obj km (.map kes kc)]] ++ (WMem tx s.2.2 ++ (WMem t w ++ [A])))
    (I := fun s => Seen w.fes a.names s.1 s.2.1 ∧ Rep s.2.2 (leftC a m (cs.take 65536) s.2.1) 0) (μ := fun s => (w.fes.toList.filter fun e => decide (e.born ∉ s.1.toList)).length) (#[], [], _) ⟨Seen.init, hx0⟩ (by (repeat (first | exact Sub.nil | (apply Sub.cons; rfl)))) ?_ ?_
  · refine Imp.cut (M := [[.obj q2 (.mapIter (some w.fm) w.fc #[] w.fc)], [.obj km (.map kes kc)], cellsAt tx 0 [.slice ca' (cs.take 65536).length cc', .map (some mb), .slice none 0 0, .slice none 0 0, vi w.clock, vi 0, .bool false], slA (.slice ca' (cs.take 65536).length cc') ((cs.take 65536).flatMap chEnc) csp', [.obj mb (.map #[] 0)]] ++ (WMem t w ++ [A])) (by simp only [WMem, List.cons_append, List.nil_append]; (first | with_reducible exact Imp.refl | with_reducible exact Imp.left | (focus ((try simp only [List.nil_append]); (repeat (first | exact Imp.nil | (apply Imp.cons; (focus ((repeat (first | with_reducible exact Tk.here | apply Tk.there)); done))))); done)))) (Imp.perm ?_)
    simp [slA, WMem]
  clear hx0
  rintro ⟨seen2, C2, wx⟩ ⟨hseen2, hRx⟩
  simp only at hseen2 hRx
  simp only [WMem, List.cons_append, List.nil_append]
  refine GO ?_
  refine st_next (b := w.fm) (es := w.fes) (by rfl) .here (by (focus ((repeat (first | with_reducible exact HasO.here | apply HasO.there)); done))) hfm.clock (fun hover => ?_) (fun e he hne => ?_)
  · have hC2p := hseen2.over hfm hkeys hover
    refine GO ?_
    refine endQ_mk (Post := WMem tx wx ++ (WMem t w ++ [A])) (.inr rfl) (.tmp (by rfl) .nil) ⟨tx, wx, _, rfl, ⟨C2, ys, hC2p, hsort, by rw [← hm]⟩, hRx, by simp only [WMem, List.cons_append, List.nil_append]⟩ ?_
    simp only [WMem, List.cons_append, List.nil_append]; (first | with_reducible exact Imp.refl | with_reducible exact Imp.left | (focus ((try simp only [List.nil_append]); (repeat (first | exact Imp.nil | (apply Imp.cons; (focus ((repeat (first | with_reducible exact Tk.here | apply Tk.there)); done))))); done)))
  obtain ⟨p, hp, e1, e2, hnk, hseen3, hless⟩ := hseen2.step hfm hkeys he hne
  have hj := hR.nin p hp
  obtain ⟨b, fo, hob, hB, hfi, hfo⟩ := hR.file hj
  have hfa : fileAt a p.2 = foF fo := by simp only [fileAt, hfi, Option.getD_some]
  have hmw := hfo.many
  have hin : ∀ x ∈ foA (b, fo), x ∈ w.objs.flatMap foA := fun x hx => List.mem_flatMap.2 ⟨_, List.mem_of_getElem? hob, hx⟩
  have hbv : Atom.cell b 1 fo.bv ∈ w.objs.flatMap foA := hin _ (by simp [foA, cellsAt])
  have hwv : Atom.cell b 2 fo.wv ∈ w.objs.flatMap foA := hin _ (by simp [foA, cellsAt])
  have hwr := hfo.wr
  obtain ⟨wa, wc, hwf⟩ := hwr.form
  have hwrd : RdRow 4 (w.objs.flatMap foA) fo.wv fo.writes.length (fo.writes.flatMap wrEnc) := hwr.rd.mono (fun x hx => hin x (by simp only [foA, List.mem_append]; exact .inr (.inr (.inr hx))))
  have hbrd : RdRow 1 (w.objs.flatMap foA) fo.bv fo.base.length (fo.base.map u8v) := hfo.base.rd.mono (fun x hx => hin x (by simp only [foA, List.mem_append]; exact .inr (.inr (.inl hx))))
  rw [hwf] at hwv hwrd
  refine GO ?_
  refine st_entry (b := w.fm) (es := w.fes) (e := e) (by rfl) (by (focus ((repeat (first | with_reducible exact HasO.here | apply HasO.there)); done))) (by (focus ((repeat (first | with_reducible exact HasO.here | apply HasO.there)); done))) hfm.born he ?_
  rw [e1, e2, hB]
  refine GO ?_
  refine st_call (cloneY_spec _ fo.bv fo.base.length (fo.base.map u8v) (by have := hfo.len2; omega) hbrd (by simp only [List.all_map]; exact List.all_eq_true.2 (fun _ _ => rfl))) (by rfl) (by (focus ((repeat (first | exact Spl.nil | (apply Spl.cons; (focus ((repeat (first | with_reducible exact Tk.here | apply Tk.there)); done))))); done))) (fun v Post hv => ?_)
  obtain ⟨bsp, hbs, rfl⟩ := hv
  simp only [List.cons_append, List.nil_append]
  refine GO ?_
  refine VC.loop (α := Nat × Value × List Value) (Γf := fun s => [(7, ptr0 tx), (13, .map (some km)), (16, .string p.1), (18, s.2.1), (87, ptr0 q2), (101, .slice wa fo.writes.length wc), (102, vi fo.writes.length), (103, vi s.1)])
    (Hf := fun s => [slA s.2.1 (((fo.writes.take s.1).foldl (onKept m) fo.base).map u8v) s.2.2, [.obj q2 (.mapIter (some w.fm) w.fc (seen2.push e.born) w.fc)], [.obj km (.map kes kc)]] ++ (WMem tx wx ++ (WMem t w ++ [A])))
    (I := fun s => s.1 ≤ fo.writes.length ∧ IsSl 1 s.2.1 ((fo.writes.take s.1).foldl (onKept m) fo.base).length (((fo.writes.take s.1).foldl (onKept m) fo.base).map u8v) s.2.2) (μ := fun s => fo.writes.length - s.1) (0, v, bsp) ⟨Nat.zero_le _, by simpa using hbs⟩ (by (repeat (first | exact Sub.nil | (apply Sub.cons; rfl)))) (by simp only [WMem, List.take_zero, List.foldl_nil, List.cons_append, List.nil_append]; (first | with_reducible exact Imp.refl | with_reducible exact Imp.left | (focus ((try simp only [List.nil_append]); (repeat (first | exact Imp.nil | (apply Imp.cons; (focus ((repeat (first | with_reducible exact Tk.here | apply Tk.there)); done))))); done)))) ?_
  rintro ⟨i, lv, lsp⟩ ⟨hi, hlv⟩
  simp only at hi hlv
  have hle : ((fo.writes.take i).foldl (onKept m) fo.base).length ≤ 4194304 := foldl_kept_le hfo.len2 (fun x hx => hfo.at_ x (List.mem_of_mem_take hx))
  simp only [WMem, List.cons_append, List.nil_append]
  refine GO ?_
  (first | (apply VC.seq_cond; rfl) | (apply VC.cond; rfl))
  · intro hlt
    have hlt : i < fo.writes.length := by simpa using hlt
    obtain ⟨x, hx⟩ : ∃ x, fo.writes[i]? = some x := ⟨fo.writes[i], by simp [hlt]⟩
    have hxa := hfo.at_ x (List.mem_of_getElem? hx)
    have htake := foldl_take (f := onKept m) (b := fo.base) hx
    obtain ⟨wb, wo, wc', hwe, hcell⟩ := hwrd.at_ (fun p => rfl) hx
    simp only [Value.slice.injEq, true_and] at hwe
    obtain ⟨rfl, rfl⟩ := hwe
    refine GO ?_
    refine st_loadA (us := wrEnc x) (by rfl) (fun y hy => by simp only [List.flatten_cons, List.mem_append]; simp only [hcell y hy, true_or, or_true]) (by rfl) ?_
    refine st_alloc (fun p20 => ?_)
    simp only [wrEnc]
    refine GO ?_
    refine st_lookup (E := kInt) (V := Value.bool) (k := x.seq) (by rfl) (by rfl) rfl (by (focus ((repeat (first | with_reducible exact HasO.here | apply HasO.there)); done))) hkm ?_
    have hlk : lookV false (Value.bool false) ((mget x.seq m).map Value.bool) = .bool ((mget x.seq m).getD false) := by cases mget x.seq m <;> rfl
    rw [hlk]
    cases hkp : (mget x.seq m).getD false with
    | true =>
      refine GO ?_
      refine st_call (on_spec x lv _ lsp hxa hle hlv) (by rfl) (by (focus ((repeat (first | exact Spl.nil | (apply Spl.cons; (focus ((repeat (first | with_reducible exact Tk.here | apply Tk.there)); done))))); done))) (fun v' Post hv => ?_)
      obtain ⟨sp', hs', rfl⟩ := hv
      have hon : onKept m ((fo.writes.take i).foldl (onKept m) fo.base) x = onL x ((fo.writes.take i).foldl (onKept m) fo.base) := by simp only [onKept, hkp, if_true]
      rw [← hon, ← htake] at hs' ⊢
      simp only [List.cons_append, List.nil_append]
      refine GO ?_
      exact ⟨(i + 1, v', sp'), ⟨by show i + 1 ≤ fo.writes.length; omega, hs'⟩, by simp only; omega, by (repeat (first | exact Sub.nil | (apply Sub.cons; rfl))), by simp only [WMem, List.cons_append, List.nil_append]; (first | with_reducible exact Imp.refl | with_reducible exact Imp.left | (focus ((try simp only [List.nil_append]); (repeat (first | exact Imp.nil | (apply Imp.cons; (focus ((repeat (first | with_reducible exact Tk.here | apply Tk.there)); done))))); done)))⟩
    | false =>
      have hon : onKept m ((fo.writes.take i).foldl (onKept m) fo.base) x = (fo.writes.take i).foldl (onKept m) fo.base := by simp only [onKept, hkp, Bool.false_eq_true, if_false]
      rw [hon] at htake
      rw [← htake] at hlv ⊢
      refine GO ?_
      exact ⟨(i + 1, lv, lsp), ⟨by show i + 1 ≤ fo.writes.length; omega, hlv⟩, by simp only; omega, by (repeat (first | exact Sub.nil | (apply Sub.cons; rfl))), by simp only [WMem, List.cons_append, List.nil_append]; (first | with_reducible exact Imp.refl | with_reducible exact Imp.left | (focus ((try simp only [List.nil_append]); (repeat (first | exact Imp.nil | (apply Imp.cons; (focus ((repeat (first | with_reducible exact Tk.here | apply Tk.there)); done))))); done)))⟩
  intro hge
  have hge : ¬ i < fo.writes.length := by simpa using hge
  obtain rfl : i = fo.writes.length := by omega
  rw [List.take_length] at hle hlv ⊢
  have hrec : fo.writes.foldl (onKept m) fo.base = recF m (fileAt a p.2) := by rw [hfa]; rfl
  rw [hrec] at hle hlv ⊢
  generalize hL : recF m (fileAt a p.2) = L at hle hlv
  have hnb : (leftC a m (cs.take 65536) C2).names.length + 1 ≤ 1073741823 := by
    have h1 := congrArg List.length (leftC_names (a := a) (m := m) (cs := cs.take 65536) (C := C2))
    rw [List.length_map, List.length_map] at h1
    have h2 := hseen3.nodup
    obtain ⟨tt, htt⟩ := hseen3.ext hkeys
    have h3 := htt.length_eq
    have h4 := hR.ok.files
    rw [hR.nlen] at h4
    rw [List.length_append, List.length_append, List.length_singleton] at h3
    omega
  have hnkx : p.1 ∉ C2.map (·.1) := hnk
  obtain ⟨la, lc, rfl⟩ := hlv.form
  refine GO ?_
  refine VC.draws ⟨?_, ?_, trivial⟩
  all_goals
    refine GO ?_
    refine st_call (cloneB_spec _ L.length (L.map u8v) lsp (by omega) hlv (by simp only [List.all_map]; exact List.all_eq_true.2 (fun _ _ => rfl))) (by rfl) (by (focus ((repeat (first | exact Spl.nil | (apply Spl.cons; (focus ((repeat (first | with_reducible exact Tk.here | apply Tk.there)); done))))); done))) (fun v2 Post hv => ?_)
    obtain ⟨sp2, hs2, rfl⟩ := hv
    obtain ⟨a2, c2, rfl⟩ := hs2.form
    simp only [List.cons_append, List.nil_append]
    refine GO ?_
    refine st_box (by rfl) (fun p6 => ?_)
    simp only [Value.cells]
    refine VO.know (φ := p6 ∉ wx.objs.map (·.1)) (fun w0 F hs0 hmem => ?_) (fun hfr => ?_)
    · obtain ⟨⟨b', fo'⟩, hm', rfl⟩ := List.mem_map.1 hmem
      have hy : Atom.cell b' 0 fo'.nv ∈ wx.objs.flatMap foA := List.mem_flatMap.2 ⟨_, hm', by simp [foA, cellsAt]⟩
      exact hs0.apart (x := .cell b' 0 (.slice la L.length lc)) (y := .cell b' 0 fo'.nv) .here (by simp [cellsAt]) (by simp only [List.flatten_cons, List.mem_append, hy, true_or, or_true]) rfl
    refine st_mapupd (k := p.1) (v := p6) (by rfl) (by rfl) (by rfl) rfl (by (focus ((repeat (first | with_reducible exact Tk.here | apply Tk.there)); done))) hRx.ok.fm (fun es2 c2' hm2 => ?_)
    have hfok : FOk ⟨L, L, [], .slice la L.length lc, .slice a2 L.length c2, .slice none 0 0, lsp, sp2, []⟩ 0 := ⟨hlv, hs2, .nil, hle, hle, by simp, by simp⟩
    obtain ⟨hRn, hB2⟩ := hRx.newFile (s := p.1) hfr hfok hm2 hnb
    have hfoF : foF ⟨L, L, [], .slice la L.length lc, .slice a2 L.length c2, .slice none 0 0, lsp, sp2, []⟩ = ⟨recF m (fileAt a p.2), recF m (fileAt a p.2), []⟩ := by rw [hL]; rfl
    rw [hfoF, ← leftC_snoc hnkx] at hRn
    refine GO ?_
    refine ⟨(seen2.push e.born, C2 ++ [p], _), ⟨hseen3, hRn⟩, hless, by (repeat (first | exact Sub.nil | (apply Sub.cons; rfl))), ?_⟩
    refine Imp.cut (imp_jn3 (a := cellsAt p6 0 [.slice la L.length lc, .slice a2 L.length c2, .slice none 0 0]) (b := slA (.slice la L.length lc) (L.map u8v) lsp) (c := slA (.slice a2 L.length c2) (L.map u8v) sp2) (d := wx.objs.flatMap foA) (x := (wx.objs ++ [(p6, (⟨L, L, [], .slice la L.length lc, .slice a2 L.length c2, .slice none 0 0, lsp, sp2, []⟩ : FO))]).flatMap foA) (by (focus ((repeat (first | with_reducible exact Tk.here | apply Tk.there)); done))) (by (focus ((repeat (first | with_reducible exact Tk.here | apply Tk.there)); done))) (by (focus ((repeat (first | with_reducible exact Tk.here | apply Tk.there)); done))) (by (focus ((repeat (first | with_reducible exact Tk.here | apply Tk.there)); done))) ?_) ?_
    · simp only [List.flatMap_append, List.flatMap_cons, List.flatMap_nil, List.append_nil, foA, List.append_assoc]
      simp only [slA, List.append_nil, List.append_assoc]
      exact .refl _
    · simp only [WMem, List.cons_append, List.nil_append]; (first | with_reducible exact Imp.refl | with_reducible exact Imp.left | (focus ((try simp only [List.nil_append]); (repeat (first | exact Imp.nil | (apply Imp.cons; (focus ((repeat (first | with_reducible exact Tk.here | apply Tk.there)); done))))); done)))
end Go.Proofs.YtklkngccaemjdaaGreat

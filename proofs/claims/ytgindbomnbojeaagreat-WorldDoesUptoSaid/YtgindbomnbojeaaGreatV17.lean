/-
  What holds of every world: numbers of writes, names, and what the writes come to.
-/
import Derived.Test.YtgindbomnbojeaaGreatV16
set_option linter.unusedSimpArgs false
set_option linter.unusedVariables false
namespace Go.V
open Go
structure AInv (a : AW) : Prop where
  ok : AOk a
  nin : ∀ p ∈ a.names, p.2 < a.files.length
  keys : (a.names.map (·.1)).Nodup
  play : ∀ f ∈ a.files, f.now = f.writes.foldl (fun b x => onL x b) f.base
theorem AInv.congr {a b : AW} (h : AInv a) (h1 : b.files = a.files) (h2 : b.names = a.names) (h3 : b.seq = a.seq) : AInv b :=
  ⟨⟨by rw [h1]; exact h.ok.seqs, by rw [h1, h3]; exact h.ok.rng, by rw [h2]; exact h.ok.one⟩, by rw [h1, h2]; exact h.nin, by rw [h2]; exact h.keys, by rw [h1]; exact h.play⟩
theorem flatMap_set_perm {α β : Type} {f : α → List β} {l : List α} {i : Nat} {x y : α} (hx : l[i]? = some x) : ∃ rest, (l.flatMap f).Perm (f x ++ rest) ∧ ((l.set i y).flatMap f).Perm (f y ++ rest) := by
  obtain ⟨hlt, rfl⟩ := List.getElem?_eq_some_iff.1 hx
  refine ⟨(l.take i).flatMap f ++ (l.drop (i + 1)).flatMap f, ?_, ?_⟩
  · conv => lhs; rw [← List.take_append_drop i l, List.drop_eq_getElem_cons hlt]
    rw [List.flatMap_append, List.flatMap_cons, ← List.append_assoc, ← List.append_assoc]
    exact List.Perm.append_right _ List.perm_append_comm
  · rw [List.set_eq_take_append_cons_drop, if_pos hlt, List.flatMap_append, List.flatMap_cons, ← List.append_assoc, ← List.append_assoc]
    exact List.Perm.append_right _ List.perm_append_comm
theorem AOk.rngM {a : AW} (h : AOk a) : ∀ s ∈ a.files.flatMap (fun f => f.writes.map (·.seq)), 0 < s ∧ s ≤ a.seq := by
  intro s hs
  obtain ⟨f, hf, hs⟩ := List.mem_flatMap.1 hs
  obtain ⟨x, hx, rfl⟩ := List.mem_map.1 hs
  exact h.rng f hf x hx
theorem AInv.write {a : AW} {j : Nat} {f : AF} {x : Wr} (h : AInv a) (hj : a.files[j]? = some f) (hx : x.seq = a.seq + 1) (hs : 0 ≤ a.seq) (b : AW) (h1 : b.files = a.files.set j (doesA f x)) (h2 : b.names = a.names) (h3 : b.seq = a.seq + 1) : AInv b := by
  obtain ⟨rest, p1, p2⟩ := flatMap_set_perm (f := fun f : AF => f.writes.map (·.seq)) (y := doesA f x) hj
  have hmem : f ∈ a.files := List.mem_of_getElem? hj
  refine ⟨⟨?_, ?_, by rw [h2]; exact h.ok.one⟩, ?_, by rw [h2]; exact h.keys, ?_⟩
  · rw [h1]
    refine (p2.nodup_iff).2 ?_
    have q : ((doesA f x).writes.map (·.seq) ++ rest).Perm ((a.seq + 1) :: (f.writes.map (·.seq) ++ rest)) := by
      simp only [doesA, List.map_append, List.map_cons, List.map_nil, hx]
      rw [List.append_assoc, List.singleton_append]
      exact List.perm_middle
    refine (q.nodup_iff).2 (List.nodup_cons.2 ⟨fun hm => ?_, (p1.nodup_iff).1 h.ok.seqs⟩)
    have := h.ok.rngM _ ((p1.mem_iff).2 hm)
    omega
  · rw [h1, h3]
    intro g hg y hy
    rcases List.mem_or_eq_of_mem_set hg with hg | rfl
    · have := h.ok.rng g hg y hy; omega
    · simp only [doesA, List.mem_append, List.mem_singleton] at hy
      rcases hy with hy | rfl
      · have := h.ok.rng f hmem y hy; omega
      · rw [hx]; omega
  · rw [h1, h2]; simpa using h.nin
  · rw [h1]
    intro g hg
    rcases List.mem_or_eq_of_mem_set hg with hg | rfl
    · exact h.play g hg
    · simp only [doesA, List.foldl_append, List.foldl_cons, List.foldl_nil, ← h.play f hmem]
theorem AInv.sync {a : AW} {j : Nat} {f : AF} (h : AInv a) (hj : a.files[j]? = some f) (b : AW) (h1 : b.files = a.files.set j ⟨f.now, f.now, []⟩) (h2 : b.names = a.names) (h3 : b.seq = a.seq) : AInv b := by
  obtain ⟨rest, p1, p2⟩ := flatMap_set_perm (f := fun f : AF => f.writes.map (·.seq)) (y := ⟨f.now, f.now, []⟩) hj
  refine ⟨⟨?_, ?_, by rw [h2]; exact h.ok.one⟩, ?_, by rw [h2]; exact h.keys, ?_⟩
  · rw [h1]
    refine (p2.nodup_iff).2 ?_
    have := (p1.nodup_iff).1 h.ok.seqs
    simpa using (List.nodup_append.1 this).2.1
  · rw [h1, h3]
    intro g hg y hy
    rcases List.mem_or_eq_of_mem_set hg with hg | rfl
    · exact h.ok.rng g hg y hy
    · cases hy
  · rw [h1, h2]; simpa using h.nin
  · rw [h1]
    intro g hg
    rcases List.mem_or_eq_of_mem_set hg with hg | rfl
    · exact h.play g hg
    · rfl
theorem AInv.file {a : AW} {p : ByteArray} {t : List UInt8} (h : AInv a) (hp : mget p a.names = none) (b : AW) (h1 : b.files = a.files ++ [⟨t, t, []⟩]) (h2 : b.names = mset p a.files.length a.names) (h3 : b.seq = a.seq) : AInv b := by
  rw [mget_none_mset hp] at h2
  refine ⟨⟨?_, ?_, ?_⟩, ?_, ?_, ?_⟩
  · rw [h1, List.flatMap_append]; simpa using h.ok.seqs
  · rw [h1, h3]
    intro g hg y hy
    rcases List.mem_append.1 hg with hg | hg
    · exact h.ok.rng g hg y hy
    · rw [List.mem_singleton.1 hg] at hy; cases hy
  · rw [h2, List.map_append, List.nodup_append]
    refine ⟨h.ok.one, by simp, fun x hx y hy e => ?_⟩
    obtain ⟨q, hq, rfl⟩ := List.mem_map.1 hx
    simp at hy
    have := h.nin q hq; omega
  · rw [h1, h2]
    intro q hq
    rcases List.mem_append.1 hq with hq | hq
    · have := h.nin q hq; simp; omega
    · rw [List.mem_singleton.1 hq]; simp
  · rw [h2, ← mget_none_mset hp]; exact mset_keys_nodup h.keys
  · rw [h1]
    intro g hg
    rcases List.mem_append.1 hg with hg | hg
    · exact h.play g hg
    · rw [List.mem_singleton.1 hg]; rfl
theorem mget_mset_ne {κ β : Type} [DecidableEq κ] {k k' : κ} {v : β} {l : List (κ × β)} (h : k' ≠ k) : mget k' (mset k v l) = mget k' l := by
  induction l with
  | nil => simp [mset, mget, Ne.symm h]
  | cons q l ih =>
    simp only [mset]
    split
    · rename_i e; subst e; simp [mget, Ne.symm h]
    · simp only [mget, ih]
theorem mget_mset_eq {κ β : Type} [DecidableEq κ] {k : κ} {v : β} {l : List (κ × β)} : mget k (mset k v l) = some v := by
  induction l with
  | nil => simp [mset, mget]
  | cons q l ih =>
    simp only [mset]
    split
    · rename_i h; simp only [mget, if_pos h]
    · rename_i h; simp only [mget, if_neg h, ih]
theorem mget_mdel_ne {κ β : Type} [DecidableEq κ] {k k' : κ} {l : List (κ × β)} (h : k' ≠ k) : mget k' (mdel k l) = mget k' l := by
  induction l with
  | nil => rfl
  | cons q l ih =>
    simp only [mdel]
    split
    · rename_i e; subst e; simp [mget, Ne.symm h]
    · simp only [mget, ih]
theorem mget_none_of {κ β : Type} [DecidableEq κ] {k : κ} {l : List (κ × β)} (h : k ∉ l.map (·.1)) : mget k l = none := by
  cases hg : mget k l with
  | none => rfl
  | some v => exact absurd (List.mem_map_of_mem (f := fun p : κ × β => p.1) (mget_mem hg)) h
theorem mget_mdel_eq {κ β : Type} [DecidableEq κ] {k : κ} {l : List (κ × β)} (hn : (l.map (·.1)).Nodup) : mget k (mdel k l) = none := by
  induction l with
  | nil => rfl
  | cons q l ih =>
    simp only [List.map_cons, List.nodup_cons] at hn
    simp only [mdel]
    split
    · rename_i e; subst e; exact mget_none_of hn.1
    · rename_i e; simp only [mget, if_neg e]; exact ih hn.2
theorem mdel_snd_sub {κ : Type} [DecidableEq κ] {k : κ} {l : List (κ × Nat)} : ((mdel k l).map (·.2)).Sublist (l.map (·.2)) := by
  induction l with
  | nil => exact .refl _
  | cons q l ih =>
    simp only [mdel]
    split
    · exact List.sublist_cons_self _ _
    · exact List.Sublist.cons_cons _ ih
theorem mset_snd_nodup {κ : Type} [DecidableEq κ] {k : κ} {j : Nat} {l : List (κ × Nat)} (hn : (l.map (·.2)).Nodup) (hj : j ∉ l.map (·.2)) : ((mset k j l).map (·.2)).Nodup := by
  induction l with
  | nil => simp [mset]
  | cons q l ih =>
    simp only [List.map_cons, List.nodup_cons, List.mem_cons, not_or] at hn hj
    simp only [mset]
    split
    · simp only [List.map_cons, List.nodup_cons]; exact ⟨hj.2, hn.2⟩
    · simp only [List.map_cons, List.nodup_cons]
      refine ⟨fun hm => ?_, ih hn.2 hj.2⟩
      obtain ⟨p, hp, he⟩ := List.mem_map.1 hm
      rcases mem_mset hp with rfl | hp
      · exact hj.1 he
      · exact hn.1 (he ▸ List.mem_map_of_mem hp)
theorem mdel_snd_not {κ : Type} [DecidableEq κ] {k : κ} {j : Nat} {l : List (κ × Nat)} (hn : (l.map (·.2)).Nodup) (hg : mget k l = some j) : j ∉ (mdel k l).map (·.2) := by
  induction l with
  | nil => cases hg
  | cons q l ih =>
    simp only [List.map_cons, List.nodup_cons] at hn
    simp only [mget] at hg
    simp only [mdel]
    split at hg
    · rename_i e; cases hg; rw [if_pos e]; exact hn.1
    · rename_i e
      rw [if_neg e]
      simp only [List.map_cons, List.mem_cons, not_or]
      have hm := List.mem_map_of_mem (f := fun p : κ × Nat => p.2) (mget_mem hg)
      exact ⟨fun h => hn.1 (h ▸ hm), ih hn.2 hg⟩
theorem AInv.delete {a : AW} {p : ByteArray} (h : AInv a) (b : AW) (h1 : b.files = a.files) (h2 : b.names = mdel p a.names) (h3 : b.seq = a.seq) : AInv b :=
  ⟨⟨by rw [h1]; exact h.ok.seqs, by rw [h1, h3]; exact h.ok.rng, by rw [h2]; exact h.ok.one.sublist mdel_snd_sub⟩, by rw [h1, h2]; exact fun q hq => h.nin q (mem_mdel hq), by rw [h2]; exact mdel_keys_nodup h.keys, by rw [h1]; exact h.play⟩
theorem AInv.rename {a : AW} {p q : ByteArray} {j : Nat} (h : AInv a) (hp : mget p a.names = some j) (b : AW) (h1 : b.files = a.files) (h2 : b.names = mset q j (mdel p a.names)) (h3 : b.seq = a.seq) : AInv b := by
  refine ⟨⟨by rw [h1]; exact h.ok.seqs, by rw [h1, h3]; exact h.ok.rng, ?_⟩, ?_, ?_, by rw [h1]; exact h.play⟩
  · rw [h2]; exact mset_snd_nodup (h.ok.one.sublist mdel_snd_sub) (mdel_snd_not h.ok.one hp)
  · rw [h1, h2]
    intro r hr
    rcases mem_mset hr with rfl | hr
    · exact h.nin (p, j) (mget_mem hp)
    · exact h.nin r (mem_mdel hr)
  · rw [h2]; exact mset_keys_nodup (mdel_keys_nodup h.keys)
theorem AInv.empty : AInv emptyA := ⟨⟨by simp [emptyA], by simp [emptyA], by simp [emptyA]⟩, by simp [emptyA], by simp [emptyA], by simp [emptyA]⟩
theorem addFs_inv {fs : List (ByteArray × ByteArray)} : ∀ {a b : AW}, AInv a → addFs a fs = some b → AInv b := by
  induction fs with
  | nil => intro a b h e; simp only [addFs, Option.some.injEq] at e; subst e; exact h
  | cons p r ih =>
    intro a b h e
    simp only [addFs] at e
    cases hp : addF a p with
    | none => rw [hp] at e; cases e
    | some c =>
      rw [hp] at e
      refine ih ?_ e
      unfold addF at hp
      split at hp
      · cases hp
      · rename_i hc
        cases hp
        have hg : mget p.1 a.names = none := by
          cases hg : mget p.1 a.names with
          | none => rfl
          | some v => simp [hg] at hc
        exact h.file hg _ rfl rfl rfl
theorem newA_inv {cs : List Ch} {fs : List (ByteArray × ByteArray)} {a : AW} (h : newA cs fs = some a) : AInv a := by
  unfold newA at h
  split at h
  · cases h
  · rename_i b hb
    split at h
    · cases h
    · cases h
      exact (addFs_inv AInv.empty hb).congr rfl rfl rfl
theorem takeA_inv {a : AW} (h : AInv a) : AInv (takeA a) := h.congr rfl rfl rfl
theorem deedA_inv {a : AW} {d : De} {F : AW → Ch → Int × De × AW} (h : AInv a) (hF : AInv (F (takeA a) (chA a)).2.2) : AInv (deedA a d F).2.2 := by
  unfold deedA
  split
  · exact hF.congr rfl rfl rfl
  · exact takeA_inv h
theorem filedM_inv {a : AW} {d : De} {f : De → AW → Int × De × AW} (h : AInv a) (hF : AInv (f d (takeA a)).2.2) : AInv (filedM d f a).2.2 := by
  refine deedA_inv h ?_
  unfold faultA
  split
  · exact takeA_inv h
  · exact hF
theorem held_getF {a : AW} {n : Int} (hin : ∀ h ∈ a.hs, ∀ i, h.file = some i → i < a.files.length) (he : heldE a.hs n false = 0) : ∃ f, a.files[(getH a n).file.getD 0]? = some f ∧ getF a n = f := by
  obtain ⟨h1, x, hx, _, hf, _⟩ := heldE_ok he
  have hg : getH a n = x := by simp only [getH, hx, Option.getD_some]
  cases hxf : x.file with
  | none => rw [hxf] at hf; cases hf
  | some j =>
    have hj := hin x (List.mem_of_getElem? hx) j hxf
    refine ⟨a.files[j], ?_, ?_⟩
    · rw [hg, hxf]; simp [hj]
    · simp [getF, hg, hxf, hj]
section
variable {a : AW} (h : AInv a)
include h
theorem seekF_inv {n t : Int} {d : De} : AInv (seekF n t d a).2.2 := by unfold seekF; (repeat' split) <;> exact h.congr rfl rfl rfl
theorem readF_inv {n t : Int} {d : De} : AInv (readF n t d a).2.2 := by unfold readF; (repeat' split) <;> exact h.congr rfl rfl rfl
theorem closeF_inv {n : Int} {d : De} : AInv (closeF n d a).2.2 := by unfold closeF; (repeat' split) <;> exact h.congr rfl rfl rfl
theorem clockF_inv {d : De} {c : Ch} : AInv (clockF d a c).2.2 := h.congr rfl rfl rfl
theorem connectF_inv {s : ByteArray} {d : De} {c : Ch} : AInv (connectF s d a c).2.2 := by unfold connectF; (repeat' split) <;> exact h.congr rfl rfl rfl
theorem sendF_inv {n : Int} {d : De} {c : Ch} : AInv (sendF n d a c).2.2 := h
theorem receiveF_inv {n m : Int} {d : De} {c : Ch} : AInv (receiveF n m d a c).2.2 := by unfold receiveF; (repeat' split) <;> exact h
theorem showF_inv {d : De} {c : Ch} : AInv (showF d a c).2.2 := h
theorem deleteF_inv {s : ByteArray} {d : De} : AInv (deleteF s d a).2.2 := by unfold deleteF; (repeat' split) <;> first | exact h | exact h.delete _ rfl rfl rfl
theorem renameF_inv {s t : ByteArray} {d : De} : AInv (renameF s t d a).2.2 := by
  unfold renameF
  split
  · exact h
  · split
    · exact h
    · rename_i j hj; exact h.rename hj _ rfl rfl rfl
theorem syncF_inv {n : Int} {d : De} (hin : ∀ h ∈ a.hs, ∀ i, h.file = some i → i < a.files.length) : AInv (syncF n d a).2.2 := by
  unfold syncF
  split
  · exact h
  · rename_i he
    obtain ⟨f, h1, h2⟩ := held_getF hin (Classical.not_not.1 he)
    rw [h2]; exact h.sync h1 _ rfl rfl rfl
theorem writeF_inv {n : Int} {s : ByteArray} {d : De} (hin : ∀ h ∈ a.hs, ∀ i, h.file = some i → i < a.files.length) (hs : 0 ≤ a.seq) : AInv (writeF n s d a).2.2 := by
  unfold writeF
  split
  · exact h
  · rename_i he
    obtain ⟨f, h1, h2⟩ := held_getF hin (Classical.not_not.1 he)
    split
    · exact h
    · split
      · exact h
      · rw [h2]; exact h.write h1 (x := ⟨a.seq + 1, writeAt a n, s, false⟩) rfl hs _ rfl rfl rfl
theorem openB_inv {j : Nat} {m : Int} {d : De} (hj : j < a.files.length) (hs : 0 ≤ a.seq) : AInv (openB j m d a).2.2 := by
  unfold openB
  dsimp only
  split
  · have h1 : a.files[j]? = some a.files[j] := by simp [hj]
    rw [h1]
    exact h.write h1 (x := ⟨a.seq + 1, 0, nilTx, true⟩) rfl hs _ rfl rfl rfl
  · exact h.congr rfl rfl rfl
theorem openF_inv {s : ByteArray} {m : Int} {d : De} (hs : 0 ≤ a.seq) : AInv (openF s m d a).2.2 := by
  unfold openF
  split
  · exact h
  · split
    · exact h
    · split
      · rename_i hg
        split
        · exact h
        · split
          · exact h
          · exact openB_inv (h.file hg (newF s a) rfl rfl rfl) (by simp [newF]) hs
      · rename_i j hg
        split
        · exact h
        · exact openB_inv h (h.nin _ (mget_mem hg)) hs
end
theorem one_key {κ β : Type} {l : List (κ × β)} (hk : (l.map (·.1)).Nodup) {p q : κ × β} (hp : p ∈ l) (hq : q ∈ l) (e : p.1 = q.1) : p = q := by
  induction l with
  | nil => cases hp
  | cons x r ih =>
    simp only [List.map_cons, List.nodup_cons] at hk
    rcases List.mem_cons.1 hp with rfl | hp'
    · rcases List.mem_cons.1 hq with rfl | hq'
      · rfl
      · exact absurd (List.mem_map.2 ⟨q, hq', e.symm⟩) hk.1
    · rcases List.mem_cons.1 hq with rfl | hq'
      · exact absurd (List.mem_map.2 ⟨p, hp', e⟩) hk.1
      · exact ih hk.2 hp' hq'
theorem LeftR.keys {a a' : AW} {which : Int} {cs : List Ch} (h : LeftR a which cs a') : (a'.names.map (·.1)).Perm (a.names.map (·.1)) := by
  obtain ⟨ord, ys, h1, _, rfl⟩ := h
  rw [leftC_names]
  exact h1.map _
theorem LeftR.now {a a' : AW} {which : Int} {cs : List Ch} (h : LeftR a which cs a') (hk : (a.names.map (·.1)).Nodup) :
    ∃ ys, SortedOf ltI (seqsOf a a.names) ys ∧ ∀ n j, mget n a.names = some j → nowOf a' n = recF (keptT which ys ys.length) (fileAt a j) := by
  obtain ⟨ord, ys, h1, h2, rfl⟩ := h
  refine ⟨ys, h2, fun n j hj => ?_⟩
  have hm : (n, j) ∈ ord := h1.mem_iff.2 (mget_mem hj)
  have hko : (ord.map (·.1)).Nodup := ((h1.map _).nodup_iff).2 hk
  have hin : n ∈ (leftC a (keptT which ys ys.length) (cs.take 65536) ord).names.map (·.1) := by
    rw [leftC_names]; exact List.mem_map.2 ⟨_, hm, rfl⟩
  obtain ⟨k, hg⟩ := mget_some_of hin
  have hgm := mget_mem hg
  simp only [leftC, List.mem_map] at hgm
  obtain ⟨⟨q, i⟩, hq, hqe⟩ := hgm
  simp only [Prod.mk.injEq] at hqe
  obtain ⟨rfl, rfl⟩ := hqe
  rw [List.mem_zipIdx_iff_getElem?] at hq
  simp only at hq
  have hqm := List.mem_of_getElem? hq
  have hqe : q = (q.1, j) := one_key hko hqm hm rfl
  rw [hqe] at hq
  unfold nowOf
  rw [hg]
  simp [leftC, hq]
theorem LeftR.rest {a a' : AW} {which : Int} {cs : List Ch} (h : LeftR a which cs a') : a'.choices = cs.take 65536 ∧ a'.hs = [] ∧ a'.trace = [] ∧ a'.seq = 0 ∧ a'.dead = false ∧ a'.clock = a.clock := by
  obtain ⟨ord, ys, h1, h2, rfl⟩ := h
  exact ⟨rfl, rfl, rfl, rfl, rfl, rfl⟩
theorem LeftR.synced {a a' : AW} {which : Int} {cs : List Ch} (h : LeftR a which cs a') : ∀ f ∈ a'.files, f.writes = [] ∧ f.base = f.now := by
  obtain ⟨ord, ys, h1, h2, rfl⟩ := h
  intro f hf
  simp only [leftC, List.mem_map] at hf
  obtain ⟨p, _, rfl⟩ := hf
  exact ⟨rfl, rfl⟩
theorem LeftR.inv {a a' : AW} {which : Int} {cs : List Ch} (h : LeftR a which cs a') (hk : (a.names.map (·.1)).Nodup) : AInv a' := by
  have hs := h.synced
  have hko := (h.keys.nodup_iff).2 hk
  obtain ⟨ord, ys, h1, h2, rfl⟩ := h
  refine ⟨⟨?_, ?_, ?_⟩, ?_, hko, ?_⟩
  · have : ((leftC a (keptT which ys ys.length) (cs.take 65536) ord).files.flatMap fun f => f.writes.map (·.seq)) = [] := by
      rw [List.flatMap_eq_nil_iff]; intro f hf; rw [(hs f hf).1]; rfl
    rw [this]; exact .nil
  · intro f hf x hx; rw [(hs f hf).1] at hx; cases hx
  · simp only [leftC, List.map_map]
    have : ∀ (C : List (ByteArray × Nat)) (k : Nat), (C.zipIdx k).map ((fun x : ByteArray × Nat => x.2) ∘ fun p : (ByteArray × Nat) × Nat => (p.1.1, p.2)) = List.range' k C.length := by
      intro C
      induction C with
      | nil => intro k; rfl
      | cons x C ih => intro k; simp only [List.zipIdx_cons, List.map_cons, Function.comp, List.length_cons, List.range'_succ, ih (k + 1)]
    rw [this]; exact List.nodup_range'
  · intro p hp
    simp only [leftC, List.mem_map] at hp
    obtain ⟨⟨q, i⟩, hq, rfl⟩ := hp
    rw [List.mem_zipIdx_iff_getElem?] at hq
    have := (List.getElem?_eq_some_iff.1 hq).1
    simpa [leftC] using this
  · intro f hf; rw [(hs f hf).1, (hs f hf).2]; rfl
def Calm (a : AW) : Prop := a.choices = [] ∧ a.dead = false
theorem Calm.live {a : AW} (h : Calm a) : liveA a = true := by simp [liveA, chA, h.1, h.2, noCh]
theorem Calm.take {a : AW} (h : Calm a) : takeA a = a := by
  have h1 := h.live
  obtain ⟨c, n, f, hs, tr, cl, sq, d⟩ := a
  obtain ⟨hc, hd⟩ := h
  simp only at hc hd
  subst hc hd
  simp [takeA, h1]
theorem Calm.ch {a : AW} (h : Calm a) : chA a = noCh := by simp [chA, h.1, h.2]
section
variable {a : AW} {j : Nat} {at_ : Int} {f : AF} {d : De} {s : ByteArray}
end
structure ActW where
  kind : Int
  name : ByteArray
  text : ByteArray
  h : Int
  n : Int
def actEnc (x : ActW) : List Value := [vi x.kind, .string x.name, .string x.text, vi x.h, vi x.n]
def callM (x : ActW) (a : AW) : Int × AW :=
  if x.kind = 1 then (openM x.name x.h a).2
  else if x.kind = 2 then (readM x.h x.n a).2
  else if x.kind = 3 then (writeM x.h x.text a).2
  else if x.kind = 4 then (seekM x.h x.n a).2
  else if x.kind = 5 then (syncM x.h a).2
  else if x.kind = 6 then (closeM x.h a).2
  else if x.kind = 7 then (renameM x.name x.text a).2
  else if x.kind = 8 then (deleteM x.name a).2
  else if x.kind = 9 then (clockM a).2
  else if x.kind = 10 then (connectM x.name a).2
  else if x.kind = 11 then (sendM x.h x.text a).2
  else if x.kind = 12 then (receiveM x.h x.n a).2
  else if x.kind = 13 then (showM x.text a).2
  else if x.kind = 14 then (quitM x.n a).2
  else (0, a)
theorem callM_inv {x : ActW} {a : AW} (h : AInv a) (hin : ∀ h ∈ a.hs, ∀ i, h.file = some i → i < a.files.length) (hs : 0 ≤ a.seq) : AInv (callM x a).2 := by
  have ht := takeA_inv h
  unfold callM
  by_cases h1 : x.kind = 1
  · rw [if_pos h1]; exact filedM_inv h (openF_inv ht hs)
  rw [if_neg h1]
  by_cases h2 : x.kind = 2
  · rw [if_pos h2]; exact filedM_inv h (readF_inv ht)
  rw [if_neg h2]
  by_cases h3 : x.kind = 3
  · rw [if_pos h3]; exact filedM_inv h (writeF_inv ht hin hs)
  rw [if_neg h3]
  by_cases h4 : x.kind = 4
  · rw [if_pos h4]; exact filedM_inv h (seekF_inv ht)
  rw [if_neg h4]
  by_cases h5 : x.kind = 5
  · rw [if_pos h5]; exact filedM_inv h (syncF_inv ht hin)
  rw [if_neg h5]
  by_cases h6 : x.kind = 6
  · rw [if_pos h6]; exact filedM_inv h (closeF_inv ht)
  rw [if_neg h6]
  by_cases h7 : x.kind = 7
  · rw [if_pos h7]; exact filedM_inv h (renameF_inv ht)
  rw [if_neg h7]
  by_cases h8 : x.kind = 8
  · rw [if_pos h8]; exact filedM_inv h (deleteF_inv ht)
  rw [if_neg h8]
  by_cases h9 : x.kind = 9
  · rw [if_pos h9]; exact deedA_inv h (clockF_inv ht)
  rw [if_neg h9]
  by_cases h10 : x.kind = 10
  · rw [if_pos h10]; exact deedA_inv h (connectF_inv ht)
  rw [if_neg h10]
  by_cases h11 : x.kind = 11
  · rw [if_pos h11]; exact deedA_inv h (sendF_inv (n := x.h) (d := deSend x.h x.text) (c := chA a) ht)
  rw [if_neg h11]
  by_cases h12 : x.kind = 12
  · rw [if_pos h12]; exact deedA_inv h (receiveF_inv ht)
  rw [if_neg h12]
  by_cases h13 : x.kind = 13
  · rw [if_pos h13]; exact deedA_inv h (showF_inv (d := deShow x.text) (c := chA a) ht)
  rw [if_neg h13]
  by_cases h14 : x.kind = 14
  · rw [if_pos h14]; exact deedA_inv h (showF_inv (d := deQuit x.n) (c := chA a) ht)
  rw [if_neg h14]
  exact h
def wc (cs : List Ch) (b : AW) : AW := { b with choices := cs }
end Go.V

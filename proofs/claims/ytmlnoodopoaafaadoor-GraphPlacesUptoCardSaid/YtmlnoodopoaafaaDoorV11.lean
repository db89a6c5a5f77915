/-
  Rows of equal pieces; items that are opened and shut.
-/
import Derived.Test.YtmlnoodopoaafaaDoorV9
set_option linter.unusedSimpArgs false
set_option linter.unusedVariables false
namespace Go.V
open Go
theorem flatMap_len {α β : Type} {f : α → List β} {n : Nat} : ∀ {l : List α}, (∀ x ∈ l, (f x).length = n) → (l.flatMap f).length = l.length * n := by
  intro l
  induction l with
  | nil => intro _; simp
  | cons a l ih =>
    intro h
    simp only [List.flatMap_cons, List.length_append, List.length_cons, h a (by simp), ih (fun x hx => h x (by simp [hx]))]
    rw [Nat.add_mul]; omega
theorem flatMap_get {α β : Type} {f : α → List β} {n : Nat} : ∀ {l : List α}, (∀ x ∈ l, (f x).length = n) → ∀ {i j : Nat} {x : α}, l[i]? = some x → j < n → (l.flatMap f)[i * n + j]? = (f x)[j]? := by
  intro l
  induction l with
  | nil => intro _ i j x hx; simp at hx
  | cons a l ih =>
    intro h i j x hx hj
    have ha := h a (by simp)
    cases i with
    | zero =>
      simp at hx; subst hx
      simp only [List.flatMap_cons, Nat.zero_mul, Nat.zero_add]
      rw [List.getElem?_append_left (by omega)]
    | succ i =>
      simp at hx
      simp only [List.flatMap_cons]
      rw [List.getElem?_append_right (by rw [ha, Nat.add_mul]; omega)]
      have : (i + 1) * n + j - (f a).length = i * n + j := by rw [ha, Nat.add_mul]; omega
      rw [this]
      exact ih (fun y hy => h y (by simp [hy])) hx hj
theorem flatMap_slice {α β : Type} {f : α → List β} {n : Nat} {l : List α} (h : ∀ x ∈ l, (f x).length = n) {i : Nat} {x : α} (hi : l[i]? = some x) : ((l.flatMap f).drop (i * n)).take n = f x := by
  have hx := h x (List.mem_of_getElem? hi)
  apply List.ext_getElem?
  intro j
  by_cases hj : j < n
  · rw [List.getElem?_take_of_lt hj, List.getElem?_drop]
    exact flatMap_get h hi hj
  · rw [List.getElem?_eq_none (by simp; omega), List.getElem?_eq_none (by omega)]
theorem flatMap_put {α β : Type} {f : α → List β} {n : Nat} : ∀ {l : List α}, (∀ x ∈ l, (f x).length = n) → ∀ {i : Nat} {y : α}, i < l.length → (l.flatMap f).take (i * n) ++ f y ++ (l.flatMap f).drop (i * n + n) = (l.set i y).flatMap f := by
  intro l
  induction l with
  | nil => intro _ i y hi; simp at hi
  | cons a l ih =>
    intro h i y hi
    have ha := h a (by simp)
    cases i with
    | zero =>
      simp only [Nat.zero_mul, List.take_zero, List.nil_append, Nat.zero_add, List.set_cons_zero, List.flatMap_cons]
      rw [List.drop_append_of_le_length (by omega), List.drop_eq_nil_of_le (by omega)]; simp
    | succ i =>
      simp at hi
      simp only [List.set_cons_succ, List.flatMap_cons]
      rw [← ih (fun x hx => h x (by simp [hx])) hi]
      have e1 : (i + 1) * n = (f a).length + i * n := by rw [ha, Nat.add_mul]; omega
      have e2 : (i + 1) * n + n = (f a).length + (i * n + n) := by omega
      rw [e2, e1, List.take_length_add_append, List.drop_length_add_append]
      simp [List.append_assoc]
theorem perm_erase {α : Type} : ∀ {l : List α} {i : Nat} {x : α}, l[i]? = some x → l.Perm (x :: l.eraseIdx i) := by
  intro l
  induction l with
  | nil => intro i x h; simp at h
  | cons a l ih =>
    intro i x h
    cases i with
    | zero => simp at h; subst h; simp
    | succ i =>
      simp at h
      exact ((ih h).cons a).trans (List.Perm.swap x a _)
theorem perm_flatMap {α β : Type} (f : α → List β) {l : List α} {i : Nat} {x : α} (h : l[i]? = some x) : (l.flatMap f).Perm (f x ++ (l.eraseIdx i).flatMap f) := by
  have hp := perm_erase h
  have := hp.flatMap_right f
  simpa using this
theorem perm_flatMap_set {α β : Type} (f : α → List β) {l : List α} {i : Nat} {y : α} (h : i < l.length) : (f y ++ (l.eraseIdx i).flatMap f).Perm ((l.set i y).flatMap f) := by
  have h1 : (l.set i y)[i]? = some y := by simp [h]
  have := perm_flatMap f h1
  rw [List.eraseIdx_set_eq] at this
  exact this.symm
theorem Imp.left {A B : SH} : Imp (A ++ B) A := ⟨B, by simp [Spl]⟩
theorem Imp.perm {A B : SH} (h : A.flatten.Perm B.flatten) : Imp A B := ⟨[], by simpa [Spl] using h⟩
theorem VO.imp {P : Program} {n : Nat} {rs : List RO} {Γ : Env} {H H' : SH} {Z : List PanicEntry → Env → SH → Prop} {K : Env → SH → Prop} (i : Imp H H') (h : VO P n rs Γ H' Z K) : VO P n rs Γ H Z K :=
  fun l hl a w F ZZ Q ha hs hq hz => h l hl a w F ZZ Q ha (hs.imp i) hq hz
theorem VO.pull {P : Program} {n : Nat} {rs : List RO} {Γ : Env} {H R : SH} {Z : List PanicEntry → Env → SH → Prop} {K : Env → SH → Prop} {A : List Atom} (ht : Tk H A R) (h : VO P n rs Γ (A :: R) Z K) : VO P n rs Γ H Z K :=
  VO.imp (Imp.perm (by simpa using ht.perm)) h
theorem VC.pull {P : Program} {n : Nat} {c : IC} {Γ : Env} {H R : SH} {Q : Exit → Env → SH → Prop} {A : List Atom} (ht : Tk H A R) (h : VC P n c Γ (A :: R) Q) : VC P n c Γ H Q :=
  VC.imp (Imp.perm (by simpa using ht.perm)) h
theorem endQ_mk {res : List RV} {Q : Value → SH → Prop} {e : Exit} {Γ : Env} {H Post : SH} {vs : List Value} (he : e = .normal ∨ e = .ret) (hr : Res Γ H res vs) (hq : Q (tup vs) Post) (hi : Imp H Post) : endQ res Q e Γ H := ⟨he, vs, Post, hr, hi, hq⟩
inductive HasM : SH → Nat → Nat → Nat → List Value → Prop where
  | cells {b o k n : Nat} {vs us : List Value} {L : SH} : o ≤ k → k - o + n ≤ vs.length → (vs.drop (k - o)).take n = us → us.length = n → HasM (cellsAt b o vs :: L) b k n us
  | there {A : List Atom} {L : SH} {b k n : Nat} {us : List Value} : HasM L b k n us → HasM (A :: L) b k n us
theorem HasM.row {H : SH} {b k n : Nat} {us : List Value} (h : HasM H b k n us) : HasN H b k us ∧ us.length = n := by
  induction h with
  | cells h1 _ h2 h3 => exact ⟨.cells h1 (by rw [h3, h2]) h3, h3⟩
  | there _ ih => exact ⟨.there ih.1, ih.2⟩
theorem st_loadM {P : Program} {n : Nat} {rs : List RO} {Γ : Env} {H : SH} {Z : List PanicEntry → Env → SH → Prop} {K : Env → SH → Prop} {d : Option Nat} {m : Nat} {x : Operand} {b o : Nat} {us : List Value} (hx : ev Γ x = some (.pointer (some ⟨b, o, none⟩))) (hm : HasM H b o m us) (h : VO P n rs (putE d (.agg us.toArray) Γ) H Z K) : VO P n (⟨d, none, .loadN m x⟩ :: rs) Γ H Z K :=
  st_loadN hx hm.row.1 hm.row.2 h
inductive Bnd (Γ : Env) (d : Nat) : Option Operand → Nat → Prop where
  | dft : Bnd Γ d none d
  | num {x : Operand} {k : IntKind} {m : Nat} : ev Γ x = some (.int k m) → Bnd Γ d (some x) m
theorem Bnd.val {Γ : Env} {d y m : Nat} {o : Option Operand} {ρ : Operand → Value} (h : Bnd Γ d o m) (hm : m ≤ y) (hρ : ∀ x u, ev Γ x = some u → ρ x = u) : boundO y (some d) (o.map ρ) = some m := by
  cases h with
  | dft => rfl
  | num hx => simp [boundO, hρ _ _ hx, bound, hm]
section
variable {P : Program} {n : Nat} {rs : List RO} {Γ : Env} {H : SH} {Z : List PanicEntry → Env → SH → Prop} {K : Env → SH → Prop} {d : Option Nat}
theorem st_slcA {len size l h b o o' : Nat} {x : Operand} {lo hi : Option Operand} (hx : ev Γ x = some (.pointer (some ⟨b, o, none⟩))) (hlo : Bnd Γ 0 lo l) (hhi : Bnd Γ len hi h) (hr : l ≤ h ∧ h ≤ len) (ho : (if len = l then o else o + l * size) = o')
    (hh : VO P n rs (putE d (.slice (some ⟨b, o', none⟩) (h - l) (len - l)) Γ) H Z K) : VO P n (⟨d, none, .slcA len size x lo hi⟩ :: rs) Γ H Z K :=
  VO.pure rfl (fun ρ hρ => by
    have h1 := hlo.val (y := h) hr.1 hρ
    have h2 := hhi.val (y := len) hr.2 hρ
    have h3 : boundO len (some len) none = some len := rfl
    simp [pureV, hρ _ _ hx, bounds, h1, h2, h3, ho]) hh
theorem st_slcL {size len cap l h b o o' : Nat} {x : Operand} {lo hi : Option Operand} (hx : ev Γ x = some (.slice (some ⟨b, o, none⟩) len cap)) (hlo : Bnd Γ 0 lo l) (hhi : Bnd Γ len hi h) (hr : l ≤ h ∧ h ≤ cap) (ho : (if cap = l then o else o + l * size) = o')
    (hh : VO P n rs (putE d (.slice (some ⟨b, o', none⟩) (h - l) (cap - l)) Γ) H Z K) : VO P n (⟨d, none, .slcL size x lo hi none⟩ :: rs) Γ H Z K :=
  VO.pure rfl (fun ρ hρ => by
    have h1 := hlo.val (y := h) hr.1 hρ
    have h2 := hhi.val (y := cap) hr.2 hρ
    have h3 : boundO cap (some cap) none = some cap := rfl
    simp [pureV, hρ _ _ hx, bounds, h1, h2, h3, ho]) hh
theorem st_slcN {size len cap l h : Nat} {x : Operand} {lo hi : Option Operand} (hx : ev Γ x = some (.slice none len cap)) (hlo : Bnd Γ 0 lo l) (hhi : Bnd Γ len hi h) (hr : l ≤ h ∧ h ≤ cap)
    (hh : VO P n rs (putE d (.slice none (h - l) (cap - l)) Γ) H Z K) : VO P n (⟨d, none, .slcL size x lo hi none⟩ :: rs) Γ H Z K :=
  VO.pure rfl (fun ρ hρ => by
    have h1 := hlo.val (y := h) hr.1 hρ
    have h2 := hhi.val (y := cap) hr.2 hρ
    have h3 : boundO cap (some cap) none = some cap := rfl
    simp [pureV, hρ _ _ hx, bounds, h1, h2, h3]) hh
theorem st_slcS {l h : Nat} {x : Operand} {lo hi : Option Operand} {s : ByteArray} (hx : ev Γ x = some (.string s)) (hlo : Bnd Γ 0 lo l) (hhi : Bnd Γ s.size hi h) (hr : l ≤ h ∧ h ≤ s.size)
    (hh : VO P n rs (putE d (.string (s.extract l h)) Γ) H Z K) : VO P n (⟨d, none, .slcS x lo hi⟩ :: rs) Γ H Z K :=
  VO.pure rfl (fun ρ hρ => by
    have h1 := hlo.val (y := h) hr.1 hρ
    have h2 := hhi.val (y := s.size) hr.2 hρ
    have h3 : boundO s.size (some s.size) none = some s.size := rfl
    simp [pureV, hρ _ _ hx, bounds, h1, h2, h3]) hh
end
theorem st_ext {P : Program} {n : Nat} {rs : List RO} {Γ : Env} {H : SH} {Z : List PanicEntry → Env → SH → Prop} {K : Env → SH → Prop} {d : Option Nat} {i : Nat} {x : Operand} {vs : Array Value} {v : Value} (hx : ev Γ x = some (.tuple vs)) (hv : vs[i]? = some v) (h : VO P n rs (putE d v Γ) H Z K) : VO P n (⟨d, none, .ext x i⟩ :: rs) Γ H Z K :=
  VO.pure rfl (fun ρ hρ => by simp [pureV, hρ _ _ hx, hv]) h
theorem HasN.flat {α : Type} {f : α → List Value} {n m b o i : Nat} {l : List α} {x : α} {L : SH} (h : ∀ x ∈ l, (f x).length = n) (hi : l[i]? = some x) (hm : m ≤ n) : HasN (cellsAt b o (l.flatMap f) :: L) b (o + i * n) ((f x).take m) := by
  refine .cells (n := m) (by omega) ?_ ?_
  · have hl := h x (List.mem_of_getElem? hi)
    rw [Nat.add_sub_cancel_left, List.length_take, hl, Nat.min_eq_left hm]
    rw [← flatMap_slice h hi, List.take_take, Nat.min_eq_left hm]
  · have hl := h x (List.mem_of_getElem? hi)
    rw [List.length_take, hl, Nat.min_eq_left hm]
theorem Has.flat {α : Type} {f : α → List Value} {n b o i j : Nat} {l : List α} {x : α} {v : Value} {L : SH} (h : ∀ x ∈ l, (f x).length = n) (hi : l[i]? = some x) (hj : j < n) (hv : (f x)[j]? = some v) : Has (cellsAt b o (l.flatMap f) :: L) b (o + i * n + j) v := by
  refine .cells (by omega) ?_
  rw [Nat.add_assoc, Nat.add_sub_cancel_left, flatMap_get h hi hj, hv]
theorem Upd.flat {α : Type} {f : α → List Value} {n b o i : Nat} {l : List α} {y : α} {L : SH} (h : ∀ x ∈ l, (f x).length = n) (hy : (f y).length = n) (hi : i < l.length) : Upd (cellsAt b o (l.flatMap f) :: L) b (o + i * n) (f y) (cellsAt b o ((l.set i y).flatMap f) :: L) := by
  refine .cells (by omega) ?_ ?_
  · have : i * n + n ≤ l.length * n := by rw [← Nat.succ_mul]; exact Nat.mul_le_mul_right n hi
    rw [Nat.add_sub_cancel_left, hy, flatMap_len h]; exact this
  · rw [Nat.add_sub_cancel_left, hy, flatMap_put h hi]
section
variable {P : Program} {n : Nat} {rs : List RO} {Γ : Env} {H R : SH} {Z : List PanicEntry → Env → SH → Prop} {K : Env → SH → Prop} {A B C : List Atom} {c : IC} {Q : Exit → Env → SH → Prop}
theorem VO.split (ht : Tk H A R) (hp : A.Perm (B ++ C)) (h : VO P n rs Γ (B :: C :: R) Z K) : VO P n rs Γ H Z K := by
  refine VO.perm ?_ h
  simp only [List.flatten_cons]
  rw [← List.append_assoc]
  exact ht.perm.trans (List.Perm.append_right _ hp)
theorem VC.split (ht : Tk H A R) (hp : A.Perm (B ++ C)) (h : VC P n c Γ (B :: C :: R) Q) : VC P n c Γ H Q := by
  refine VC.imp ⟨[], ?_⟩ h
  simp only [Spl, List.flatten_cons, List.flatten_nil, List.append_nil]
  rw [← List.append_assoc]
  exact ht.perm.trans (List.Perm.append_right _ hp)
theorem Imp.glue {R' Δ : SH} (h1 : Tk H B R) (h2 : Tk R C R') (hp : (B ++ C).Perm A) (k : Imp R' Δ) : Imp H (A :: Δ) := by
  obtain ⟨X, hX⟩ := k
  refine ⟨X, ?_⟩
  simp only [Spl, List.flatten_cons, List.append_assoc]
  refine h1.perm.trans ?_
  refine (List.Perm.append_left _ h2.perm).trans ?_
  rw [← List.append_assoc]
  exact List.Perm.append hp hX
theorem Spl.glue {R' R'' Pre : SH} (h1 : Tk H B R) (h2 : Tk R C R') (hp : (B ++ C).Perm A) (k : Spl R' Pre R'') : Spl H (A :: Pre) R'' := by
  simp only [Spl, List.flatten_cons, List.append_assoc]
  refine h1.perm.trans ?_
  refine (List.Perm.append_left _ h2.perm).trans ?_
  rw [← List.append_assoc]
  exact List.Perm.append hp k
theorem Imp.app {L M : SH} (h : Imp H (L ++ M)) : Imp H (L ++ M) := h
theorem HasO.of_mem {b : Nat} {o : Obj} (h : Atom.obj b o ∈ A) : ∀ {L : SH}, Atom.obj b o ∈ (A :: L).flatten := by
  intro L; simp only [List.flatten_cons, List.mem_append]; exact .inl h
end
theorem look_cons_self {Γ : Env} {t : Nat} {v : Value} : look ((t, v) :: Γ) t = some v := by simp [look]
section
variable {κ β : Type} [DecidableEq κ]
theorem mget_mem {k : κ} {v : β} : ∀ {m : List (κ × β)}, mget k m = some v → (k, v) ∈ m := by
  intro m
  induction m with
  | nil => intro h; simp [mget] at h
  | cons p m ih =>
    obtain ⟨a, u⟩ := p
    intro h
    simp only [mget] at h
    split at h
    · rename_i e; cases h; subst e; simp
    · simp [ih h]
theorem mget_none {k : κ} : ∀ {m : List (κ × β)}, mget k m = none ↔ k ∉ m.map (·.1) := by
  intro m
  induction m with
  | nil => simp [mget]
  | cons p m ih =>
    obtain ⟨a, u⟩ := p
    simp only [mget, List.map_cons, List.mem_cons]
    split
    · rename_i e; simp [e]
    · rename_i e; rw [ih]; simp only [not_or]; exact ⟨fun h => ⟨fun x => e x.symm, h⟩, fun h => h.2⟩
theorem mem_mget {k : κ} {v : β} : ∀ {m : List (κ × β)}, (m.map (·.1)).Nodup → (k, v) ∈ m → mget k m = some v := by
  intro m
  induction m with
  | nil => intro _ h; cases h
  | cons p m ih =>
    obtain ⟨a, u⟩ := p
    intro hn h
    simp only [List.map_cons, List.nodup_cons] at hn
    simp only [mget]
    rcases List.mem_cons.1 h with h | h
    · cases h; simp
    · have : a ≠ k := fun e => hn.1 (by subst e; exact List.mem_map.2 ⟨_, h, rfl⟩)
      rw [if_neg this]; exact ih hn.2 h
theorem mget_mset {k j : κ} {v : β} : ∀ {m : List (κ × β)}, mget j (mset k v m) = if k = j then some v else mget j m := by
  intro m
  induction m with
  | nil => simp [mset, mget]
  | cons p m ih =>
    obtain ⟨a, u⟩ := p
    simp only [mset]
    split
    · rename_i e; subst e
      simp only [mget]
      split <;> rfl
    · rename_i e
      simp only [mget, ih]
      by_cases h1 : a = j
      · subst h1; simp [show ¬ k = a from fun x => e x.symm]
      · simp [h1]
theorem mset_keys {k : κ} {v : β} : ∀ {m : List (κ × β)}, (mset k v m).map (·.1) = if k ∈ m.map (·.1) then m.map (·.1) else m.map (·.1) ++ [k] := by
  intro m
  induction m with
  | nil => simp [mset]
  | cons p m ih =>
    obtain ⟨a, u⟩ := p
    simp only [mset]
    split
    · rename_i e; simp [e]
    · rename_i e
      have e' : ¬ k = a := fun x => e x.symm
      simp only [List.map_cons, ih, List.mem_cons, e', false_or]
      split <;> simp
theorem mset_nodup {k : κ} {v : β} {m : List (κ × β)} (h : (m.map (·.1)).Nodup) : ((mset k v m).map (·.1)).Nodup := by
  rw [mset_keys]
  split
  · exact h
  · rename_i hk
    rw [List.nodup_append]
    refine ⟨h, by simp, ?_⟩
    intro a ha b hb
    simp at hb
    rintro rfl
    exact hk (hb ▸ ha)
theorem mdel_sub {k : κ} : ∀ {m : List (κ × β)}, (mdel k m).Sublist m := by
  intro m
  induction m with
  | nil => exact .slnil
  | cons p m ih =>
    obtain ⟨a, u⟩ := p
    simp only [mdel]
    split
    · exact List.sublist_cons_self _ _
    · exact ih.cons_cons _
theorem mdel_nodup {k : κ} {m : List (κ × β)} (h : (m.map (·.1)).Nodup) : ((mdel k m).map (·.1)).Nodup := (mdel_sub.map _).nodup h
theorem mdel_filter {k : κ} : ∀ {m : List (κ × β)}, (m.map (·.1)).Nodup → mdel k m = m.filter fun p => decide (p.1 ≠ k) := by
  intro m
  induction m with
  | nil => intro _; rfl
  | cons p m ih =>
    obtain ⟨a, u⟩ := p
    intro h
    simp only [List.map_cons, List.nodup_cons] at h
    simp only [mdel]
    split
    · rename_i e; subst e
      rw [List.filter_cons_of_neg (by simp)]
      refine (List.filter_eq_self.2 ?_).symm
      intro q hq
      simp only [ne_eq, decide_not, Bool.not_eq_eq_eq_not, Bool.not_true, decide_eq_false_iff_not]
      exact fun e => h.1 (by rw [← e]; exact List.mem_map.2 ⟨q, hq, rfl⟩)
    · rename_i e
      rw [List.filter_cons_of_pos (by simpa using e), ih h.2]
theorem mget_filter {k : κ} {f : κ × β → Bool} : ∀ {m : List (κ × β)}, (m.map (·.1)).Nodup → mget k (m.filter f) = (mget k m).filter (fun v => f (k, v)) := by
  intro m
  induction m with
  | nil => intro _; rfl
  | cons p m ih =>
    obtain ⟨a, u⟩ := p
    intro h
    simp only [List.map_cons, List.nodup_cons] at h
    rw [List.filter_cons]
    by_cases e : a = k
    · subst e
      simp only [mget, if_true, Option.filter_some]
      split
      · simp [mget]
      · rw [ih h.2]
        have : mget a m = none := mget_none.2 h.1
        rw [this]; rfl
    · split
      · simp only [mget, if_neg e]; exact ih h.2
      · simp only [mget, if_neg e]; exact ih h.2
theorem mget_mdel {k j : κ} {m : List (κ × β)} (h : (m.map (·.1)).Nodup) : mget j (mdel k m) = if k = j then none else mget j m := by
  rw [mdel_filter h, mget_filter h]
  by_cases e : k = j
  · subst e; simp
  · simp only [ne_eq, show ¬ j = k from fun x => e x.symm, not_false_eq_true, decide_true, e, if_false]
    cases mget j m <;> rfl
theorem mget_perm {k : κ} {x : β} : ∀ {m : List (κ × β)}, mget k m = some x → m.Perm ((k, x) :: mdel k m) := by
  intro m
  induction m with
  | nil => intro h; simp [mget] at h
  | cons p m ih =>
    obtain ⟨a, u⟩ := p
    intro h
    simp only [mget] at h
    simp only [mdel]
    split at h
    · rename_i e; cases h; subst e; simp
    · rename_i e
      rw [if_neg e]
      exact ((ih h).cons _).trans (List.Perm.swap _ _ _)
theorem mset_perm {k : κ} {x : β} : ∀ {m : List (κ × β)}, (mset k x m).Perm ((k, x) :: mdel k m) := by
  intro m
  induction m with
  | nil => exact .refl _
  | cons p m ih =>
    obtain ⟨a, u⟩ := p
    simp only [mset, mdel]
    split
    · rename_i e; subst e; simp
    · exact (ih.cons _).trans (List.Perm.swap _ _ _)
theorem mset_mset {k : κ} {x y : β} : ∀ {m : List (κ × β)}, mset k y (mset k x m) = mset k y m := by
  intro m
  induction m with
  | nil => simp [mset]
  | cons p m ih =>
    obtain ⟨a, u⟩ := p
    simp only [mset]
    split
    · rename_i e; simp [mset, e]
    · rename_i e; simp [mset, e, ih]
theorem mdel_mset {k : κ} {x : β} : ∀ {m : List (κ × β)}, mdel k (mset k x m) = mdel k m := by
  intro m
  induction m with
  | nil => simp [mset, mdel]
  | cons p m ih =>
    obtain ⟨a, u⟩ := p
    simp only [mset]
    split
    · rename_i e; simp [mdel, e]
    · rename_i e; simp [mdel, e, ih]
theorem mset_mem {k : κ} {v : β} {q : κ × β} : ∀ {m : List (κ × β)}, q ∈ mset k v m → q = (k, v) ∨ q ∈ m := by
  intro m hq
  have := mset_perm.mem_iff.1 hq
  rcases List.mem_cons.1 this with h | h
  · exact .inl h
  · exact .inr (mdel_sub.subset h)
theorem MapIs.same {E : KEnc κ} {V : β → Value} {es : Array MapEntry} {c : Nat} {m : List (κ × β)} {k : κ} {x y : β} (h : MapIs E V es c m) (hx : mget k m = some x) (hv : V y = V x) : MapIs E V es c (mset k y m) := by
  refine ⟨?_, h.born, h.clock⟩
  have h1 := h.of
  unfold MapOf at h1 ⊢
  rw [h1]
  clear h1 h
  induction m with
  | nil => simp [mget] at hx
  | cons p m ih =>
    obtain ⟨a, u⟩ := p
    simp only [mget] at hx
    simp only [mset]
    split at hx
    · rename_i e; cases hx; subst e; simp [hv]
    · rename_i e; simp only [if_neg e, List.map_cons, ih hx]
theorem perm_flat {α γ : Type} {f : α → List γ} {l l' : List α} (h : l.Perm l') : (l.flatMap f).Perm (l'.flatMap f) := h.flatMap_right f
end
theorem Upd.set1 {b o i k : Nat} {vs : List Value} {u : Value} {L : SH} (hk : o + i = k) (h : i < vs.length) : Upd (cellsAt b o vs :: L) b k [u] (cellsAt b o (vs.set i u) :: L) := by
  subst hk
  refine .cells (by omega) (by simp; omega) ?_
  rw [Nat.add_sub_cancel_left, List.set_eq_take_append_cons_drop, if_pos h]
  simp
section
variable {κ β : Type} [DecidableEq κ] {E : KEnc κ} {V : β → Value}
theorem MapIs.entry {es : Array MapEntry} {c : Nat} {m : List (κ × β)} (h : MapIs E V es c m) {e : MapEntry} (he : e ∈ es.toList) : ∃ p ∈ m, e.key = E.enc p.1 ∧ e.val = V p.2 := by
  have h1 : (e.key, e.val) ∈ es.toList.map (fun e => (e.key, e.val)) := List.mem_map.2 ⟨e, he, rfl⟩
  rw [show es.toList.map (fun e => (e.key, e.val)) = _ from h.of] at h1
  obtain ⟨p, hp, e1⟩ := List.mem_map.1 h1
  simp only [Prod.mk.injEq] at e1
  exact ⟨p, hp, e1.1.symm, e1.2.symm⟩
theorem MapIs.has {es : Array MapEntry} {c : Nat} {m : List (κ × β)} (h : MapIs E V es c m) {p : κ × β} (hp : p ∈ m) : ∃ e ∈ es.toList, e.key = E.enc p.1 ∧ e.val = V p.2 := by
  have h1 : (E.enc p.1, V p.2) ∈ m.map (fun p => (E.enc p.1, V p.2)) := List.mem_map.2 ⟨p, hp, rfl⟩
  rw [← show es.toList.map (fun e => (e.key, e.val)) = _ from h.of] at h1
  obtain ⟨e, he, e1⟩ := List.mem_map.1 h1
  simp only [Prod.mk.injEq] at e1
  exact ⟨e, he, e1.1, e1.2⟩
theorem KEnc.inj {a b : κ} (h : E.enc a = E.enc b) : a = b := by
  have h1 := E.same a b
  have h2 := E.same b b
  rw [h] at h1
  rw [h1] at h2
  simpa using h2
theorem born_one {l : List MapEntry} (h : l.Pairwise fun a b => a.born < b.born) {e e' : MapEntry} (he : e ∈ l) (he' : e' ∈ l) (hb : e.born = e'.born) : e = e' := by
  induction l with
  | nil => cases he
  | cons a r ih =>
    have hp := List.pairwise_cons.1 h
    rcases List.mem_cons.1 he with h1 | h1
    · rcases List.mem_cons.1 he' with h2 | h2
      · rw [h1, h2]
      · have := hp.1 e' h2; rw [h1] at hb; omega
    · rcases List.mem_cons.1 he' with h2 | h2
      · have := hp.1 e h1; rw [h2] at hb; omega
      · exact ih hp.2 h1 h2
theorem filter_less {α : Type} {l : List α} {p q : α → Bool} (h : ∀ x ∈ l, q x = true → p x = true) {e : α} (he : e ∈ l) (h1 : p e = true) (h2 : q e = false) : (l.filter q).length < (l.filter p).length := by
  have : l.filter q = (l.filter p).filter q := by
    rw [List.filter_filter]
    refine List.filter_congr (fun x hx => ?_)
    cases hq : q x
    · simp
    · simp [h x hx hq]
  rw [this, List.length_filter_lt_length_iff_exists]
  exact ⟨e, List.mem_filter.2 ⟨he, h1⟩, by simp [h2]⟩
theorem perm_filter {α γ : Type} (f : α → List γ) (l : List α) (p : α → Bool) : (l.flatMap f).Perm ((l.filter p).flatMap f ++ (l.filter fun x => !p x).flatMap f) := by
  rw [← List.flatMap_append]
  exact perm_flat (List.filter_append_perm p l).symm
end
theorem Spl.tail2 {A B : List Atom} {I : SH} : Spl (A :: B :: I) I [A, B] := by
  simp only [Spl, List.flatten_cons, List.flatten_nil, List.append_nil]
  rw [← List.append_assoc]
  exact List.perm_append_comm
theorem Imp.tail2 {A B : List Atom} {I : SH} : Imp (I ++ [A, B]) (A :: B :: I) := by
  refine Imp.perm ?_
  simp only [List.flatten_cons, List.flatten_nil, List.append_nil, List.flatten_append]
  refine List.perm_append_comm.trans ?_
  rw [List.append_assoc]
theorem Imp.tail1 {A : List Atom} {I : SH} : Imp (A :: I) I := by
  refine ⟨[A], ?_⟩
  simp only [Spl, List.flatten_cons, List.flatten_nil, List.append_nil]
  exact List.perm_append_comm
theorem VC.seq_cond_t {P : Program} {n : Nat} {Γ : Env} {H : SH} {Q : Exit → Env → SH → Prop} {c : Operand} {x y z : IC} (hc : ev Γ c = some (.bool true)) (h : VC P n x Γ H (thenQ (fun Γ' H' => VC P n z Γ' H' Q) Q)) : VC P n (.seq (.cond c x y) z) Γ H Q := VC.seq (VC.cond_t hc h)
theorem VC.seq_cond_f {P : Program} {n : Nat} {Γ : Env} {H : SH} {Q : Exit → Env → SH → Prop} {c : Operand} {x y z : IC} (hc : ev Γ c = some (.bool false)) (h : VC P n y Γ H (thenQ (fun Γ' H' => VC P n z Γ' H' Q) Q)) : VC P n (.seq (.cond c x y) z) Γ H Q := VC.seq (VC.cond_f hc h)
theorem Imp.part {H R : SH} {A B C : List Atom} (ht : Tk H A R) (hp : A.Perm (B ++ C)) : Imp H [B] := by
  refine ⟨C :: R, ?_⟩
  simp only [Spl, List.flatten_cons, List.flatten_nil, List.append_nil]
  refine ht.perm.trans ?_
  rw [← List.append_assoc]
  exact hp.append_right _
end Go.V

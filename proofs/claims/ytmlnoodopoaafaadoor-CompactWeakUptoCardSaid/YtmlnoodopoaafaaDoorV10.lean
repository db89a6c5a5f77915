/-
  A heap that is made.
-/
import Derived.Test.YtmlnoodopoaafaaDoorV9
import Derived.Test.YtmlnoodopoaafaaDoorV8
import Derived.Test.YtmlnoodopoaafaaDoorV7
set_option linter.unusedSimpArgs false
set_option linter.unusedVariables false
namespace Go.V
open Go
theorem rep_one (v : Value) : ∀ n, rep n [v] = List.replicate n v := by
  intro n
  induction n with
  | zero => rfl
  | succ n ih => simp only [rep, ih, List.replicate_succ]; rfl
theorem putParts1 {A B : List Value} {x v : Value} {n : Nat} (hn : A.length = n) (h : v.cells.toList = [v]) : putParts (A ++ x :: B) [(n, 1, v)] = some (A ++ v :: B) := by
  subst hn
  have hs : v.cells.size = 1 := by rw [← Array.length_toList, h]; rfl
  simp only [putParts, hs, true_and, List.length_append, List.length_cons]
  rw [if_pos (by omega)]
  simp [h]
def newAt (E S B P : Nat) : Nat → Int
  | 0 => 2
  | 1 => 2 + E
  | 2 => 2 + E + S
  | 3 => 2 + E + S + S
  | 4 => 2 + E + S + S + (B + E + 2 * S)
  | _ => 2 + E + S + S + (B + E + 2 * S) + P
def newI : Nat → Int
  | 0 => 0
  | 1 => 1
  | 2 => 2
  | 3 => 3
  | 4 => 4
  | _ => 5
def newRm (E S B P i : Nat) : List Value :=
  [vi 0, vi 0, vi 0] ++ (if 0 < i then [vi (newAt E S B P 0), vi (newAt E S B P 1), vi (newAt E S B P 0)] else [vi 0, vi 0, vi 0]) ++ (if 1 < i then [vi (newAt E S B P 1), vi (newAt E S B P 2), vi (newAt E S B P 1)] else [vi 0, vi 0, vi 0]) ++
  (if 2 < i then [vi (newAt E S B P 2), vi (newAt E S B P 3), vi (newAt E S B P 2)] else [vi 0, vi 0, vi 0]) ++ (if 3 < i then [vi (newAt E S B P 3), vi (newAt E S B P 4), vi (newAt E S B P 3)] else [vi 0, vi 0, vi 0]) ++
  (if 4 < i then [vi (newAt E S B P 4), vi (newAt E S B P 5), vi (newAt E S B P 4)] else [vi 0, vi 0, vi 0])
def newN (E S B P : Nat) : Nat := 2 + E + S + S + (B + E + 2 * S) + P
def newH (E S B P : Nat) : AH where
  rm := [(0, 0, 0), (2, 2 + E, 2), (2 + E, 2 + E + S, 2 + E), (2 + E + S, 2 + E + S + S, 2 + E + S), (2 + E + S + S, 2 + E + S + S + (B + E + 2 * S), 2 + E + S + S), (2 + E + S + S + (B + E + 2 * S), newN E S B P, 2 + E + S + S + (B + E + 2 * S))]
  obs := []
  sp := List.replicate 64 0
  cl := List.replicate 4096 0
  stack := []
  queue := []
  noted := []
  ahead := []
  given := 0
def newW (E S B P wb sb mb : Nat) : HW where
  a := newH E S B P
  ws := List.replicate (newN E S B P) 0
  st := List.replicate (newN E S B P / 64 + 1) 0
  wb := wb
  sb := sb
  kv := .slice none 0 0
  qv := .slice none 0 0
  nv := .slice none 0 0
  ks := []
  qs := []
  ns := []
  mb := mb
  es := #[]
  mc := 0
theorem new_ok {E S B P : Nat} (wb sb mb : Nat) (h : newN E S B P < 4194304) : HOk (newW E S B P wb sb mb) := by
  have z : ∀ n, ∀ y ∈ List.replicate n 0, y < 18446744073709551616 := fun n y hy => by rw [List.eq_of_mem_replicate hy]; omega
  refine ⟨⟨z _, z _, ?_, ?_, ?_, ?_, ?_, ?_, ?_, .nil, ?_⟩, ⟨rfl, rfl, ?_, ?_, ?_, ?_⟩, ?_, ?_, z _, z _, ?_, ?_, ?_, .nil, .nil, .nil, .nil, Nat.zero_le _, Nat.zero_le _, ⟨Nat.zero_le _, Nat.zero_le _⟩⟩
  · simp [newW]
  · simpa [newW] using h
  all_goals (try (intro b hb; cases hb; done))
  · intro w hw
    have : bitAt (newW E S B P wb sb mb).st w = false := by
      unfold bitAt
      have : (newW E S B P wb sb mb).st.getD (w / 64) 0 = 0 := by
        simp only [newW, List.getD_eq_getElem?_getD, List.getElem?_replicate]; split <;> rfl
      rw [this]; exact Nat.zero_testBit _
    rw [this]
    constructor
    · intro h; cases h
    · rintro ⟨b, hb, _⟩; cases hb
  · intro i r hr
    have hl : (newW E S B P wb sb mb).ws.length = newN E S B P := by simp [newW]
    rw [hl]
    unfold newN
    match i, hr with
    | 0, hr => cases hr; simp only; omega
    | 1, hr => cases hr; simp only; omega
    | 2, hr => cases hr; simp only; omega
    | 3, hr => cases hr; simp only; omega
    | 4, hr => cases hr; simp only; omega
    | 5, hr => cases hr; simp only [newN]; omega
  · intro i r hi hr
    match i, hr with
    | 1, hr => cases hr; simp only; omega
    | 2, hr => cases hr; simp only; omega
    | 3, hr => cases hr; simp only; omega
    | 4, hr => cases hr; simp only; omega
    | 5, hr => cases hr; simp only; omega
  · intro i j r s hij hr hs hi
    left
    have hj : j ≤ 5 := by
      have := (List.getElem?_eq_some_iff.1 hs).1
      have e : (newW E S B P wb sb mb).a.rm.length = 6 := rfl
      omega
    have h2 : (i = 1 ∨ i = 2 ∨ i = 3 ∨ i = 4) ∧ (j = 2 ∨ j = 3 ∨ j = 4 ∨ j = 5) := by omega
    obtain ⟨h2, h3⟩ := h2
    rcases h2 with rfl | rfl | rfl | rfl <;> rcases h3 with rfl | rfl | rfl | rfl <;> first | (exfalso; omega) | (cases hr; cases hs; simp only; omega)
  · exact List.length_replicate ..
  · exact List.length_replicate ..
def newZ (m : Value) : List Value := [Value.slice none 0 0, Value.slice none 0 0] ++ List.replicate 18 (Value.int .i64 0) ++ List.replicate 4160 (Value.int .u64 0) ++ [Value.slice none 0 0, Value.slice none 0 0, Value.slice none 0 0, m, Value.int .i64 0]
theorem newZ_put (mb : Nat) : putParts (newZ (.map none)) [(4183, 1, .map (some mb))] = some (newZ (.map (some mb))) := by
  have := putParts1 (A := [Value.slice none 0 0, Value.slice none 0 0] ++ List.replicate 18 (Value.int .i64 0) ++ List.replicate 4160 (Value.int .u64 0) ++ [Value.slice none 0 0, Value.slice none 0 0, Value.slice none 0 0]) (B := [Value.int .i64 0]) (x := .map none) (v := .map (some mb)) (n := 4183)
    (by rw [List.length_append, List.length_append, List.length_append, List.length_replicate, List.length_replicate]; rfl) rfl
  unfold newZ
  simp only [List.append_assoc, List.cons_append, List.nil_append] at this ⊢
  exact this
theorem newZ_cells (b : Nat) (m : Value) : cellsAt b 0 (newZ m) = [cellsAt b 0 [Value.slice none 0 0, Value.slice none 0 0], cellsAt b 2 (List.replicate 18 (Value.int .i64 0)), cellsAt b 20 ((List.replicate 64 0).map uv), cellsAt b 84 ((List.replicate 4096 0).map uv), cellsAt b 4180 [Value.slice none 0 0, Value.slice none 0 0, Value.slice none 0 0, m, Value.int .i64 0]].flatten := by
  unfold newZ
  have e : List.replicate 4160 (Value.int .u64 0) = List.replicate 64 (Value.int .u64 0) ++ List.replicate 4096 (Value.int .u64 0) := by rw [List.replicate_append_replicate]
  rw [e, cellsAt_append, cellsAt_append, cellsAt_append, cellsAt_append, List.map_replicate, List.map_replicate]
  simp only [List.length_append, List.length_replicate, List.length_cons, List.length_nil, Nat.zero_add, Nat.reduceAdd, List.flatten_cons, List.flatten_nil, List.append_nil, List.append_assoc]
  rfl
section
variable {P : Program} {n : Nat} {rs : List RO} {Γ : Env} {H : SH} {Z : List PanicEntry → Env → SH → Prop} {K : Env → SH → Prop} {d : Option Nat}
theorem st_mkU (k : Nat) {t : TypeId} {l c : Operand} {li : Int} (hl : ev Γ l = some (.int .i64 li)) (hc : ev Γ c = some (.int .i64 li)) (hk : li = (k : Int)) (hb : k ≤ 1073741824)
    (h : ∀ b, VO P n rs (putE d (.slice (some ⟨b, 0, none⟩) k k) Γ) (cellsAt b 0 ((List.replicate k 0).map uv) :: H) Z K) : VO P n (⟨d, none, .mkslice t 1 8 [.int .u64 0] l c⟩ :: rs) Γ H Z K := by
  subst hk
  refine st_mkslice hl hc ⟨by omega, by omega, by omega, by omega⟩ rfl (fun b => ?_)
  rw [Int.toNat_natCast, zrow]; exact h b
end
theorem new_mem (p E S B P wb sb mb : Nat) : HMem p (newW E S B P wb sb mb) = [cellsAt p 0 [.slice (some ⟨wb, 0, none⟩) (newN E S B P) (newN E S B P), .slice (some ⟨sb, 0, none⟩) ((newN E S B P) / 64 + 1) ((newN E S B P) / 64 + 1)], cellsAt p 4180 [Value.slice none 0 0, Value.slice none 0 0, Value.slice none 0 0, .map (some mb), Value.int .i64 0],
    cellsAt p 2 [vi 0, vi 0, vi 0, vi (2), vi (2 + (E : Int)), vi (2), vi (2 + (E : Int)), vi (2 + (E : Int) + (S : Int)), vi (2 + (E : Int)), vi (2 + (E : Int) + (S : Int)), vi (2 + (E : Int) + (S : Int) + (S : Int)), vi (2 + (E : Int) + (S : Int)), vi (2 + (E : Int) + (S : Int) + (S : Int)), vi (2 + (E : Int) + (S : Int) + (S : Int) + ((B : Int) + (E : Int) + 2 * (S : Int))), vi (2 + (E : Int) + (S : Int) + (S : Int)), vi (2 + (E : Int) + (S : Int) + (S : Int) + ((B : Int) + (E : Int) + 2 * (S : Int))), vi (((newN E S B P) : Nat) : Int), vi (2 + (E : Int) + (S : Int) + (S : Int) + ((B : Int) + (E : Int) + 2 * (S : Int)))], cellsAt p 20 ((List.replicate 64 0).map uv), cellsAt p 84 ((List.replicate 4096 0).map uv), cellsAt wb 0 ((List.replicate (newN E S B P) 0).map uv), cellsAt sb 0 ((List.replicate ((newN E S B P) / 64 + 1) 0).map uv), [], [], [], [Atom.obj mb (Obj.map #[] 0)]] := by
  have e1 : ∀ b k, arrV b (List.replicate k 0) = .slice (some ⟨b, 0, none⟩) k k := fun b k => by unfold arrV; rw [List.length_replicate]
  have e3 : (newH E S B P).rm.flatMap rmEnc = [vi 0, vi 0, vi 0, vi (2), vi (2 + (E : Int)), vi (2), vi (2 + (E : Int)), vi (2 + (E : Int) + (S : Int)), vi (2 + (E : Int)), vi (2 + (E : Int) + (S : Int)), vi (2 + (E : Int) + (S : Int) + (S : Int)), vi (2 + (E : Int) + (S : Int)), vi (2 + (E : Int) + (S : Int) + (S : Int)), vi (2 + (E : Int) + (S : Int) + (S : Int) + ((B : Int) + (E : Int) + 2 * (S : Int))), vi (2 + (E : Int) + (S : Int) + (S : Int)), vi (2 + (E : Int) + (S : Int) + (S : Int) + ((B : Int) + (E : Int) + 2 * (S : Int))), vi (((newN E S B P) : Nat) : Int), vi (2 + (E : Int) + (S : Int) + (S : Int) + ((B : Int) + (E : Int) + 2 * (S : Int)))] := by
    simp only [newH, List.flatMap_cons, List.flatMap_nil, rmEnc, List.cons_append, List.nil_append, Int.natCast_add, Int.natCast_mul]
    rfl
  show [cellsAt p 0 [arrV wb (List.replicate (newN E S B P) 0), arrV sb (List.replicate ((newN E S B P) / 64 + 1) 0)], _, cellsAt p 2 ((newH E S B P).rm.flatMap rmEnc), _, _, _, _, _, _, _, _] = _
  rw [e1, e1, e3]; rfl
theorem drop3 {A1 A2 A3 A4 A5 A6 A7 O : List Atom} : Imp [A1, A2, A3, A4, A5, A6, A7, O] [A1, A2, A3, A4, A5, A6, A7, [], [], [], O] := Imp.perm (by simp only [List.flatten_cons, List.flatten_nil, List.nil_append]; exact List.Perm.refl _)
def eachL (a : AH) : List Nat := roomL a 1 ++ (roomL a 2 ++ (roomL a 3 ++ (roomL a 4 ++ roomL a 5)))
theorem inRoom {x : HW} (hx : HOk x) {b : Ob} (hb : b ∈ x.a.obs) : ∃ i, 1 ≤ i ∧ i ≤ 5 ∧ b.at_ ∈ roomL x.a i := by
  obtain ⟨i, r, h1, h2, h3, h4⟩ := hx.rm.inn b hb
  have hl := hx.rm.len
  have hi : i < 6 := by have := (List.getElem?_eq_some_iff.1 h2).1; omega
  have hr := hx.rm.rng i r h2
  refine ⟨i, h1, by omega, ?_⟩
  unfold roomL roomR
  rw [h2]
  refine List.mem_filter.2 ⟨List.mem_map.2 ⟨b, hb, rfl⟩, ?_⟩
  simp only [Option.getD_some, decide_eq_true_eq]
  unfold Ob.stop at h4
  split at h4 <;> omega
theorem mem_eachL {x : HW} (hx : HOk x) {w : Nat} : w ∈ eachL x.a ↔ ∃ b ∈ x.a.obs, b.at_ = w := by
  constructor
  · intro h
    have : ∀ i, w ∈ roomL x.a i → ∃ b ∈ x.a.obs, b.at_ = w := fun i h => by
      obtain ⟨b, hb, e⟩ := List.mem_map.1 (List.mem_filter.1 h).1
      exact ⟨b, hb, e⟩
    simp only [eachL, List.mem_append] at h
    rcases h with h | h | h | h | h <;> exact this _ h
  · rintro ⟨b, hb, rfl⟩
    obtain ⟨i, h1, h2, h3⟩ := inRoom hx hb
    simp only [eachL, List.mem_append]
    have : i = 1 ∨ i = 2 ∨ i = 3 ∨ i = 4 ∨ i = 5 := by omega
    rcases this with rfl | rfl | rfl | rfl | rfl
    · exact .inl h3
    · exact .inr (.inl h3)
    · exact .inr (.inr (.inl h3))
    · exact .inr (.inr (.inr (.inl h3)))
    · exact .inr (.inr (.inr (.inr h3)))
theorem rooms_apart {x : HW} (hx : HOk x) {i j w : Nat} (h1 : 1 ≤ i) (hij : i < j) (hj : j ≤ 5) (hi : w ∈ roomL x.a i) (hw : w ∈ roomL x.a j) : False := by
  have hl := hx.rm.len
  have e1 := (List.mem_filter.1 hi).2
  have e2 := (List.mem_filter.1 hw).2
  simp only [decide_eq_true_eq] at e1 e2
  have g1 : x.a.rm[i]? = some (roomR x.a i) := by
    unfold roomR
    rw [List.getElem?_eq_getElem (show i < x.a.rm.length by omega)]; rfl
  have g2 : x.a.rm[j]? = some (roomR x.a j) := by
    unfold roomR
    rw [List.getElem?_eq_getElem (show j < x.a.rm.length by omega)]; rfl
  rcases hx.rm.apart i j _ _ hij g1 g2 h1 with h | h <;> omega
theorem eachL_nodup {x : HW} (hx : HOk x) : (eachL x.a).Nodup := by
  have hn : ∀ i, (roomL x.a i).Nodup := fun i => (roomL_sort hx i).imp (fun h => by omega)
  have ap : ∀ i j w, 1 ≤ i → i < j → j ≤ 5 → w ∈ roomL x.a i → w ∈ roomL x.a j → False := fun i j w h1 h2 h3 h4 h5 => rooms_apart hx h1 h2 h3 h4 h5
  unfold eachL
  refine List.nodup_append.2 ⟨hn 1, List.nodup_append.2 ⟨hn 2, List.nodup_append.2 ⟨hn 3, List.nodup_append.2 ⟨hn 4, hn 5, ?_⟩, ?_⟩, ?_⟩, ?_⟩
  · intro u hu v hv e; subst e; exact ap 4 5 u (by omega) (by omega) (by omega) hu hv
  · intro u hu v hv e; subst e
    rcases List.mem_append.1 hv with hv | hv
    · exact ap 3 4 u (by omega) (by omega) (by omega) hu hv
    · exact ap 3 5 u (by omega) (by omega) (by omega) hu hv
  · intro u hu v hv e; subst e
    simp only [List.mem_append] at hv
    rcases hv with hv | hv | hv
    · exact ap 2 3 u (by omega) (by omega) (by omega) hu hv
    · exact ap 2 4 u (by omega) (by omega) (by omega) hu hv
    · exact ap 2 5 u (by omega) (by omega) (by omega) hu hv
  · intro u hu v hv e; subst e
    simp only [List.mem_append] at hv
    rcases hv with hv | hv | hv | hv
    · exact ap 1 2 u (by omega) (by omega) (by omega) hu hv
    · exact ap 1 3 u (by omega) (by omega) (by omega) hu hv
    · exact ap 1 4 u (by omega) (by omega) (by omega) hu hv
    · exact ap 1 5 u (by omega) (by omega) (by omega) hu hv
def turnL (f : Ob → Ob) (c : List Nat) (obs : List Ob) : List Ob := obs.map fun b => if b.at_ ∈ c then f b else b
theorem turnL_nil (f : Ob → Ob) (obs : List Ob) : turnL f [] obs = obs := by
  unfold turnL
  conv => rhs; rw [← List.map_id obs]
  exact List.map_congr_left fun b _ => by simp
theorem turnL_snoc {f : Ob → Ob} (hf : Keep f) {c : List Nat} {w : Nat} (hw : w ∉ c) (obs : List Ob) : updO w f (turnL f c obs) = turnL f (c ++ [w]) obs := by
  unfold updO turnL
  rw [List.map_map]
  apply List.map_congr_left
  intro b _
  simp only [Function.comp, List.mem_append, List.mem_singleton]
  by_cases h1 : b.at_ ∈ c
  · have hne : ¬ (f b).at_ = w := by rw [hf.at_]; exact fun e => hw (e ▸ h1)
    rw [if_pos h1, if_neg hne, if_pos (Or.inl h1)]
  · rw [if_neg h1]
    by_cases h2 : b.at_ = w
    · rw [if_pos h2, if_pos (Or.inr h2)]
    · rw [if_neg h2, if_neg (fun h => h.elim h1 h2)]
theorem turnL_all {f : Ob → Ob} {c : List Nat} {obs : List Ob} (h : ∀ b ∈ obs, b.at_ ∈ c) : turnL f c obs = obs.map f := by
  unfold turnL
  exact List.map_congr_left fun b hb => by rw [if_pos (h b hb)]
theorem getO_turn {f : Ob → Ob} (hf : Keep f) (c : List Nat) (obs : List Ob) (o : Nat) : getO (turnL f c obs) o = (getO obs o).map fun b => if b.at_ ∈ c then f b else b :=
  getO_map (fun b => by unfold Ob.oop; split <;> simp [hf.at_])
def slid : Nat → List Ob → List Ob
  | _, [] => []
  | to, b :: r => { b with at_ := to } :: slid (to + 2 + b.hd.slots) r
def slidEnd : Nat → List Ob → Nat
  | to, [] => to
  | to, b :: r => slidEnd (to + 2 + b.hd.slots) r
def slidMv : Nat → List Ob → List (Nat × Nat)
  | _, [] => []
  | to, b :: r => (if b.at_ = to then [] else [(b.at_, to)]) ++ slidMv (to + 2 + b.hd.slots) r
theorem slid_app : ∀ (l m : List Ob) (to : Nat), slid to (l ++ m) = slid to l ++ slid (slidEnd to l) m
  | [], _, _ => rfl
  | b :: r, m, to => by simp only [List.cons_append, slid, slidEnd, slid_app r m]
theorem slidEnd_app : ∀ (l m : List Ob) (to : Nat), slidEnd to (l ++ m) = slidEnd (slidEnd to l) m
  | [], _, _ => rfl
  | b :: r, m, to => by simp only [List.cons_append, slidEnd, slidEnd_app r m]
theorem slidMv_app : ∀ (l m : List Ob) (to : Nat), slidMv to (l ++ m) = slidMv to l ++ slidMv (slidEnd to l) m
  | [], _, _ => rfl
  | b :: r, m, to => by simp only [List.cons_append, slidMv, slidEnd, slidMv_app r m, List.append_assoc]
theorem slidEnd_le : ∀ (l : List Ob) (to : Nat), to ≤ slidEnd to l
  | [], _ => Nat.le_refl _
  | b :: r, to => by
    have := slidEnd_le r (to + 2 + b.hd.slots)
    unfold slidEnd; omega
theorem slidEnd_head : ∀ (l : List Ob) (to : Nat) (b : Ob), (∀ c ∈ l ++ [b], to ≤ c.at_) → ((l ++ [b]).Pairwise fun x y => x.stop ≤ y.at_) → slidEnd to l ≤ b.at_
  | [], to, b, h, _ => h b (by simp)
  | c :: r, to, b, h, hp => by
    have h0 := h c (by simp)
    simp only [List.cons_append, List.pairwise_cons] at hp
    refine slidEnd_head r (to + 2 + c.hd.slots) b (fun d hd => ?_) hp.2
    have := hp.1 d hd
    unfold Ob.stop at this; omega
theorem slid_bound : ∀ (l : List Ob) (to : Nat), ∀ c ∈ slid to l, to ≤ c.at_ ∧ c.stop ≤ slidEnd to l
  | [], _, _, h => by cases h
  | b :: r, to, c, h => by
    have h0 := slidEnd_le r (to + 2 + b.hd.slots)
    simp only [slid, List.mem_cons] at h
    rcases h with rfl | h
    · refine ⟨Nat.le_refl _, ?_⟩
      simp only [Ob.stop, slidEnd]; omega
    · have := slid_bound r (to + 2 + b.hd.slots) c h
      simp only [slidEnd]; omega
def cpyW (l : List Nat) (d s n : Nat) : List Nat := l.take d ++ ((l.drop s).take n ++ l.drop (d + n))
theorem cpyW_len {l : List Nat} {d s n : Nat} (h1 : d + n ≤ l.length) (h2 : s + n ≤ l.length) : (cpyW l d s n).length = l.length := by
  unfold cpyW; simp only [List.length_append, List.length_take, List.length_drop]; omega
theorem cpyW_in {l : List Nat} {d s n i : Nat} (h1 : d + n ≤ l.length) (h2 : s + n ≤ l.length) (hi : i < n) : (cpyW l d s n)[d + i]? = l[s + i]? := by
  unfold cpyW
  have e : (l.take d).length = d := by rw [List.length_take]; omega
  rw [List.getElem?_append_right (by omega), e, show d + i - d = i by omega, List.getElem?_append_left (by simp only [List.length_take, List.length_drop]; omega), List.getElem?_take_of_lt hi, List.getElem?_drop]
theorem cpyW_out {l : List Nat} {d s n j : Nat} (h1 : d + n ≤ l.length) (h2 : s + n ≤ l.length) (hj : ¬ (d ≤ j ∧ j < d + n)) : (cpyW l d s n)[j]? = l[j]? := by
  unfold cpyW
  have e : (l.take d).length = d := by rw [List.length_take]; omega
  have e2 : ((l.drop s).take n).length = n := by simp only [List.length_take, List.length_drop]; omega
  by_cases h : j < d
  · rw [List.getElem?_append_left (by omega), List.getElem?_take_of_lt h]
  · rw [List.getElem?_append_right (by omega), e, List.getElem?_append_right (by omega), e2, List.getElem?_drop]
    congr 1; omega
theorem cpyW_mem {l : List Nat} {d s n x : Nat} (h : x ∈ cpyW l d s n) : x ∈ l := by
  unfold cpyW at h
  simp only [List.mem_append] at h
  rcases h with h | h | h
  · exact List.mem_of_mem_take h
  · exact List.mem_of_mem_drop (List.mem_of_mem_take h)
  · exact List.mem_of_mem_drop h
theorem insO_mid {b : Ob} : ∀ {X Y : List Ob}, (∀ c ∈ X, c.at_ < b.at_) → (∀ c ∈ Y, ¬ c.at_ < b.at_) → insO b (X ++ Y) = X ++ b :: Y
  | [], [], _, _ => rfl
  | [], y :: Y, _, h => by
    show insO b (y :: Y) = b :: y :: Y
    unfold insO
    rw [if_neg (h y (by simp))]
  | c :: X, Y, h1, h2 => by
    show insO b (c :: (X ++ Y)) = c :: (X ++ b :: Y)
    unfold insO
    rw [if_pos (h1 c (by simp)), insO_mid (fun d hd => h1 d (by simp [hd])) h2]
theorem filter_mid {b : Ob} {X Y : List Ob} (h : ((X ++ b :: Y)).Pairwise fun x y => x.stop ≤ y.at_) : ((X ++ b :: Y).filter fun c => decide (c.at_ ≠ b.at_)) = X ++ Y := by
  rw [List.pairwise_append] at h
  obtain ⟨h1, h2, h3⟩ := h
  rw [List.pairwise_cons] at h2
  rw [List.filter_append, List.filter_cons_of_neg (by simp)]
  congr 1
  · refine List.filter_eq_self.2 fun c hc => ?_
    have := h3 c hc b (by simp)
    unfold Ob.stop at this
    simp only [ne_eq, decide_not, Bool.not_eq_true', decide_eq_false_iff_not]; omega
  · refine List.filter_eq_self.2 fun c hc => ?_
    have := h2.1 c hc
    unfold Ob.stop at this
    simp only [ne_eq, decide_not, Bool.not_eq_true', decide_eq_false_iff_not]; omega
def moveW (x : HW) (X Y : List Ob) (b : Ob) (to : Nat) : HW :=
  { x with a := { x.a with obs := X ++ { b with at_ := to } :: Y }, ws := cpyW x.ws to b.at_ (2 + b.hd.slots), st := setBit (setBit x.st b.at_ false) to true }
theorem HOk.move {x : HW} (hx : HOk x) {X Y : List Ob} {b : Ob} {f t tp to : Nat} (hobs : x.a.obs = X ++ b :: Y) (hr : x.a.rm[4]? = some (f, t, tp)) (hf : f ≤ to) (hto : to < b.at_) (hX : ∀ c ∈ X, c.stop ≤ to) (htp : b.stop ≤ tp) : HOk (moveW x X Y b to) := by
  have hb : b ∈ x.a.obs := by rw [hobs]; simp
  have hsort := hx.lay.sort
  rw [hobs] at hsort
  have hY : ∀ c ∈ Y, b.stop ≤ c.at_ := fun c hc => by
    rw [List.pairwise_append, List.pairwise_cons] at hsort
    exact hsort.2.1.1 c hc
  have hhigh := hx.lay.high b hb
  have hstop : b.stop = b.at_ + 2 + b.hd.slots := rfl
  have hl := cpyW_len (l := x.ws) (d := to) (s := b.at_) (n := 2 + b.hd.slots) (by omega) (by omega)
  have hlow := hx.rm.low 4 _ (by omega) hr
  simp only at hlow
  have hd := hx.lay.del (w := b.at_) (by omega)
  rw [hobs, filter_mid hsort] at hd
  have hok := hx.lay.ok b hb
  have hhead := hx.lay.head b hb
  have hbody := hx.lay.body b hb
  have hins := hd.ins (b := { b with at_ := to }) ⟨hok.may, hok.len, hok.small, hok.meth⟩ (by simp only; omega) (by simp only [Ob.stop]; omega)
    (fun c hc => by
      rcases List.mem_append.1 hc with hc | hc
      · exact .inl (hX c hc)
      · refine .inr ?_
        have := hY c hc
        simp only [Ob.stop] at this ⊢; omega)
    hl (fun y hy => hx.lay.small y (cpyW_mem hy))
    (fun i hi => cpyW_out (by omega) (by omega) (by simp only [Ob.stop] at hi; omega))
    ⟨by
      show (cpyW x.ws to b.at_ (2 + b.hd.slots))[to]? = _
      have := cpyW_in (l := x.ws) (d := to) (s := b.at_) (n := 2 + b.hd.slots) (i := 0) (by omega) (by omega) (by omega)
      rw [Nat.add_zero, Nat.add_zero] at this
      rw [this]; exact hhead.1, by
      show (cpyW x.ws to b.at_ (2 + b.hd.slots))[to + 1]? = _
      rw [cpyW_in (by omega) (by omega) (by omega)]; exact hhead.2⟩
    (fun i hi => by
      show (cpyW x.ws to b.at_ (2 + b.hd.slots))[to + 2 + i]? = _
      rw [Nat.add_assoc, cpyW_in (by omega) (by omega) (by simp only at hi; omega), ← Nat.add_assoc]; exact hbody i hi)
  rw [insO_mid (fun c hc => by have := hX c hc; simp only [Ob.stop] at this ⊢; omega) (fun c hc => by have := hY c hc; simp only; omega)] at hins
  refine ⟨hins, ⟨hx.rm.len, hx.rm.zero, fun i r hr' => ?_, hx.rm.low, hx.rm.apart, fun c hc => ?_⟩, hx.spl, hx.cll, hx.sps, hx.cls, hx.stks, hx.ques, hx.nots, hx.stk, hx.que, hx.note, hx.map, hx.given, hx.deep, hx.few⟩
  · show _ ∧ _ ∧ _ ≤ (cpyW x.ws to b.at_ (2 + b.hd.slots)).length
    rw [hl]; exact hx.rm.rng i r hr'
  · rcases List.mem_append.1 hc with hc | hc
    · exact hx.rm.inn c (by rw [hobs]; simp [hc])
    · rcases List.mem_cons.1 hc with rfl | hc
      · refine ⟨4, _, by omega, hr, hf, ?_⟩
        rw [if_neg (by omega)]
        simp only [Ob.stop] at htp ⊢; omega
      · exact hx.rm.inn c (by rw [hobs]; simp [hc])
theorem sort_split (f t : Nat) (hft : f ≤ t) : ∀ {obs : List Ob}, (obs.Pairwise fun x y => x.stop ≤ y.at_) →
    obs = (obs.filter fun b => decide (b.at_ < f)) ++ ((obs.filter fun b => decide (f ≤ b.at_ ∧ b.at_ < t)) ++ (obs.filter fun b => decide (t ≤ b.at_)))
  | [], _ => rfl
  | b :: r, h => by
    obtain ⟨h1, h2⟩ := List.pairwise_cons.1 h
    have ih := sort_split f t hft h2
    have hlt : ∀ c ∈ r, b.at_ < c.at_ := fun c hc => by have := h1 c hc; unfold Ob.stop at this; omega
    by_cases e1 : b.at_ < f
    · rw [List.filter_cons_of_pos (by simpa using e1), List.filter_cons_of_neg (by simp; omega), List.filter_cons_of_neg (by simp; omega), List.cons_append, ← ih]
    · have p0 : (r.filter fun b => decide (b.at_ < f)) = [] := List.filter_eq_nil_iff.2 fun c hc => by have := hlt c hc; simp; omega
      rw [p0, List.nil_append] at ih
      rw [List.filter_cons_of_neg (by simpa using e1), p0, List.nil_append]
      by_cases e2 : b.at_ < t
      · rw [List.filter_cons_of_pos (by simp; omega), List.filter_cons_of_neg (by simp; omega), List.cons_append, ← ih]
      · have o0 : (r.filter fun b => decide (f ≤ b.at_ ∧ b.at_ < t)) = [] := List.filter_eq_nil_iff.2 fun c hc => by have := hlt c hc; simp; omega
        rw [o0, List.nil_append] at ih
        rw [List.filter_cons_of_neg (by simp; omega), o0, List.nil_append, List.filter_cons_of_pos (by simp; omega), ← ih]
def renO (mv : List (Nat × Nat)) (o : Nat) : Nat := (mget o mv).getD o
def mvO (mv : List (Nat × Nat)) : List (Nat × Nat) := mv.map fun q => (8 * q.1, 8 * q.2)
def renB (mv : List (Nat × Nat)) (b : Ob) : Ob := { b with body := (b.body.take b.many).map (renO mv) ++ b.body.drop b.many }
theorem renO_nils (l : List Nat) : l.map (renO []) = l := by
  conv => rhs; rw [← List.map_id l]
  exact List.map_congr_left fun _ _ => rfl
theorem renB_nil (b : Ob) : renB [] b = b := by
  unfold renB
  rw [renO_nils, List.take_append_drop]
theorem keep_renB (mv : List (Nat × Nat)) : Keep (renB mv) := ⟨fun _ => rfl, fun _ => rfl⟩
theorem mvO_get {w : Nat} : ∀ {mv : List (Nat × Nat)}, mget (8 * w) (mvO mv) = (mget w mv).map (8 * ·)
  | [] => rfl
  | (a, c) :: r => by
    have ih := mvO_get (w := w) (mv := r)
    show mget (8 * w) ((8 * a, 8 * c) :: mvO r) = _
    unfold mget
    by_cases h : a = w
    · rw [if_pos h, if_pos (by omega)]; rfl
    · rw [if_neg h, if_neg (by omega)]; exact ih
theorem mget_app {w : Nat} : ∀ {l m : List (Nat × Nat)}, mget w l = none → mget w (l ++ m) = mget w m
  | [], _, _ => rfl
  | (a, c) :: r, m, h => by
    unfold mget at h
    by_cases e : a = w
    · rw [if_pos e] at h; cases h
    · rw [if_neg e] at h
      show (if a = w then some c else mget w (r ++ m)) = mget w m
      rw [if_neg e]; exact mget_app h
theorem slidMv_none {w : Nat} : ∀ {l : List Ob} {to : Nat}, (∀ c ∈ l, c.at_ ≠ w) → mget w (slidMv to l) = none
  | [], _, _ => rfl
  | b :: r, to, h => by
    have ih := slidMv_none (w := w) (l := r) (to := to + 2 + b.hd.slots) (fun c hc => h c (by simp [hc]))
    unfold slidMv
    split
    · exact ih
    · show mget w ((b.at_, to) :: slidMv _ r) = none
      unfold mget
      rw [if_neg (h b (by simp))]; exact ih
theorem slidMv_at {A C : List Ob} {b : Ob} {to : Nat} (hA : ∀ c ∈ A, c.at_ ≠ b.at_) (hC : ∀ c ∈ C, c.at_ ≠ b.at_) : mget b.at_ (slidMv to (A ++ b :: C)) = if b.at_ = slidEnd to A then none else some (slidEnd to A) := by
  rw [slidMv_app, mget_app (slidMv_none hA)]
  unfold slidMv
  by_cases h : b.at_ = slidEnd to A
  · rw [if_pos h, if_pos h]
    exact slidMv_none hC
  · rw [if_neg h, if_neg h]
    show mget b.at_ ((b.at_, slidEnd to A) :: slidMv _ C) = _
    unfold mget
    rw [if_pos rfl]
def oldO (a : AH) : List Ob := a.obs.filter fun b => decide ((roomR a 4).1 ≤ b.at_ ∧ b.at_ < (roomR a 4).2.1)
def lowO (a : AH) : List Ob := a.obs.filter fun b => decide (b.at_ < (roomR a 4).1)
def highO (a : AH) : List Ob := a.obs.filter fun b => decide ((roomR a 4).2.1 ≤ b.at_)
def slideM (a : AH) : List (Nat × Nat) := mvO (slidMv (roomR a 4).1 (oldO a))
def slideObs (a : AH) : List Ob := lowO a ++ (slid (roomR a 4).1 (oldO a) ++ highO a)
def slideA (a : AH) : AH :=
  { a with rm := a.rm.set 4 ((roomR a 4).1, (roomR a 4).2.1, slidEnd (roomR a 4).1 (oldO a)), obs := (slideObs a).map (renB (slideM a)), sp := a.sp.map (renO (slideM a)), cl := a.cl.map (renO (slideM a)),
           stack := a.stack.map (renO (slideM a)), queue := a.queue.map (renO (slideM a)), noted := a.noted.map (renO (slideM a)) }
theorem slid_mid (A C : List Ob) (b : Ob) (to : Nat) : slid to (A ++ b :: C) = slid to A ++ { b with at_ := slidEnd to A } :: slid (slidEnd to A + 2 + b.hd.slots) C := by
  rw [slid_app]; rfl
theorem room4 {x : HW} (hx : HOk x) : ∃ f t tp, x.a.rm[4]? = some (f, t, tp) ∧ roomR x.a 4 = (f, t, tp) ∧ f ≤ tp ∧ tp ≤ t ∧ t ≤ x.ws.length := by
  have hl := hx.rm.len
  obtain ⟨r, hr⟩ : ∃ r, x.a.rm[4]? = some r := ⟨_, List.getElem?_eq_getElem (by omega)⟩
  obtain ⟨f, t, tp⟩ := r
  have := hx.rm.rng 4 _ hr
  simp only at this
  exact ⟨f, t, tp, hr, by unfold roomR; rw [hr]; rfl, by omega, by omega, by omega⟩
theorem old_split {x : HW} (hx : HOk x) : x.a.obs = lowO x.a ++ (oldO x.a ++ highO x.a) := by
  obtain ⟨f, t, tp, _, hr, _⟩ := room4 hx
  unfold lowO oldO highO
  rw [hr]
  exact sort_split f t (by omega) hx.lay.sort
theorem sort_ne {A C : List Ob} {b : Ob} (h : (A ++ b :: C).Pairwise fun x y => x.stop ≤ y.at_) : (∀ c ∈ A, c.at_ ≠ b.at_) ∧ (∀ c ∈ C, c.at_ ≠ b.at_) := by
  rw [List.pairwise_append, List.pairwise_cons] at h
  refine ⟨fun c hc => ?_, fun c hc => ?_⟩
  · have := h.2.2 c hc b (by simp); unfold Ob.stop at this; omega
  · have := h.2.1.1 c hc; unfold Ob.stop at this; omega
theorem slide_mem {x : HW} (hx : HOk x) {b : Ob} (hb : b ∈ x.a.obs) : ∃ b' ∈ slideObs x.a, b'.oop = renO (slideM x.a) b.oop ∧ b'.hd = b.hd ∧ b'.body = b.body := by
  have hs := old_split hx
  have hsort := hx.lay.sort
  have hoo : b.oop = 8 * b.at_ := rfl
  by_cases ho : b ∈ oldO x.a
  · obtain ⟨A, C, e⟩ := List.append_of_mem ho
    have hs2 : (A ++ b :: C).Pairwise fun x y => x.stop ≤ y.at_ := by
      rw [← e]; exact hsort.sublist List.filter_sublist
    obtain ⟨n1, n2⟩ := sort_ne hs2
    refine ⟨{ b with at_ := slidEnd (roomR x.a 4).1 A }, ?_, ?_, rfl, rfl⟩
    · unfold slideObs
      rw [e, slid_mid]
      simp
    · unfold slideM renO
      rw [hoo, mvO_get, e, slidMv_at n1 n2]
      split
      · rename_i h; rw [← h]; rfl
      · rfl
  · refine ⟨b, ?_, ?_, rfl, rfl⟩
    · unfold slideObs
      rw [hs] at hb
      simp only [List.mem_append] at hb ⊢
      rcases hb with hb | hb | hb
      · exact .inl hb
      · exact absurd hb ho
      · exact .inr (.inr hb)
    · unfold slideM renO
      rw [hoo, mvO_get, slidMv_none]
      · rfl
      · intro c hc e
        refine ho ?_
        rw [← sort_one hsort (List.mem_filter.1 hc).1 hb e]; exact hc
theorem slide_get {x y : HW} (hx : HOk x) (hy : HOk y) (h : y.a = slideA x.a) {o : Nat} {b : Ob} (hb : getO x.a.obs o = some b) :
    ∃ b', getO y.a.obs (renO (slideM x.a) o) = some b' ∧ b'.hd = b.hd ∧ b'.body = (b.body.take b.many).map (renO (slideM x.a)) ++ b.body.drop b.many := by
  obtain ⟨h1, rfl⟩ := getO_some hb
  obtain ⟨c, h2, h3, h4, h5⟩ := slide_mem hx h1
  have hm : c.many = b.many := by unfold Ob.many; rw [h4, h5]
  have hin : renB (slideM x.a) c ∈ y.a.obs := by rw [h]; exact List.mem_map.2 ⟨c, h2, rfl⟩
  have := getO_mem hy.lay.sort hin
  have e : (renB (slideM x.a) c).oop = c.oop := rfl
  rw [e, h3] at this
  exact ⟨_, this, h4, by show (c.body.take c.many).map _ ++ c.body.drop c.many = _; rw [hm, h5]⟩
theorem meets_len {a : AH} : ∀ (ks l : List Nat), l.length ≤ (ks.foldl (meetA a) l).length
  | [], _ => Nat.le_refl _
  | k :: ks, l => by
    rw [List.foldl_cons]
    refine Nat.le_trans ?_ (meets_len ks _)
    unfold meetA
    split
    · exact Nat.le_refl _
    · split
      · simp
      · exact Nat.le_refl _
theorem allM_line (s : MS) (o : Nat) : s.line.length ≤ (allM s o).line.length := meets_len _ _
theorem oneM_sizes (s : MS) (o : Nat) : s.line.length ≤ (oneM s o).line.length ∧ (oneM s o).waiting.length ≤ s.waiting.length + 1 ∧ (oneM s o).fired = s.fired ∧ (oneM s o).a = s.a := by
  unfold oneM
  split
  · split
    · exact ⟨Nat.le_refl _, by simp [waitM], rfl, rfl⟩
    · exact ⟨allM_line s o, Nat.le_succ _, rfl, rfl⟩
  · split
    · exact ⟨allM_line s o, Nat.le_succ _, rfl, rfl⟩
    · exact ⟨Nat.le_refl _, Nat.le_succ _, rfl, rfl⟩
theorem againS_sizes : ∀ (l : List Nat) (s : MS), s.line.length ≤ (l.foldl againS s).line.length ∧ (l.foldl againS s).fired = s.fired ∧ (l.foldl againS s).a = s.a ∧ (l.foldl againS s).waiting.length ≤ s.waiting.length + l.length
  | [], s => ⟨Nat.le_refl _, rfl, rfl, by simp⟩
  | o :: r, s => by
    rw [List.foldl_cons]
    obtain ⟨h1, h2, h3, h4⟩ := againS_sizes r (againS s o)
    have k : s.line.length ≤ (againS s o).line.length ∧ (againS s o).fired = s.fired ∧ (againS s o).a = s.a ∧ (againS s o).waiting.length ≤ s.waiting.length + 1 := by
      unfold againS
      split
      · exact ⟨Nat.le_refl _, rfl, rfl, by simp [waitM]⟩
      · exact ⟨allM_line s o, rfl, rfl, Nat.le_succ _⟩
    refine ⟨Nat.le_trans k.1 h1, h2.trans k.2.1, h3.trans k.2.2.1, ?_⟩
    simp only [List.length_cons]; omega
theorem againM_sizes (s : MS) : s.line.length ≤ (againM s).line.length ∧ (againM s).fired = s.fired ∧ (againM s).a = s.a ∧ (againM s).waiting.length ≤ s.waiting.length := by
  obtain ⟨h1, h2, h3, h4⟩ := againS_sizes s.waiting { s with waiting := [] }
  exact ⟨h1, h2, h3, by simpa [againM] using h4⟩
theorem againS_same : ∀ (l : List Nat) (s : MS), s.waiting.length + l.length ≤ (l.foldl againS s).waiting.length → l.foldl againS s = { s with waiting := s.waiting ++ l }
  | [], s, _ => by simp
  | o :: r, s, h => by
    rw [List.foldl_cons] at h ⊢
    have h4 := (againS_sizes r (againS s o)).2.2.2
    simp only [List.length_cons] at h
    have hk : againS s o = waitM s o := by
      unfold againS
      split
      · rfl
      · rename_i hw
        exfalso
        have e : againS s o = allM s o := by unfold againS; rw [if_neg hw]
        rw [e] at h4 h
        have : (allM s o).waiting.length = s.waiting.length := rfl
        omega
    rw [hk] at h ⊢
    rw [againS_same r (waitM s o) (by simp only [waitM, List.length_append, List.length_singleton] at h ⊢; omega)]
    simp [waitM]
theorem againM_same {s : MS} (h : ¬ (againM s).waiting.length < s.waiting.length) : againM s = s := by
  have := againS_same s.waiting { s with waiting := [] } (by simp only [List.length_nil, Nat.zero_add]; exact Nat.le_of_not_lt h)
  unfold againM
  rw [this]; simp
theorem fireS_sizes : ∀ (l : List Nat) (s : MS), s.line.length ≤ (l.foldl fireS s).line.length ∧ (l.foldl fireS s).fired = s.fired ∧ (l.foldl fireS s).a.obs.length = s.a.obs.length ∧ (l.foldl fireS s).waiting = s.waiting
  | [], s => ⟨Nat.le_refl _, rfl, rfl, rfl⟩
  | o :: r, s => by
    rw [List.foldl_cons]
    obtain ⟨h1, h2, h3, h4⟩ := fireS_sizes r (fireS s o)
    refine ⟨Nat.le_trans (allM_line { s with a := fmA s.a o } o) h1, h2, h3.trans ?_, h4⟩
    show (updO _ _ _).length = _
    simp [updO]
def oops3 (a : AH) (o : Nat) : Prop := ∃ b, getO a.obs o = some b ∧ b.hd.fmt ≤ 3
theorem oops3_fm {a : AH} {o w : Nat} (h : oops3 a o) : oops3 (fmA a w) o := by
  obtain ⟨b, hb, h3⟩ := h
  refine ⟨if b.at_ = w / 8 then setH setFm b else b, by rw [getO_fm, hb]; rfl, ?_⟩
  by_cases e : b.at_ = w / 8
  · rw [if_pos e]; show 1 ≤ 3; omega
  · rw [if_neg e]; exact h3
theorem MOk.fireS {s : MS} (h : MOk s) (o : Nat) : MOk (V.fireS s o) := (h.fm (o := o)).all o
def SrcU (L : List Atom) (v : Value) (ys : List Nat) : Prop := ∃ a c, v = .slice a ys.length c ∧ ((ys = [] ∧ a = none) ∨ ∃ b o, a = some ⟨b, o, none⟩ ∧ ∀ x ∈ cellsAt b o (ys.map uv), x ∈ L)
theorem IsSl.srcU {v : Value} {ys : List Nat} {sp : List Value} {L : List Atom} (h : IsSl 1 v ys.length (ys.map uv) sp) (hm : ∀ x ∈ slA v (ys.map uv) sp, x ∈ L) : SrcU L v ys := by
  generalize hl : ys.length = n at h
  generalize hy : ys.map uv = us at h hm
  cases h with
  | @mk b o _ c _ _ h1 h2 h3 =>
    refine ⟨_, c, by rw [hl], .inr ⟨b, o, rfl, fun x hx => hm x ?_⟩⟩
    simp only [slA, cellsAt_append, List.mem_append]
    rw [hy] at hx
    exact .inl hx
  | nil => exact ⟨none, 0, by rw [hl], .inl ⟨by simpa using hy, rfl⟩⟩
theorem SrcU.src {L : List Atom} {v : Value} {ys : List Nat} (h : SrcU L v ys) : seqLen v = some ys.length ∧ Src L 1 ys.length (ys.map uv) v := by
  obtain ⟨a, c, rfl, h⟩ := h
  refine ⟨rfl, ?_⟩
  rcases h with ⟨rfl, rfl⟩ | ⟨b, o, rfl, hm⟩
  · rfl
  · exact ⟨by simp, hm⟩
section
variable {P : Program} {n : Nat} {rs : List RO} {Γ : Env} {H : SH} {Z : List PanicEntry → Env → SH → Prop} {K : Env → SH → Prop} {d : Option Nat}
theorem st_appU {t : TypeId} {s x : Operand} {sv xv : Value} {xs ys : List Nat} {sp : List Value} {R : SH} (hs : ev Γ s = some sv) (hx : ev Γ x = some xv) (hsl : IsSl 1 sv xs.length (xs.map uv) sp) (ht : Tk H (slA sv (xs.map uv) sp) R) (hy : SrcU R.flatten xv ys) (hroom : xs.length + ys.length ≤ 4398046511104)
    (h : ∀ sv' sp', IsSl 1 sv' (xs ++ ys).length ((xs ++ ys).map uv) sp' → VO P n rs (putE d sv' Γ) (slA sv' ((xs ++ ys).map uv) sp' :: R) Z K) : VO P n (⟨d, none, .append t 1 8 [.int .u64 0] s x⟩ :: rs) Γ H Z K := by
  obtain ⟨h1, h2⟩ := hy.src
  refine st_append (k := xs.length) (m := ys.length) (xs := xs.map uv) (sp := sp) (ys := ys.map uv) hs hx hsl ht h1 h2 (by simp) ?_ rfl (by omega) (by omega) (fun sv' sp' hsl' => ?_)
  · rw [List.all_map]; simp [oneCell]
  · rw [← List.map_append] at hsl' ⊢
    exact h sv' sp' (by rw [List.length_append]; exact hsl')
end
theorem srcU_lit {L : List Atom} {b : Nat} {ys : List Nat} (h : ∀ x ∈ cellsAt b 0 (ys.map uv), x ∈ L) : SrcU L (.slice (some ⟨b, 0, none⟩) ys.length ys.length) ys := ⟨_, _, rfl, .inr ⟨b, 0, rfl, h⟩⟩
section
variable {P : Program} {n : Nat} {rs : List RO} {Γ : Env} {H : SH} {Z : List PanicEntry → Env → SH → Prop} {K : Env → SH → Prop} {d : Option Nat}
theorem st_cpyW {p : Nat} {x : HW} {a s k c1 c2 : Nat} {X Y : Operand} {R : SH} (h1 : a + k ≤ x.ws.length) (h2 : s + k ≤ x.ws.length) (hx : ev Γ X = some (.slice (some ⟨x.wb, a, none⟩) k c1)) (hy : ev Γ Y = some (.slice (some ⟨x.wb, s, none⟩) k c2))
    (ht : Tk H (HA p x) R) (h : VO P n rs (putE d (vi k) Γ) (HA p { x with ws := cpyW x.ws a s k } :: R) Z K) : VO P n (⟨d, none, .copy 1 X Y⟩ :: rs) Γ H Z K := by
  refine VO.act' rfl rfl (fun ρ hρ => ⟨_, rfl, ?_⟩)
  rw [hρ _ _ hx, hρ _ _ hy]
  refine SWP.perm ht.perm ?_
  have hs : x.ws = x.ws.take a ++ ((x.ws.drop a).take k ++ x.ws.drop (a + k)) := by
    rw [show x.ws.drop (a + k) = (x.ws.drop a).drop k from List.drop_drop.symm, List.take_append_drop, List.take_append_drop]
  have hs2 : x.ws = x.ws.take s ++ ((x.ws.drop s).take k ++ x.ws.drop (s + k)) := by
    rw [show x.ws.drop (s + k) = (x.ws.drop s).drop k from List.drop_drop.symm, List.take_append_drop, List.take_append_drop]
  obtain ⟨W, hW1, hW2⟩ := ha_words p x hs
  obtain ⟨W2, hW3, _⟩ := ha_words p x hs2
  have hl : (x.ws.take a).length = a := by rw [List.length_take]; omega
  have hl2 : (x.ws.take s).length = s := by rw [List.length_take]; omega
  have hm : ((x.ws.drop a).take k).length = k := by rw [List.length_take, List.length_drop]; omega
  have hm2 : ((x.ws.drop s).take k).length = k := by rw [List.length_take, List.length_drop]; omega
  rw [hl] at hW1 hW2
  rw [hl2] at hW3
  have hmin : Nat.min k k = k := Nat.min_self k
  simp only [seqLen, hmin]
  have hsrc : Src (List.flatten [HA p x] ++ R.flatten) 1 k (((x.ws.drop s).take k).map uv) (.slice (some ⟨x.wb, s, none⟩) k c2) := by
    refine ⟨by rw [List.length_map, hm2, Nat.mul_one], fun y hy => ?_⟩
    simp only [List.flatten_cons, List.flatten_nil, List.append_nil]
    exact List.mem_append_left _ (hW3.symm.subset (List.mem_append_left _ hy))
  have hp : (HA p x ++ R.flatten).Perm (cellsAt x.wb a (((x.ws.drop a).take k).map uv) ++ (W ++ R.flatten)) := by
    rw [← List.append_assoc]; exact hW1.append_right _
  simp only [List.flatten_cons, List.flatten_nil, List.append_nil] at hsrc
  refine SWP.bind (SWP.firstCells hsrc ?_)
  refine SWP.perm hp (SWP.bind (SWP.storeCells (by rw [List.length_map, List.length_map, hm, hm2]) (by intro v hv; obtain ⟨c, _, rfl⟩ := List.mem_map.1 hv; rfl) (SWP.pure ?_)))
  refine ⟨_, _, [], .inl rfl, ?_, h⟩
  simp only [List.flatten_cons, List.append_nil]
  rw [← List.append_assoc]
  exact (hW2 _ (by rw [hm, hm2])).append_right _
end
theorem slide_low {x : HW} (hx : HOk x) {f t tp : Nat} (hr : x.a.rm[4]? = some (f, t, tp)) {A C : List Ob} {b : Ob} (e : oldO x.a = A ++ b :: C) :
    slidEnd f A ≤ b.at_ ∧ (∀ c ∈ lowO x.a ++ slid f A, c.stop ≤ slidEnd f A) ∧ b.stop ≤ tp ∧ f ≤ b.at_ ∧ b.at_ < t := by
  have hroom : roomR x.a 4 = (f, t, tp) := by unfold roomR; rw [hr]; rfl
  have hsort := hx.lay.sort
  have hold : ∀ c ∈ oldO x.a, c ∈ x.a.obs ∧ f ≤ c.at_ ∧ c.at_ < t := fun c hc => by
    obtain ⟨h1, h2⟩ := List.mem_filter.1 hc
    rw [hroom] at h2
    simp only [decide_eq_true_eq] at h2
    exact ⟨h1, h2⟩
  have hb := hold b (by rw [e]; simp)
  have hs2 : (A ++ b :: C).Pairwise fun x y => x.stop ≤ y.at_ := by rw [← e]; exact hsort.sublist List.filter_sublist
  have hfe := slidEnd_le A f
  refine ⟨slidEnd_head A f b (fun c hc => (hold c (by rw [e]; simp only [List.mem_append, List.mem_singleton] at hc; simp only [List.mem_append, List.mem_cons]; exact hc.elim .inl (fun h => .inr (.inl h)))).2.1) (by
    have : (A ++ [b]).Sublist (A ++ b :: C) := List.Sublist.append_left (List.Sublist.cons_cons b (List.nil_sublist C)) A
    exact hs2.sublist this), fun c hc => ?_, ?_, hb.2.1, hb.2.2⟩
  · rcases List.mem_append.1 hc with hc | hc
    · obtain ⟨h1, h2⟩ := List.mem_filter.1 hc
      rw [hroom] at h2
      simp only [decide_eq_true_eq] at h2
      obtain ⟨i, r, g1, g2, g3, g4⟩ := hx.rm.inn c h1
      have hrg := hx.rm.rng i r g2
      have hr4 := hx.rm.rng 4 _ hr
      simp only at hr4
      have g5 : c.stop ≤ r.2.1 := by split at g4 <;> omega
      by_cases h4 : i = 4
      · subst h4
        rw [hr] at g2
        cases g2
        simp only at g3; omega
      · rcases Nat.lt_or_gt_of_ne h4 with h | h
        · have := hx.rm.apart i 4 r _ h g2 hr g1
          simp only at this; omega
        · have := hx.rm.apart 4 i _ r h hr g2 (by omega)
          simp only at this; omega
    · exact (slid_bound A f c hc).2
  · obtain ⟨i, r, g1, g2, g3, g4⟩ := hx.rm.inn b hb.1
    have hrg := hx.rm.rng i r g2
    have g5 : b.stop ≤ r.2.1 := by split at g4 <;> omega
    have hbs : b.at_ < b.stop := by unfold Ob.stop; omega
    by_cases h4 : i = 4
    · subst h4
      rw [hr] at g2
      cases g2
      rw [if_neg (by omega)] at g4
      exact g4
    · exfalso
      rcases Nat.lt_or_gt_of_ne h4 with h | h
      · have := hx.rm.apart i 4 r _ h g2 hr g1
        simp only at this; omega
      · have := hx.rm.apart 4 i _ r h hr g2 (by omega)
        simp only at this; omega
def slideK (a : AH) (A D : List Ob) : AH := { a with obs := lowO a ++ (slid (roomR a 4).1 A ++ (D ++ highO a)) }
def headW : List Ob → Int
  | [] => -1
  | b :: _ => b.at_
theorem slide_next {x : HW} (hx : HOk x) {f t tp : Nat} (hr : x.a.rm[4]? = some (f, t, tp)) {A C : List Ob} {b : Ob} (e : oldO x.a = A ++ b :: C) :
    nextN (atsA (slideK x.a (A ++ [b]) C)) (b.at_ + 1) t = headW C := by
  have hroom : roomR x.a 4 = (f, t, tp) := by unfold roomR; rw [hr]; rfl
  obtain ⟨h1, h2, h3, h4, h5⟩ := slide_low hx hr e
  have hsort := hx.lay.sort
  have hs2 : (A ++ b :: C).Pairwise fun x y => x.stop ≤ y.at_ := by rw [← e]; exact hsort.sublist List.filter_sublist
  rw [nextN_head]
  unfold atsA slideK
  rw [hroom]
  simp only [List.map_append, List.filter_append]
  have z1 : ((lowO x.a).map (·.at_)).filter (fun v => decide (b.at_ + 1 ≤ v ∧ v < t)) = [] := List.filter_eq_nil_iff.2 fun v hv => by
    obtain ⟨c, hc, rfl⟩ := List.mem_map.1 hv
    have := (List.mem_filter.1 hc).2
    rw [hroom] at this
    simp only [decide_eq_true_eq] at this ⊢; omega
  have z2 : ((slid f (A ++ [b])).map (·.at_)).filter (fun v => decide (b.at_ + 1 ≤ v ∧ v < t)) = [] := List.filter_eq_nil_iff.2 fun v hv => by
    obtain ⟨c, hc, rfl⟩ := List.mem_map.1 hv
    rw [slid_app] at hc
    simp only [decide_eq_true_eq]
    rcases List.mem_append.1 hc with hc | hc
    · have := h2 c (List.mem_append_right _ hc)
      unfold Ob.stop at this; omega
    · simp only [slid, List.mem_singleton] at hc
      subst hc
      simp only; omega
  have z3 : ((highO x.a).map (·.at_)).filter (fun v => decide (b.at_ + 1 ≤ v ∧ v < t)) = [] := List.filter_eq_nil_iff.2 fun v hv => by
    obtain ⟨c, hc, rfl⟩ := List.mem_map.1 hv
    have := (List.mem_filter.1 hc).2
    rw [hroom] at this
    simp only [decide_eq_true_eq] at this ⊢; omega
  have z4 : (C.map (·.at_)).filter (fun v => decide (b.at_ + 1 ≤ v ∧ v < t)) = C.map (·.at_) := List.filter_eq_self.2 fun v hv => by
    obtain ⟨c, hc, rfl⟩ := List.mem_map.1 hv
    have g1 := (List.mem_filter.1 (show c ∈ oldO x.a by rw [e]; simp [hc])).2
    rw [hroom] at g1
    rw [List.pairwise_append, List.pairwise_cons] at hs2
    have := hs2.2.1.1 c hc
    unfold Ob.stop at this
    simp only [decide_eq_true_eq] at g1 ⊢; omega
  rw [z1, z2, z3, z4, List.nil_append, List.nil_append, List.append_nil]
  cases C <;> rfl
theorem slide_first {x : HW} (hx : HOk x) {f t tp : Nat} (hr : x.a.rm[4]? = some (f, t, tp)) : nextN (atsA x.a) f t = headW (oldO x.a) := by
  have hroom : roomR x.a 4 = (f, t, tp) := by unfold roomR; rw [hr]; rfl
  have h := next_first x.a 4
  rw [hroom] at h
  simp only at h
  rw [h]
  have : roomL x.a 4 = (oldO x.a).map (·.at_) := by
    unfold roomL oldO atsA
    rw [hroom, List.filter_map]; rfl
  rw [this]
  cases oldO x.a <;> rfl
def vI (z : Int) : Value := vi z
def noPl (m : List (Nat × Int)) (o : Nat) : List (Nat × Int) := mset o (-1) m
def plS (m : List (Nat × Int) × Nat) (w : Nat) : List (Nat × Int) × Nat := (if (mget (8 * w) m.1).isSome then mset (8 * w) (m.2 : Int) m.1 else m.1, m.2 + 1)
def placeA (ws l : List Nat) : List (Nat × Int) := (ws.foldl plS (l.foldl noPl [], 0)).1
def goneTo (pl : List (Nat × Int)) (now : List Nat) (o : Nat) : Nat := if 0 ≤ (mget o pl).getD 0 then now.getD ((mget o pl).getD 0).toNat 0 else o
theorem plS_none {m : List (Nat × Int) × Nat} {w : Nat} (h : mget (8 * w) m.1 = none) : (plS m w).1 = m.1 := by
  unfold plS; rw [h]; rfl
theorem plS_some {m : List (Nat × Int) × Nat} {w : Nat} {u : Int} (h : mget (8 * w) m.1 = some u) : (plS m w).1 = mset (8 * w) (m.2 : Int) m.1 := by
  unfold plS; rw [h]; rfl
theorem plS_snd : ∀ (ws : List Nat) (m : List (Nat × Int) × Nat), (ws.foldl plS m).2 = m.2 + ws.length
  | [], _ => rfl
  | w :: ws, m => by rw [List.foldl_cons, plS_snd ws]; simp only [plS, List.length_cons]; omega
theorem mget_msetI {k o : Nat} {v : Int} : ∀ {m : List (Nat × Int)}, mget o (mset k v m) = if k = o then some v else mget o m
  | [] => by
    show (if k = o then some v else none) = _
    by_cases h : k = o
    · rw [if_pos h, if_pos h]
    · rw [if_neg h, if_neg h]; rfl
  | (a, u) :: r => by
    have ih := mget_msetI (k := k) (o := o) (v := v) (m := r)
    unfold mset
    by_cases hak : a = k
    · subst hak
      rw [if_pos rfl]
      show (if a = o then some v else mget o r) = if a = o then some v else (if a = o then some u else mget o r)
      by_cases h : a = o
      · rw [if_pos h, if_pos h]
      · rw [if_neg h, if_neg h, if_neg h]
    · rw [if_neg hak]
      show (if a = o then some u else mget o (mset k v r)) = if k = o then some v else (if a = o then some u else mget o r)
      rw [ih]
      by_cases h : a = o
      · rw [if_pos h, if_pos h, if_neg (fun e => hak (h.trans e.symm))]
      · rw [if_neg h, if_neg h]
theorem place_lt : ∀ (ws : List Nat) (m : List (Nat × Int) × Nat), (∀ o v, mget o m.1 = some v → v < m.2) → ∀ o v, mget o (ws.foldl plS m).1 = some v → v < ((ws.foldl plS m).2 : Int)
  | [], _, h, o, v, hv => h o v hv
  | w :: ws, m, h, o, v, hv => by
    rw [List.foldl_cons] at hv ⊢
    refine place_lt ws (plS m w) (fun o' v' hv' => ?_) o v hv
    simp only [plS] at hv' ⊢
    split at hv'
    · rw [mget_msetI] at hv'
      split at hv'
      · cases hv'; omega
      · have := h o' v' hv'; omega
    · have := h o' v' hv'; omega
theorem noPl_lt : ∀ (l : List Nat) (m : List (Nat × Int)), (∀ o v, mget o m = some v → v < 0) → ∀ o v, mget o (l.foldl noPl m) = some v → v < 0
  | [], _, h, o, v, hv => h o v hv
  | a :: l, m, h, o, v, hv => by
    rw [List.foldl_cons] at hv
    refine noPl_lt l (noPl m a) (fun o' v' hv' => ?_) o v hv
    unfold noPl at hv'
    rw [mget_msetI] at hv'
    split at hv'
    · cases hv'; omega
    · exact h o' v' hv'
theorem placeA_lt (ws l : List Nat) : ∀ o v, mget o (placeA ws l) = some v → v < (ws.length : Int) := fun o v hv => by
  have := place_lt ws (l.foldl noPl [], 0) (fun o v hv => by
    have := noPl_lt l [] (fun o v h => by cases h) o v hv
    simp only; omega) o v hv
  rw [plS_snd] at this
  simpa using this
theorem noPl_some : ∀ (l : List Nat) (m : List (Nat × Int)) (o : Nat), (o ∈ l ∨ (mget o m).isSome = true) → (mget o (l.foldl noPl m)).isSome = true
  | [], _, _, h => h.resolve_left (by simp)
  | a :: l, m, o, h => by
    rw [List.foldl_cons]
    refine noPl_some l (noPl m a) o ?_
    unfold noPl
    rw [mget_msetI]
    by_cases e : a = o
    · rw [if_pos e]; exact .inr rfl
    · rw [if_neg e]
      rcases h with h | h
      · exact .inl ((List.mem_cons.1 h).resolve_left (fun k => e k.symm))
      · exact .inr h
theorem plS_isSome : ∀ (ws : List Nat) (m : List (Nat × Int) × Nat) (o : Nat), (mget o m.1).isSome = true → (mget o (ws.foldl plS m).1).isSome = true
  | [], _, _, h => h
  | w :: ws, m, o, h => by
    rw [List.foldl_cons]
    refine plS_isSome ws (plS m w) o ?_
    unfold plS
    simp only
    split
    · rw [mget_msetI]
      split
      · rfl
      · exact h
    · exact h
theorem placeA_some (ws l : List Nat) {o : Nat} (h : o ∈ l) : (mget o (placeA ws l)).isSome = true := plS_isSome ws _ o (noPl_some l [] o (.inl h))
theorem slide_room {x z : HW} (hx : HOk x) (h : z.a = slideA x.a) : (roomL z.a 4).length = (roomL x.a 4).length := by
  obtain ⟨f, t, tp, hr, hroom, r1, r2, r3⟩ := room4 hx
  have hold : roomL x.a 4 = (oldO x.a).map (·.at_) := by
    unfold roomL oldO atsA
    rw [hroom, List.filter_map]; rfl
  have hn : (roomR (slideA x.a) 4) = (f, t, slidEnd f (oldO x.a)) := by
    unfold roomR slideA
    simp only
    rw [List.getElem?_set_self (List.getElem?_eq_some_iff.1 hr).1, hroom]
    rfl
  have hats : atsA (slideA x.a) = (lowO x.a).map (·.at_) ++ ((slid f (oldO x.a)).map (·.at_) ++ (highO x.a).map (·.at_)) := by
    unfold atsA slideA slideObs
    rw [hroom]
    simp only [List.map_map, List.map_append]
    rfl
  have hend : slidEnd f (oldO x.a) ≤ t := by
    cases hlast : (oldO x.a).reverse with
    | nil =>
      have : oldO x.a = [] := by simpa using hlast
      rw [this]; show f ≤ t; omega
    | cons b r =>
      have e : oldO x.a = r.reverse ++ b :: [] := by
        have := congrArg List.reverse hlast
        simpa using this
      obtain ⟨g1, g2, g3, g4, g5⟩ := slide_low hx hr e
      rw [e, slidEnd_app]
      show slidEnd f r.reverse + 2 + b.hd.slots ≤ t
      unfold Ob.stop at g3
      omega
  have hl : ∀ l to, (slid to l).length = l.length := by
    intro l
    induction l with
    | nil => intro to; rfl
    | cons b r ih => intro to; simp only [slid, List.length_cons, ih]
  rw [h, hold]
  unfold roomL
  rw [hn, hats]
  simp only [List.filter_append, List.length_append]
  have z1 : ((lowO x.a).map (·.at_)).filter (fun v => decide (f ≤ v ∧ v < t)) = [] := List.filter_eq_nil_iff.2 fun v hv => by
    obtain ⟨c, hc, rfl⟩ := List.mem_map.1 hv
    have := (List.mem_filter.1 hc).2
    rw [hroom] at this
    simp only [decide_eq_true_eq] at this ⊢; omega
  have z2 : ((slid f (oldO x.a)).map (·.at_)).filter (fun v => decide (f ≤ v ∧ v < t)) = (slid f (oldO x.a)).map (·.at_) := List.filter_eq_self.2 fun v hv => by
    obtain ⟨c, hc, rfl⟩ := List.mem_map.1 hv
    have := slid_bound (oldO x.a) f c hc
    unfold Ob.stop at this
    simp only [decide_eq_true_eq]; omega
  have z3 : ((highO x.a).map (·.at_)).filter (fun v => decide (f ≤ v ∧ v < t)) = [] := List.filter_eq_nil_iff.2 fun v hv => by
    obtain ⟨c, hc, rfl⟩ := List.mem_map.1 hv
    have := (List.mem_filter.1 hc).2
    rw [hroom] at this
    simp only [decide_eq_true_eq] at this ⊢; omega
  rw [z1, z2, z3]
  simp [hl]
def stepF (t : MS × Nat) : Option (MS × Nat) :=
  match t.1.line[t.2]? with
  | some o => some (oneM t.1 o, t.2 + 1)
  | none => if (againM t.1).waiting.length < t.1.waiting.length then some (againM t.1, t.2)
      else if (againM t.1).waiting ≠ [] then some (fireM (againM t.1), t.2) else none
theorem mstep_f {t u : MS × Nat} (h : MStep t u) : stepF t = some u := by
  cases h with
  | one h => unfold stepF; simp only [h]
  | again h1 h2 =>
    unfold stepF
    simp only [List.getElem?_eq_none (Nat.le_of_eq h1.symm)]
    rw [if_pos h2]
  | fire h1 h2 h3 =>
    unfold stepF
    simp only [List.getElem?_eq_none (Nat.le_of_eq h1.symm)]
    rw [if_neg h2, if_pos h3]
def stepsF : Nat → MS × Nat → Option (MS × Nat)
  | 0, t => some t
  | n + 1, t => (stepF t).bind (stepsF n)
theorem stepsF_add (m : Nat) : ∀ (n : Nat) (t : MS × Nat), stepsF (n + m) t = (stepsF n t).bind (stepsF m)
  | 0, t => by rw [Nat.zero_add]; rfl
  | n + 1, t => by
    rw [Nat.add_right_comm]
    show (stepF t).bind (stepsF (n + m)) = ((stepF t).bind (stepsF n)).bind (stepsF m)
    cases stepF t with
    | none => rfl
    | some u => exact stepsF_add m n u
theorem msteps_f {t u : MS × Nat} (h : MSteps t u) : ∃ n, stepsF n t = some u := by
  induction h with
  | refl => exact ⟨0, rfl⟩
  | more _ h2 ih =>
    obtain ⟨n, hn⟩ := ih
    refine ⟨n + 1, ?_⟩
    rw [stepsF_add, hn]
    show (stepF _).bind (stepsF 0) = _
    rw [mstep_f h2]; rfl
theorem stepF_end {s : MS} (hw : s.waiting = []) : stepF (s, s.line.length) = none := by
  have e : (againM s).waiting = [] := by unfold againM; rw [hw]; rfl
  unfold stepF
  simp only [List.getElem?_eq_none (Nat.le_refl _), e, hw]
  simp
theorem stepsF_one {t u s : MS × Nat} {m n : Nat} (h1 : stepsF m t = some u) (h2 : stepF u = none) (h3 : stepsF n t = some s) (h4 : stepF s = none) : s = u := by
  have key : ∀ {m n : Nat} {u s : MS × Nat}, m ≤ n → stepsF m t = some u → stepF u = none → stepsF n t = some s → s = u := by
    intro m n u s hmn h1 h2 h3
    obtain ⟨k, rfl⟩ := Nat.exists_eq_add_of_le hmn
    rw [stepsF_add, h1] at h3
    cases k with
    | zero => cases h3; rfl
    | succ k => 
      have : (stepF u).bind (stepsF k) = some s := h3
      rw [h2] at this; cases this
  rcases Nat.le_total m n with h | h
  · exact key h h1 h2 h3
  · exact (key h h3 h4 h1).symm
theorem msteps_end {s1 s : MS} {i : Nat} (h : MSteps (s1, 0) (s, i)) (hi : i = s.line.length) (hw : s.waiting = []) {n : Nat} {u : MS × Nat} (h1 : stepsF n (s1, 0) = some u) (h2 : stepF u = none) : s = u.1 := by
  obtain ⟨m, hm⟩ := msteps_f h
  subst hi
  have := stepsF_one h1 h2 hm (stepF_end hw)
  exact congrArg Prod.fst this
end Go.V

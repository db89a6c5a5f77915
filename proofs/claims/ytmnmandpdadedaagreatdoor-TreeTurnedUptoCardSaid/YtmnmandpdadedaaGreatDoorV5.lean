/-
  Triples over lowered code and functions.
-/
import Derived.Test.YtmnmandpdadedaaGreatDoorV4
set_option linter.unusedSimpArgs false
set_option linter.unusedVariables false
namespace Go.V
open Go
inductive IC where
  | skip
  | reg (rs : List RO) (keep : List Nat)
  | draw (rss : List (List RO)) (keep : List Nat)
  | seq (a b : IC)
  | cond (c : Operand) (a b : IC)
  | block (id : Nat) (b : IC)
  | loop (b : IC)
  | exit (id : Nat)
  | ret
  | rangef (g : Operand) (ps : List Nat) (asg b : IC)
  | free (rs : List RO) (an : List (List Nat)) (keep : List Nat)
def lowList (P : Program) (n : Nat) (ops : Array Oper) : List Oper → Option (List RO)
  | [] => some []
  | o :: r => match lowRO P n ops o, lowList P n ops r with
    | some x, some l => some (x :: l)
    | _, _ => none
def lowC (P : Program) (n : Nat) (kp : Nat → List Nat) (od : Nat → List (List Nat)) : Code → Option IC
  | .skip => some .skip
  | .region id ops false => (lowList P n ops ops.toList).map fun rs => .reg rs (kp id)
  | .region id ops true =>
    match lowList P n ops ops.toList with
    | some rs => if (od id).isEmpty then (if P.follows .mixedOrders && backEdges ops then some (.free rs (ancs ops) (kp id)) else none) else
      if P.follows .mixedOrders && coverB (rs.zip ops.toList) ops (od id) then some (.draw ((od id).map fun o => o.map fun i => rs.getD i default) (kp id)) else none
    | none => none
  | .seq a b => match lowC P n kp od a, lowC P n kp od b with
    | some x, some y => some (.seq x y)
    | _, _ => none
  | .cond c a b => match lowC P n kp od a, lowC P n kp od b with
    | some x, some y => some (.cond c x y)
    | _, _ => none
  | .block id b => (lowC P n kp od b).map (IC.block id)
  | .loop b => (lowC P n kp od b).map IC.loop
  | .exit id => some (.exit id)
  | .ret => some .ret
  | .rangeFunc g ps x b => match lowC P n kp od x, lowC P n kp od b with
    | some x, some y => if ps.all (· < n) then some (.rangef g ps.toList x y) else none
    | _, _ => none
  | _ => none
def LowInv (P : Program) (n : Nat) (kp : Nat → List Nat) (od : Nat → List (List Nat)) : IC → Code → Prop
  | .skip, code => code = .skip
  | .reg rs keep, code => ∃ id ops, code = .region id ops false ∧ lowList P n ops ops.toList = some rs ∧ keep = kp id
  | .draw rss keep, code => ∃ id ops rs, code = .region id ops true ∧ lowList P n ops ops.toList = some rs ∧ P.follows .mixedOrders = true ∧ coverB (rs.zip ops.toList) ops (od id) = true ∧ rss = ((od id).map fun o => o.map fun i => rs.getD i default) ∧ keep = kp id
  | .free rs an keep, code => ∃ id ops, code = .region id ops true ∧ lowList P n ops ops.toList = some rs ∧ P.follows .mixedOrders = true ∧ backEdges ops = true ∧ an = ancs ops ∧ keep = kp id
  | .seq x y, code => ∃ a b, code = .seq a b ∧ lowC P n kp od a = some x ∧ lowC P n kp od b = some y
  | .cond c x y, code => ∃ a b, code = .cond c a b ∧ lowC P n kp od a = some x ∧ lowC P n kp od b = some y
  | .block id x, code => ∃ a, code = .block id a ∧ lowC P n kp od a = some x
  | .loop x, code => ∃ a, code = .loop a ∧ lowC P n kp od a = some x
  | .exit id, code => code = .exit id
  | .ret, code => code = .ret
  | .rangef g ps x y, code => ∃ qs a b, code = .rangeFunc g qs a b ∧ qs.toList = ps ∧ (∀ t ∈ ps, t < n) ∧ lowC P n kp od a = some x ∧ lowC P n kp od b = some y
theorem lowC_inv {P : Program} {n : Nat} {kp : Nat → List Nat} {od : Nat → List (List Nat)} {code : Code} {c : IC} (h : lowC P n kp od code = some c) : LowInv P n kp od c code := by
  cases code with
  | skip => simp only [lowC] at h; cases h; rfl
  | region id ops b =>
    cases b
    · simp only [lowC, Option.map_eq_some_iff] at h
      obtain ⟨rs, h1, rfl⟩ := h
      exact ⟨id, ops, rfl, h1, rfl⟩
    · simp only [lowC] at h
      split at h
      case h_2 => cases h
      rename_i rs h1
      split at h
      · split at h
        case isFalse => cases h
        rename_i hc
        simp only [Bool.and_eq_true] at hc
        cases h
        exact ⟨id, ops, rfl, h1, hc.1, hc.2, rfl, rfl⟩
      split at h
      case isFalse => cases h
      rename_i hc
      simp only [Bool.and_eq_true] at hc
      cases h
      exact ⟨id, ops, rs, rfl, h1, hc.1, hc.2, rfl, rfl⟩
  | seq a b =>
    simp only [lowC] at h
    split at h
    case h_2 => cases h
    rename_i x y h1 h2
    cases h; exact ⟨a, b, rfl, h1, h2⟩
  | cond q a b =>
    simp only [lowC] at h
    split at h
    case h_2 => cases h
    rename_i x y h1 h2
    cases h; exact ⟨a, b, rfl, h1, h2⟩
  | block id b =>
    simp only [lowC, Option.map_eq_some_iff] at h
    obtain ⟨x, h1, rfl⟩ := h
    exact ⟨b, rfl, h1⟩
  | loop b =>
    simp only [lowC, Option.map_eq_some_iff] at h
    obtain ⟨x, h1, rfl⟩ := h
    exact ⟨b, rfl, h1⟩
  | exit id => simp only [lowC] at h; cases h; rfl
  | ret => simp only [lowC] at h; cases h; rfl
  | rangeFunc g ps a b =>
    simp only [lowC] at h
    split at h
    case h_2 => cases h
    rename_i x y h1 h2
    split at h
    case isFalse => cases h
    rename_i hp
    cases h
    exact ⟨ps, a, b, rfl, rfl, fun t ht => by have := Array.all_eq_true_iff_forall_mem.1 hp t (by simpa using ht); simpa using this, h1, h2⟩
  | _ => simp only [lowC] at h; cases h
def restr : List Nat → Env → Env
  | [], _ => []
  | t :: r, Γ => match look Γ t with
    | some v => (t, v) :: restr r Γ
    | none => restr r Γ
theorem sub_restr (k : List Nat) (Γ : Env) : Sub Γ (restr k Γ) := by
  induction k with
  | nil => intro t v h; simp [restr, look] at h
  | cons s r ih =>
    intro t v h
    simp only [restr] at h
    split at h
    · rename_i u hu
      simp only [look] at h
      split at h
      · rename_i e; subst e; cases h; exact hu
      · exact ih t v h
    · exact ih t v h
def coll (r : Nat) : Deferred := { target := .collected r, args := #[] }
def marks (X : List Nat) : List Atom := X.map fun r => .obj r (.deferred (some []))
def Rnd (ρ : Option Nat) (F : List Atom) : Prop := ∀ l, ρ = some l → ∃ r, Atom.obj l (.loop r) ∈ F
theorem Rnd.more {ρ : Option Nat} {F F' : List Atom} (h : Rnd ρ F) (hf : ∀ x ∈ F, x ∈ F') : Rnd ρ F' := fun l e => let ⟨r, hr⟩ := h l e; ⟨r, hf _ hr⟩
def VC (P : Program) (n : Nat) (c : IC) (Γ : Env) (H : SH) (Q : Exit → Env → SH → Prop) : Prop :=
  ∀ ρ kp od code, lowC P n kp od code = some c → ∀ a w F (QQ : Exit → Act → World → Prop), Rnd ρ F → Agree n Γ a → Sat w (H.flatten ++ F) →
    (∀ e a' w' Γ' H' X, Q e Γ' H' → Agree n Γ' a' → a'.defers = X.map coll ++ a.defers → Sat w' (H'.flatten ++ (F ++ marks X)) → Keeps w w' → QQ e a' w') → code.wpIn (VFc ρ) 0 P QQ a w
def Imp (H H' : SH) : Prop := ∃ R, Spl H H' R
theorem Imp.refl (H : SH) : Imp H H := ⟨[], by simp [Spl]⟩
theorem Sat.imp {w : World} {H H' : SH} {F : List Atom} (h : Imp H H') (hs : Sat w (H.flatten ++ F)) : Sat w (H'.flatten ++ F) := by
  obtain ⟨R, hR⟩ := h
  have := hs.perm (hR.append_right F)
  rw [List.append_assoc] at this
  exact this.sub ((List.Sublist.refl _).append (List.sublist_append_right _ _))
def thenQ (K : Env → SH → Prop) (Q : Exit → Env → SH → Prop) : Exit → Env → SH → Prop
  | .normal, Γ, H => K Γ H
  | e, Γ, H => Q e Γ H
def blockQ (id : Nat) (Q : Exit → Env → SH → Prop) : Exit → Env → SH → Prop
  | .exit i, Γ, H => if i = id then Q .normal Γ H else Q (.exit i) Γ H
  | e, Γ, H => Q e Γ H
section
variable {P : Program} {n : Nat} {Γ Δ : Env} {H : SH} {Q Q' : Exit → Env → SH → Prop}
theorem marks_app (X Y : List Nat) : marks (X ++ Y) = marks X ++ marks Y := by simp [marks]
theorem Sat.marks {w : World} {L F : List Atom} {X Y : List Nat} (h : Sat w (L ++ ((F ++ marks X) ++ marks Y))) : Sat w (L ++ (F ++ marks (Y ++ X))) := by
  refine h.perm (List.Perm.append_left _ ?_)
  rw [marks_app, List.append_assoc]
  exact List.Perm.append_left _ List.perm_append_comm
theorem Sat.nomarks {w : World} {L F : List Atom} (h : Sat w (L ++ F)) : Sat w (L ++ (F ++ V.marks [])) := by simpa [V.marks] using h
theorem VC.mono {c : IC} (h : VC P n c Γ H Q) (hq : ∀ e Γ H, Q e Γ H → Q' e Γ H) : VC P n c Γ H Q' := fun ρ kp od code hl a w F QQ hr ha hs hh =>
  h ρ kp od code hl a w F QQ hr ha hs (fun e a' w' Γ' H' X q => hh e a' w' Γ' H' X (hq _ _ _ q))
theorem VC.sub {c : IC} (s : Sub Γ Δ) (h : VC P n c Δ H Q) : VC P n c Γ H Q := fun ρ kp od code hl a w F QQ hr ha hs hh => h ρ kp od code hl a w F QQ hr (ha.sub s) hs hh
theorem VC.imp {c : IC} {H' : SH} (i : Imp H H') (h : VC P n c Γ H' Q) : VC P n c Γ H Q := fun ρ kp od code hl a w F QQ hr ha hs hh => h ρ kp od code hl a w F QQ hr ha (hs.imp i) hh
theorem VC.frame {c : IC} {H' R : SH} (s : Spl H H' R) (h : VC P n c Γ H' fun e Γ' H'' => Q e Γ' (H'' ++ R)) : VC P n c Γ H Q := fun ρ kp od code hl a w F QQ hr ha hs hh => by
  have hs' : Sat w (H'.flatten ++ (R.flatten ++ F)) := by rw [← List.append_assoc]; exact hs.perm (s.append_right F)
  refine h ρ kp od code hl a w (R.flatten ++ F) QQ (hr.more (fun x hx => List.mem_append_right _ hx)) ha hs' (fun e a' w' Γ' H'' X q g1 g2 g3 g4 => hh e a' w' Γ' (H'' ++ R) X q g1 g2 ?_ g4)
  rw [List.flatten_append, List.append_assoc]; simpa [List.append_assoc] using g3
theorem VC.skip (h : Q .normal Γ H) : VC P n .skip Γ H Q := by
  intro ρ kp od code hl a w F QQ hr ha hs hh
  obtain rfl := lowC_inv hl
  exact wpIn_skip (hh _ _ _ _ _ [] h ha rfl hs.nomarks (.refl w))
theorem VC.exit {id : Nat} (h : Q (.exit id) Γ H) : VC P n (.exit id) Γ H Q := by
  intro ρ kp od code hl a w F QQ hr ha hs hh
  obtain rfl := lowC_inv hl
  exact wpIn_exit (hh _ _ _ _ _ [] h ha rfl hs.nomarks (.refl w))
theorem VC.ret (h : Q .ret Γ H) : VC P n .ret Γ H Q := by
  intro ρ kp od code hl a w F QQ hr ha hs hh
  obtain rfl := lowC_inv hl
  exact wpIn_ret (hh _ _ _ _ _ [] h ha rfl hs.nomarks (.refl w))
theorem VC.cond {c : Operand} {x y : IC} {t : Bool} (hc : ev Γ c = some (.bool t)) (ht : t = true → VC P n x Γ H Q) (hf : t = false → VC P n y Γ H Q) : VC P n (.cond c x y) Γ H Q := by
  intro ρ kp od code hl a w F QQ hr ha hs hh
  obtain ⟨p, q, rfl, h1, h2⟩ := lowC_inv hl
  exact wpIn_cond_split (ha.ev hc) (fun e => ht e ρ kp od _ h1 a w F QQ hr ha hs hh) (fun e => hf e ρ kp od _ h2 a w F QQ hr ha hs hh)
theorem VC.seq {x y : IC} (h : VC P n x Γ H (thenQ (fun Γ' H' => VC P n y Γ' H' Q) Q)) : VC P n (.seq x y) Γ H Q := by
  intro ρ kp od code hl a w F QQ hr ha hs hh
  obtain ⟨p, q, rfl, h1, h2⟩ := lowC_inv hl
  refine wpIn_seq (h ρ kp od _ h1 a w F _ hr ha hs (fun e a' w' Γ' H' X q g1 g2 g3 g4 => ?_))
  cases e <;> first
    | exact q ρ kp od _ h2 a' w' (F ++ marks X) QQ (hr.more (fun x hx => List.mem_append_left _ hx)) g1 g3 (fun e a2 w2 Γ2 H2 Y q2 k1 k2 k3 k4 => hh e a2 w2 Γ2 H2 (Y ++ X) q2 k1 (by rw [k2, g2]; simp) k3.marks (g4.trans k4))
    | exact hh _ _ _ _ _ X q g1 g2 g3 g4
theorem VC.block {id : Nat} {x : IC} (h : VC P n x Γ H (blockQ id Q)) : VC P n (.block id x) Γ H Q := by
  intro ρ kp od code hl a w F QQ hr ha hs hh
  obtain ⟨p, rfl, h1⟩ := lowC_inv hl
  refine wpIn_block (h ρ kp od _ h1 a w F _ hr ha hs (fun e a' w' Γ' H' X q g1 g2 g3 g4 => ?_))
  cases e <;> first
    | exact hh _ _ _ _ _ X q g1 g2 g3 g4
    | skip
  rename_i i
  simp only [blockQ] at q
  simp only [Exit.inBlock]
  split at q
  · rename_i e; rw [if_pos e]; exact hh _ _ _ _ _ X q g1 g2 g3 g4
  · rename_i e; rw [if_neg e]; exact hh _ _ _ _ _ X q g1 g2 g3 g4
theorem lowList_length {ops : Array Oper} : ∀ {l : List Oper} {rs : List RO}, lowList P n ops l = some rs → rs.length = l.length ∧ ∀ (i : Nat) r o, rs[i]? = some r → l[i]? = some o → lowRO P n ops o = some r := by
  intro l
  induction l with
  | nil => intro rs h; simp [lowList] at h; subst h; simp
  | cons o l ih =>
    intro rs h
    simp only [lowList] at h
    split at h
    · rename_i x l' hx hl
      cases h
      obtain ⟨h1, h2⟩ := ih hl
      refine ⟨by simp [h1], fun i r o' hr ho => ?_⟩
      cases i with
      | zero => simp at hr ho; subst hr ho; exact hx
      | succ i => simp at hr ho; exact h2 i r o' hr ho
    · cases h
theorem zip_getD {ops : Array Oper} {rs : List RO} (h : lowList P n ops ops.toList = some rs) {i : Nat} (hi : i < ops.size) :
    ops[i]? = some ((rs.zip ops.toList).getD i default).2 ∧ ((rs.zip ops.toList).getD i default).1 = rs.getD i default ∧ lowRO P n ops ((rs.zip ops.toList).getD i default).2 = some ((rs.zip ops.toList).getD i default).1 := by
  obtain ⟨h1, h2⟩ := lowList_length h
  have hl : i < rs.length := by rw [h1]; simpa using hi
  have hz : (rs.zip ops.toList)[i]? = some (rs[i], ops[i]) := by
    rw [List.getElem?_eq_getElem (by rw [List.length_zip]; simp only [Array.length_toList]; omega)]; simp
  have he : (rs.zip ops.toList).getD i default = (rs[i], ops[i]) := by rw [List.getD_eq_getElem?_getD, hz]; rfl
  rw [he]
  refine ⟨by simp [hi], by simp [List.getD_eq_getElem?_getD, hl], ?_⟩
  exact h2 i rs[i] ops[i] (by simp [hl]) (by simp [hi])
theorem VC.reg {rs : List RO} {keep : List Nat} (h : VO P n rs Γ H (fun ch Γ' H' => Q (.panic ch) Γ' H') fun Γ' H' => Q .normal (restr keep Γ') H') : VC P n (.reg rs keep) Γ H Q := by
  intro ρ kp od code hl a w F QQ hr ha hs hh
  obtain ⟨id, ops, rfl, h1, rfl⟩ := lowC_inv hl
  refine wpIn_region ?_
  refine wpR_sound (P := P) (ρ := ρ) (n := n) (ops := ops) (X := fun i => (rs.zip ops.toList).getD i default) (QQ := QQ) (fun i hi => ?_) (List.range ops.size) a w (fun i hi => by simpa using hi) ?_
  · obtain ⟨g1, g2, g3⟩ := zip_getD h1 hi; exact ⟨g1, g3⟩
  · have hlen := (lowList_length h1).1
    have hmap : (List.range ops.size).map (fun i => (rs.zip ops.toList).getD i default) = rs.zip ops.toList := by
      have hzl : (rs.zip ops.toList).length = ops.size := by simp [hlen]
      apply List.ext_getElem?
      intro i
      simp only [List.getElem?_map]
      by_cases hi : i < ops.size
      · rw [List.getElem?_range hi, Option.map_some]
        rw [List.getD_eq_getElem?_getD]
        have : i < (rs.zip ops.toList).length := by omega
        rw [List.getElem?_eq_getElem this]; rfl
      · rw [List.getElem?_eq_none (l := List.range ops.size) (by simpa using hi), List.getElem?_eq_none (by omega)]; rfl
    rw [hmap]
    refine h (rs.zip ops.toList) ⟨?_, ?_⟩ a w F _ _ ha hs (fun a' w' Γ' H' q g1 g2 g3 g4 => hh .normal a' w' _ H' [] q (g1.sub (sub_restr _ _)) g2 g3.nomarks g4) (fun ch a' w' Γ' H' q g1 g2 g3 g4 => hh (.panic ch) a' w' _ H' [] q g1 g2 g3.nomarks g4)
    · rw [List.map_fst_zip]; simp [hlen]
    · intro x hx
      obtain ⟨i, hi⟩ := List.getElem?_of_mem hx
      have hi2 : i < (rs.zip ops.toList).length := (List.getElem?_eq_some_iff.1 hi).1
      have hi3 : i < ops.size := by simp [hlen] at hi2; omega
      obtain ⟨g1, g2, g3⟩ := zip_getD h1 hi3
      have : (rs.zip ops.toList).getD i default = x := by rw [List.getD_eq_getElem?_getD, hi]; rfl
      rw [this] at g3
      exact ⟨ops, g3⟩
theorem VC.draw {rss : List (List RO)} {keep : List Nat} (h : ∀ rs ∈ rss, VO P n rs Γ H (fun _ _ _ => False) fun Γ' H' => Q .normal (restr keep Γ') H') : VC P n (.draw rss keep) Γ H Q := by
  intro ρ kp od code hl a w F QQ hr ha hs hh
  obtain ⟨id, ops, rs, rfl, h1, hm, hc, rfl, rfl⟩ := lowC_inv hl
  have hlen := (lowList_length h1).1
  refine wpIn_region_draw (fun t => ?_)
  have hsched : Region.schedule (P.follows .mixedOrders) ops t = sched ops ops.size t (Array.replicate ops.size false) := by simp [Region.schedule, hm, Region.linearise, sched]
  rw [hsched]
  have hu : unl ops (Array.replicate ops.size false) = List.range ops.size := by
    simp only [unl]
    refine List.filter_eq_self.2 (fun i hi => ?_)
    have := List.mem_range.1 hi
    simp [this]
  have hback : backEdges ops = true := by
    rcases Bool.or_eq_true_iff.1 hc with hc | hc <;> (simp only [coverG, Bool.and_eq_true] at hc; exact hc.1.1.1)
  have hmem := (sched_spec hback ops.size t (Array.replicate ops.size false) (by simp) (by rw [hu]; simp)).2.1
  refine wpR_sound (P := P) (ρ := ρ) (n := n) (ops := ops) (X := fun i => (rs.zip ops.toList).getD i default) (QQ := QQ) (fun i hi => ?_) _ a _ (fun i hi => by rw [hmem, hu] at hi; simpa using hi) ?_
  · obtain ⟨g1, g2, g3⟩ := zip_getD h1 hi; exact ⟨g1, g3⟩
  · refine wpR_zmono ?_
    refine cover (P := P) (n := n) (by simp [hlen]) (fun i x hx => ?_) hc (fun o ho => ?_) t
    · have hi2 : i < (rs.zip ops.toList).length := (List.getElem?_eq_some_iff.1 hx).1
      have hi3 : i < ops.size := by simp [hlen] at hi2; omega
      obtain ⟨g1, g2, g3⟩ := zip_getD h1 hi3
      have : (rs.zip ops.toList).getD i default = x := by rw [List.getD_eq_getElem?_getD, hx]; rfl
      rw [this] at g3
      exact Good.of_low g3
    · have hall : o.all (· < ops.size) = true := by
        rcases Bool.or_eq_true_iff.1 hc with hc | hc <;>
        · simp only [coverG, Bool.and_eq_true, List.all_eq_true] at hc
          have := hc.1.2 o ho
          simp only [List.all_eq_true]
          exact this.2
      have hlt : ∀ i ∈ o, i < ops.size := by simpa [List.all_eq_true] using hall
      refine h (o.map fun i => rs.getD i default) (List.mem_map.2 ⟨o, ho, rfl⟩) _ ⟨?_, ?_⟩ a { w with drawn := w.drawn + 1 } F _ _ ha (hs.drawn _) (fun a' w' Γ' H' q g1 g2 g3 g4 => hh .normal a' w' _ H' [] q (g1.sub (sub_restr _ _)) g2 g3.nomarks ?_) (fun _ _ _ _ _ q => q.elim)
      · rw [List.map_map]
        refine List.map_congr_left (fun i hi => ?_)
        obtain ⟨g1, g2, g3⟩ := zip_getD h1 (hlt i hi)
        exact g2
      · intro x hx
        obtain ⟨i, hi, rfl⟩ := List.mem_map.1 hx
        obtain ⟨g1, g2, g3⟩ := zip_getD h1 (hlt i hi)
        exact ⟨ops, g3⟩
      · exact ((Keeps.refl w).drawn _).trans g4
theorem VC.loop {x : IC} {α : Type} (Γf : α → Env) (Hf : α → SH) (I : α → Prop) (μ : α → Nat) (s0 : α) (h0 : I s0) (hΓ : Sub Γ (Γf s0)) (hH : Imp H (Hf s0))
    (round : ∀ s, I s → VC P n x (Γf s) (Hf s) (thenQ (fun Γ' H' => ∃ s', I s' ∧ μ s' < μ s ∧ Sub Γ' (Γf s') ∧ Imp H' (Hf s')) Q)) : VC P n (.loop x) Γ H Q := by
  intro ρ kp od code hl a w F QQ hr ha hs hh
  obtain ⟨body, rfl, h1⟩ := lowC_inv hl
  intro b k cs hro hfn hroom
  have key : ∀ m s X, μ s = m → I s → ∀ a1 w1, Agree n (Γf s) a1 → a1.defers = X.map coll ++ a.defers → Sat w1 ((Hf s).flatten ++ (F ++ marks X)) → Keeps w w1 →
      ∃ e a' w', QQ e a' w' ∧ ArrivesIn (Machine.fenced P (VFc ρ)) P (lone (b.atR a1 (.code body :: .inLoop body :: k)) cs w1) b k cs e a' w' := by
    intro m
    induction m using Nat.strongRecOn with
    | _ m ih =>
      intro s X hm hI a1 w1 ha1 hd1 hs1 hk1
      have hrd := round s hI ρ kp od body h1 a1 w1 (F ++ marks X) (Exit.then (fun a' w' => ∃ s' Y, I s' ∧ μ s' < μ s ∧ Agree n (Γf s') a' ∧ a'.defers = (Y ++ X).map coll ++ a.defers ∧ Sat w' ((Hf s').flatten ++ (F ++ marks (Y ++ X))) ∧ Keeps w w') QQ) (hr.more (fun x hx => List.mem_append_left _ hx)) ha1 hs1 (fun e a' w' Γ' H' Y q g1 g2 g3 g4 => by
        cases e <;> first
          | (obtain ⟨s', i1, i2, i3, i4⟩ := q; exact ⟨s', Y, i1, i2, g1.sub i3, by rw [g2, hd1]; simp, (g3.imp i4).marks, hk1.trans g4⟩)
          | exact hh _ _ _ _ _ (Y ++ X) q g1 (by rw [g2, hd1]; simp) g3.marks (hk1.trans g4))
      obtain ⟨e, a2, w2, hq, harr⟩ := hrd b (.inLoop body :: k) cs hro hfn hroom
      cases e with
      | normal =>
        obtain ⟨s', Y, i1, i2, i3, i3', i4, i5⟩ := hq
        obtain ⟨e2, a3, w3, hq2, harr2⟩ := ih (μ s') (hm ▸ i2) s' (Y ++ X) rfl i1 a2 w2 i3 i3' i4 i5
        exact ⟨e2, a3, w3, hq2, .of_steps (StepsIn.trans harr (.one (fenced_calm (n := 0) (fr := b.atR a2 (.inLoop body :: k)) hfn hroom rfl) stepR_inLoop)) harr2⟩
      | exit id => exact ⟨_, a2, w2, hq, .pass (x := .inLoop body) rfl (fun _ _ => .inl (by simp)) harr⟩
      | goto l => exact ⟨_, a2, w2, hq, .pass (x := .inLoop body) rfl (fun _ _ => .inl (by simp)) harr⟩
      | ret => exact ⟨_, a2, w2, hq, .pass (x := .inLoop body) rfl (fun _ _ => .inl (by simp)) harr⟩
      | panic ch => exact ⟨_, a2, w2, hq, .pass (x := .inLoop body) rfl (fun _ _ => .inl (by simp)) harr⟩
      | outgrown => exact ⟨_, a2, w2, hq, .pass (x := .inLoop body) rfl (fun _ _ => .inl (by simp)) harr⟩
  obtain ⟨e, a', w', hq, harr⟩ := key _ s0 [] rfl h0 a w (ha.sub hΓ) rfl (hs.imp hH).nomarks (.refl w)
  exact ⟨e, a', w', hq, .of_steps (.one (fenced_calm (n := 0) (fr := b.atR a (.code (.loop body) :: k)) hfn hroom rfl) stepR_loop) harr⟩
theorem VC.join {x y : IC} {α : Type} (Γf : α → Env) (Hf : α → SH) (I : α → Prop) (h1 : VC P n x Γ H (thenQ (fun Γ' H' => ∃ s, I s ∧ Sub Γ' (Γf s) ∧ Imp H' (Hf s)) Q))
    (h2 : ∀ s, I s → VC P n y (Γf s) (Hf s) Q) : VC P n (.seq x y) Γ H Q := by
  refine VC.seq (h1.mono ?_)
  intro e Γ' H' q
  cases e <;> first
    | (obtain ⟨s, i1, i2, i3⟩ := q; exact VC.sub i2 (VC.imp i3 (h2 s i1)))
    | exact q
end
def assoc {α : Type} (l : List (Nat × List α)) (i : Nat) : List α := match l with
  | [] => []
  | (k, v) :: r => if k = i then v else assoc r i
def rep (n : Nat) (l : List Value) : List Value := match n with
  | 0 => []
  | n + 1 => l ++ rep n l
inductive RV where
  | tmp (t : Nat)
  | cell1 (t : Nat)
  | cellN (t n : Nat)
structure FIR where
  n : Nat
  res : List RV
  body : IC
def resTmps (P : Program) : List ResultVar → Option (List RV)
  | [] => some []
  | .tmp t :: r => (resTmps P r).map (.tmp t :: ·)
  | .cell a t :: r => match P.underlying t, P.info? t with
    | some (.struct _), some i => (resTmps P r).map (.cellN a i.size :: ·)
    | some (.array _ _), some i => (resTmps P r).map (.cellN a i.size :: ·)
    | some _, some _ => (resTmps P r).map (.cell1 a :: ·)
    | _, _ => none
def lowF (P : Program) (kp : Nat → List Nat) (od : Nat → List (List Nat)) (f : Nat) : Option FIR :=
  match P.funcs[f]? with
  | none => none
  | some fn => match fn.body with
    | none => none
    | some c => if fn.name != "runtime.NumGoroutine" then
        match lowC P fn.ntmps kp od c, resTmps P fn.results.toList with
        | some b, some r => some ⟨fn.ntmps, r, b⟩
        | _, _ => none
      else none
def argsEnv : Nat → List Value → Env
  | _, [] => []
  | k, v :: r => (k, v) :: argsEnv (k + 1) r
def tup : List Value → Value
  | [v] => v
  | vs => .tuple vs.toArray
inductive Res (Γ : Env) (H : SH) : List RV → List Value → Prop where
  | nil : Res Γ H [] []
  | tmp {t : Nat} {v : Value} {r : List RV} {vs : List Value} : look Γ t = some v → Res Γ H r vs → Res Γ H (.tmp t :: r) (v :: vs)
  | cell1 {t b o : Nat} {v : Value} {r : List RV} {vs : List Value} : look Γ t = some (.pointer (some ⟨b, o, none⟩)) → Atom.cell b o v ∈ H.flatten → Res Γ H r vs → Res Γ H (.cell1 t :: r) (v :: vs)
  | cellN {t b o n : Nat} {us : List Value} {r : List RV} {vs : List Value} : look Γ t = some (.pointer (some ⟨b, o, none⟩)) → us.length = n → (∀ x ∈ cellsAt b o us, x ∈ H.flatten) → Res Γ H r vs → Res Γ H (.cellN t n :: r) (.agg us.toArray :: vs)
def endQ (res : List RV) (Q : Value → SH → Prop) : Exit → Env → SH → Prop := fun e Γ H => (e = .normal ∨ e = .ret) ∧ ∃ vs Post, Res Γ H res vs ∧ Imp H Post ∧ Q (tup vs) Post
theorem look_argsEnv : ∀ {vs : List Value} {k t : Nat} {v : Value}, look (argsEnv k vs) t = some v → k ≤ t ∧ vs[t - k]? = some v := by
  intro vs
  induction vs with
  | nil => intro k t v h; simp [argsEnv, look] at h
  | cons u r ih =>
    intro k t v h
    simp only [argsEnv, look] at h
    split at h
    · rename_i e; subst e; cases h; simp
    · obtain ⟨h1, h2⟩ := ih h
      refine ⟨by omega, ?_⟩
      have : t - k = (t - (k + 1)) + 1 := by omega
      rw [this]; simpa using h2
theorem loadFrom_same {P : Program} {b o : Nat} : ∀ (k i : Nat) (acc : Array Value) (w1 : World) (r : Array Value) (w2 : World), (loadCellsFrom ⟨b, o, none⟩ i k acc).run P w1 = .ok r w2 → w2 = w1 := by
  intro k
  induction k with
  | zero => intro i acc w1 r w2 h; simp [loadCellsFrom] at h; exact h.2.symm
  | succ k ih =>
    intro i acc w1 r w2 h
    simp only [loadCellsFrom, Sem.run_bind] at h
    obtain ⟨v, w3, h1, h2⟩ := andThen_ok_of h
    have hw : w3 = w1 := by
      simp only [Go.load, Sem.run] at h1
      split at h1
      · cases h1; rfl
      · split at h1 <;> cases h1; rfl
    rw [ih _ _ _ _ _ h2, hw]
theorem run_loadCells {P : Program} {b o m : Nat} {us : List Value} {H : List Atom} {F : List Atom} {w : World} (hn : us.length = m) (hm : ∀ x ∈ cellsAt b o us, x ∈ H) (hs : Sat w (H ++ F)) :
    (loadCells ⟨b, o, none⟩ m).run P w = .ok us.toArray w := by
  have hsw : SWP P (loadCells ⟨b, o, none⟩ m) H (fun r L => r = us.toArray ∧ L = H) := SWP.loadCells hn hm ⟨rfl, rfl⟩
  obtain ⟨r, w', L, h1, ⟨rfl, rfl⟩, h3, h4⟩ := hsw F w hs
  obtain rfl := loadFrom_same _ _ _ _ _ _ h1
  exact h1
theorem run_results {P : Program} {fn : Func} {r : List RV} {a : Act} {n : Nat} {Γ : Env} {vs : List Value} {w : World} {H : SH} {F : List Atom} (hs : Sat w (H.flatten ++ F)) (hr : resTmps P fn.results.toList = some r) (ha : Agree n Γ a) (hv : Res Γ H r vs) :
    (results fn a.tmps).run P w = .ok (tup vs) w := by
  have key : ∀ (l : List ResultVar) (r : List RV) (vs : List Value) (f : ResultVar → Sem Value), (∀ t, f (.tmp t) = pure (a.tmps.getD t undef)) → (∀ x t, f (.cell x t) = (do loadVar t (← asAddr (a.tmps.getD x undef)))) →
      resTmps P l = some r → Res Γ H r vs → (l.mapM f).run P w = .ok vs w := by
    intro l
    induction l with
    | nil => intro r vs f _ _ h1 h2; simp [resTmps] at h1; subst h1; cases h2; simp
    | cons x l ih =>
      intro r vs f hf hf2 h1 h2
      cases x with
      | cell x t =>
        simp only [resTmps] at h1
        have slot : ∀ {v}, look Γ x = some v → a.tmps.getD x undef = v := fun h => by simp [Array.getD_eq_getD_getElem?, ha.slots x _ h]
        split at h1
        · rename_i i hu hi
          simp only [Option.map_eq_some_iff] at h1
          obtain ⟨r', h3, rfl⟩ := h1
          cases h2 with
          | cellN k1 k2 k3 k4 =>
            simp only [List.mapM_cons, Sem.run_bind, hf2, slot k1, asAddr, Sem.run_pure, Result.andThen_ok, loadVar, isAgg_of hu, if_true, run_sizeOf_of hi, run_loadCells k2 k3 hs, ih r' _ f hf hf2 h3 k4]
        · rename_i i hu hi
          simp only [Option.map_eq_some_iff] at h1
          obtain ⟨r', h3, rfl⟩ := h1
          cases h2 with
          | cellN k1 k2 k3 k4 =>
            simp only [List.mapM_cons, Sem.run_bind, hf2, slot k1, asAddr, Sem.run_pure, Result.andThen_ok, loadVar, isAgg_of hu, if_true, run_sizeOf_of hi, run_loadCells k2 k3 hs, ih r' _ f hf hf2 h3 k4]
        · rename_i d j g1 g2 hu hj
          simp only [Option.map_eq_some_iff] at h1
          obtain ⟨r', h3, rfl⟩ := h1
          have hag : (isAgg t).run P w = .ok false w := by rw [isAgg_of hu]; cases d <;> simp_all
          cases h2 with
          | cell1 k1 k2 k4 =>
            have hc := (hs.cell (List.mem_append_left F k2)).1
            simp only [List.mapM_cons, Sem.run_bind, hf2, slot k1, asAddr, Sem.run_pure, Result.andThen_ok, loadVar, hag, Bool.false_eq_true, if_false, run_load, hc, ih r' _ f hf hf2 h3 k4]
        · cases h1
      | tmp t =>
        simp only [resTmps, Option.map_eq_some_iff] at h1
        obtain ⟨r', h3, rfl⟩ := h1
        cases h2 with
        | tmp k1 k2 =>
          rename_i v0 _
          have hslot : a.tmps.getD t undef = v0 := by simp [Array.getD_eq_getD_getElem?, ha.slots t _ k1]
          simp only [List.mapM_cons, Sem.run_bind, hf, Sem.run_pure, Result.andThen_ok, ih r' _ f hf hf2 h3 k2, hslot]
  unfold results
  simp only [Sem.run_bind]
  rw [Array.mapM_eq_mapM_toList]
  simp only [Sem.run_map]
  rw [key fn.results.toList r vs _ (fun t => rfl) (fun x t => rfl) hr hv]
  cases vs with
  | nil => simp [tup]
  | cons v l => cases l <;> simp [tup]
theorem Fun.intro {P : Program} {kp : Nat → List Nat} {od : Nat → List (List Nat)} {f : Nat} {F : FIR} {args : List Value} {Pre : SH} {Q : Value → SH → Prop} (hl : lowF P kp od f = some F) (hn : args.length ≤ F.n)
    (h : VC P F.n F.body (argsEnv 0 args) Pre (endQ F.res Q)) : Fun P f args Pre Q := by
  unfold lowF at hl
  split at hl
  · cases hl
  rename_i fn hfn
  split at hl
  · cases hl
  rename_i c hc
  split at hl
  case isFalse => cases hl
  rename_i hname
  split at hl
  case h_2 => cases hl
  rename_i b r hb hr
  cases hl
  refine ⟨by simp only [callable, hfn, hname, hc]; rfl, fun FF w hs => ?_⟩
  refine (callsIn_wide (n := 0)).1 (callsIn_of_wp_marks hfn hc trivial (h none kp od c hb _ w FF _ (fun l e => by cases e) ⟨?_, fun t v e => ?_⟩ hs (fun e a' w' Γ' H' X q g1 g2 g3 g4 => ?_)))
  · simp at hn ⊢; omega
  · obtain ⟨_, h2⟩ := look_argsEnv e
    simp only [Nat.sub_zero] at h2
    have hlt : t < args.length := (List.getElem?_eq_some_iff.1 h2).1
    simp only [Array.getElem?_append, List.size_toArray, hlt, if_true]
    simpa using h2
  · obtain ⟨he, vs, Post, h1, h2, h3⟩ := q
    have hb : LeavesInM (VFc none) 0 P fn a'.tmps (fun e w' => ∃ v Post, e = .returned v ∧ Q v Post ∧ Sat w' (Post.flatten ++ FF) ∧ Keeps w w') a'.defers .returning w' := by
      rw [g2, List.append_nil]
      clear g2
      induction X generalizing w' with
      | nil =>
        have g3' : Sat w' (H'.flatten ++ FF) := by simpa [V.marks] using g3
        exact ⟨_, run_results g3' hr g1 h1, _, Post, rfl, h3, g3'.imp h2, g4⟩
      | cons r X ih =>
        have hp : (H'.flatten ++ (FF ++ V.marks (r :: X))).Perm (.obj r (.deferred (some [])) :: (H'.flatten ++ (FF ++ V.marks X))) := by
          simp only [V.marks, List.map_cons]
          rw [← List.append_assoc, ← List.append_assoc]
          exact List.perm_middle
        have g5 := g3.perm hp
        obtain ⟨k1, k2⟩ := g5.obj (List.mem_cons_self ..)
        obtain ⟨s1, s2⟩ := Sat.setObj (u := .deferred none) g5 rfl
        refine ⟨by simp, .inl ⟨r, _, rfl, ?_, ih _ (s1.sub (List.sublist_cons_self ..)) (g4.trans s2)⟩⟩
        simp [Instr.takeDeferred, Go.getObj, Go.setObj, Sem.run, k1]
    rcases he with rfl | rfl <;> exact hb
theorem Fun.mono {P : Program} {f : Nat} {args : List Value} {Pre : SH} {Q Q' : Value → SH → Prop} (h : Fun P f args Pre Q) (hq : ∀ v Post, Q v Post → Q' v Post) : Fun P f args Pre Q' :=
  ⟨h.1, fun F w hs => (h.2 F w hs).mono fun _ _ ⟨v, Post, a, b, c⟩ => ⟨v, Post, a, hq _ _ b, c⟩⟩
inductive Tk : SH → List Atom → SH → Prop where
  | here {A : List Atom} {L : SH} : Tk (A :: L) A L
  | there {A B : List Atom} {L R : SH} : Tk L A R → Tk (B :: L) A (B :: R)
theorem perm_lead (A B X : List Atom) : (A ++ (B ++ X)).Perm (B ++ (A ++ X)) := by
  rw [← List.append_assoc, ← List.append_assoc]
  exact List.Perm.append_right _ List.perm_append_comm
theorem Tk.perm {L R : SH} {A : List Atom} (h : Tk L A R) : L.flatten.Perm (A ++ R.flatten) := by
  induction h with
  | here => simp
  | there _ ih =>
    simp only [List.flatten_cons]
    refine (List.Perm.append_left _ ih).trans ?_
    rw [← List.append_assoc, ← List.append_assoc]
    exact List.Perm.append_right _ List.perm_append_comm
theorem Spl.nil {H : SH} : Spl H [] H := by simp [Spl]
theorem Spl.cons {H R R' Pre : SH} {A : List Atom} (h : Tk H A R) (k : Spl R Pre R') : Spl H (A :: Pre) R' := by
  simp only [Spl, List.flatten_cons, List.append_assoc]
  exact h.perm.trans (List.Perm.append_left _ k)
theorem Imp.nil {H : SH} : Imp H [] := ⟨H, by simp [Spl]⟩
theorem Imp.cons {H R Δ : SH} {A : List Atom} (h : Tk H A R) (k : Imp R Δ) : Imp H (A :: Δ) := by
  obtain ⟨X, hX⟩ := k
  refine ⟨X, ?_⟩
  simp only [Spl, List.flatten_cons, List.append_assoc]
  exact h.perm.trans (List.Perm.append_left _ hX)
theorem Sub.nil {Γ : Env} : Sub Γ [] := fun t v h => by simp [look] at h
theorem Sub.cons {Γ Δ : Env} {t : Nat} {v : Value} (h : look Γ t = some v) (k : Sub Γ Δ) : Sub Γ ((t, v) :: Δ) := fun s u e => by
  simp only [look] at e
  split at e
  · rename_i es; subst es; cases e; exact h
  · exact k s u e
theorem Sub.refl {Γ : Env} : Sub Γ Γ := fun _ _ h => h
inductive Has : SH → Nat → Nat → Value → Prop where
  | cells {b o k : Nat} {vs : List Value} {v : Value} {L : SH} : o ≤ k → vs[k - o]? = some v → Has (cellsAt b o vs :: L) b k v
  | there {A : List Atom} {L : SH} {b k : Nat} {v : Value} : Has L b k v → Has (A :: L) b k v
  | among {A : List Atom} {L : SH} {b k : Nat} {v : Value} : Atom.cell b k v ∈ A → Has (A :: L) b k v
theorem Has.row {b o i : Nat} {xs sp : List Value} {v : Value} {L : SH} (h : xs[i]? = some v) : Has (cellsAt b o (xs ++ sp) :: L) b (o + i) v := by
  refine .cells (by omega) ?_
  rw [Nat.add_sub_cancel_left]
  have hi := (List.getElem?_eq_some_iff.1 h).1
  rw [List.getElem?_append_left hi, h]
theorem Has.mem {H : SH} {b k : Nat} {v : Value} (h : Has H b k v) : Atom.cell b k v ∈ H.flatten := by
  induction h with
  | cells h1 h2 =>
    simp only [List.flatten_cons, List.mem_append]
    left
    exact mem_cellsAt.2 ⟨_, _, h2, by congr 1; omega⟩
  | there _ ih => simp only [List.flatten_cons, List.mem_append]; exact .inr ih
  | among h => simp only [List.flatten_cons, List.mem_append]; exact .inl h
inductive HasN : SH → Nat → Nat → List Value → Prop where
  | cells {b o k n : Nat} {vs us : List Value} {L : SH} : o ≤ k → (vs.drop (k - o)).take us.length = us → us.length = n → HasN (cellsAt b o vs :: L) b k us
  | there {A : List Atom} {L : SH} {b k : Nat} {us : List Value} : HasN L b k us → HasN (A :: L) b k us
theorem HasN.mem {H : SH} {b k : Nat} {us : List Value} (h : HasN H b k us) : ∀ x ∈ cellsAt b k us, x ∈ H.flatten := by
  induction h with
  | cells h1 h2 _ =>
    intro x hx
    obtain ⟨i, v, hi, rfl⟩ := mem_cellsAt.1 hx
    simp only [List.flatten_cons, List.mem_append]
    left
    rw [← h2] at hi
    simp only [List.getElem?_take, List.getElem?_drop] at hi
    split at hi
    · exact mem_cellsAt.2 ⟨_, v, hi, by congr 1; omega⟩
    · cases hi
  | there _ ih => intro x hx; simp only [List.flatten_cons, List.mem_append]; exact .inr (ih x hx)
def evD (Γ : Env) (x : Operand) : Value := (ev Γ x).getD undef
def known (Γ : Env) (x : Operand) : Bool := (ev Γ x).isSome
theorem evD_of {Γ : Env} {x : Operand} {ρ : Operand → Value} (h : known Γ x = true) (hρ : ∀ x u, ev Γ x = some u → ρ x = u) : ρ x = evD Γ x := by
  obtain ⟨u, hu⟩ := Option.isSome_iff_exists.1 h
  simp [evD, hu, hρ _ _ hu]
def ptr (b o : Nat) : Value := .pointer (some ⟨b, o, none⟩)
section
variable {P : Program} {n : Nat} {rs : List RO} {Γ Δ : Env} {H : SH} {Z : List PanicEntry → Env → SH → Prop} {K : Env → SH → Prop} {d : Option Nat} {g : Option (Nat × Bool)}
theorem st_pure {r : R} {v : Value} (hp : isPure r = true) (hk : (rOps r).all (known Γ) = true) (hv : pureV (evD Γ) r = some v) (h : VO P n rs (putE d v Γ) H Z K) : VO P n (⟨d, none, r⟩ :: rs) Γ H Z K :=
  VO.pure hp (fun ρ hρ => by
    rw [← hv]
    exact pureV_congr hp (fun x hx => evD_of (List.all_eq_true.1 hk x hx) hρ)) h
theorem st_mv {x : Operand} {v : Value} (hx : ev Γ x = some v) (h : VO P n rs (putE d v Γ) H Z K) : VO P n (⟨d, none, .mv x⟩ :: rs) Γ H Z K :=
  VO.pure rfl (fun ρ hρ => by simp [pureV, hρ _ _ hx]) h
theorem st_fld {off : Nat} {x : Operand} {b o o' : Nat} (hx : ev Γ x = some (.pointer (some ⟨b, o, none⟩))) (ho : o + off = o') (h : VO P n rs (putE d (.pointer (some ⟨b, o', none⟩)) Γ) H Z K) : VO P n (⟨d, none, .fld off x⟩ :: rs) Γ H Z K :=
  VO.pure rfl (fun ρ hρ => by simp [pureV, hρ _ _ hx, ho]) h
theorem st_nil {x : Operand} {a : Addr} (hx : ev Γ x = some (.pointer (some a))) (h : VO P n rs (putE d (.pointer (some a)) Γ) H Z K) : VO P n (⟨d, none, .nilck x⟩ :: rs) Γ H Z K :=
  VO.pure rfl (fun ρ hρ => by simp [pureV, hρ _ _ hx]) h
theorem wrap64 {z : Int} (h : -9223372036854775808 ≤ z ∧ z ≤ 9223372036854775807) : IntKind.i64.wrap z = z := by
  simp only [IntKind.wrap, IntKind.bits, IntKind.signed]; simp; omega
theorem st_add {x y : Operand} {a b : Int} (hx : ev Γ x = some (.int .i64 a)) (hy : ev Γ y = some (.int .i64 b)) (hr : -9223372036854775808 ≤ a + b ∧ a + b ≤ 9223372036854775807) (h : VO P n rs (putE d (.int .i64 (a + b)) Γ) H Z K) :
    VO P n (⟨d, none, .bin .add x y⟩ :: rs) Γ H Z K :=
  VO.pure rfl (fun ρ hρ => by simp [pureV, hρ _ _ hx, hρ _ _ hy, binV, intV, wrap64 hr]) h
theorem st_sub {x y : Operand} {a b : Int} (hx : ev Γ x = some (.int .i64 a)) (hy : ev Γ y = some (.int .i64 b)) (hr : -9223372036854775808 ≤ a - b ∧ a - b ≤ 9223372036854775807) (h : VO P n rs (putE d (.int .i64 (a - b)) Γ) H Z K) :
    VO P n (⟨d, none, .bin .sub x y⟩ :: rs) Γ H Z K :=
  VO.pure rfl (fun ρ hρ => by simp [pureV, hρ _ _ hx, hρ _ _ hy, binV, intV, wrap64 hr]) h
theorem st_mul {x y : Operand} {a b : Int} (hx : ev Γ x = some (.int .i64 a)) (hy : ev Γ y = some (.int .i64 b)) (hr : -9223372036854775808 ≤ a * b ∧ a * b ≤ 9223372036854775807) (h : VO P n rs (putE d (.int .i64 (a * b)) Γ) H Z K) :
    VO P n (⟨d, none, .bin .mul x y⟩ :: rs) Γ H Z K :=
  VO.pure rfl (fun ρ hρ => by simp [pureV, hρ _ _ hx, hρ _ _ hy, binV, intV, wrap64 hr]) h
theorem st_rem {x y : Operand} {k : IntKind} {a b : Int} (hx : ev Γ x = some (.int k a)) (hy : ev Γ y = some (.int k b)) (hr : b ≠ 0) (h : VO P n rs (putE d (.int k (a.tmod b)) Γ) H Z K) :
    VO P n (⟨d, none, .bin .rem x y⟩ :: rs) Γ H Z K :=
  VO.pure rfl (fun ρ hρ => by simp [pureV, hρ _ _ hx, hρ _ _ hy, binV, intV, hr]) h
theorem st_conv {k k' : IntKind} {x : Operand} {a b : Int} (hx : ev Γ x = some (.int k' a)) (hr : k.wrap a = b) (h : VO P n rs (putE d (.int k b) Γ) H Z K) : VO P n (⟨d, none, .conv k x⟩ :: rs) Γ H Z K :=
  VO.pure rfl (fun ρ hρ => by simp [pureV, hρ _ _ hx, hr]) h
theorem st_quo {x y : Operand} {k : IntKind} {a b : Int} (hx : ev Γ x = some (.int k a)) (hy : ev Γ y = some (.int k b)) (hr : b ≠ 0) (h : VO P n rs (putE d (.int k (k.wrap (a.tdiv b))) Γ) H Z K) :
    VO P n (⟨d, none, .bin .quo x y⟩ :: rs) Γ H Z K :=
  VO.pure rfl (fun ρ hρ => by simp [pureV, hρ _ _ hx, hρ _ _ hy, binV, intV, hr]) h
theorem st_idxL {size : Nat} {x i : Operand} {b o o' len cap : Nat} {k : IntKind} {m : Int} (hx : ev Γ x = some (.slice (some ⟨b, o, none⟩) len cap)) (hi : ev Γ i = some (.int k m)) (hb : 0 ≤ m ∧ m < len)
    (ho : o + m.toNat * size = o') (h : VO P n rs (putE d (.pointer (some ⟨b, o', none⟩)) Γ) H Z K) : VO P n (⟨d, none, .idxL size x i⟩ :: rs) Γ H Z K :=
  VO.pure rfl (fun ρ hρ => by simp [pureV, hρ _ _ hx, hρ _ _ hi, hb, ho]) h
theorem st_idxA {len size : Nat} {x i : Operand} {b o o' : Nat} {k : IntKind} {m : Int} (hx : ev Γ x = some (.pointer (some ⟨b, o, none⟩))) (hi : ev Γ i = some (.int k m)) (hb : 0 ≤ m ∧ m < len)
    (ho : o + m.toNat * size = o') (h : VO P n rs (putE d (.pointer (some ⟨b, o', none⟩)) Γ) H Z K) : VO P n (⟨d, none, .idxA len size x i⟩ :: rs) Γ H Z K :=
  VO.pure rfl (fun ρ hρ => by simp [pureV, hρ _ _ hx, hρ _ _ hi, hb, ho]) h
theorem st_idxS {x i : Operand} {s : ByteArray} {k : IntKind} {m : Int} {j : Nat} {c : UInt8} (hx : ev Γ x = some (.string s)) (hi : ev Γ i = some (.int k m)) (hm : m = (j : Int)) (hc : s[j]? = some c)
    (h : VO P n rs (putE d (.int .u8 c.toNat) Γ) H Z K) : VO P n (⟨d, none, .idxS x i⟩ :: rs) Γ H Z K :=
  VO.pure rfl (fun ρ hρ => by subst hm; simp [pureV, hρ _ _ hx, hρ _ _ hi, hc]) h
theorem st_pick_t {c a b : Operand} {v : Value} (hc : ev Γ c = some (.bool true)) (ha : ev Γ a = some v) (h : VO P n rs (putE d v Γ) H Z K) : VO P n (⟨d, none, .pick c a b⟩ :: rs) Γ H Z K :=
  VO.pure rfl (fun ρ hρ => by simp [pureV, hρ _ _ hc, hρ _ _ ha]) h
theorem st_pick_f {c a b : Operand} {v : Value} (hc : ev Γ c = some (.bool false)) (hb : ev Γ b = some v) (h : VO P n rs (putE d v Γ) H Z K) : VO P n (⟨d, none, .pick c a b⟩ :: rs) Γ H Z K :=
  VO.pure rfl (fun ρ hρ => by simp [pureV, hρ _ _ hc, hρ _ _ hb]) h
theorem st_case {s : Nat} {c : Bool} (hs : look Γ s = some (.bool c)) (ht : c = true → VO P n rs ((s, .bool true) :: Γ) H Z K) (hf : c = false → VO P n rs ((s, .bool false) :: Γ) H Z K) : VO P n rs Γ H Z K := by
  cases c with
  | true => exact VO.sub (Sub.cons hs Sub.refl) (ht rfl)
  | false => exact VO.sub (Sub.cons hs Sub.refl) (hf rfl)
theorem st_gt {r : R} {s : Nat} {b : Bool} (hs : look Γ s = some (.bool b)) (h : VO P n (⟨d, none, r⟩ :: rs) Γ H Z K) : VO P n (⟨d, some (s, b), r⟩ :: rs) Γ H Z K := by
  intro l hl a w F ZZ Q ha hsat hq hz
  obtain ⟨o, l', rfl, hl', ops, ho⟩ := low_cons hl
  obtain ⟨g1, g2, g3, g4⟩ := lowRO_spec ho
  have hw : wantedR (some (s, b)) a = true := by simp [wantedR, ha.slots _ _ hs]
  have := h ((⟨d, none, r⟩, { o with guard := none }) :: l') ⟨by simp [hl'.1], fun x hx => by
    rcases List.mem_cons.1 hx with rfl | hx
    · refine ⟨ops, ?_⟩
      have hd : o.dst.all (fun x => decide (x < n)) = true := by
        rw [← g2]
        cases hdd : d with
        | none => rfl
        | some t => have := g3 t hdd; simpa using this
      simp only at g2 g1
      simp [lowRO, g1, hd, g2]
    · exact hl'.2 x hx⟩ a w F ZZ Q ha hsat hq hz
  have hself : wpR1 P ZZ (⟨d, none, r⟩, { o with guard := none }) (wpR P ZZ Q l') a w := this
  show wpR1 P ZZ (⟨d, some (s, b), r⟩, o) (wpR P ZZ Q l') a w
  unfold wpR1 at hself ⊢
  rw [if_pos (show wantedR _ a = true from hw)]
  rw [if_pos (show wantedR none a = true from rfl)] at hself
  exact hself
theorem st_gf {r : R} {s : Nat} {b c : Bool} (hs : look Γ s = some (.bool c)) (hc : (c == b) = false) (h : VO P n rs (putE d undef Γ) H Z K) : VO P n (⟨d, some (s, b), r⟩ :: rs) Γ H Z K := by
  intro l hl a w F ZZ Q ha hsat hq hz
  obtain ⟨o, l', rfl, hl', ops, ho⟩ := low_cons hl
  obtain ⟨g1, g2, g3, g4⟩ := lowRO_spec ho
  have hw : wantedR (some (s, b)) a = false := by simpa [wantedR, ha.slots _ _ hs] using hc
  show wpR1 P ZZ (⟨d, some (s, b), r⟩, o) (wpR P ZZ Q l') a w
  unfold wpR1
  rw [if_neg (by simp [hw])]
  exact h l' hl' _ w F ZZ Q (ha.putE g3 undef) hsat (fun a2 w2 Γ2 H2 k1 k2 k3 k4 k5 => hq a2 w2 Γ2 H2 k1 k2 (k3.trans (put_defers ..)) k4 k5) (fun ch a2 w2 Γ2 H2 k1 k2 k3 k4 k5 => hz ch a2 w2 Γ2 H2 k1 k2 (k3.trans (put_defers ..)) k4 k5)
theorem st_load1 {x : Operand} {b o : Nat} {v : Value} (hx : ev Γ x = some (.pointer (some ⟨b, o, none⟩))) (hm : Has H b o v) (h : VO P n rs (putE d v Γ) H Z K) : VO P n (⟨d, none, .load1 x⟩ :: rs) Γ H Z K :=
  VO.read rfl rfl (fun ρ hρ => ⟨_, rfl, fun F w hs => by
    have := (hs.cell (List.mem_append_left F hm.mem)).1
    simp [hρ _ _ hx, Instr.sureAddr, this]⟩) h
theorem st_loadN {m : Nat} {x : Operand} {b o : Nat} {us : List Value} (hx : ev Γ x = some (.pointer (some ⟨b, o, none⟩))) (hm : HasN H b o us) (hn : us.length = m) (h : VO P n rs (putE d (.agg us.toArray) Γ) H Z K) : VO P n (⟨d, none, .loadN m x⟩ :: rs) Γ H Z K :=
  VO.read rfl rfl (fun ρ hρ => ⟨_, rfl, fun F w hs => by
    simp [hρ _ _ hx, Instr.sureAddr, run_loadCells hn hm.mem hs]⟩) h
inductive Upd : SH → Nat → Nat → List Value → SH → Prop where
  | cells {b o k : Nat} {vs us ws : List Value} {L : SH} : o ≤ k → k - o + us.length ≤ vs.length → vs.take (k - o) ++ us ++ vs.drop (k - o + us.length) = ws → Upd (cellsAt b o vs :: L) b k us (cellsAt b o ws :: L)
  | there {A : List Atom} {L L' : SH} {b k : Nat} {us : List Value} : Upd L b k us L' → Upd (A :: L) b k us (A :: L')
theorem Upd.split {H H' : SH} {b k : Nat} {us : List Value} (h : Upd H b k us H') : ∃ (old : List Value) (R : List Atom), old.length = us.length ∧ H.flatten.Perm (cellsAt b k old ++ R) ∧ H'.flatten.Perm (cellsAt b k us ++ R) := by
  induction h with
  | @cells b o k vs us ws L h1 h2 h3 =>
    subst h3
    have hvs : vs = vs.take (k - o) ++ ((vs.drop (k - o)).take us.length ++ vs.drop (k - o + us.length)) := by
      rw [← List.drop_drop, List.take_append_drop, List.take_append_drop]
    have hl : (vs.take (k - o)).length = k - o := by simp; omega
    have hl2 : ((vs.drop (k - o)).take us.length).length = us.length := by simp; omega
    have hk : o + (k - o) = k := by omega
    refine ⟨(vs.drop (k - o)).take us.length, cellsAt b o (vs.take (k - o)) ++ (cellsAt b (k + us.length) (vs.drop (k - o + us.length)) ++ L.flatten), hl2, ?_, ?_⟩
    · have e : cellsAt b o vs = cellsAt b o (vs.take (k - o)) ++ (cellsAt b k ((vs.drop (k - o)).take us.length) ++ cellsAt b (k + us.length) (vs.drop (k - o + us.length))) := by
        conv => lhs; rw [hvs]
        rw [cellsAt_append, hl, hk, cellsAt_append, hl2]
      simp only [List.flatten_cons, e, List.append_assoc]
      exact perm_lead _ _ _
    · simp only [List.flatten_cons, cellsAt_append, hl, hk, List.append_assoc]
      exact perm_lead _ _ _
  | @there A L L' b k us _ ih =>
    obtain ⟨old, R, h1, h2, h3⟩ := ih
    refine ⟨old, A ++ R, h1, ?_, ?_⟩
    · simp only [List.flatten_cons]
      refine (List.Perm.append_left A h2).trans ?_
      rw [← List.append_assoc, ← List.append_assoc]
      exact List.Perm.append_right _ List.perm_append_comm
    · simp only [List.flatten_cons]
      refine (List.Perm.append_left A h3).trans ?_
      rw [← List.append_assoc, ← List.append_assoc]
      exact List.Perm.append_right _ List.perm_append_comm
theorem st_store {m : Nat} {x y : Operand} {b o : Nat} {v : Value} {H' : SH} (hx : ev Γ x = some (.pointer (some ⟨b, o, none⟩))) (hy : ev Γ y = some v) (hn : v.cells.size = m) (hone : v.cells.toList.all oneCell = true)
    (hu : Upd H b o v.cells.toList H') (h : VO P n rs (putE d undef Γ) H' Z K) : VO P n (⟨d, none, .store m x y⟩ :: rs) Γ H Z K := by
  refine VO.act rfl rfl (fun ρ hρ => ⟨_, rfl, ?_⟩)
  obtain ⟨old, R, h1, h2, h3⟩ := hu.split
  refine SWP.perm h2 ?_
  have hρy : ρ y = v := hρ _ _ hy
  have := mem_store (P := P) (ρ := ρ) (n := m) (x := x) (v := y) (us := old) (R := R) (b := b) (o := o) (K := fun nx L => ∃ v H', (nx = .value v ∨ (nx = .skip ∧ v = undef)) ∧ L.Perm H'.flatten ∧ VO P n rs (putE d v Γ) H' Z K)
    (hρ _ _ hx) (by rw [hρy]; exact hn) (by rw [h1]; simpa using hn) (by rw [hρy]; exact List.all_eq_true.1 hone) ⟨undef, H', .inr ⟨rfl, rfl⟩, by rw [hρy]; exact h3.symm, h⟩
  exact this
theorem st_store' {m : Nat} {x y : Operand} {b o : Nat} {v : Value} {us : List Value} {H' : SH} (hx : ev Γ x = some (.pointer (some ⟨b, o, none⟩))) (hy : ev Γ y = some v) (hv : v.cells.toList = us) (hn : us.length = m) (hone : us.all oneCell = true)
    (hu : Upd H b o us H') (h : VO P n rs (putE d undef Γ) H' Z K) : VO P n (⟨d, none, .store m x y⟩ :: rs) Γ H Z K := by
  subst hv
  exact st_store hx hy (by simpa using hn) hone hu h
theorem st_build {z : List Value} {ps : List (Nat × Nat × Operand)} {out : List Value} (hk : (ps.map (·.2.2)).all (known Γ) = true) (ho : putParts z (evParts (evD Γ) ps) = some out)
    (h : VO P n rs (putE d (.agg out.toArray) Γ) H Z K) : VO P n (⟨d, none, .build z ps⟩ :: rs) Γ H Z K := by
  refine VO.pure rfl (fun ρ hρ => ?_) h
  have : evParts ρ ps = evParts (evD Γ) ps := by
    simp only [evParts]
    refine List.map_congr_left (fun p hp => ?_)
    obtain ⟨a, b, c⟩ := p
    have hc := List.all_eq_true.1 hk c (List.mem_map.2 ⟨_, hp, rfl⟩)
    simp [evD_of hc hρ]
  simp [pureV, this, ho]
theorem st_box {t : TypeId} {x : Operand} {v : Value} (hx : ev Γ x = some v) (h : ∀ b, VO P n rs (putE d (.pointer (some ⟨b, 0, none⟩)) Γ) (cellsAt b 0 v.cells.toList :: H) Z K) : VO P n (⟨d, none, .box t x⟩ :: rs) Γ H Z K := by
  refine VO.act rfl rfl (fun ρ hρ => ⟨_, rfl, ?_⟩)
  refine mem_new (fun b => ⟨_, _, .inl rfl, ?_, h b⟩)
  rw [hρ _ _ hx]; simp
theorem st_alloc {t : TypeId} {z : List Value} (h : ∀ b, VO P n rs (putE d (.pointer (some ⟨b, 0, none⟩)) Γ) (cellsAt b 0 z :: H) Z K) : VO P n (⟨d, none, .alloc t z⟩ :: rs) Γ H Z K := by
  refine VO.act rfl rfl (fun ρ hρ => ⟨_, rfl, ?_⟩)
  refine mem_new (fun b => ⟨_, _, .inl rfl, ?_, h b⟩)
  simp
theorem st_mkmap (h : ∀ b, VO P n rs (putE d (.map (some b)) Γ) ([.obj b (.map #[] 0)] :: H) Z K) : VO P n (⟨d, none, .mkmap⟩ :: rs) Γ H Z K := by
  refine VO.act rfl rfl (fun ρ hρ => ⟨_, rfl, ?_⟩)
  refine mem_newObj rfl (fun b => ⟨_, _, .inl rfl, ?_, h b⟩)
  simp
theorem st_mkslice {t : TypeId} {size bytes : Nat} {z : List Value} {l c : Operand} {kl kc : IntKind} {li ci : Int} (hl : ev Γ l = some (.int kl li)) (hc : ev Γ c = some (.int kc ci)) (hb : 0 ≤ li ∧ li ≤ ci ∧ ci ≤ 9223372036854775807 ∧ bytes * ci ≤ 2 ^ 48)
    (hz : z.length = size) (h : ∀ b, VO P n rs (putE d (.slice (some ⟨b, 0, none⟩) li.toNat ci.toNat) Γ) (cellsAt b 0 (zeroRow ci.toNat z) :: H) Z K) : VO P n (⟨d, none, .mkslice t size bytes z l c⟩ :: rs) Γ H Z K := by
  refine VO.act rfl rfl (fun ρ hρ => ⟨_, rfl, ?_⟩)
  rw [hρ _ _ hl, hρ _ _ hc]
  simp only [hb, hz, and_self, if_true]
  refine mem_new (fun b => ⟨_, _, .inl rfl, ?_, h b⟩)
  simp
theorem st_bslice {t : TypeId} {len : Nat} {z : List Value} {ps : List (Nat × Nat × Operand)} {out : List Value} (hk : (ps.map (·.2.2)).all (known Γ) = true) (ho : putParts (zeroRow len z) (evParts (evD Γ) ps) = some out)
    (h : ∀ b, VO P n rs (putE d (.slice (some ⟨b, 0, none⟩) len len) Γ) (cellsAt b 0 out :: H) Z K) : VO P n (⟨d, none, .bslice t len z ps⟩ :: rs) Γ H Z K := by
  refine VO.act rfl rfl (fun ρ hρ => ⟨_, rfl, ?_⟩)
  have : evParts ρ ps = evParts (evD Γ) ps := by
    simp only [evParts]
    refine List.map_congr_left (fun p hp => ?_)
    obtain ⟨a, b, c⟩ := p
    have hc := List.all_eq_true.1 hk c (List.mem_map.2 ⟨_, hp, rfl⟩)
    simp [evD_of hc hρ]
  rw [this, ho]
  refine mem_new (fun b => ⟨_, _, .inl rfl, ?_, h b⟩)
  simp
theorem st_call {f : Nat} {xs : List Operand} {args : List Value} {Pre R : SH} {Q : Value → SH → Prop} (hf : Fun P f args Pre Q) (he : evs Γ xs = some args) (hs : Spl H Pre R)
    (h : ∀ v Post, Q v Post → VO P n rs (putE d v Γ) (Post ++ R) Z K) : VO P n (⟨d, none, .call f xs⟩ :: rs) Γ H Z K := VO.call hf he hs h
variable {Q : Exit → Env → SH → Prop} {keep : List Nat}
theorem VC.draw1 (h : VO P n rs Γ H (fun _ _ _ => False) fun Γ' H' => Q .normal (restr keep Γ') H') : VC P n (.draw [rs] keep) Γ H Q := VC.draw (by simpa using h)
theorem VC.draw2 {rs2 : List RO} (h : VO P n rs Γ H (fun _ _ _ => False) fun Γ' H' => Q .normal (restr keep Γ') H') (h2 : VO P n rs2 Γ H (fun _ _ _ => False) fun Γ' H' => Q .normal (restr keep Γ') H') : VC P n (.draw [rs, rs2] keep) Γ H Q := VC.draw (by simpa using ⟨h, h2⟩)
theorem VC.seq_reg {y : IC} (h : VO P n rs Γ H (fun ch Γ' H' => Q (.panic ch) Γ' H') fun Γ' H' => VC P n y (restr keep Γ') H' Q) : VC P n (.seq (.reg rs keep) y) Γ H Q := VC.seq (VC.reg h)
theorem VC.seq_draw1 {y : IC} (h : VO P n rs Γ H (fun _ _ _ => False) fun Γ' H' => VC P n y (restr keep Γ') H' Q) : VC P n (.seq (.draw [rs] keep) y) Γ H Q := VC.seq (VC.draw1 h)
theorem VC.seq_seq {x y z : IC} (h : VC P n (.seq x y) Γ H (thenQ (fun Γ' H' => VC P n z Γ' H' Q) Q)) : VC P n (.seq (.seq x y) z) Γ H Q := VC.seq h
theorem VC.seq_block {id : Nat} {x z : IC} (h : VC P n x Γ H (blockQ id (thenQ (fun Γ' H' => VC P n z Γ' H' Q) Q))) : VC P n (.seq (.block id x) z) Γ H Q := VC.seq (VC.block h)
theorem VC.seq_skip {y : IC} (h : VC P n y Γ H Q) : VC P n (.seq .skip y) Γ H Q := VC.seq (VC.skip h)
theorem VC.cond_t {c : Operand} {x y : IC} (hc : ev Γ c = some (.bool true)) (h : VC P n x Γ H Q) : VC P n (.cond c x y) Γ H Q := VC.cond hc (fun _ => h) (fun e => by cases e)
theorem VC.cond_f {c : Operand} {x y : IC} (hc : ev Γ c = some (.bool false)) (h : VC P n y Γ H Q) : VC P n (.cond c x y) Γ H Q := VC.cond hc (fun e => by cases e) (fun _ => h)
theorem VC.seq_cond {c : Operand} {x y z : IC} {t : Bool} (hc : ev Γ c = some (.bool t)) (ht : t = true → VC P n x Γ H (thenQ (fun Γ' H' => VC P n z Γ' H' Q) Q)) (hf : t = false → VC P n y Γ H (thenQ (fun Γ' H' => VC P n z Γ' H' Q) Q)) :
    VC P n (.seq (.cond c x y) z) Γ H Q := VC.seq (VC.cond hc ht hf)
end
theorem lnb : (∀ cs : List Value, putParts cs [] = some cs) ∧
    (∀ (cs : List Value) (o s : Nat) (v : Value) (r : List (Nat × Nat × Value)), putParts cs ((o, s, v) :: r) = if v.cells.size = s ∧ o + s ≤ cs.length then putParts (cs.take o ++ v.cells.toList ++ cs.drop (o + s)) r else none) ∧
    (∀ ρ : Operand → Value, evParts ρ [] = []) ∧ (∀ (ρ : Operand → Value) (o s : Nat) (x : Operand) (r : List (Nat × Nat × Operand)), evParts ρ ((o, s, x) :: r) = (o, s, ρ x) :: evParts ρ r) ∧
    (∀ (Γ : Env) (x : Operand), evD Γ x = (ev Γ x).getD undef) ∧ (∀ (Γ : Env) (t : Nat), ev Γ (.tmp t) = look Γ t) ∧ (∀ (Γ : Env) (v : Value), ev Γ (.const v) = some v) ∧
    (∀ (Γ : Env) (g : Nat), ev Γ (.global g) = some (.pointer (some ⟨g, 0, none⟩))) ∧ (∀ (Γ : Env) (f : Nat), ev Γ (.func f) = some (.func (.func f) #[] #[])) ∧
    (∀ (s t : Nat) (v : Value) (r : Env), look ((s, v) :: r) t = if s = t then some v else look r t) ∧ (∀ (d : Nat) (v : Value) (Γ : Env), putE (some d) v Γ = (d, v) :: Γ) ∧ (∀ (v : Value) (Γ : Env), putE none v Γ = Γ) ∧
    (∀ v d : Value, (some v).getD d = v) ∧ (∀ l : List Value, l.toArray.size = l.length) ∧ (∀ l : List Value, l.toArray.toList = l) ∧ (∀ (a : Value) (l : List Value), (a :: l).length = l.length + 1) ∧ (([] : List Value).length = 0) ∧
    (∀ (a : Value) (l : List Value) (n : Nat), (a :: l).take (n + 1) = a :: l.take n) ∧ (∀ l : List Value, l.take 0 = []) ∧ (∀ (a : Value) (l : List Value) (n : Nat), (a :: l).drop (n + 1) = l.drop n) ∧ (∀ l : List Value, l.drop 0 = l) ∧
    (∀ (a : Value) (l m : List Value), a :: l ++ m = a :: (l ++ m)) ∧ (∀ l : List Value, [] ++ l = l) ∧ (∀ l : List Value, l ++ [] = l) :=
  ⟨fun _ => rfl, fun _ _ _ _ _ => rfl, fun _ => rfl, fun _ _ _ _ _ => rfl, fun _ _ => rfl, fun _ _ => rfl, fun _ _ => rfl, fun _ _ => rfl, fun _ _ => rfl, fun _ _ _ _ => rfl, fun _ _ _ => rfl, fun _ _ => rfl, fun _ _ => rfl, fun _ => List.size_toArray, fun _ => rfl,
    fun _ _ => rfl, rfl, fun _ _ _ => rfl, fun _ => rfl, fun _ _ _ => rfl, fun _ => rfl, fun _ _ _ => rfl, fun _ => rfl, fun _ => List.append_nil _⟩
end Go.V

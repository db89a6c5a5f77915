/-
  What is handed in, read alone; more rules.
-/
import Derived.Test.YtffmipimgodfdaaDA
namespace Go.V
open Go

structure ActR where
  kind : Int
  cls : Int
  sel : ByteArray
  method : Int
  site : Int

def actEnc (x : ActR) : List Value := [vi x.kind, vi x.cls, .string x.sel, vi x.method, vi x.site]

/-- A slice of calls that is read alone. -/
def RdActs (A : List Atom) (v : Value) (l : List ActR) : Prop := (v = .slice none 0 0 ∧ l = []) ∨ ∃ b o c, v = .slice (some ⟨b, o, none⟩) l.length c ∧ ∀ i x, l[i]? = some x → ∀ a ∈ cellsAt b (o + i * 5) (actEnc x), a ∈ A

theorem RdActs.form {A : List Atom} {v : Value} {l : List ActR} (h : RdActs A v l) : ∃ a c, v = .slice a l.length c := by
  rcases h with ⟨rfl, rfl⟩ | ⟨b, o, c, rfl, _⟩
  · exact ⟨_, _, rfl⟩
  · exact ⟨_, _, rfl⟩

theorem RdActs.pos {A : List Atom} {v : Value} {l : List ActR} (h : RdActs A v l) (hn : 0 < l.length) : ∃ b o c, v = .slice (some ⟨b, o, none⟩) l.length c ∧ ∀ i x, l[i]? = some x → ∀ a ∈ cellsAt b (o + i * 5) (actEnc x), a ∈ A := by
  rcases h with ⟨rfl, rfl⟩ | h
  · simp at hn
  · exact h

theorem Imp.back {A I : SH} : Imp (I ++ A) (A ++ I) := Imp.perm (by simp only [List.flatten_append]; exact List.perm_append_comm)
theorem Imp.back1 {A : List Atom} {I : SH} : Imp (I ++ [A]) (A :: I) := Imp.back (A := [A])

theorem Imp.head {A : List Atom} {I : SH} : Imp (A :: I) [A] := ⟨I, by simp [Spl]⟩

theorem st_loadA {P : Program} {n : Nat} {rs : List RO} {Γ : Env} {H : SH} {K : Env → SH → Prop} {d : Option Nat} {m : Nat} {x : Operand} {b o : Nat} {us : List Value} (hx : ev Γ x = some (.pointer (some ⟨b, o, none⟩))) (hm : ∀ a ∈ cellsAt b o us, a ∈ H.flatten) (hn : us.length = m) (h : VO P n rs (putE d (.agg us.toArray) Γ) H K) : VO P n (⟨d, none, .loadN m x⟩ :: rs) Γ H K :=
  VO.read rfl rfl (fun ρ hρ => ⟨_, rfl, fun F w hs => by
    simp [hρ _ _ hx, Instr.sureAddr, run_loadCells hn hm hs]⟩) h

theorem lookA_asked (a : Abs) (n : Nat) (c : Int) (s : ByteArray) : lookA { a with asked := n } c s = lookA a c s := by
  have h : ∀ f c, plainA { a with asked := n } s f c = plainA a s f c := by
    intro f
    induction f with
    | zero => intro c; rfl
    | succ f ih =>
      intro c
      have h1 : ({ a with asked := n } : Abs).dic c = a.dic c := rfl
      have h2 : ({ a with asked := n } : Abs).up c = a.up c := rfl
      simp only [plainA, h1, h2, ih]
  unfold lookA
  rw [h]; rfl

theorem lookA_askA (a : Abs) (c' c : Int) (s : ByteArray) : lookA (askA a c') c s = lookA a c s := by
  unfold askA
  split
  · exact lookA_asked _ _ _ _
  · rfl

theorem askA_sup (a : Abs) (c : Int) : (askA a c).sup = a.sup := by unfold askA; split <;> rfl
theorem sendA_sup (a : Abs) (x c : Int) : (sendA a x c).sup = a.sup := by unfold sendA; split <;> rfl
theorem callA_sup (a : Abs) (k c : Int) (s : ByteArray) (m x : Int) : (callA a k c s m x).sup = a.sup := by
  unfold callA instA remA
  split
  · split <;> rfl
  · split
    · split <;> rfl
    · split
      · exact askA_sup _ _
      · split
        · exact sendA_sup _ _ _
        · rfl
theorem Fun.flat {P : Program} {f : Nat} {args : List Value} {Pre : SH} {Q : Value → SH → Prop} (h : Fun P f args Pre Q) : Fun P f args [Pre.flatten] (fun v Post => ∃ Post', Q v Post' ∧ Post = [Post'.flatten]) := by
  refine h.conv (R := []) (by simp [V.Spl]) (fun v Post hq => ⟨_, ⟨Post, hq, rfl⟩, Imp.perm (by simp)⟩)
end Go.V

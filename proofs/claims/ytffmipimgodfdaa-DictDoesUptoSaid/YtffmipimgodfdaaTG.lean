/-
  What is handed in, read alone; more rules.
-/
import Derived.Test.YtffmipimgodfdaaD8
import Derived.Test.YtffmipimgodfdaaWM
import Derived.KernelRfl
import Derived.Test.YtffmipimgodfdaaProg
import Derived.Test.YtffmipimgodfdaaD9
set_option linter.unusedSimpArgs false
set_option linter.unusedVariables false
namespace Go.V
open Go

structure ActR where
  kind : Int
  cls : Int
  sel : ByteArray
  method : Int
  site : Int

def actEnc (x : ActR) : List Value := [vi x.kind, vi x.cls, .string x.sel, vi x.method, vi x.site]

/-- A slice of calls that is read alone. -/
def RdActs (A : List Atom) (v : Value) (l : List ActR) : Prop := (v = .slice none 0 0 ∧ l = []) ∨ ∃ b o c, v = .slice (some ⟨b, o, none⟩) l.length c ∧ ∀ i x, l[i]? = some x → ∀ a ∈ cellsAt b (o + i * 5) (actEnc x), a ∈ A

theorem RdActs.form {A : List Atom} {v : Value} {l : List ActR} (h : RdActs A v l) : ∃ a c, v = .slice a l.length c := by
  rcases h with ⟨rfl, rfl⟩ | ⟨b, o, c, rfl, _⟩
  · exact ⟨_, _, rfl⟩
  · exact ⟨_, _, rfl⟩

theorem RdActs.pos {A : List Atom} {v : Value} {l : List ActR} (h : RdActs A v l) (hn : 0 < l.length) : ∃ b o c, v = .slice (some ⟨b, o, none⟩) l.length c ∧ ∀ i x, l[i]? = some x → ∀ a ∈ cellsAt b (o + i * 5) (actEnc x), a ∈ A := by
  rcases h with ⟨rfl, rfl⟩ | h
  · simp at hn
  · exact h




theorem lookA_asked (a : Abs) (n : Nat) (c : Int) (s : ByteArray) : lookA { a with asked := n } c s = lookA a c s := by
  have h : ∀ f c, plainA { a with asked := n } s f c = plainA a s f c := by
    intro f
    induction f with
    | zero => intro c; rfl
    | succ f ih =>
      intro c
      have h1 : ({ a with asked := n } : Abs).dic c = a.dic c := rfl
      have h2 : ({ a with asked := n } : Abs).up c = a.up c := rfl
      simp only [plainA, h1, h2, ih]
  unfold lookA
  rw [h]; rfl

theorem lookA_askA (a : Abs) (c' c : Int) (s : ByteArray) : lookA (askA a c') c s = lookA a c s := by
  unfold askA
  split
  · exact lookA_asked _ _ _ _
  · rfl

theorem askA_sup (a : Abs) (c : Int) : (askA a c).sup = a.sup := by unfold askA; split <;> rfl
theorem sendA_sup (a : Abs) (x c : Int) : (sendA a x c).sup = a.sup := by unfold sendA; split <;> rfl
theorem callA_sup (a : Abs) (k c : Int) (s : ByteArray) (m x : Int) : (callA a k c s m x).sup = a.sup := by
  unfold callA instA remA
  split
  · split <;> rfl
  · split
    · split <;> rfl
    · split
      · exact askA_sup _ _
      · split
        · exact sendA_sup _ _ _
        · rfl
end Go.V
namespace Go.Proofs.Ytffmipimgodfdaa
open Go Go.V
set_option maxRecDepth 100000
/- palaver/palaverlaw22.DictDoes -/
def kp6 : List (Nat × List Nat) := [(0, [0, 1, 44, 45, 46, 47, 48, 51, 52, 67, 68, 104, 105, 106, 107, 108, 109, 112, 113, 114, 117]), (1, [0, 1, 5, 44, 45, 46, 47, 48, 51, 52, 67, 68, 104, 105, 106, 107, 108, 109, 112, 113, 114, 117]), (2, [0, 1, 5, 23, 44, 45, 46, 47, 48, 51, 52, 67, 68, 104, 105, 106, 107, 108, 109, 112, 113, 114, 117]), (3, [4]), (4, [0, 1, 5, 6, 44, 45, 46, 47, 48, 51, 52, 67, 68, 104, 105, 106, 107, 108, 109, 112, 113, 114, 117]), (5, [0, 1, 5, 6, 7, 8, 44, 45, 46, 47, 48, 51, 52, 67, 68, 104, 105, 106, 107, 108, 109, 112, 113, 114, 117]), (6, [0, 1, 5, 6, 7, 8, 9, 10, 44, 45, 46, 47, 48, 51, 52, 67, 68, 104, 105, 106, 107, 108, 109, 112, 113, 114, 117]), (7, [0, 1, 5, 6, 7, 8, 9, 10, 11, 44, 45, 46, 47, 48, 51, 52, 67, 68, 104, 105, 106, 107, 108, 109, 112, 113, 114, 117]), (8, [0, 1, 5, 6, 7, 9, 53, 67, 68, 104, 105, 106, 107, 108, 109, 112, 113, 114, 117]), (9, [4]), (10, [0, 1, 5, 6, 7, 9, 55, 67, 68, 104, 105, 106, 107, 108, 109, 112, 113, 114, 117]), (11, [4]), (12, [0, 1, 5, 7, 9, 67, 68, 104, 105, 106, 107, 108, 109, 112, 113, 114, 117]), (13, [1, 5, 7, 9, 12, 13, 67, 68, 104, 105, 106, 107, 108, 109, 112, 113, 114, 117]), (14, [1, 5, 7, 9, 12, 69, 104, 105, 106, 107, 108, 109, 112, 113, 114, 117]), (15, [4]), (16, [1, 5, 7, 9, 12, 14, 104, 105, 106, 107, 108, 109, 112, 113, 114, 117]), (17, [1, 5, 7, 9, 12, 14, 15, 104, 105, 106, 107, 108, 109, 112, 113, 114, 117]), (18, [1, 5, 7, 9, 12, 14, 15, 75, 104, 105, 106, 107, 108, 109, 112, 113, 114, 117]), (19, [1, 5, 7, 9, 12, 14, 15, 104, 105, 106, 107, 108, 109, 112, 113, 114, 117]), (20, [1, 5, 7, 9, 12, 14, 15, 84, 104, 105, 106, 107, 108, 109, 112, 113, 114, 117]), (21, [4]), (22, [1, 5, 7, 9, 12, 14, 15, 16, 104, 105, 106, 107, 108, 109, 112, 113, 114, 117]), (23, [1, 5, 7, 9, 12, 14, 15, 95, 104, 105, 106, 107, 108, 109, 112, 113, 114, 117]), (24, [4]), (25, [5, 9, 12, 14, 17, 104, 105, 106, 107, 108, 109, 112, 113, 114, 117]), (26, [5, 9, 14, 17, 18, 104, 105, 106, 107, 108, 109, 112, 113, 114, 117]), (27, [5, 9, 17, 18, 19, 104, 105, 106, 107, 108, 109, 112, 113, 114, 117]), (28, [4])]
def od6 : List (Nat × List (List Nat)) := [(28, [[0, 1, 2, 3, 4, 5, 6, 7, 8, 9, 10, 11, 12, 13, 14, 15, 16, 17]])]
def F6 : FIR := ⟨119, [.tmp 4],
 (.seq (.reg [⟨(some 4), none, .mv (.const (Value.bool false))⟩] [0, 1, 44, 45, 46, 47, 48, 51, 52, 67, 68, 104, 105, 106, 107, 108, 109, 112, 113, 114, 117])
 (.seq (.reg [⟨(some 20), none, .call 7 []⟩,
 ⟨(some 5), none, .mv (.tmp 20)⟩] [0, 1, 5, 44, 45, 46, 47, 48, 51, 52, 67, 68, 104, 105, 106, 107, 108, 109, 112, 113, 114, 117])
 (.seq (.seq (.reg [⟨(some 21), none, .mv (.tmp 0)⟩,
 ⟨(some 22), none, .lenL (.tmp 21)⟩,
 ⟨(some 23), none, .bin .gtr (.tmp 22) (.const (Value.int IntKind.i64 33554431))⟩] [0, 1, 5, 23, 44, 45, 46, 47, 48, 51, 52, 67, 68, 104, 105, 106, 107, 108, 109, 112, 113, 114, 117])
 (.cond (.tmp 23)
 (.seq (.reg [⟨(some 24), none, .mv (.tmp 5)⟩,
 ⟨(some 4), none, .mv (.tmp 24)⟩] [4])
 .ret)
 .skip))
 (.seq (.reg [⟨(some 25), none, .mv (.tmp 0)⟩,
 ⟨(some 26), none, .call 15 [(.tmp 25)]⟩,
 ⟨(some 6), none, .mv (.tmp 26)⟩] [0, 1, 5, 6, 44, 45, 46, 47, 48, 51, 52, 67, 68, 104, 105, 106, 107, 108, 109, 112, 113, 114, 117])
 (.seq (.reg [⟨(some 28), none, .mv (.tmp 6)⟩,
 ⟨(some 29), none, .call 8 [(.tmp 28)]⟩,
 ⟨(some 27), none, .mv (.tmp 29)⟩,
 ⟨(some 30), none, .ext (.tmp 27) 0⟩,
 ⟨(some 31), none, .ext (.tmp 27) 1⟩,
 ⟨(some 7), none, .mv (.tmp 30)⟩,
 ⟨(some 8), none, .mv (.tmp 31)⟩] [0, 1, 5, 6, 7, 8, 44, 45, 46, 47, 48, 51, 52, 67, 68, 104, 105, 106, 107, 108, 109, 112, 113, 114, 117])
 (.seq (.reg [⟨(some 33), none, .mv (.tmp 0)⟩,
 ⟨(some 34), none, .call 16 [(.tmp 33)]⟩,
 ⟨(some 32), none, .mv (.tmp 34)⟩,
 ⟨(some 35), none, .ext (.tmp 32) 0⟩,
 ⟨(some 36), none, .ext (.tmp 32) 1⟩,
 ⟨(some 9), none, .mv (.tmp 35)⟩,
 ⟨(some 10), none, .mv (.tmp 36)⟩] [0, 1, 5, 6, 7, 8, 9, 10, 44, 45, 46, 47, 48, 51, 52, 67, 68, 104, 105, 106, 107, 108, 109, 112, 113, 114, 117])
 (.seq (.reg [⟨(some 37), none, .mv (.tmp 6)⟩,
 ⟨(some 38), none, .mv (.tmp 0)⟩,
 ⟨(some 39), none, .call 17 [(.tmp 37), (.tmp 38)]⟩,
 ⟨(some 11), none, .mv (.tmp 39)⟩] [0, 1, 5, 6, 7, 8, 9, 10, 11, 44, 45, 46, 47, 48, 51, 52, 67, 68, 104, 105, 106, 107, 108, 109, 112, 113, 114, 117])
 (.seq (.seq (.reg [⟨(some 40), none, .mv (.tmp 8)⟩,
 ⟨(some 41), none, .mv (.tmp 10)⟩,
 ⟨(some 42), none, .bin .neq (.tmp 40) (.tmp 41)⟩,
 ⟨(some 43), none, .mv (.tmp 42)⟩,
 ⟨(some 44), (some (43, false)), .mv (.tmp 7)⟩,
 ⟨(some 45), (some (43, false)), .eqnil false .ptr (.tmp 44)⟩,
 ⟨(some 46), (some (43, false)), .mv (.tmp 9)⟩,
 ⟨(some 47), (some (43, false)), .eqnil false .ptr (.tmp 46)⟩,
 ⟨(some 48), (some (43, false)), .eqb true (.tmp 45) (.tmp 47)⟩,
 ⟨(some 49), none, .pick (.tmp 43) (.const (Value.bool true)) (.tmp 48)⟩,
 ⟨(some 50), none, .mv (.tmp 49)⟩,
 ⟨(some 51), (some (50, false)), .mv (.tmp 11)⟩,
 ⟨(some 52), (some (50, false)), .un .not (.tmp 51)⟩,
 ⟨(some 53), none, .pick (.tmp 50) (.const (Value.bool true)) (.tmp 52)⟩] [0, 1, 5, 6, 7, 9, 53, 67, 68, 104, 105, 106, 107, 108, 109, 112, 113, 114, 117])
 (.cond (.tmp 53)
 (.seq (.reg [⟨(some 4), none, .mv (.const (Value.bool false))⟩] [4])
 .ret)
 .skip))
 (.seq (.seq (.reg [⟨(some 54), none, .mv (.tmp 7)⟩,
 ⟨(some 55), none, .eqnil false .ptr (.tmp 54)⟩] [0, 1, 5, 6, 7, 9, 55, 67, 68, 104, 105, 106, 107, 108, 109, 112, 113, 114, 117])
 (.cond (.tmp 55)
 (.seq (.reg [⟨(some 56), none, .mv (.tmp 5)⟩,
 ⟨(some 4), none, .mv (.tmp 56)⟩] [4])
 .ret)
 .skip))
 (.seq (.reg [⟨(some 57), none, .mv (.tmp 6)⟩,
 ⟨(some 58), none, .call 18 [(.tmp 57)]⟩] [0, 1, 5, 7, 9, 67, 68, 104, 105, 106, 107, 108, 109, 112, 113, 114, 117])
 (.seq (.reg [⟨(some 60), none, .mv (.tmp 0)⟩,
 ⟨(some 61), none, .call 8 [(.tmp 60)]⟩,
 ⟨(some 59), none, .mv (.tmp 61)⟩,
 ⟨(some 62), none, .ext (.tmp 59) 0⟩,
 ⟨(some 63), none, .ext (.tmp 59) 1⟩,
 ⟨(some 12), none, .mv (.tmp 62)⟩,
 ⟨(some 13), none, .mv (.tmp 63)⟩] [1, 5, 7, 9, 12, 13, 67, 68, 104, 105, 106, 107, 108, 109, 112, 113, 114, 117])
 (.seq (.seq (.reg [⟨(some 64), none, .mv (.tmp 12)⟩,
 ⟨(some 65), none, .eqnil false .ptr (.tmp 64)⟩,
 ⟨(some 66), none, .mv (.tmp 65)⟩,
 ⟨(some 67), (some (66, false)), .mv (.tmp 13)⟩,
 ⟨(some 68), (some (66, false)), .bin .neq (.tmp 67) (.const (Value.int IntKind.i64 0))⟩,
 ⟨(some 69), none, .pick (.tmp 66) (.const (Value.bool true)) (.tmp 68)⟩] [1, 5, 7, 9, 12, 69, 104, 105, 106, 107, 108, 109, 112, 113, 114, 117])
 (.cond (.tmp 69)
 (.seq (.reg [⟨(some 4), none, .mv (.const (Value.bool false))⟩] [4])
 .ret)
 .skip))
 (.seq (.reg [⟨(some 70), none, .build [(Value.slice none 0 0), (Value.slice none 0 0), (Value.slice none 0 0), (Value.slice none 0 0), (Value.slice none 0 0), (Value.slice none 0 0), (Value.slice none 0 0), (Value.slice none 0 0)] []⟩,
 ⟨(some 71), none, .box 60 (.tmp 70)⟩,
 ⟨(some 14), none, .mv (.tmp 71)⟩] [1, 5, 7, 9, 12, 14, 104, 105, 106, 107, 108, 109, 112, 113, 114, 117])
 (.seq (.seq (.reg [⟨(some 15), none, .mv (.const (Value.int IntKind.i64 0))⟩] [1, 5, 7, 9, 12, 14, 15, 104, 105, 106, 107, 108, 109, 112, 113, 114, 117])
 (.block 0
 (.loop
 (.seq (.seq (.reg [⟨(some 72), none, .mv (.tmp 15)⟩,
 ⟨(some 73), none, .mv (.tmp 1)⟩,
 ⟨(some 74), none, .lenL (.tmp 73)⟩,
 ⟨(some 75), none, .bin .lss (.tmp 72) (.tmp 74)⟩] [1, 5, 7, 9, 12, 14, 15, 75, 104, 105, 106, 107, 108, 109, 112, 113, 114, 117])
 (.cond (.tmp 75)
 .skip
 (.exit 0)))
 (.seq (.block 1
 (.seq (.seq (.reg [⟨(some 78), none, .mv (.tmp 1)⟩,
 ⟨(some 79), none, .mv (.tmp 15)⟩,
 ⟨(some 80), none, .idxL 5 (.tmp 78) (.tmp 79)⟩,
 ⟨(some 81), none, .fld 2 (.tmp 80)⟩,
 ⟨(some 82), none, .load1 (.tmp 81)⟩,
 ⟨(some 83), none, .lenS (.tmp 82)⟩,
 ⟨(some 84), none, .bin .gtr (.tmp 83) (.const (Value.int IntKind.i64 1048576))⟩] [1, 5, 7, 9, 12, 14, 15, 84, 104, 105, 106, 107, 108, 109, 112, 113, 114, 117])
 (.cond (.tmp 84)
 (.seq (.reg [⟨(some 85), none, .mv (.tmp 5)⟩,
 ⟨(some 4), none, .mv (.tmp 85)⟩] [4])
 .ret)
 .skip))
 (.seq (.reg [⟨(some 86), none, .mv (.tmp 7)⟩,
 ⟨(some 87), none, .mv (.tmp 9)⟩,
 ⟨(some 88), none, .mv (.tmp 1)⟩,
 ⟨(some 89), none, .mv (.tmp 15)⟩,
 ⟨(some 90), none, .idxL 5 (.tmp 88) (.tmp 89)⟩,
 ⟨(some 91), none, .loadN 5 (.tmp 90)⟩,
 ⟨(some 92), none, .mv (.tmp 14)⟩,
 ⟨(some 93), none, .call 19 [(.tmp 86), (.tmp 87), (.tmp 91), (.tmp 92)]⟩,
 ⟨(some 16), none, .mv (.tmp 93)⟩] [1, 5, 7, 9, 12, 14, 15, 16, 104, 105, 106, 107, 108, 109, 112, 113, 114, 117])
 (.seq (.reg [⟨(some 94), none, .mv (.tmp 16)⟩,
 ⟨(some 95), none, .un .not (.tmp 94)⟩] [1, 5, 7, 9, 12, 14, 15, 95, 104, 105, 106, 107, 108, 109, 112, 113, 114, 117])
 (.cond (.tmp 95)
 (.seq (.reg [⟨(some 4), none, .mv (.const (Value.bool false))⟩] [4])
 .ret)
 .skip)))))
 (.reg [⟨(some 76), none, .mv (.tmp 15)⟩,
 ⟨(some 77), none, .bin .add (.tmp 76) (.const (Value.int IntKind.i64 1))⟩,
 ⟨(some 15), none, .mv (.tmp 77)⟩] [1, 5, 7, 9, 12, 14, 15, 104, 105, 106, 107, 108, 109, 112, 113, 114, 117]))))))
 (.seq (.reg [⟨(some 96), none, .mv (.tmp 7)⟩,
 ⟨(some 97), none, .call 11 [(.tmp 96)]⟩,
 ⟨(some 17), none, .alloc 36 [(Value.int IntKind.i64 0), (Value.int IntKind.i64 0), (Value.int IntKind.i64 0), (Value.int IntKind.i64 0), (Value.int IntKind.i64 0)]⟩,
 ⟨none, none, .store 5 (.tmp 17) (.tmp 97)⟩] [5, 9, 12, 14, 17, 104, 105, 106, 107, 108, 109, 112, 113, 114, 117])
 (.seq (.reg [⟨(some 98), none, .mv (.tmp 12)⟩,
 ⟨(some 99), none, .call 11 [(.tmp 98)]⟩,
 ⟨(some 18), none, .alloc 36 [(Value.int IntKind.i64 0), (Value.int IntKind.i64 0), (Value.int IntKind.i64 0), (Value.int IntKind.i64 0), (Value.int IntKind.i64 0)]⟩,
 ⟨none, none, .store 5 (.tmp 18) (.tmp 99)⟩] [5, 9, 14, 17, 18, 104, 105, 106, 107, 108, 109, 112, 113, 114, 117])
 (.seq (.reg [⟨(some 100), none, .mv (.tmp 14)⟩,
 ⟨(some 101), none, .call 20 [(.tmp 100)]⟩,
 ⟨(some 19), none, .mv (.tmp 101)⟩] [5, 9, 17, 18, 19, 104, 105, 106, 107, 108, 109, 112, 113, 114, 117])
 (.seq (.draw [[⟨(some 102), none, .mv (.tmp 5)⟩,
 ⟨(some 103), none, .mv (.tmp 102)⟩,
 ⟨(some 104), (some (103, true)), .loadN 5 (.tmp 17)⟩,
 ⟨(some 105), (some (103, true)), .mv (.tmp 9)⟩,
 ⟨(some 106), (some (103, true)), .nilck (.tmp 105)⟩,
 ⟨(some 107), (some (103, true)), .fld 195 (.tmp 106)⟩,
 ⟨(some 108), (some (103, true)), .loadN 5 (.tmp 107)⟩,
 ⟨(some 109), (some (103, true)), .eqagg false [.int, .int, .int, .int, .int] (.tmp 104) (.tmp 108)⟩,
 ⟨(some 110), none, .pick (.tmp 103) (.tmp 109) (.const (Value.bool false))⟩,
 ⟨(some 111), none, .mv (.tmp 110)⟩,
 ⟨(some 112), (some (111, true)), .loadN 5 (.tmp 18)⟩,
 ⟨(some 113), (some (111, true)), .build [(Value.int IntKind.i64 0), (Value.int IntKind.i64 0), (Value.int IntKind.i64 0), (Value.int IntKind.i64 0), (Value.int IntKind.i64 0)] []⟩,
 ⟨(some 114), (some (111, true)), .eqagg false [.int, .int, .int, .int, .int] (.tmp 112) (.tmp 113)⟩,
 ⟨(some 115), none, .pick (.tmp 111) (.tmp 114) (.const (Value.bool false))⟩,
 ⟨(some 116), none, .mv (.tmp 115)⟩,
 ⟨(some 117), (some (116, true)), .mv (.tmp 19)⟩,
 ⟨(some 118), none, .pick (.tmp 116) (.tmp 117) (.const (Value.bool false))⟩,
 ⟨(some 4), none, .mv (.tmp 118)⟩]] [4])
 .ret))))))))))))))))))⟩
theorem low6 : lowF Try.prog (assoc kp6) (assoc od6) 6 = some F6 := by kernel_rfl

end Go.Proofs.Ytffmipimgodfdaa
namespace Go.Proofs.Ytffmipimgodfdaa
open Go Go.V
set_option maxHeartbeats 6400000
set_option maxRecDepth 100000
set_option linter.unusedSimpArgs false
set_option linter.unusedVariables false
theorem both_new {R : TRep} {r : RTab} {xs : List Int} (h : Fresh R xs) (hok : ROk r) (hd : r.dt = newD xs) : Both R r 0 := by
  refine ⟨h.wf, ?_, hok, by rw [hd]; exact sim_new h⟩
  rw [h.tel]
  exact ⟨Nat.le_refl _, Nat.le_refl _, Nat.le_refl _, Nat.le_refl _, Nat.le_refl _⟩
theorem dictDoes_spec (A : List Atom) (v0 v1 : Value) (xs : List Int) (l : List ActR) (h0 : RdInts A v0 xs) (h1 : RdActs A v1 l) (hn : xs.length ≤ 1048576) (hl : l.length ≤ 1048576) :
    Fun Try.prog 6 [v0, v1] [A] (fun v Post => v = .bool true ∧ Post = [A]) := by
  obtain ⟨a0, c0, hv0⟩ := h0.form
  obtain ⟨a1, c1, hv1⟩ := h1.form
  refine Fun.intro low6 (by simp [F6]) ?_
  refine GO ?_
  refine st_call works_spec (by rfl) (R := [A]) (by simp [V.Spl]) (fun v Post hv => ?_)
  obtain ⟨rfl, rfl⟩ := hv
  rw [hv0, hv1]
  simp only [List.nil_append]
  rw [hv0] at h0
  refine GO ?_
  simp only [show ¬ ((xs.length : Int) > 33554431) from by omega, decide_false]
  refine GO ?_
  refine st_call (lentInts_spec A _ xs h0 hn) (by rfl) (R := []) (by simp [V.Spl]) (fun v Post hv => ?_)
  obtain ⟨b, o, c, sp, rfl, hc, hcs, rfl⟩ := hv
  simp only [List.append_nil]
  refine GO ?_
  have hB : RdInts (cellsAt b o (lentL xs ++ sp)) (.slice (some ⟨b, o, none⟩) xs.length c) xs := .inr ⟨b, o, c, rfl, fun i x hx => lent_at (by rw [List.getElem?_append_left (List.getElem?_eq_some_iff.1 hx).1]; exact hx)⟩
  refine st_call (new_spec _ _ xs hB hn) (by rfl) (by (focus ((repeat (first | exact Spl.nil | (apply Spl.cons; (focus ((repeat (first | with_reducible exact Tk.here | apply Tk.there)); done))))); done))) (fun v Post hv => ?_)
  rcases hv with hv | hv
  rotate_left
  · obtain ⟨hno, rfl, rfl⟩ := hv
    simp only [List.cons_append, List.nil_append]
    refine GO ?_
    refine st_call (rnew_spec A _ xs h0 hn) (by rfl) (by (focus ((repeat (first | exact Spl.nil | (apply Spl.cons; (focus ((repeat (first | with_reducible exact Tk.here | apply Tk.there)); done))))); done))) (fun v Post hv => ?_)
    rcases hv with hv | hv
    · exact absurd hv.1 hno
    obtain ⟨_, rfl, rfl⟩ := hv
    simp only [List.cons_append, List.nil_append]
    refine GO ?_
    refine st_call (wholeInts_spec A b o c sp _ xs hc h0 (by omega)) (by rfl) (by (focus ((repeat (first | exact Spl.nil | (apply Spl.cons; (focus ((repeat (first | with_reducible exact Tk.here | apply Tk.there)); done))))); done))) (fun v Post hv => ?_)
    obtain ⟨rfl, rfl⟩ := hv
    simp only [List.cons_append, List.nil_append]
    refine GO ?_
    exact endQ_mk (.inr rfl) (.tmp (by rfl) .nil) ⟨rfl, rfl⟩ (by (first | with_reducible exact Imp.refl | with_reducible exact Imp.left | (focus ((try simp only [List.nil_append]); (repeat (first | exact Imp.nil | (apply Imp.cons; (focus ((repeat (first | with_reducible exact Tk.here | apply Tk.there)); done))))); done))))
  obtain ⟨hok, t, R0, hf, rfl, rfl⟩ := hv
  simp only [List.cons_append, List.nil_append]
  refine VO.imp (H' := [cellsAt b o (lentL xs ++ sp), FA t R0, A]) (Imp.perm (by simp [FA])) ?_
  refine GO ?_
  refine st_call (rnew_spec A _ xs h0 hn) (by rfl) (by (focus ((repeat (first | exact Spl.nil | (apply Spl.cons; (focus ((repeat (first | with_reducible exact Tk.here | apply Tk.there)); done))))); done))) (fun v Post hv => ?_)
  rcases hv with hv | hv
  rotate_left
  · exact absurd hok hv.1
  obtain ⟨_, tr, r0, hrok, hrd, rfl, rfl⟩ := hv
  simp only [List.cons_append, List.nil_append]
  refine VO.imp (H' := [A, MA tr r0, cellsAt b o (lentL xs ++ sp), FA t R0]) (Imp.perm (by simp [MA])) ?_
  refine GO ?_
  refine st_call (wholeInts_spec A b o c sp _ xs hc h0 (by omega)) (by rfl) (by (focus ((repeat (first | exact Spl.nil | (apply Spl.cons; (focus ((repeat (first | with_reducible exact Tk.here | apply Tk.there)); done))))); done))) (fun v Post hv => ?_)
  obtain ⟨rfl, rfl⟩ := hv
  simp only [List.cons_append, List.nil_append]
  refine GO ?_
  have hls : (lentL xs ++ sp).length = c := by simp [lentL]; omega
  refine st_call (spoilInts_spec b o xs.length c (lentL xs ++ sp) hls (by omega) (by omega)) (by rfl) (by (focus ((repeat (first | exact Spl.nil | (apply Spl.cons; (focus ((repeat (first | with_reducible exact Tk.here | apply Tk.there)); done))))); done))) (fun v Post hv => ?_)
  obtain ⟨rfl, rfl⟩ := hv
  simp only [List.cons_append, List.nil_append]
  refine GO ?_
  refine st_call (new_spec A _ xs h0 hn) (by rfl) (by (focus ((repeat (first | exact Spl.nil | (apply Spl.cons; (focus ((repeat (first | with_reducible exact Tk.here | apply Tk.there)); done))))); done))) (fun v Post hv => ?_)
  rcases hv with hv | hv
  rotate_left
  · exact absurd hok hv.1
  obtain ⟨_, t2, R2, hf2, rfl, rfl⟩ := hv
  simp only [List.cons_append, List.nil_append]
  refine VO.imp (H' := [A, FA t2 R2, MA tr r0, FA t R0]) (Imp.perm ?_) ?_
  · simp [FA]
  refine GO ?_
  refine st_box (by rfl) (fun q => ?_)
  simp only [Value.cells]
  have hk0 : BkOk ⟨.slice none 0 0, [], []⟩ 0 := ⟨.nil, by simp, by simp, Nat.le_refl _⟩
  refine VO.imp (H' := [A, FA t R0, MA tr r0, BA q ⟨.slice none 0 0, [], []⟩, FA t2 R2]) (Imp.cut (M := [A, FA t R0, MA tr r0, cellsAt q 0 (bkT (.slice none 0 0)), FA t2 R2]) (by simp only [bkT]; (first | with_reducible exact Imp.refl | with_reducible exact Imp.left | (focus ((try simp only [List.nil_append]); (repeat (first | exact Imp.nil | (apply Imp.cons; (focus ((repeat (first | with_reducible exact Tk.here | apply Tk.there)); done))))); done)))) (Imp.perm (by simp [BA, BkM, slA]))) ?_
  have hb0 := both_new hf hrok hrd
  have hs0 := hf.sup
  refine GO ?_
  refine VC.loop (α := Nat × TRep × RTab × Bk) (Γf := fun y => [(1, .slice a1 l.length c1), (5, .bool true), (7, ptr0 t), (9, ptr0 tr), (12, ptr0 t2), (14, ptr0 q), (15, vi y.1)]) (Hf := fun y => [A, FA t y.2.1, MA tr y.2.2.1, BA q y.2.2.2, FA t2 R2])
    (I := fun y => y.1 ≤ l.length ∧ Both y.2.1 y.2.2.1 y.1 ∧ BkOk y.2.2.2 y.1) (μ := fun y => l.length - y.1) (0, R0, r0, ⟨.slice none 0 0, [], []⟩) ⟨Nat.zero_le _, hb0, hk0⟩ (by (repeat (first | exact Sub.nil | (apply Sub.cons; rfl)))) (by (first | with_reducible exact Imp.refl | with_reducible exact Imp.left | (focus ((try simp only [List.nil_append]); (repeat (first | exact Imp.nil | (apply Imp.cons; (focus ((repeat (first | with_reducible exact Tk.here | apply Tk.there)); done))))); done)))) ?_
  rintro ⟨i, R, r, k⟩ ⟨hi, hB, hk⟩
  simp only at hi hB hk
  refine GO ?_
  (first | (apply VC.seq_cond; rfl) | (apply VC.cond; rfl))
  · intro hlt
    have hlt : i < l.length := by simpa using hlt
    obtain ⟨b', o', c1', hvv, hA⟩ := h1.pos (by omega)
    rw [hv1] at hvv
    simp only [Value.slice.injEq, true_and] at hvv
    obtain ⟨rfl, rfl⟩ := hvv
    have hx := hA i l[i] (by simp)
    generalize l[i] = x at hx
    have hc2 : Atom.cell b' (o' + (i * 5 + 2)) (.string x.sel) ∈ A := hx _ (mem_cellsAt.2 ⟨2, _, rfl, by rw [Nat.add_assoc]⟩)
    refine GO ?_
    by_cases hbig : 1048576 < x.sel.size
    · simp only [show ((x.sel.size : Int) > 1048576) from by omega, decide_true]
      refine GO ?_
      exact endQ_mk (Post := [A]) (.inr rfl) (.tmp (by rfl) .nil) ⟨rfl, rfl⟩ Imp.head
    simp only [show ¬ ((x.sel.size : Int) > 1048576) from by omega, decide_false]
    refine GO ?_
    refine st_loadA (us := actEnc x) (by rfl) (fun a ha => by simp only [List.flatten_cons, List.mem_append]; exact .inl (hx a ha)) (by rfl) ?_
    simp only [actEnc]
    refine GO ?_
    refine st_call (does_spec t tr q R r i i k x.kind x.cls x.sel x.method x.site hB hk (by omega) (by omega) (by omega)) (by rfl) (by (focus ((repeat (first | exact Spl.nil | (apply Spl.cons; (focus ((repeat (first | with_reducible exact Tk.here | apply Tk.there)); done))))); done))) (fun v Post hv => ?_)
    obtain ⟨rfl, R', r', k', hB', hs', hk', rfl⟩ := hv
    simp only [List.cons_append, List.nil_append]
    refine GO ?_
    exact ⟨(i + 1, R', r', k'), ⟨by show i + 1 ≤ l.length; omega, hB', hk'⟩, by show l.length - (i + 1) < l.length - i; omega, by (repeat (first | exact Sub.nil | (apply Sub.cons; rfl))), by (first | with_reducible exact Imp.refl | with_reducible exact Imp.left | (focus ((try simp only [List.nil_append]); (repeat (first | exact Imp.nil | (apply Imp.cons; (focus ((repeat (first | with_reducible exact Tk.here | apply Tk.there)); done))))); done)))⟩
  intro hge
  refine GO ?_
  refine st_call (fun_fa (counts_full t R)) (by rfl) (by (focus ((repeat (first | exact Spl.nil | (apply Spl.cons; (focus ((repeat (first | with_reducible exact Tk.here | apply Tk.there)); done))))); done))) (fun v Post hv => ?_)
  obtain ⟨P1, ⟨rfl, rfl⟩, rfl⟩ := hv
  simp only [List.cons_append, List.nil_append, fa_eq, telEnc]
  refine GO ?_
  refine st_alloc (fun q2 => ?_)
  refine GO ?_
  refine st_call (fun_fa (counts_full t2 R2)) (by rfl) (by (focus ((repeat (first | exact Spl.nil | (apply Spl.cons; (focus ((repeat (first | with_reducible exact Tk.here | apply Tk.there)); done))))); done))) (fun v Post hv => ?_)
  obtain ⟨P1, ⟨rfl, rfl⟩, rfl⟩ := hv
  simp only [List.cons_append, List.nil_append, fa_eq, telEnc, hf2.tel]
  refine GO ?_
  refine st_alloc (fun q3 => ?_)
  refine GO ?_
  refine VO.split (A := BA q k) (B := cellsAt q 0 (bkT k.tv)) (C := slA k.tv (k.ps.map (·.v)) k.tsp ++ k.ps.flatMap owA) (by (focus ((repeat (first | with_reducible exact Tk.here | apply Tk.there)); done))) (by simp [BA, BkM]) ?_
  refine VO.split (A := slA k.tv (k.ps.map (·.v)) k.tsp ++ k.ps.flatMap owA) (B := slA k.tv (k.ps.map (·.v)) k.tsp) (C := k.ps.flatMap owA) (by (focus ((repeat (first | with_reducible exact Tk.here | apply Tk.there)); done))) (.refl _) ?_
  refine st_call (bookOwn_spec q k.tv k.ps k.tsp hk.sl hk.own (by have := hk.len; omega) (fun p hp => by have := hk.small p hp; omega)) (by rfl) (by (focus ((repeat (first | exact Spl.nil | (apply Spl.cons; (focus ((repeat (first | with_reducible exact Tk.here | apply Tk.there)); done))))); done))) (fun v Post hv => ?_)
  obtain ⟨rfl, rfl⟩ := hv
  simp only [List.cons_append, List.nil_append]
  refine GO ?_
  refine VO.split (A := MA tr r) (B := cellsAt tr 195 [vi r.tel.asked, vi r.tel.inl, vi r.tel.glob, vi r.tel.walked, vi r.tel.steps]) (C := MR tr r) (by (focus ((repeat (first | with_reducible exact Tk.here | apply Tk.there)); done))) (ma_tel tr r) ?_
  rw [hB.rtel]
  refine GO ?_
  simp only [eq_self, decide_true, Bool.and_true, Bool.false_eq_true, if_false]
  refine GO ?_
  simp only [Int.natCast_zero, eq_self, decide_true, Bool.and_true, Bool.false_eq_true, if_false]
  refine GO ?_
  exact endQ_mk (Post := [A]) (.inr rfl) (.tmp (by rfl) .nil) ⟨by simp [tup], rfl⟩ (by (first | with_reducible exact Imp.refl | with_reducible exact Imp.left | (focus ((try simp only [List.nil_append]); (repeat (first | exact Imp.nil | (apply Imp.cons; (focus ((repeat (first | with_reducible exact Tk.here | apply Tk.there)); done))))); done))))
end Go.Proofs.Ytffmipimgodfdaa

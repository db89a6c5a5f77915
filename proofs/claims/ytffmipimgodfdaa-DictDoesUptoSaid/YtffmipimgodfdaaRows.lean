/-
  No cell of these rows narrows 'for every input' (looked for: loops, veiled, ifaces, maps, wideKeys, modest, calm, conditions, laid).
  DERIVED. THE GIVEN ROWS OF THIS SEAT. 4 by the template 'for every input the law returns true; each argument reads behind the call as it read before'; 0 by the template 'total and deterministic' (their statements: YtffmipimgodfdaaTotals.lean).
  GIVEN WITH THE SEED: the statements are not yours to turn. If you find one false, say at which input.
  Laid BY PROGRAM, IN A SANDBOX (cutbox-rows.mjs): the forced cells as the released guide's own fill.sh prints them over the translation ecbdad91ca408a1d… (all of the seat's roots in one cut). By AI agents, Wed Nov 11 2026. No macro, syntax, notation, axiom, sorry.
-/
import Derived.Test.YtffmipimgodfdaaChecked
import GoSem.Claim
import GoSem.ClaimJoined
import GoSem.ClaimMapViews
import Derived.JoinedTies
import Derived.KernelRfl
namespace Go.Proofs.Ytffmipimgodfdaa
/- THE CELL 'sum', in the pinned program and in every row, IS THE sha256 OF THE DUMP (.gsa) THAT YtffmipimgodfdaaProg.lean LOADS. Nothing in Lean hashes anything: it is a label: what it is worth is what the hold of that sum in a sandbox is worth. -/
noncomputable def Try.pinned : Pinned := { name := "ytffmipimgodfdaa", sum := "ecbdad91ca408a1d20ade7ebbed9537fdeac2cc1c98f28b5989357c7f27b3538", checked := Try.checked }
namespace Rows
def none {H : Type} : Left H := { results := [], args := [] }

/-- 'palaverlaw22.DictSites': WHATEVER THE INPUT: true; the input reads as it did. -/
def dictSitesSpec : ChangeSpec := { name := "dictSites", fn := fun _ => fun
  | [d1, d2, d3] => { results := [.lit (.bool true)], args := [d1, d2, d3] }
  | _ => none }
def dictSitesRow : OpenClaim := { program := "ytffmipimgodfdaa", sum := "ecbdad91ca408a1d20ade7ebbed9537fdeac2cc1c98f28b5989357c7f27b3538", func := "palaver/palaverlaw22.DictSites", spec := "dictSites", unfollowed := true, recurses := true, apart := false }
def DictSitesSaid : Prop := dictSitesRow.holds Try.pinned (OpenSpec.ofChange dictSitesSpec)

/-- ITS FALSE NEIGHBOUR: 'it returns false'. Refute it at one input. -/
def dictSitesWrong : ChangeSpec := { name := "dictSites", fn := fun _ => fun
  | [d1, d2, d3] => { results := [.lit (.bool false)], args := [d1, d2, d3] }
  | _ => none }
def DictSitesWrongFalsely : Prop := dictSitesRow.holds Try.pinned (OpenSpec.ofChange dictSitesWrong)

/-- 'palaverlaw22.DictPlain': WHATEVER THE INPUT: true; the input reads as it did. -/
def dictPlainSpec : ChangeSpec := { name := "dictPlain", fn := fun _ => fun
  | [d1, d2] => { results := [.lit (.bool true)], args := [d1, d2] }
  | _ => none }
def dictPlainRow : OpenClaim := { program := "ytffmipimgodfdaa", sum := "ecbdad91ca408a1d20ade7ebbed9537fdeac2cc1c98f28b5989357c7f27b3538", func := "palaver/palaverlaw22.DictPlain", spec := "dictPlain", unfollowed := true, recurses := true, apart := false }
def DictPlainSaid : Prop := dictPlainRow.holds Try.pinned (OpenSpec.ofChange dictPlainSpec)

/-- ITS FALSE NEIGHBOUR: 'it returns false'. Refute it at one input. -/
def dictPlainWrong : ChangeSpec := { name := "dictPlain", fn := fun _ => fun
  | [d1, d2] => { results := [.lit (.bool false)], args := [d1, d2] }
  | _ => none }
def DictPlainWrongFalsely : Prop := dictPlainRow.holds Try.pinned (OpenSpec.ofChange dictPlainWrong)

/-- 'palaverlaw22.DictInherits': WHATEVER THE INPUT: true; the input reads as it did. -/
def dictInheritsSpec : ChangeSpec := { name := "dictInherits", fn := fun _ => fun
  | [d1, d2, d3] => { results := [.lit (.bool true)], args := [d1, d2, d3] }
  | _ => none }
def dictInheritsRow : OpenClaim := { program := "ytffmipimgodfdaa", sum := "ecbdad91ca408a1d20ade7ebbed9537fdeac2cc1c98f28b5989357c7f27b3538", func := "palaver/palaverlaw22.DictInherits", spec := "dictInherits", unfollowed := true, recurses := true, apart := false }
def DictInheritsSaid : Prop := dictInheritsRow.holds Try.pinned (OpenSpec.ofChange dictInheritsSpec)

/-- ITS FALSE NEIGHBOUR: 'it returns false'. Refute it at one input. -/
def dictInheritsWrong : ChangeSpec := { name := "dictInherits", fn := fun _ => fun
  | [d1, d2, d3] => { results := [.lit (.bool false)], args := [d1, d2, d3] }
  | _ => none }
def DictInheritsWrongFalsely : Prop := dictInheritsRow.holds Try.pinned (OpenSpec.ofChange dictInheritsWrong)

/-- 'palaverlaw22.DictDoes': WHATEVER THE INPUT: true; the input reads as it did. -/
def dictDoesSpec : ChangeSpec := { name := "dictDoes", fn := fun _ => fun
  | [d1, d2] => { results := [.lit (.bool true)], args := [d1, d2] }
  | _ => none }
def dictDoesRow : OpenClaim := { program := "ytffmipimgodfdaa", sum := "ecbdad91ca408a1d20ade7ebbed9537fdeac2cc1c98f28b5989357c7f27b3538", func := "palaver/palaverlaw22.DictDoes", spec := "dictDoes", unfollowed := true, recurses := true, apart := false }
def DictDoesSaid : Prop := dictDoesRow.holds Try.pinned (OpenSpec.ofChange dictDoesSpec)

/-- ITS FALSE NEIGHBOUR: 'it returns false'. Refute it at one input. -/
def dictDoesWrong : ChangeSpec := { name := "dictDoes", fn := fun _ => fun
  | [d1, d2] => { results := [.lit (.bool false)], args := [d1, d2] }
  | _ => none }
def DictDoesWrongFalsely : Prop := dictDoesRow.holds Try.pinned (OpenSpec.ofChange dictDoesWrong)

/- THE SECOND FORM. 'bulk': how many values and letters a reading holds, each counted each time it is reached (what is shared counts as often as it is met; a slice's spare places count too). A statement '..UptoSaid' is the law's where the arguments, and the package variables that the reading takes, are together of bulk at most 1048576: NARROWER than '..Said'. Prove '..Said' where nothing that the law and all that it calls make is longer than what came in: it says more and counts as full. Else prove '..UptoSaid'. A law counts once. -/
mutual
def uptoBulk {H : Type} : DataW H → Nat
  | .lit (.string bytes) => bytes.length + 1
  | .lit _ => 1
  | .nil => 1
  | .ptr d => uptoBulk d + 1
  | .slice elems spare => uptoBulkAll elems + uptoBulkAll spare + 1
  | .agg parts => uptoBulkAll parts + 1
  | .iface _ d => uptoBulk d + 1
  | .map entries => uptoBulkEntries entries + 1
  | .held _ => 1
def uptoBulkAll {H : Type} : List (DataW H) → Nat
  | [] => 0
  | d :: r => uptoBulk d + uptoBulkAll r
def uptoBulkEntries {H : Type} : List (Lit × DataW H) → Nat
  | [] => 0
  | x :: r => uptoBulkEntry x + uptoBulkEntries r
def uptoBulkEntry {H : Type} : Lit × DataW H → Nat
  | (.string bytes, d) => bytes.length + uptoBulk d + 1
  | (_, d) => uptoBulk d + 1
 end
def uptoSmall : (H : Type) → List (DataW H) → Bool := fun _ ds => decide (uptoBulkAll ds ≤ 1048576)
def OpenSpec.upto (s : _root_.Go.ChangeSpec) : _root_.Go.OpenSpec := { _root_.Go.OpenSpec.ofChange s with cond := some uptoSmall }

/-- 'palaverlaw22.DictSites', WHERE WHAT IT READS IS OF BULK AT MOST 1048576: true; the input reads as it did. -/
def dictSitesUptoRow : OpenClaim := { program := "ytffmipimgodfdaa", sum := "ecbdad91ca408a1d20ade7ebbed9537fdeac2cc1c98f28b5989357c7f27b3538", func := "palaver/palaverlaw22.DictSites", spec := "dictSites", unfollowed := true, recurses := true, apart := false, narrowed := true }
def DictSitesUptoSaid : Prop := dictSitesUptoRow.holds Try.pinned (OpenSpec.upto dictSitesSpec)

/-- 'palaverlaw22.DictPlain', WHERE WHAT IT READS IS OF BULK AT MOST 1048576: true; the input reads as it did. -/
def dictPlainUptoRow : OpenClaim := { program := "ytffmipimgodfdaa", sum := "ecbdad91ca408a1d20ade7ebbed9537fdeac2cc1c98f28b5989357c7f27b3538", func := "palaver/palaverlaw22.DictPlain", spec := "dictPlain", unfollowed := true, recurses := true, apart := false, narrowed := true }
def DictPlainUptoSaid : Prop := dictPlainUptoRow.holds Try.pinned (OpenSpec.upto dictPlainSpec)

/-- 'palaverlaw22.DictInherits', WHERE WHAT IT READS IS OF BULK AT MOST 1048576: true; the input reads as it did. -/
def dictInheritsUptoRow : OpenClaim := { program := "ytffmipimgodfdaa", sum := "ecbdad91ca408a1d20ade7ebbed9537fdeac2cc1c98f28b5989357c7f27b3538", func := "palaver/palaverlaw22.DictInherits", spec := "dictInherits", unfollowed := true, recurses := true, apart := false, narrowed := true }
def DictInheritsUptoSaid : Prop := dictInheritsUptoRow.holds Try.pinned (OpenSpec.upto dictInheritsSpec)

/-- 'palaverlaw22.DictDoes', WHERE WHAT IT READS IS OF BULK AT MOST 1048576: true; the input reads as it did. -/
def dictDoesUptoRow : OpenClaim := { program := "ytffmipimgodfdaa", sum := "ecbdad91ca408a1d20ade7ebbed9537fdeac2cc1c98f28b5989357c7f27b3538", func := "palaver/palaverlaw22.DictDoes", spec := "dictDoes", unfollowed := true, recurses := true, apart := false, narrowed := true }
def DictDoesUptoSaid : Prop := dictDoesUptoRow.holds Try.pinned (OpenSpec.upto dictDoesSpec)

end Rows
end Go.Proofs.Ytffmipimgodfdaa

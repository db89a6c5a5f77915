/-
  No cell of these rows narrows 'for every input' (looked for: loops, veiled, ifaces, maps, wideKeys, modest, calm, conditions, laid).
  DERIVED. THE GIVEN ROWS OF THIS SEAT. 5 by the template 'for every input the law returns true; each argument reads behind the call as it read before'; 0 by the template 'total and deterministic' (their statements: YtklkngccaemjdaaTotals.lean).
  GIVEN WITH THE SEED: the statements are not yours to turn. If you find one false, say at which input.
  Laid BY PROGRAM, IN A SANDBOX (cutbox-rows.mjs): the forced cells as the released guide's own fill.sh prints them over the translation 1ffcc4c9f535a89e… (all of the seat's roots in one cut). By AI agents, Wed Nov 11 2026. No macro, syntax, notation, axiom, sorry.
-/
import Derived.Test.YtklkngccaemjdaaChecked
import GoSem.Claim
import GoSem.ClaimJoined
import GoSem.ClaimMapViews
import Derived.JoinedTies
import Derived.KernelRfl
namespace Go.Proofs.Ytklkngccaemjdaa
/- THE CELL 'sum', in the pinned program and in every row, IS THE sha256 OF THE DUMP (.gsa) THAT YtklkngccaemjdaaProg.lean LOADS. Nothing in Lean hashes anything: it is a label: what it is worth is what the hold of that sum in a sandbox is worth. -/
noncomputable def Try.pinned : Pinned := { name := "ytklkngccaemjdaa", sum := "1ffcc4c9f535a89eacd54e346723797a5b3e8135c2b366f82df438c2e4696c9a", checked := Try.checked }
namespace Rows
def none {H : Type} : Left H := { results := [], args := [] }

/-- 'palaverlaw03.WorldReads': WHATEVER THE INPUT: true; the input reads as it did. -/
def worldReadsSpec : ChangeSpec := { name := "worldReads", fn := fun _ => fun
  | [d1, d2, d3] => { results := [.lit (.bool true)], args := [d1, d2, d3] }
  | _ => none }
def worldReadsRow : OpenClaim := { program := "ytklkngccaemjdaa", sum := "1ffcc4c9f535a89eacd54e346723797a5b3e8135c2b366f82df438c2e4696c9a", func := "palaver/palaverlaw03.WorldReads", spec := "worldReads", unfollowed := true, recurses := true, apart := false }
def WorldReadsSaid : Prop := worldReadsRow.holds Try.pinned (OpenSpec.ofChange worldReadsSpec)

/-- ITS FALSE NEIGHBOUR: 'it returns false'. Refute it at one input. -/
def worldReadsWrong : ChangeSpec := { name := "worldReads", fn := fun _ => fun
  | [d1, d2, d3] => { results := [.lit (.bool false)], args := [d1, d2, d3] }
  | _ => none }
def WorldReadsWrongFalsely : Prop := worldReadsRow.holds Try.pinned (OpenSpec.ofChange worldReadsWrong)

/-- 'palaverlaw03.WorldSynced': WHATEVER THE INPUT: true; the input reads as it did. -/
def worldSyncedSpec : ChangeSpec := { name := "worldSynced", fn := fun _ => fun
  | [d1, d2, d3, d4, d5] => { results := [.lit (.bool true)], args := [d1, d2, d3, d4, d5] }
  | _ => none }
def worldSyncedRow : OpenClaim := { program := "ytklkngccaemjdaa", sum := "1ffcc4c9f535a89eacd54e346723797a5b3e8135c2b366f82df438c2e4696c9a", func := "palaver/palaverlaw03.WorldSynced", spec := "worldSynced", unfollowed := true, recurses := true, apart := false }
def WorldSyncedSaid : Prop := worldSyncedRow.holds Try.pinned (OpenSpec.ofChange worldSyncedSpec)

/-- ITS FALSE NEIGHBOUR: 'it returns false'. Refute it at one input. -/
def worldSyncedWrong : ChangeSpec := { name := "worldSynced", fn := fun _ => fun
  | [d1, d2, d3, d4, d5] => { results := [.lit (.bool false)], args := [d1, d2, d3, d4, d5] }
  | _ => none }
def WorldSyncedWrongFalsely : Prop := worldSyncedRow.holds Try.pinned (OpenSpec.ofChange worldSyncedWrong)

/-- 'palaverlaw13.SaveWhole': WHATEVER THE INPUT: true; the input reads as it did. -/
def saveWholeSpec : ChangeSpec := { name := "saveWhole", fn := fun _ => fun
  | [d1, d2, d3, d4, d5] => { results := [.lit (.bool true)], args := [d1, d2, d3, d4, d5] }
  | _ => none }
def saveWholeRow : OpenClaim := { program := "ytklkngccaemjdaa", sum := "1ffcc4c9f535a89eacd54e346723797a5b3e8135c2b366f82df438c2e4696c9a", func := "palaver/palaverlaw13.SaveWhole", spec := "saveWhole", unfollowed := true, recurses := true, apart := false }
def SaveWholeSaid : Prop := saveWholeRow.holds Try.pinned (OpenSpec.ofChange saveWholeSpec)

/-- ITS FALSE NEIGHBOUR: 'it returns false'. Refute it at one input. -/
def saveWholeWrong : ChangeSpec := { name := "saveWhole", fn := fun _ => fun
  | [d1, d2, d3, d4, d5] => { results := [.lit (.bool false)], args := [d1, d2, d3, d4, d5] }
  | _ => none }
def SaveWholeWrongFalsely : Prop := saveWholeRow.holds Try.pinned (OpenSpec.ofChange saveWholeWrong)

/-- 'palaverlaw13.SaveTwice': WHATEVER THE INPUT: true; the input reads as it did. -/
def saveTwiceSpec : ChangeSpec := { name := "saveTwice", fn := fun _ => fun
  | [d1, d2, d3, d4] => { results := [.lit (.bool true)], args := [d1, d2, d3, d4] }
  | _ => none }
def saveTwiceRow : OpenClaim := { program := "ytklkngccaemjdaa", sum := "1ffcc4c9f535a89eacd54e346723797a5b3e8135c2b366f82df438c2e4696c9a", func := "palaver/palaverlaw13.SaveTwice", spec := "saveTwice", unfollowed := true, recurses := true, apart := false }
def SaveTwiceSaid : Prop := saveTwiceRow.holds Try.pinned (OpenSpec.ofChange saveTwiceSpec)

/-- ITS FALSE NEIGHBOUR: 'it returns false'. Refute it at one input. -/
def saveTwiceWrong : ChangeSpec := { name := "saveTwice", fn := fun _ => fun
  | [d1, d2, d3, d4] => { results := [.lit (.bool false)], args := [d1, d2, d3, d4] }
  | _ => none }
def SaveTwiceWrongFalsely : Prop := saveTwiceRow.holds Try.pinned (OpenSpec.ofChange saveTwiceWrong)

/-- 'palaverlaw03.WorldLeft': WHATEVER THE INPUT: true; the input reads as it did. -/
def worldLeftSpec : ChangeSpec := { name := "worldLeft", fn := fun _ => fun
  | [d1, d2, d3, d4] => { results := [.lit (.bool true)], args := [d1, d2, d3, d4] }
  | _ => none }
def worldLeftRow : OpenClaim := { program := "ytklkngccaemjdaa", sum := "1ffcc4c9f535a89eacd54e346723797a5b3e8135c2b366f82df438c2e4696c9a", func := "palaver/palaverlaw03.WorldLeft", spec := "worldLeft", unfollowed := true, recurses := true, apart := false }
def WorldLeftSaid : Prop := worldLeftRow.holds Try.pinned (OpenSpec.ofChange worldLeftSpec)

/-- ITS FALSE NEIGHBOUR: 'it returns false'. Refute it at one input. -/
def worldLeftWrong : ChangeSpec := { name := "worldLeft", fn := fun _ => fun
  | [d1, d2, d3, d4] => { results := [.lit (.bool false)], args := [d1, d2, d3, d4] }
  | _ => none }
def WorldLeftWrongFalsely : Prop := worldLeftRow.holds Try.pinned (OpenSpec.ofChange worldLeftWrong)

/- THE SECOND FORM. 'bulk': how many values and letters a reading holds, each counted each time it is reached (what is shared counts as often as it is met; a slice's spare places count too). A statement '..UptoSaid' is the law's where the arguments, and the package variables that the reading takes, are together of bulk at most 1048576: NARROWER than '..Said'. Prove '..Said' where nothing that the law and all that it calls make is longer than what came in: it says more and counts as full. Else prove '..UptoSaid'. A law counts once. -/
mutual
def uptoBulk {H : Type} : DataW H → Nat
  | .lit (.string bytes) => bytes.length + 1
  | .lit _ => 1
  | .nil => 1
  | .ptr d => uptoBulk d + 1
  | .slice elems spare => uptoBulkAll elems + uptoBulkAll spare + 1
  | .agg parts => uptoBulkAll parts + 1
  | .iface _ d => uptoBulk d + 1
  | .map entries => uptoBulkEntries entries + 1
  | .held _ => 1
def uptoBulkAll {H : Type} : List (DataW H) → Nat
  | [] => 0
  | d :: r => uptoBulk d + uptoBulkAll r
def uptoBulkEntries {H : Type} : List (Lit × DataW H) → Nat
  | [] => 0
  | x :: r => uptoBulkEntry x + uptoBulkEntries r
def uptoBulkEntry {H : Type} : Lit × DataW H → Nat
  | (.string bytes, d) => bytes.length + uptoBulk d + 1
  | (_, d) => uptoBulk d + 1
 end
def uptoSmall : (H : Type) → List (DataW H) → Bool := fun _ ds => decide (uptoBulkAll ds ≤ 1048576)
def OpenSpec.upto (s : _root_.Go.ChangeSpec) : _root_.Go.OpenSpec := { _root_.Go.OpenSpec.ofChange s with cond := some uptoSmall }

/-- 'palaverlaw03.WorldReads', WHERE WHAT IT READS IS OF BULK AT MOST 1048576: true; the input reads as it did. -/
def worldReadsUptoRow : OpenClaim := { program := "ytklkngccaemjdaa", sum := "1ffcc4c9f535a89eacd54e346723797a5b3e8135c2b366f82df438c2e4696c9a", func := "palaver/palaverlaw03.WorldReads", spec := "worldReads", unfollowed := true, recurses := true, apart := false, narrowed := true }
def WorldReadsUptoSaid : Prop := worldReadsUptoRow.holds Try.pinned (OpenSpec.upto worldReadsSpec)

/-- 'palaverlaw03.WorldSynced', WHERE WHAT IT READS IS OF BULK AT MOST 1048576: true; the input reads as it did. -/
def worldSyncedUptoRow : OpenClaim := { program := "ytklkngccaemjdaa", sum := "1ffcc4c9f535a89eacd54e346723797a5b3e8135c2b366f82df438c2e4696c9a", func := "palaver/palaverlaw03.WorldSynced", spec := "worldSynced", unfollowed := true, recurses := true, apart := false, narrowed := true }
def WorldSyncedUptoSaid : Prop := worldSyncedUptoRow.holds Try.pinned (OpenSpec.upto worldSyncedSpec)

/-- 'palaverlaw13.SaveWhole', WHERE WHAT IT READS IS OF BULK AT MOST 1048576: true; the input reads as it did. -/
def saveWholeUptoRow : OpenClaim := { program := "ytklkngccaemjdaa", sum := "1ffcc4c9f535a89eacd54e346723797a5b3e8135c2b366f82df438c2e4696c9a", func := "palaver/palaverlaw13.SaveWhole", spec := "saveWhole", unfollowed := true, recurses := true, apart := false, narrowed := true }
def SaveWholeUptoSaid : Prop := saveWholeUptoRow.holds Try.pinned (OpenSpec.upto saveWholeSpec)

/-- 'palaverlaw13.SaveTwice', WHERE WHAT IT READS IS OF BULK AT MOST 1048576: true; the input reads as it did. -/
def saveTwiceUptoRow : OpenClaim := { program := "ytklkngccaemjdaa", sum := "1ffcc4c9f535a89eacd54e346723797a5b3e8135c2b366f82df438c2e4696c9a", func := "palaver/palaverlaw13.SaveTwice", spec := "saveTwice", unfollowed := true, recurses := true, apart := false, narrowed := true }
def SaveTwiceUptoSaid : Prop := saveTwiceUptoRow.holds Try.pinned (OpenSpec.upto saveTwiceSpec)

/-- 'palaverlaw03.WorldLeft', WHERE WHAT IT READS IS OF BULK AT MOST 1048576: true; the input reads as it did. -/
def worldLeftUptoRow : OpenClaim := { program := "ytklkngccaemjdaa", sum := "1ffcc4c9f535a89eacd54e346723797a5b3e8135c2b366f82df438c2e4696c9a", func := "palaver/palaverlaw03.WorldLeft", spec := "worldLeft", unfollowed := true, recurses := true, apart := false, narrowed := true }
def WorldLeftUptoSaid : Prop := worldLeftUptoRow.holds Try.pinned (OpenSpec.upto worldLeftSpec)

end Rows
end Go.Proofs.Ytklkngccaemjdaa

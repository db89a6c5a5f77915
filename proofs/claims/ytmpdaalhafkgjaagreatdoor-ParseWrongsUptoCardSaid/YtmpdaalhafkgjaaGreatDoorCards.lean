/-
  DERIVED. GIVEN WITH THE SEED: THE CARDS: each row of YtmpdaalhafkgjaaGreatDoorRows.lean that lists a variable, with what it lists TIED to the program's text (the seventh form; the later family's looks); each row that meets fmt, with fmt's text TOLD by the authors' own Lean function (tested against real Go, not proved from fmt's source: count such statements apart). THE CARD IS WHAT COUNTS. Prove the row's statement (the work); the ties are given (YtmpdaalhafkgjaaGreatDoorTie.lean); close each card by the builder's one call (the guide's Derived/Test/ToyasCard.lean, 'card_holds'). Laid BY PROGRAM, IN A SANDBOX (cutbox-door.mjs). By AI agents, Wed Nov 11 2026. No macro, syntax, notation, axiom, sorry.
-/
import Derived.Test.YtmpdaalhafkgjaaGreatDoorRows
import GoSem.ClaimSeven
namespace Go.Proofs.YtmpdaalhafkgjaaGreatDoor
namespace Rows

/-- THE TIED CARD OF 'palaverlaw16.ParseWrongs'. -/
def parseWrongsCard : Claim7 := { stood := { row := parseWrongsRow, standIns := [], harness := (true, "f834d817d18db629cfd3869da62d411d8b96b04c31230424576215c78cd50ab1"), looks := true }, kinds := [], alts := [], laidByText := true, laidKinds := [.data, .data, .widerDeep, .widerDeep, .data, .data, .data, .data, .data, .data, .handle, .sentinel, .sentinel, .pinned, .pinned, .pinned], laidTests := true, laidLooks := .later }
def ParseWrongsCardSaid : Prop := Claim7.holds Tryz.pinned (.plain (OpenSpec.ofChange parseWrongsSpec)) parseWrongsCard

/-- THE SECOND FORM's CARD OF 'palaverlaw16.ParseWrongs'. -/
def parseWrongsUptoCard : Claim7 := { stood := { row := parseWrongsUptoRow, standIns := [], harness := (true, "f834d817d18db629cfd3869da62d411d8b96b04c31230424576215c78cd50ab1"), looks := true }, kinds := [], alts := [], laidByText := true, laidKinds := [.data, .data, .widerDeep, .widerDeep, .data, .data, .data, .data, .data, .data, .handle, .sentinel, .sentinel, .pinned, .pinned, .pinned], laidTests := true, laidLooks := .later }
def ParseWrongsUptoCardSaid : Prop := Claim7.holds Tryz.pinned (.plain (OpenSpec.upto parseWrongsSpec)) parseWrongsUptoCard
end Rows
end Go.Proofs.YtmpdaalhafkgjaaGreatDoor
